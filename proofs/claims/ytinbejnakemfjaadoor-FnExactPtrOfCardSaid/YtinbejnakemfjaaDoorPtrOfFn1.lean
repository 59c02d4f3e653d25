/- What the functions compute, part 1. No conditions. -/
import Derived.Test.YtinbejnakemfjaaDoorGm4
import Derived.Test.YtinbejnakemfjaaDoorRows
import Derived.Ground.NamesProg
import Derived.Shelf.Strings.SplitShaped
/- The table of types of the program, and that it is the program's. Printed by gev.py of this session. -/
namespace Go.Proofs.YtinbejnakemfjaaDoor
open Go Go.Gm
def tab : Tab := { code := [(2, (.i .i64)), (3, (.i .i64)), (4, .bool), (5, (.i .u8)), (6, (.i .u8)), (9, .str), (10, .str), (11, .str), (12, (.i .u64)), (21, (.i .i32)), (22, (.sl .str)), (31, (.sl (.i .u8))), (45, .cur), (60, (.i .u64)), (72, (.i .u32)), (81, (.i .u8)), (82, (.i .u8)), (84, (.i .i32)), (85, (.i .i32))], eqs := [], fld := [(45, [(0, 31), (1, 3), (2, 3)])] }
theorem und2 : UndOk (tab.env []) Tryd.prog 2 (.i .i64) := (by kernel_rfl : Tryd.prog.underlying 2 = some (.int .i64))
theorem und3 : UndOk (tab.env []) Tryd.prog 3 (.i .i64) := (by kernel_rfl : Tryd.prog.underlying 3 = some (.int .i64))
theorem und4 : UndOk (tab.env []) Tryd.prog 4 .bool := (by kernel_rfl : Tryd.prog.underlying 4 = some .bool)
theorem und5 : UndOk (tab.env []) Tryd.prog 5 (.i .u8) := (by kernel_rfl : Tryd.prog.underlying 5 = some (.int .u8))
theorem und6 : UndOk (tab.env []) Tryd.prog 6 (.i .u8) := (by kernel_rfl : Tryd.prog.underlying 6 = some (.int .u8))
theorem und9 : UndOk (tab.env []) Tryd.prog 9 .str := (by kernel_rfl : Tryd.prog.underlying 9 = some .string)
theorem und10 : UndOk (tab.env []) Tryd.prog 10 .str := (by kernel_rfl : Tryd.prog.underlying 10 = some .string)
theorem und11 : UndOk (tab.env []) Tryd.prog 11 .str := (by kernel_rfl : Tryd.prog.underlying 11 = some .string)
theorem und12 : UndOk (tab.env []) Tryd.prog 12 (.i .u64) := (by kernel_rfl : Tryd.prog.underlying 12 = some (.int .u64))
theorem und21 : UndOk (tab.env []) Tryd.prog 21 (.i .i32) := (by kernel_rfl : Tryd.prog.underlying 21 = some (.int .i32))
theorem und22 : UndOk (tab.env []) Tryd.prog 22 (.sl .str) := ⟨9, by kernel_rfl, by kernel_rfl⟩
theorem und31 : UndOk (tab.env []) Tryd.prog 31 (.sl (.i .u8)) := ⟨5, by kernel_rfl, by kernel_rfl⟩
theorem und45 : UndOk (tab.env []) Tryd.prog 45 .cur := ⟨_, Tryd.underlying45⟩
theorem und60 : UndOk (tab.env []) Tryd.prog 60 (.i .u64) := (by kernel_rfl : Tryd.prog.underlying 60 = some (.int .u64))
theorem und72 : UndOk (tab.env []) Tryd.prog 72 (.i .u32) := (by kernel_rfl : Tryd.prog.underlying 72 = some (.int .u32))
theorem und81 : UndOk (tab.env []) Tryd.prog 81 (.i .u8) := (by kernel_rfl : Tryd.prog.underlying 81 = some (.int .u8))
theorem und82 : UndOk (tab.env []) Tryd.prog 82 (.i .u8) := (by kernel_rfl : Tryd.prog.underlying 82 = some (.int .u8))
theorem und84 : UndOk (tab.env []) Tryd.prog 84 (.i .i32) := (by kernel_rfl : Tryd.prog.underlying 84 = some (.int .i32))
theorem und85 : UndOk (tab.env []) Tryd.prog 85 (.i .i32) := (by kernel_rfl : Tryd.prog.underlying 85 = some (.int .i32))
theorem fld45 : ∃ fs : Array Field, Tryd.prog.underlying 45 = some (.struct fs) ∧ [(0, 31), (1, 3), (2, 3)] = fs.toList.map (fun f => (f.offset, f.type)) ∧ (∀ y ∈ ([(0, 31), (1, 3), (2, 3)] : List (Nat × Nat)), (aget tab.code y.2).isSome) ∧ (fs.toList.mapM (fun f => (Tryd.prog.info? f.type).map fun i => (f.offset, i.size))).isSome :=
  ⟨_, Tryd.underlying45, by kernel_rfl, List.all_eq_true.1 (by kernel_rfl), by kernel_rfl⟩
theorem tab_ok : tab.Ok Tryd.prog := {
  info := infoChk_ok (by kernel_rfl)
  und := List.forall_mem_cons.2 ⟨und2, List.forall_mem_cons.2 ⟨und3, List.forall_mem_cons.2 ⟨und4, List.forall_mem_cons.2 ⟨und5, List.forall_mem_cons.2 ⟨und6, List.forall_mem_cons.2 ⟨und9, List.forall_mem_cons.2 ⟨und10, List.forall_mem_cons.2 ⟨und11, List.forall_mem_cons.2 ⟨und12, List.forall_mem_cons.2 ⟨und21, List.forall_mem_cons.2 ⟨und22, List.forall_mem_cons.2 ⟨und31, List.forall_mem_cons.2 ⟨und45, List.forall_mem_cons.2 ⟨und60, List.forall_mem_cons.2 ⟨und72, List.forall_mem_cons.2 ⟨und81, List.forall_mem_cons.2 ⟨und82, List.forall_mem_cons.2 ⟨und84, List.forall_mem_cons.2 ⟨und85, List.forall_mem_nil _⟩⟩⟩⟩⟩⟩⟩⟩⟩⟩⟩⟩⟩⟩⟩⟩⟩⟩⟩
  fld := List.forall_mem_cons.2 ⟨fld45, List.forall_mem_nil _⟩
  sts := List.forall_mem_cons.2 ⟨fun h => by first | (cases h; done) | (simp; done), List.forall_mem_cons.2 ⟨fun h => by first | (cases h; done) | (simp; done), List.forall_mem_cons.2 ⟨fun h => by first | (cases h; done) | (simp; done), List.forall_mem_cons.2 ⟨fun h => by first | (cases h; done) | (simp; done), List.forall_mem_cons.2 ⟨fun h => by first | (cases h; done) | (simp; done), List.forall_mem_cons.2 ⟨fun h => by first | (cases h; done) | (simp; done), List.forall_mem_cons.2 ⟨fun h => by first | (cases h; done) | (simp; done), List.forall_mem_cons.2 ⟨fun h => by first | (cases h; done) | (simp; done), List.forall_mem_cons.2 ⟨fun h => by first | (cases h; done) | (simp; done), List.forall_mem_cons.2 ⟨fun h => by first | (cases h; done) | (simp; done), List.forall_mem_cons.2 ⟨fun h => by first | (cases h; done) | (simp; done), List.forall_mem_cons.2 ⟨fun h => by first | (cases h; done) | (simp; done), List.forall_mem_cons.2 ⟨fun _ => by simp [tab], List.forall_mem_cons.2 ⟨fun h => by first | (cases h; done) | (simp; done), List.forall_mem_cons.2 ⟨fun h => by first | (cases h; done) | (simp; done), List.forall_mem_cons.2 ⟨fun h => by first | (cases h; done) | (simp; done), List.forall_mem_cons.2 ⟨fun h => by first | (cases h; done) | (simp; done), List.forall_mem_cons.2 ⟨fun h => by first | (cases h; done) | (simp; done), List.forall_mem_cons.2 ⟨fun h => by first | (cases h; done) | (simp; done), List.forall_mem_nil _⟩⟩⟩⟩⟩⟩⟩⟩⟩⟩⟩⟩⟩⟩⟩⟩⟩⟩⟩
  eqs := List.forall_mem_nil _
  ord := by kernel_rfl }
end Go.Proofs.YtinbejnakemfjaaDoor

/- x -/
namespace Go.Proofs
open Go.Shelf Go.RowKit
def Tryd.laysRepl_ren : Go.Shelf.Ren := ⟨fun | 155 => 19 | 154 => 25 | 138 => 28 | 165 => 29 | 143 => 30 | 166 => 31 | 197 => 32 | 169 => 33 | 195 => 35 | 218 => 36 | 240 => 37 | 241 => 38 | 219 => 39 | 260 => 40 | 276 => 41 | 277 => 42 | 217 => 43 | 225 => 44 | 224 => 45 | 267 => 46 | 266 => 47 | 314 => 48 | n => n, fun | 9 => 9 | 3 => 3 | 4 => 4 | 72 => 50 | 0 => 0 | 76 => 54 | 105 => 56 | 21 => 21 | 5 => 5 | 70 => 48 | 20 => 20 | 37 => 31 | 75 => 53 | 127 => 63 | 164 => 64 | 46 => 60 | 119 => 68 | 139 => 71 | 138 => 70 | 146 => 73 | 51 => 72 | 80 => 58 | n => n, fun | 1 => 0 | 3 => 1 | 4 => 2 | n => n⟩
theorem Tryd.laysRepl : Go.Proofs.LaysM.n155 Tryd.prog Tryd.laysRepl_ren := {
  mixed := by kernel_rfl
  f138 := Tryd.func28.trans (congrArg some (by kernel_rfl))
  f143 := Tryd.func30.trans (congrArg some (by kernel_rfl))
  f154 := Tryd.func25.trans (congrArg some (by kernel_rfl))
  f155 := Tryd.func19.trans (congrArg some (by kernel_rfl))
  f165 := Tryd.func29.trans (congrArg some (by kernel_rfl))
  f166 := Tryd.func31.trans (congrArg some (by kernel_rfl))
  f169 := Tryd.func33.trans (congrArg some (by kernel_rfl))
  f195 := Tryd.func35.trans (congrArg some (by kernel_rfl))
  f197 := Tryd.func32.trans (congrArg some (by kernel_rfl))
  f217 := Tryd.func43.trans (congrArg some (by kernel_rfl))
  f218 := Tryd.func36.trans (congrArg some (by kernel_rfl))
  f219 := Tryd.func39.trans (congrArg some (by kernel_rfl))
  f224 := Tryd.func45.trans (congrArg some (by kernel_rfl))
  f225 := Tryd.func44.trans (congrArg some (by kernel_rfl))
  f240 := Tryd.func37.trans (congrArg some (by kernel_rfl))
  f241 := Tryd.func38.trans (congrArg some (by kernel_rfl))
  f260 := Tryd.func40.trans (congrArg some (by kernel_rfl))
  f266 := Tryd.func47.trans (congrArg some (by kernel_rfl))
  f267 := Tryd.func46.trans (congrArg some (by kernel_rfl))
  f276 := Tryd.func41.trans (congrArg some (by kernel_rfl))
  f277 := Tryd.func42.trans (congrArg some (by kernel_rfl))
  f314 := Tryd.func48.trans (congrArg some (by kernel_rfl))
  t0 := Tryd.underlying0
  a0 := Tryd.isAgg0
  z0 := Tryd.sizeOf0
  v0 := Tryd.zeroValue0
  t3 := Tryd.underlying3
  a3 := Tryd.isAgg3
  z3 := Tryd.sizeOf3
  v3 := Tryd.zeroValue3
  t4 := Tryd.underlying4
  a4 := Tryd.isAgg4
  z4 := Tryd.sizeOf4
  v4 := Tryd.zeroValue4
  t5 := Tryd.underlying5
  a5 := Tryd.isAgg5
  z5 := Tryd.sizeOf5
  v5 := Tryd.zeroValue5
  t9 := Tryd.underlying9
  a9 := Tryd.isAgg9
  z9 := Tryd.sizeOf9
  v9 := Tryd.zeroValue9
  t20 := Tryd.underlying20
  a20 := Tryd.isAgg20
  z20 := Tryd.sizeOf20
  v20 := Tryd.zeroValue20
  t21 := Tryd.underlying21
  a21 := Tryd.isAgg21
  z21 := Tryd.sizeOf21
  v21 := Tryd.zeroValue21
  t37 := Tryd.underlying31
  a37 := Tryd.isAgg31
  z37 := Tryd.sizeOf31
  v37 := Tryd.zeroValue31
  t46 := Tryd.underlying60
  a46 := Tryd.isAgg60
  z46 := Tryd.sizeOf60
  v46 := Tryd.zeroValue60
  t51 := Tryd.underlying72
  a51 := Tryd.isAgg72
  z51 := Tryd.sizeOf72
  v51 := Tryd.zeroValue72
  t70 := Tryd.underlying48
  a70 := Tryd.isAgg48
  z70 := Tryd.sizeOf48
  v70 := Tryd.zeroValue48
  t72 := Tryd.underlying50
  a72 := Tryd.isAgg50
  z72 := Tryd.sizeOf50
  v72 := Tryd.zeroValue50
  t75 := Tryd.underlying53
  a75 := Tryd.isAgg53
  z75 := Tryd.sizeOf53
  v75 := Tryd.zeroValue53
  t76 := Tryd.underlying54
  a76 := Tryd.isAgg54
  z76 := Tryd.sizeOf54
  v76 := Tryd.zeroValue54
  t105 := Tryd.underlying56
  a105 := Tryd.isAgg56
  z105 := Tryd.sizeOf56
  v105 := Tryd.zeroValue56
  t119 := Tryd.underlying68
  a119 := Tryd.isAgg68
  z119 := Tryd.sizeOf68
  t127 := Tryd.underlying63
  a127 := Tryd.isAgg63
  z127 := Tryd.sizeOf63
  v127 := Tryd.zeroValue63
  t138 := Tryd.underlying70
  a138 := Tryd.isAgg70
  z138 := Tryd.sizeOf70
  v138 := Tryd.zeroValue70
  t139 := Tryd.underlying71
  a139 := Tryd.isAgg71
  z139 := Tryd.sizeOf71
  v139 := Tryd.zeroValue71
  t146 := Tryd.underlying73
  a146 := Tryd.isAgg73
  z146 := Tryd.sizeOf73
  v146 := Tryd.zeroValue73
  t164 := Tryd.underlying64
  a164 := Tryd.isAgg64
  z164 := Tryd.sizeOf64
  v164 := Tryd.zeroValue64
  g1 := by kernel_rfl
  g3 := by kernel_rfl
  g4 := by kernel_rfl
  t80 := Tryd.underlying58
  a80 := Tryd.isAgg58
  z80 := Tryd.sizeOf58
  v80 := Tryd.zeroValue58
  i0 := by kernel_rfl
  i3 := by kernel_rfl
  i4 := by kernel_rfl
  i5 := by kernel_rfl
  i9 := by kernel_rfl
  i20 := by kernel_rfl
  i21 := by kernel_rfl
  i37 := by kernel_rfl
  i46 := by kernel_rfl
  i51 := by kernel_rfl
  i70 := by kernel_rfl
  i72 := by kernel_rfl
  i75 := by kernel_rfl
  i76 := by kernel_rfl
  i80 := by kernel_rfl
  i105 := by kernel_rfl
  i127 := by kernel_rfl
  i138 := by kernel_rfl
  i139 := by kernel_rfl
  i146 := by kernel_rfl
  i164 := by kernel_rfl
  m1 := by kernel_rfl
  s1_3 := fun w h => Go.Proofs.cell_of_shapedOpen_int (zero := #[.int .i64 0]) (t := 3) h (of_decide_eq_true (by kernel_rfl)) (by kernel_rfl) rfl (by kernel_rfl) (by kernel_rfl) Tryd.underlying3
  m3 := by kernel_rfl
  m4 := by kernel_rfl }

theorem Tryd.extra : Builder.Extra Tryd.prog Tryd.laysRepl_ren := {
  sizeBuilder := by kernel_rfl
  liesBuilder := by kernel_rfl
  t5 := Tryd.underlying5
  a5 := Tryd.isAgg5
  z5 := Tryd.sizeOf5
  v5 := Tryd.zeroValue5
  infoByte := by kernel_rfl
  cellsByte := by kernel_rfl
  sizeByte := by kernel_rfl
  neB5 := by decide }
end Go.Proofs
namespace Go.Proofs.YtinbejnakemfjaaDoor
open Go Go.Gm Go.RowKit
noncomputable def q19 : List Dt → Option (Bool × List Dt)
  | [.d .str a0, .d .str a1, .d .str a2] => some (gRepl a0 a1 a2, [.d .str (replS a0 a1 a2)])
  | _ => none
noncomputable def s19 : Gm.Spec := Gm.Spec.of [.ro, .ro, .ro] [false] true q19
theorem good19 : Gm.Good Tryd.prog (19, s19) := by
  refine ⟨⟨spec_growW rfl ?_, _, Tryd.func19, by kernel_rfl, of_decide_eq_true (by kernel_rfl)⟩, Gm.Spec.of_natl _ _ _ _⟩
  intro ds outs h
  unfold q19 at h
  split at h
  · rename_i a0 a1 a2
    simp only [Option.some.injEq, Prod.mk.injEq] at h
    obtain ⟨hg, h⟩ := h
    cases h
    refine ⟨_, _, .string (replS a0 a1 a2), rfl, rfl, rfl, rfl, fun w us ROa Fs hW hB hA hlt => ?_⟩
    cases hA with
    | cons h1 hA =>
      cases hA with
      | cons h2 hA =>
        cases hA with
        | cons h3 hA =>
        cases hA
        have e1 := valRd_v (t := .str) (v := .string a0) rfl rfl h1
        have e2 := valRd_v (t := .str) (v := .string a1) rfl rfl h2
        have e3 := valRd_v (t := .str) (v := .string a2) rfl rfl h3
        subst e1; subst e2; subst e3
        obtain ⟨g1, g2, g3⟩ := gRepl_iff hg
        obtain ⟨m, hm⟩ := Go.Proofs.Tryd.laysRepl.s1_3 _ hW
        exact Go.Proofs.Any.strings_ReplaceAll { Go.Proofs.Tryd.laysRepl with } Go.Proofs.Tryd.extra a0 a1 a2 m w g1 (hB.cell hm) g2 g3
  · cases h
end Go.Proofs.YtinbejnakemfjaaDoor

/- x -/
namespace Go.Proofs.YtinbejnakemfjaaDoor
open Go Go.Gm
/-! ### loop.example/g00465/spec.PtrText -/
noncomputable def f7c : Code := (Tryd.f7.body).getD .skip
def f7k : Nat → Kp := kat [⟨[0], [], [], []⟩, ⟨[0, 3], [], [], []⟩, ⟨[0, 3, 4], [], [], []⟩, ⟨[0, 3, 4, 10], [], [], []⟩, ⟨[0, 3, 4], [], [], []⟩, ⟨[0, 3, 4], [], [], []⟩, ⟨[0, 3, 4, 5], [], [], []⟩, ⟨[0, 3, 4, 5, 22], [], [], []⟩, ⟨[0, 3, 4, 5], [], [], []⟩, ⟨[0, 3, 4, 5, 30], [], [], []⟩, ⟨[0, 3, 4, 5], [], [], []⟩, ⟨[0, 3, 4, 5, 30, 40], [], [], []⟩, ⟨[0, 3, 4, 5], [], [], []⟩, ⟨[0, 3, 4, 5, 45], [], [], []⟩, ⟨[0, 3, 4, 5], [], [], []⟩, ⟨[2], [], [], []⟩]
noncomputable def f7e : Env := tab.env []
noncomputable def f7L0 {R : Type} (n : Nat) (x0 : Int → Bool → (List Int) → Option R) (vs0 : List ByteArray) (vs4 : Int) : Nat → Int → (List Int) → Option R
  | 0, _, _ => none
  | m + 1, vs5, vr384 =>
    (cond ((decide ((0 : Int) ≤ vs4)) && (decide (vs4 < (vs0.length : Int))))
      (cond (decide (vs5 < (ByteArray.size (atI (t := .str) vs0 (Int.toNat vs4)) : Int)))
        (cond ((decide ((0 : Int) ≤ vs4)) && (decide (vs4 < (vs0.length : Int))))
          (cond ((decide ((0 : Int) ≤ vs5)) && (decide (vs5 < (ByteArray.size (atI (t := .str) vs0 (Int.toNat vs4)) : Int))))
            (cond ((((ByteArray.data (atI (t := .str) vs0 (Int.toNat vs4))).getD (Int.toNat vs5) 0).toNat : Int) == (126 : Int))
              (cond (Nat.ble (vr384.length + 2) LIM)
                (f7L0 n x0 vs0 vs4 m (IntKind.wrap .i64 (vs5 + (1 : Int))) (vr384 ++ ([(126 : Int), (48 : Int)] : List Int)))
                none)
              (cond ((((ByteArray.data (atI (t := .str) vs0 (Int.toNat vs4))).getD (Int.toNat vs5) 0).toNat : Int) == (47 : Int))
                (cond (Nat.ble (vr384.length + 2) LIM)
                  (f7L0 n x0 vs0 vs4 m (IntKind.wrap .i64 (vs5 + (1 : Int))) (vr384 ++ ([(126 : Int), (49 : Int)] : List Int)))
                  none)
                (cond ((decide ((0 : Int) ≤ vs4)) && (decide (vs4 < (vs0.length : Int))))
                  (cond ((decide ((0 : Int) ≤ vs5)) && (decide (vs5 < (ByteArray.size (atI (t := .str) vs0 (Int.toNat vs4)) : Int))))
                    (cond (Nat.ble (vr384.length + 1) LIM)
                      (f7L0 n x0 vs0 vs4 m (IntKind.wrap .i64 (vs5 + (1 : Int))) (vr384 ++ ([(((ByteArray.data (atI (t := .str) vs0 (Int.toNat vs4))).getD (Int.toNat vs5) 0).toNat : Int)] : List Int)))
                      none)
                    none)
                  none)))
            none)
          none)
        (x0 vs5 (decide (vs5 < (ByteArray.size (atI (t := .str) vs0 (Int.toNat vs4)) : Int))) vr384))
      none)
theorem f7L0_b {R : Type} (n : Nat) (k' : Ex → St → Option R) (vs0 : List ByteArray) (vs4 : Int) (vs5 : Int) (vr384 : List Int) : ev f7e f7k n (cAt [1,1,0,1,0,0,1,0,0,1,1,0,0] f7c) ⟨[(0, .c (.one (.ro .str vs0))), (3, .c (.one (.h 384 0 0 []))), (4, .c (.one (.v (.int .i64 vs4)))), (5, .c (.one (.v (.int .i64 vs5))))], [], [(384, .live ⟨(.i .u8), .deep, 0, [], vr384⟩)]⟩ k' =
    (cond ((decide ((0 : Int) ≤ vs4)) && (decide (vs4 < (vs0.length : Int))))
    (cond (decide (vs5 < (ByteArray.size (atI (t := .str) vs0 (Int.toNat vs4)) : Int)))
      (cond ((decide ((0 : Int) ≤ vs4)) && (decide (vs4 < (vs0.length : Int))))
        (cond ((decide ((0 : Int) ≤ vs5)) && (decide (vs5 < (ByteArray.size (atI (t := .str) vs0 (Int.toNat vs4)) : Int))))
          (cond ((((ByteArray.data (atI (t := .str) vs0 (Int.toNat vs4))).getD (Int.toNat vs5) 0).toNat : Int) == (126 : Int))
            (cond (Nat.ble (vr384.length + 2) LIM)
              (k' .normal ⟨[(0, .c (.one (.ro .str vs0))), (3, .c (.one (.h 384 0 0 []))), (4, .c (.one (.v (.int .i64 vs4)))), (5, .c (.one (.v (.int .i64 (IntKind.wrap .i64 (vs5 + (1 : Int)))))))], [], [(384, .live ⟨(.i .u8), .deep, 0, [], (vr384 ++ ([(126 : Int), (48 : Int)] : List Int))⟩)]⟩)
              none)
            (cond ((((ByteArray.data (atI (t := .str) vs0 (Int.toNat vs4))).getD (Int.toNat vs5) 0).toNat : Int) == (47 : Int))
              (cond (Nat.ble (vr384.length + 2) LIM)
                (k' .normal ⟨[(0, .c (.one (.ro .str vs0))), (3, .c (.one (.h 384 0 0 []))), (4, .c (.one (.v (.int .i64 vs4)))), (5, .c (.one (.v (.int .i64 (IntKind.wrap .i64 (vs5 + (1 : Int)))))))], [], [(384, .live ⟨(.i .u8), .deep, 0, [], (vr384 ++ ([(126 : Int), (49 : Int)] : List Int))⟩)]⟩)
                none)
              (cond ((decide ((0 : Int) ≤ vs4)) && (decide (vs4 < (vs0.length : Int))))
                (cond ((decide ((0 : Int) ≤ vs5)) && (decide (vs5 < (ByteArray.size (atI (t := .str) vs0 (Int.toNat vs4)) : Int))))
                  (cond (Nat.ble (vr384.length + 1) LIM)
                    (k' .normal ⟨[(0, .c (.one (.ro .str vs0))), (3, .c (.one (.h 384 0 0 []))), (4, .c (.one (.v (.int .i64 vs4)))), (5, .c (.one (.v (.int .i64 (IntKind.wrap .i64 (vs5 + (1 : Int)))))))], [], [(384, .live ⟨(.i .u8), .deep, 0, [], (vr384 ++ ([(((ByteArray.data (atI (t := .str) vs0 (Int.toNat vs4))).getD (Int.toNat vs5) 0).toNat : Int)] : List Int))⟩)]⟩)
                    none)
                  none)
                none)))
          none)
        none)
      (k' (.exit 2) ⟨[(0, .c (.one (.ro .str vs0))), (3, .c (.one (.h 384 0 0 []))), (4, .c (.one (.v (.int .i64 vs4)))), (5, .c (.one (.v (.int .i64 vs5)))), (22, .c (.one (.v (.bool (decide (vs5 < (ByteArray.size (atI (t := .str) vs0 (Int.toNat vs4)) : Int)))))))], [], [(384, .live ⟨(.i .u8), .deep, 0, [], vr384⟩)]⟩))
    none) := by kernel_rfl
theorem f7L0_eq {R : Type} (n : Nat) (k' : Ex → St → Option R) (vs0 : List ByteArray) (vs4 : Int) : ∀ (m : Nat) (vs5 : Int) (vr384 : List Int), iter (fun st k => ev f7e f7k n (cAt [1,1,0,1,0,0,1,0,0,1,1,0,0] f7c) st k) m ⟨[(0, .c (.one (.ro .str vs0))), (3, .c (.one (.h 384 0 0 []))), (4, .c (.one (.v (.int .i64 vs4)))), (5, .c (.one (.v (.int .i64 vs5))))], [], [(384, .live ⟨(.i .u8), .deep, 0, [], vr384⟩)]⟩ k' = f7L0 n (fun (xvs5 : Int) (xvs22 : Bool) (xvr384 : List Int) => k' (.exit 2) ⟨[(0, .c (.one (.ro .str vs0))), (3, .c (.one (.h 384 0 0 []))), (4, .c (.one (.v (.int .i64 vs4)))), (5, .c (.one (.v (.int .i64 xvs5)))), (22, .c (.one (.v (.bool xvs22))))], [], [(384, .live ⟨(.i .u8), .deep, 0, [], xvr384⟩)]⟩) vs0 vs4 m vs5 vr384 := by
  intro m; induction m with
  | zero => intros; rfl
  | succ m ih =>
    intro vs5 vr384
    simp only [iter]
    rw [f7L0_b]
    simp only [ih, f7L0]

noncomputable def f7K0 {R : Type} (n : Nat) (k' : Ex → St → Option R) : Ex → St → Option R := (blockK 2 (blockK 1 (seqK f7e f7k n (cAt [1,1,0,1,0,0,1,1] f7c) k')))
theorem f7K0_x0 {R : Type} (n : Nat) (k' : Ex → St → Option R) (vs0 : List ByteArray) (vs4 : Int) (xvs5 : Int) (xvs22 : Bool) (xvr384 : List Int) : f7K0 n k' (.exit 2) ⟨[(0, .c (.one (.ro .str vs0))), (3, .c (.one (.h 384 0 0 []))), (4, .c (.one (.v (.int .i64 vs4)))), (5, .c (.one (.v (.int .i64 xvs5)))), (22, .c (.one (.v (.bool xvs22))))], [], [(384, .live ⟨(.i .u8), .deep, 0, [], xvr384⟩)]⟩ =
    (k' .normal ⟨[(0, .c (.one (.ro .str vs0))), (3, .c (.one (.h 384 0 0 []))), (4, .c (.one (.v (.int .i64 (IntKind.wrap .i64 (vs4 + (1 : Int)))))))], [], [(384, .live ⟨(.i .u8), .deep, 0, [], xvr384⟩)]⟩) := by kernel_rfl

noncomputable def f7L1 {R : Type} (n : Nat) (x0 : Int → Bool → (List Int) → Option R) (vs0 : List ByteArray) : Nat → Int → (List Int) → Option R
  | 0, _, _ => none
  | m + 1, vs4, vr384 =>
    (cond (decide (vs4 < (vs0.length : Int)))
      (cond (Nat.ble (vr384.length + 1) LIM)
        (f7L0 n (fun (xvs5 : Int) (xvs22 : Bool) (xvr384 : List Int) =>
          (f7L1 n x0 vs0 m (IntKind.wrap .i64 (vs4 + (1 : Int))) xvr384)) vs0 vs4 n (0 : Int) (vr384 ++ ([(47 : Int)] : List Int)))
        none)
      (x0 vs4 (decide (vs4 < (vs0.length : Int))) vr384))
theorem f7L1_b {R : Type} (n : Nat) (k' : Ex → St → Option R) (vs0 : List ByteArray) (vs4 : Int) (vr384 : List Int) : ev f7e f7k n (cAt [1,1,0,1,0,0] f7c) ⟨[(0, .c (.one (.ro .str vs0))), (3, .c (.one (.h 384 0 0 []))), (4, .c (.one (.v (.int .i64 vs4))))], [], [(384, .live ⟨(.i .u8), .deep, 0, [], vr384⟩)]⟩ k' =
    (cond (decide (vs4 < (vs0.length : Int)))
    (cond (Nat.ble (vr384.length + 1) LIM)
      (f7L0 n (fun (xvs5 : Int) (xvs22 : Bool) (xvr384 : List Int) =>
        (k' .normal ⟨[(0, .c (.one (.ro .str vs0))), (3, .c (.one (.h 384 0 0 []))), (4, .c (.one (.v (.int .i64 (IntKind.wrap .i64 (vs4 + (1 : Int)))))))], [], [(384, .live ⟨(.i .u8), .deep, 0, [], xvr384⟩)]⟩)) vs0 vs4 n (0 : Int) (vr384 ++ ([(47 : Int)] : List Int)))
      none)
    (k' (.exit 0) ⟨[(0, .c (.one (.ro .str vs0))), (3, .c (.one (.h 384 0 0 []))), (4, .c (.one (.v (.int .i64 vs4)))), (10, .c (.one (.v (.bool (decide (vs4 < (vs0.length : Int)))))))], [], [(384, .live ⟨(.i .u8), .deep, 0, [], vr384⟩)]⟩)) := by
  refine Eq.trans (b := (cond (decide (vs4 < (vs0.length : Int)))
    (cond (Nat.ble (vr384.length + 1) LIM)
      (iter (fun st k => ev f7e f7k n (cAt [1,1,0,1,0,0,1,0,0,1,1,0,0] f7c) st k) n ⟨[(0, .c (.one (.ro .str vs0))), (3, .c (.one (.h 384 0 0 []))), (4, .c (.one (.v (.int .i64 vs4)))), (5, .c (.one (.v (.int .i64 (0 : Int)))))], [], [(384, .live ⟨(.i .u8), .deep, 0, [], (vr384 ++ ([(47 : Int)] : List Int))⟩)]⟩ (f7K0 n k'))
      none)
    (k' (.exit 0) ⟨[(0, .c (.one (.ro .str vs0))), (3, .c (.one (.h 384 0 0 []))), (4, .c (.one (.v (.int .i64 vs4)))), (10, .c (.one (.v (.bool (decide (vs4 < (vs0.length : Int)))))))], [], [(384, .live ⟨(.i .u8), .deep, 0, [], vr384⟩)]⟩))) (by kernel_rfl) ?_
  simp only [f7L0_eq, f7K0_x0]
theorem f7L1_eq {R : Type} (n : Nat) (k' : Ex → St → Option R) (vs0 : List ByteArray) : ∀ (m : Nat) (vs4 : Int) (vr384 : List Int), iter (fun st k => ev f7e f7k n (cAt [1,1,0,1,0,0] f7c) st k) m ⟨[(0, .c (.one (.ro .str vs0))), (3, .c (.one (.h 384 0 0 []))), (4, .c (.one (.v (.int .i64 vs4))))], [], [(384, .live ⟨(.i .u8), .deep, 0, [], vr384⟩)]⟩ k' = f7L1 n (fun (xvs4 : Int) (xvs10 : Bool) (xvr384 : List Int) => k' (.exit 0) ⟨[(0, .c (.one (.ro .str vs0))), (3, .c (.one (.h 384 0 0 []))), (4, .c (.one (.v (.int .i64 xvs4)))), (10, .c (.one (.v (.bool xvs10))))], [], [(384, .live ⟨(.i .u8), .deep, 0, [], xvr384⟩)]⟩) vs0 m vs4 vr384 := by
  intro m; induction m with
  | zero => intros; rfl
  | succ m ih =>
    intro vs4 vr384
    simp only [iter]
    rw [f7L1_b]
    simp only [ih, f7L1]

noncomputable def f7K1 {R : Type} (n : Nat) (k' : Ex → St → Option R) : Ex → St → Option R := (blockK 0 (seqK f7e f7k n (cAt [1,1,1] f7c) k'))
theorem f7K1_x0 {R : Type} (n : Nat) (k : List Dt → Option R) (a0 : List ByteArray) (vs0 : List ByteArray) (xvs4 : Int) (xvs10 : Bool) (xvr384 : List Int) : f7K1 n (exitK f7e [.ro] [false] true [.tmp 2] [9] [.d (.sl .str) a0] k) (.exit 0) ⟨[(0, .c (.one (.ro .str vs0))), (3, .c (.one (.h 384 0 0 []))), (4, .c (.one (.v (.int .i64 xvs4)))), (10, .c (.one (.v (.bool xvs10))))], [], [(384, .live ⟨(.i .u8), .deep, 0, [], xvr384⟩)]⟩ =
    (k [.d .str (bytesOf xvr384)]) := by kernel_rfl

theorem f7_run {R : Type} (n : Nat) (k : List Dt → Option R) (a0 : List ByteArray) : evFn f7e f7k n f7c [.ro] [false] true [.tmp 2] [9] [.d (.sl .str) a0] k =
    (f7L1 n (fun (xvs4 : Int) (xvs10 : Bool) (xvr384 : List Int) =>
    (k [.d .str (bytesOf xvr384)])) a0 n (0 : Int) ([] : List Int)) := by
  refine Eq.trans (b := (iter (fun st k => ev f7e f7k n (cAt [1,1,0,1,0,0] f7c) st k) n ⟨[(0, .c (.one (.ro .str a0))), (3, .c (.one (.h 384 0 0 []))), (4, .c (.one (.v (.int .i64 (0 : Int)))))], [], [(384, .live ⟨(.i .u8), .deep, 0, [], ([] : List Int)⟩)]⟩ (f7K1 n (exitK f7e [.ro] [false] true [.tmp 2] [9] [.d (.sl .str) a0] k)))) (by kernel_rfl) ?_
  simp only [f7L1_eq, f7K1_x0]
theorem f7_spec (a0 : List ByteArray) (hg : gPtrT a0 = true) : ∃ keep rounds, ∀ {R : Type} (k : List Dt → Option R), evFn f7e keep rounds f7c [.ro] [false] true [.tmp 2] [9] [.d (.sl .str) a0] k = k [.d .str (ptrText a0)] := by
  have hl : szL ByteArray.size a0 ≤ 2097152 := bleN hg
  have hn := szL_ge ByteArray.size a0
  refine ⟨f7k, 2097153, fun {R} k => ?_⟩
  rw [f7_run]
  generalize hN : (2097153 : Nat) = N
  have inner : ∀ (i : Nat) (s : ByteArray), a0[i]? = some s → ∀ (X : Int → Bool → List Int → Option R) (Y : List Int → Option R), (∀ j b l, X j b l = Y l) → ∀ (d j m : Nat) (acc : List Int), j + d = s.size → d < m → acc.length + 2 * d ≤ 1000000000 →
      f7L0 N X a0 (i : Int) m (j : Int) acc = Y (acc ++ toI ((s.data.toList.drop j).flatMap escB)) := by
    intro i s hs X Y hX d
    obtain ⟨h1, h0, hw, ht⟩ := idx (lt_of_get hs) (by omega)
    have hss := sizes_at hs
    induction d with
    | zero =>
      intro j m acc hj hm ha
      obtain ⟨m, rfl⟩ : ∃ m', m = m' + 1 := ⟨m - 1, by omega⟩
      simp only [f7L0, h1, h0, ht, atI_of (t := .str) hs, Bool.and_self, cond_true, decide_eq_false (show ¬ ((j : Int) < (s.size : Int)) by omega), cond_false, hX]
      rw [List.drop_eq_nil_of_le (by have : s.data.toList.length = s.size := bszL _
                                     omega)]
      simp [toI]
    | succ d ih =>
      intro j m acc hj hm ha
      obtain ⟨m, rfl⟩ : ∃ m', m = m' + 1 := ⟨m - 1, by omega⟩
      have hjl : j < s.size := by omega
      obtain ⟨k1, k0, kw, kt⟩ := idx hjl (by omega)
      have hjs : j < s.data.toList.length := by
        have : s.data.toList.length = s.size := bszL _
        omega
      have hdrop : s.data.toList.drop j = s.data.toList[j] :: s.data.toList.drop (j + 1) := List.drop_eq_getElem_cons hjs
      have hget : s.data.getD j 0 = s.data.toList[j] := by
        have hja : j < s.data.size := hjl
        rw [Array.getD_eq_getD_getElem?, Array.getElem?_eq_getElem hja]
        simp
      rw [hdrop, List.flatMap_cons]
      generalize s.data.toList[j] = b at *
      have l1 := (Nat.ble_eq_true_of_le (by have : (LIM : Nat) = 4294967296 := rfl; omega) : Nat.ble (acc.length + 1) LIM = true)
      have l2 := (Nat.ble_eq_true_of_le (by have : (LIM : Nat) = 4294967296 := rfl; omega) : Nat.ble (acc.length + 2) LIM = true)
      have e1 := byteI b 126
      have e2 := byteI b 47
      have e1 : (((b.toNat : Int)) == (126 : Int)) = decide (b = 126) := e1
      have e2 : (((b.toNat : Int)) == (47 : Int)) = decide (b = 47) := e2
      simp only [f7L0, h1, h0, ht, atI_of (t := .str) hs, k1, k0, kt, kw, hget, e1, e2, l1, l2, Bool.and_self, cond_true]
      by_cases hb1 : b = 126
      · simp only [hb1, decide_true, cond_true]
        rw [ih (j + 1) m _ (by omega) (by omega) (by simp only [List.length_append, List.length_cons, List.length_nil]; omega), List.append_assoc]
        rfl
      · by_cases hb2 : b = 47
        · simp only [hb2, decide_true, cond_true, show decide ((47 : UInt8) = 126) = false from rfl, cond_false]
          rw [ih (j + 1) m _ (by omega) (by omega) (by simp only [List.length_append, List.length_cons, List.length_nil]; omega), List.append_assoc]
          rfl
        · simp only [hb1, hb2, decide_false, cond_false]
          rw [ih (j + 1) m _ (by omega) (by omega) (by simp only [List.length_append, List.length_cons, List.length_nil]; omega), List.append_assoc]
          simp only [escB, if_neg hb1, if_neg hb2]; rfl
  refine Eq.trans (loop_acc (xs := a0) (F := fun m j out => f7L1 N _ a0 m (j : Int) out) (f := fun out s => out ++ toI (stepB s)) (good := fun out => k [.d .str (bytesOf out)]) (fun j out => out.length + 2 * szL ByteArray.size (a0.drop j) ≤ 4194304)
    (fun j out x hx hi => ?_) (fun m j out x hx hi => ?_) (fun m out hi => by simp only [f7L1, idxE, cond_false]) a0.length 0 N [] (by omega) (by omega) (by simp only [List.drop_zero, List.length_nil]; omega)) ?_
  · have hd := szL_drop hx
    have h2 := esc_len x.data.toList
    have hxl : x.data.toList.length = x.size := bszL _
    have hi : out.length + 2 * szL ByteArray.size (a0.drop j) ≤ 4194304 := hi
    show (out ++ toI (stepB x)).length + 2 * szL ByteArray.size (a0.drop (j + 1)) ≤ 4194304
    rw [List.length_append, toI_len]
    simp only [stepB, List.length_cons]
    omega
  · obtain ⟨h1, h0, hw, ht⟩ := idx (lt_of_get hx) (by omega)
    have hs := sizes_at hx
    have hi : out.length + 2 * szL ByteArray.size (a0.drop j) ≤ 4194304 := hi
    have hd := szL_drop hx
    have hb : Nat.ble (out.length + 1) LIM = true := Nat.ble_eq_true_of_le (by have : (LIM : Nat) = 4294967296 := rfl; omega)
    simp only [f7L1, h1, hb, cond_true, hw]
    refine (inner j x hx _ (fun l => f7L1 N _ a0 m ((j + 1 : Nat) : Int) l) (fun _ _ _ => rfl) x.size 0 N _ (by omega) (by omega) (by simp only [List.length_append, List.length_cons, List.length_nil]; omega)).trans ?_
    rw [List.append_assoc]; rfl
  · rw [List.drop_zero]
    have key : ∀ (xs : List ByteArray) (l : List UInt8), xs.foldl (fun out s => out ++ toI (stepB s)) (toI l) = toI (l ++ xs.flatMap stepB) := by
      intro xs
      induction xs with
      | nil => intro l; simp
      | cons x r ih => intro l; rw [List.foldl_cons, show toI l ++ toI (stepB x) = toI (l ++ stepB x) by simp [toI], ih, List.flatMap_cons, List.append_assoc]
    have := key a0 []
    rw [show ([] : List Int) = toI [] from rfl, this, bytesOf_toI]; rfl

noncomputable def q7 : List Dt → Option (Bool × List Dt)
  | [.d (.sl .str) a0] => some ((gPtrT a0), [.d .str (ptrText a0)])
  | _ => none
noncomputable def s7 : Gm.Spec := Gm.Spec.of [.ro] [false] true q7
theorem good7 : Gm.Good Tryd.prog (7, s7) := by
  have hl : ∀ x ∈ ([] : List (Nat × Gm.Spec)), Gm.Good Tryd.prog x := fun _ h => by cases h
  refine ⟨⟨spec_ok (tab_ok.env hl) (tab.natl hl) Tryd.func7 (by kernel_rfl : Tryd.f7.body = some f7c) [9] (by kernel_rfl) ?_, _, Tryd.func7, by kernel_rfl, of_decide_eq_true (by kernel_rfl)⟩, Gm.Spec.of_natl _ _ _ _⟩
  intro ds outs h
  unfold q7 at h
  split at h
  · simp only [Option.some.injEq, Prod.mk.injEq] at h; obtain ⟨hg, h⟩ := h; cases h; exact f7_spec _ hg
  · cases h
/-! ### loop.example/g00465/impl.PtrText -/
noncomputable def f9c : Code := (Tryd.f9.body).getD .skip
def f9k : Nat → Kp := kat [⟨[0], [], [], []⟩, ⟨[0, 3], [], [], []⟩, ⟨[3, 6, 7, 8], [], [], []⟩, ⟨[3, 6, 7, 8, 9], [], [], []⟩, ⟨[3, 5, 6, 7, 8], [], [], []⟩, ⟨[3, 6, 7, 8], [], [], []⟩, ⟨[3, 6, 7, 8], [], [], []⟩, ⟨[2], [], [], []⟩]
noncomputable def f9e : Env := tab.env [(19, s19)]
noncomputable def f9L0 {R : Type} (n : Nat) (x0 : ByteArray → Int → Bool → Option R) (vs6 : List ByteArray) (vs7 : Int) : Nat → ByteArray → Int → Option R
  | 0, _, _ => none
  | m + 1, vs3, vs8 =>
    (cond (decide (vs8 < vs7))
      (cond ((decide ((0 : Int) ≤ vs8)) && (decide (vs8 < (vs6.length : Int))))
        (cond (gRepl (atI (t := .str) vs6 (Int.toNat vs8)) (bs [126]) (bs [126,48]))
          (cond (gRepl (replS (atI (t := .str) vs6 (Int.toNat vs8)) (bs [126]) (bs [126,48])) (bs [47]) (bs [126,49]))
            (cond (decide (ByteArray.size (bs [47]) + ByteArray.size (replS (replS (atI (t := .str) vs6 (Int.toNat vs8)) (bs [126]) (bs [126,48])) (bs [47]) (bs [126,49])) ≤ 9223372036854775807))
              (cond (decide (ByteArray.size vs3 + ByteArray.size ((bs [47]) ++ (replS (replS (atI (t := .str) vs6 (Int.toNat vs8)) (bs [126]) (bs [126,48])) (bs [47]) (bs [126,49]))) ≤ 9223372036854775807))
                (f9L0 n x0 vs6 vs7 m (vs3 ++ ((bs [47]) ++ (replS (replS (atI (t := .str) vs6 (Int.toNat vs8)) (bs [126]) (bs [126,48])) (bs [47]) (bs [126,49])))) (IntKind.wrap .i64 (vs8 + (1 : Int))))
                none)
              none)
            none)
          none)
        none)
      (x0 vs3 vs8 (decide (vs8 < vs7))))
theorem f9L0_b {R : Type} (n : Nat) (k' : Ex → St → Option R) (vs3 : ByteArray) (vs6 : List ByteArray) (vs7 : Int) (vs8 : Int) : ev f9e f9k n (cAt [1,1,0,1,0,0] f9c) ⟨[(3, .c (.one (.v (.string vs3)))), (6, .c (.one (.ro .str vs6))), (7, .c (.one (.v (.int .i64 vs7)))), (8, .c (.one (.v (.int .i64 vs8))))], [], []⟩ k' =
    (cond (decide (vs8 < vs7))
    (cond ((decide ((0 : Int) ≤ vs8)) && (decide (vs8 < (vs6.length : Int))))
      (cond (gRepl (atI (t := .str) vs6 (Int.toNat vs8)) (bs [126]) (bs [126,48]))
        (cond (gRepl (replS (atI (t := .str) vs6 (Int.toNat vs8)) (bs [126]) (bs [126,48])) (bs [47]) (bs [126,49]))
          (cond (decide (ByteArray.size (bs [47]) + ByteArray.size (replS (replS (atI (t := .str) vs6 (Int.toNat vs8)) (bs [126]) (bs [126,48])) (bs [47]) (bs [126,49])) ≤ 9223372036854775807))
            (cond (decide (ByteArray.size vs3 + ByteArray.size ((bs [47]) ++ (replS (replS (atI (t := .str) vs6 (Int.toNat vs8)) (bs [126]) (bs [126,48])) (bs [47]) (bs [126,49]))) ≤ 9223372036854775807))
              (k' .normal ⟨[(3, .c (.one (.v (.string (vs3 ++ ((bs [47]) ++ (replS (replS (atI (t := .str) vs6 (Int.toNat vs8)) (bs [126]) (bs [126,48])) (bs [47]) (bs [126,49])))))))), (6, .c (.one (.ro .str vs6))), (7, .c (.one (.v (.int .i64 vs7)))), (8, .c (.one (.v (.int .i64 (IntKind.wrap .i64 (vs8 + (1 : Int)))))))], [], []⟩)
              none)
            none)
          none)
        none)
      none)
    (k' (.exit 0) ⟨[(3, .c (.one (.v (.string vs3)))), (6, .c (.one (.ro .str vs6))), (7, .c (.one (.v (.int .i64 vs7)))), (8, .c (.one (.v (.int .i64 vs8)))), (9, .c (.one (.v (.bool (decide (vs8 < vs7))))))], [], []⟩)) := by kernel_rfl
theorem f9L0_eq {R : Type} (n : Nat) (k' : Ex → St → Option R) (vs6 : List ByteArray) (vs7 : Int) : ∀ (m : Nat) (vs3 : ByteArray) (vs8 : Int), iter (fun st k => ev f9e f9k n (cAt [1,1,0,1,0,0] f9c) st k) m ⟨[(3, .c (.one (.v (.string vs3)))), (6, .c (.one (.ro .str vs6))), (7, .c (.one (.v (.int .i64 vs7)))), (8, .c (.one (.v (.int .i64 vs8))))], [], []⟩ k' = f9L0 n (fun (xvs3 : ByteArray) (xvs8 : Int) (xvs9 : Bool) => k' (.exit 0) ⟨[(3, .c (.one (.v (.string xvs3)))), (6, .c (.one (.ro .str vs6))), (7, .c (.one (.v (.int .i64 vs7)))), (8, .c (.one (.v (.int .i64 xvs8)))), (9, .c (.one (.v (.bool xvs9))))], [], []⟩) vs6 vs7 m vs3 vs8 := by
  intro m; induction m with
  | zero => intros; rfl
  | succ m ih =>
    intro vs3 vs8
    simp only [iter]
    rw [f9L0_b]
    simp only [ih, f9L0]

noncomputable def f9K0 {R : Type} (n : Nat) (k' : Ex → St → Option R) : Ex → St → Option R := (blockK 0 (seqK f9e f9k n (cAt [1,1,1] f9c) k'))
theorem f9K0_x0 {R : Type} (n : Nat) (k : List Dt → Option R) (a0 : List ByteArray) (vs6 : List ByteArray) (vs7 : Int) (xvs3 : ByteArray) (xvs8 : Int) (xvs9 : Bool) : f9K0 n (exitK f9e [.ro] [false] true [.tmp 2] [9] [.d (.sl .str) a0] k) (.exit 0) ⟨[(3, .c (.one (.v (.string xvs3)))), (6, .c (.one (.ro .str vs6))), (7, .c (.one (.v (.int .i64 vs7)))), (8, .c (.one (.v (.int .i64 xvs8)))), (9, .c (.one (.v (.bool xvs9))))], [], []⟩ =
    (k [.d .str xvs3]) := by kernel_rfl

theorem f9_run {R : Type} (n : Nat) (k : List Dt → Option R) (a0 : List ByteArray) : evFn f9e f9k n f9c [.ro] [false] true [.tmp 2] [9] [.d (.sl .str) a0] k =
    (f9L0 n (fun (xvs3 : ByteArray) (xvs8 : Int) (xvs9 : Bool) =>
    (k [.d .str xvs3])) a0 (a0.length : Int) n ByteArray.empty (0 : Int)) := by
  refine Eq.trans (b := (iter (fun st k => ev f9e f9k n (cAt [1,1,0,1,0,0] f9c) st k) n ⟨[(3, .c (.one (.v (.string ByteArray.empty)))), (6, .c (.one (.ro .str a0))), (7, .c (.one (.v (.int .i64 (a0.length : Int))))), (8, .c (.one (.v (.int .i64 (0 : Int)))))], [], []⟩ (f9K0 n (exitK f9e [.ro] [false] true [.tmp 2] [9] [.d (.sl .str) a0] k)))) (by kernel_rfl) ?_
  simp only [f9L0_eq, f9K0_x0]
theorem f9_spec (a0 : List ByteArray) (hg : gPtrT a0 = true) : ∃ keep rounds, ∀ {R : Type} (k : List Dt → Option R), evFn f9e keep rounds f9c [.ro] [false] true [.tmp 2] [9] [.d (.sl .str) a0] k = k [.d .str (ptrText a0)] := by
  have hl : szL ByteArray.size a0 ≤ 2097152 := bleN hg
  have hn := szL_ge ByteArray.size a0
  refine ⟨f9k, a0.length + 1, fun {R} k => ?_⟩
  rw [f9_run]
  refine Eq.trans (loop_acc (xs := a0) (F := fun m j out => f9L0 (a0.length + 1) _ a0 (a0.length : Int) m out (j : Int)) (f := fun out s => out ++ mkB (stepB s)) (good := fun out => k [.d .str out]) (fun j out => out.size ≤ 5000000 * j)
    (fun j out x hx hi => ?_) (fun m j out x hx hi => ?_) (fun m out hi => by simp only [f9L0, idxE, cond_false]) a0.length 0 (a0.length + 1) ByteArray.empty (by omega) (by omega) (by simp)) ?_
  · have h1 := sizes_at hx
    have h2 := esc_len x.data.toList
    have hi : out.size ≤ 5000000 * j := hi
    show (out ++ mkB (stepB x)).size ≤ 5000000 * (j + 1)
    rw [ByteArray.size_append, mkB_size]
    simp only [stepB, List.length_cons]
    have : x.data.toList.length = x.size := bszL _
    rw [Nat.mul_add_one]; omega
  · obtain ⟨h1, h0, hw, ht⟩ := idx (lt_of_get hx) (by omega)
    have hj := lt_of_get hx
    have hs := sizes_at hx
    have hi : out.size ≤ 5000000 * j := hi
    have hr1 : gRepl x (bs [126]) (bs [126,48]) = true := by
      unfold gRepl; rw [Nat.ble_eq_true_of_le (by omega : x.size ≤ 2147483648)]; rfl
    have hsz := rep126_len x.data.toList
    have hxl : x.data.toList.length = x.size := bszL _
    have hr2 : gRepl (replS x (bs [126]) (bs [126,48])) (bs [47]) (bs [126,49]) = true := by
      unfold gRepl; rw [replS_1, mkB_size, Nat.ble_eq_true_of_le (by omega)]; rfl
    have he := esc_len x.data.toList
    have e : bs [47] ++ mkB (x.data.toList.flatMap escB) = mkB (stepB x) := by
      rw [show bs [47] = mkB [47] from rfl, mkB_app]; rfl
    have hz1 : decide (ByteArray.size (bs [47]) + ByteArray.size (mkB (x.data.toList.flatMap escB)) ≤ 9223372036854775807) = true := decide_eq_true (by rw [mkB_size, show (bs [47]).size = 1 from rfl]; omega)
    have hz2 : decide (ByteArray.size out + ByteArray.size (mkB (stepB x)) ≤ 9223372036854775807) = true := decide_eq_true (by rw [mkB_size]; simp only [stepB, List.length_cons]; omega)
    simp only [f9L0, h1, h0, hw, ht, atI_of (t := .str) hx, hr1, hr2, replS_2, hz1, e, hz2, Bool.and_self, cond_true]
  · rw [List.drop_zero]
    have key : ∀ (xs : List ByteArray) (l : List UInt8), xs.foldl (fun out s => out ++ mkB (stepB s)) (mkB l) = mkB (l ++ xs.flatMap stepB) := by
      intro xs
      induction xs with
      | nil => intro l; simp
      | cons x r ih => intro l; rw [List.foldl_cons, mkB_app, ih, List.flatMap_cons, List.append_assoc]
    have := key a0 []
    rw [show ByteArray.empty = mkB [] from rfl, this]; rfl

noncomputable def q9 : List Dt → Option (Bool × List Dt)
  | [.d (.sl .str) a0] => some ((gPtrT a0), [.d .str (ptrText a0)])
  | _ => none
noncomputable def s9 : Gm.Spec := Gm.Spec.of [.ro] [false] true q9
theorem good9 : Gm.Good Tryd.prog (9, s9) := by
  have hl : ∀ x ∈ [(19, s19)], Gm.Good Tryd.prog x := List.forall_mem_cons.2 ⟨good19, List.forall_mem_nil _⟩
  refine ⟨⟨spec_ok (tab_ok.env hl) (tab.natl hl) Tryd.func9 (by kernel_rfl : Tryd.f9.body = some f9c) [9] (by kernel_rfl) ?_, _, Tryd.func9, by kernel_rfl, of_decide_eq_true (by kernel_rfl)⟩, Gm.Spec.of_natl _ _ _ _⟩
  intro ds outs h
  unfold q9 at h
  split at h
  · simp only [Option.some.injEq, Prod.mk.injEq] at h; obtain ⟨hg, h⟩ := h; cases h; exact f9_spec _ hg
  · cases h
end Go.Proofs.YtinbejnakemfjaaDoor

/- x -/
namespace Go.Proofs
open Go.Shelf Go.RowKit
def Tryd.laysSplit_ren : Go.Shelf.Ren := ⟨fun | 146 => 20 | 221 => 26 | 268 => 34 | 138 => 28 | 143 => 30 | 195 => 35 | 197 => 32 | 218 => 36 | 219 => 39 | 260 => 40 | 217 => 43 | 225 => 44 | 224 => 45 | 267 => 46 | 266 => 47 | 314 => 48 | n => n, fun | 9 => 9 | 31 => 22 | 3 => 3 | 4 => 4 | 0 => 0 | 105 => 56 | 21 => 21 | 5 => 5 | 46 => 60 | 119 => 68 | 139 => 71 | 138 => 70 | 146 => 73 | 51 => 72 | n => n, fun | 1 => 0 | 3 => 1 | 4 => 2 | n => n⟩
theorem Tryd.laysSplit : Go.Proofs.LaysM.n146 Tryd.prog Tryd.laysSplit_ren := {
  mixed := by kernel_rfl
  f138 := Tryd.func28.trans (congrArg some (by kernel_rfl))
  f143 := Tryd.func30.trans (congrArg some (by kernel_rfl))
  f146 := Tryd.func20.trans (congrArg some (by kernel_rfl))
  f195 := Tryd.func35.trans (congrArg some (by kernel_rfl))
  f197 := Tryd.func32.trans (congrArg some (by kernel_rfl))
  f217 := Tryd.func43.trans (congrArg some (by kernel_rfl))
  f218 := Tryd.func36.trans (congrArg some (by kernel_rfl))
  f219 := Tryd.func39.trans (congrArg some (by kernel_rfl))
  f221 := Tryd.func26.trans (congrArg some (by kernel_rfl))
  f224 := Tryd.func45.trans (congrArg some (by kernel_rfl))
  f225 := Tryd.func44.trans (congrArg some (by kernel_rfl))
  f260 := Tryd.func40.trans (congrArg some (by kernel_rfl))
  f266 := Tryd.func47.trans (congrArg some (by kernel_rfl))
  f267 := Tryd.func46.trans (congrArg some (by kernel_rfl))
  f268 := Tryd.func34.trans (congrArg some (by kernel_rfl))
  f314 := Tryd.func48.trans (congrArg some (by kernel_rfl))
  t0 := Tryd.underlying0
  a0 := Tryd.isAgg0
  z0 := Tryd.sizeOf0
  v0 := Tryd.zeroValue0
  t3 := Tryd.underlying3
  a3 := Tryd.isAgg3
  z3 := Tryd.sizeOf3
  v3 := Tryd.zeroValue3
  t4 := Tryd.underlying4
  a4 := Tryd.isAgg4
  z4 := Tryd.sizeOf4
  v4 := Tryd.zeroValue4
  t5 := Tryd.underlying5
  a5 := Tryd.isAgg5
  z5 := Tryd.sizeOf5
  v5 := Tryd.zeroValue5
  t9 := Tryd.underlying9
  a9 := Tryd.isAgg9
  z9 := Tryd.sizeOf9
  v9 := Tryd.zeroValue9
  t21 := Tryd.underlying21
  a21 := Tryd.isAgg21
  z21 := Tryd.sizeOf21
  v21 := Tryd.zeroValue21
  t31 := Tryd.underlying22
  a31 := Tryd.isAgg22
  z31 := Tryd.sizeOf22
  v31 := Tryd.zeroValue22
  t46 := Tryd.underlying60
  a46 := Tryd.isAgg60
  z46 := Tryd.sizeOf60
  v46 := Tryd.zeroValue60
  t51 := Tryd.underlying72
  a51 := Tryd.isAgg72
  z51 := Tryd.sizeOf72
  v51 := Tryd.zeroValue72
  t105 := Tryd.underlying56
  a105 := Tryd.isAgg56
  z105 := Tryd.sizeOf56
  v105 := Tryd.zeroValue56
  t119 := Tryd.underlying68
  a119 := Tryd.isAgg68
  z119 := Tryd.sizeOf68
  t138 := Tryd.underlying70
  a138 := Tryd.isAgg70
  z138 := Tryd.sizeOf70
  v138 := Tryd.zeroValue70
  t139 := Tryd.underlying71
  a139 := Tryd.isAgg71
  z139 := Tryd.sizeOf71
  v139 := Tryd.zeroValue71
  t146 := Tryd.underlying73
  a146 := Tryd.isAgg73
  z146 := Tryd.sizeOf73
  v146 := Tryd.zeroValue73
  g1 := by kernel_rfl
  g3 := by kernel_rfl
  g4 := by kernel_rfl
  i0 := by kernel_rfl
  i3 := by kernel_rfl
  i4 := by kernel_rfl
  i5 := by kernel_rfl
  i9 := by kernel_rfl
  i21 := by kernel_rfl
  i31 := by kernel_rfl
  i46 := by kernel_rfl
  i51 := by kernel_rfl
  i105 := by kernel_rfl
  i138 := by kernel_rfl
  i139 := by kernel_rfl
  i146 := by kernel_rfl
  m1 := by kernel_rfl
  s1_3 := fun w h => Go.Proofs.cell_of_shapedOpen_int (zero := #[.int .i64 0]) (t := 3) h (of_decide_eq_true (by kernel_rfl)) (by kernel_rfl) rfl (by kernel_rfl) (by kernel_rfl) Tryd.underlying3
  m3 := by kernel_rfl
  m4 := by kernel_rfl }

end Go.Proofs
namespace Go.Proofs.YtinbejnakemfjaaDoor
open Go Go.Gm Go.RowKit
noncomputable def q20 : List Dt → Option (Bool × List Dt)
  | [.d .str a0, .d .str a1] => some (gSplit a0 a1, [.d (.sl .str) (splitS a0 a1)])
  | _ => none
noncomputable def s20 : Gm.Spec := Gm.Spec.of [.ro, .ro] [false] true q20
theorem good20 : Gm.Good Tryd.prog (20, s20) := by
  refine ⟨⟨spec_own1W rfl ?_, _, Tryd.func20, by kernel_rfl, of_decide_eq_true (by kernel_rfl)⟩, Gm.Spec.of_natl _ _ _ _⟩
  intro ds outs h
  unfold q20 at h
  split at h
  · rename_i a0 a1
    simp only [Option.some.injEq, Prod.mk.injEq] at h
    obtain ⟨hg, h⟩ := h
    cases h
    refine ⟨_, _, rfl, fun w us Mf ROa Fs hW hB hA hlt => ?_⟩
    cases hA with
    | cons h1 hA =>
      cases hA with
      | cons h2 hA =>
        cases hA
        have e1 := valRd_v (t := .str) (v := .string a0) rfl rfl h1
        have e2 := valRd_v (t := .str) (v := .string a1) rfl rfl h2
        subst e1; subst e2
        obtain ⟨g1, g2⟩ := gSplit_iff hg
        obtain ⟨m, hm⟩ := Go.Proofs.Tryd.laysSplit.s1_3 _ hW
        refine Calls.mono (Go.Proofs.Any.strings_Split { Go.Proofs.Tryd.laysSplit with } Go.Proofs.Tryd.laysSplit.i9 a0 a1 m w (by omega) (hB.cell hm) g2) ?_
        rintro e w' ⟨rfl, rfl⟩
        have hn : Lib.countB a0 a1 + 1 = (splitS a0 a1).length := (Lib.splitB_all a1 g2 0 _ a0 rfl).symm
        rw [hn]
        exact ⟨_, _, rfl, kept_alloc _ _ _, valOwn_strs w (splitS a0 a1) _, fun k hk => by subst hk; exact ⟨.inr (Nat.le_refl _), by simp⟩⟩
  · cases h
end Go.Proofs.YtinbejnakemfjaaDoor

/- x -/
namespace Go.Proofs.YtinbejnakemfjaaDoor
open Go Go.Gm
/-! ### loop.example/g00465/spec.PtrOf -/
noncomputable def f11c : Code := (Tryd.f11.body).getD .skip
def f11k : Nat → Kp := kat [⟨[0], [], [], []⟩, ⟨[0, 4], [], [], []⟩, ⟨[0, 4, 5], [], [], []⟩, ⟨[0, 4, 5, 6], [], [], []⟩, ⟨[0, 4, 5, 6, 12], [], [], []⟩, ⟨[0, 4, 5, 6], [], [], [(2112, 512)]⟩, ⟨[0, 4, 5, 6], [], [], []⟩, ⟨[0, 4, 5, 6, 21], [], [], []⟩, ⟨[0, 4, 5, 6, 27], [], [], []⟩, ⟨[0, 4, 6], [], [], []⟩, ⟨[0, 4, 5, 6], [], [], []⟩, ⟨[0, 4, 5, 6, 34], [], [], []⟩, ⟨[0, 4, 5, 6], [], [], []⟩, ⟨[0, 4, 5, 6], [], [], []⟩, ⟨[0, 4, 5, 6, 58], [], [], []⟩, ⟨[0, 4, 5, 6], [], [], []⟩, ⟨[0, 4, 5, 6], [], [], []⟩, ⟨[0, 4, 5, 83], [], [], []⟩, ⟨[0, 4], [], [], []⟩, ⟨[4, 92], [], [], []⟩, ⟨[2, 3], [], [], []⟩, ⟨[2, 3], [], [], []⟩]
noncomputable def f11e : Env := tab.env [(7, s7)]
noncomputable def f11L0 {R : Type} (n : Nat) (x0 : Int → Bool → (List ByteArray) → (List Int) → Option R) (vs0 : ByteArray) : Nat → Int → (List ByteArray) → (List Int) → Option R
  | 0, _, _, _ => none
  | m + 1, vs6, vr448, vr512 =>
    (cond (decide (vs6 < (ByteArray.size vs0 : Int)))
      (cond ((decide ((0 : Int) ≤ vs6)) && (decide (vs6 < (ByteArray.size vs0 : Int))))
        (cond ((((ByteArray.data vs0).getD (Int.toNat vs6) 0).toNat : Int) == (47 : Int))
          (cond (decide (vs6 > (0 : Int)))
            (cond (Nat.ble (vr448.length + 1) LIM)
              (f11L0 n x0 vs0 m (IntKind.wrap .i64 (vs6 + (1 : Int))) (vr448 ++ ([(bytesOf vr512)] : List ByteArray)) ([] : List Int))
              none)
            (f11L0 n x0 vs0 m (IntKind.wrap .i64 (vs6 + (1 : Int))) vr448 ([] : List Int)))
          (cond ((decide ((0 : Int) ≤ vs6)) && (decide (vs6 < (ByteArray.size vs0 : Int))))
            (cond ((((ByteArray.data vs0).getD (Int.toNat vs6) 0).toNat : Int) == (126 : Int))
              (cond (decide ((IntKind.wrap .i64 (vs6 + (1 : Int))) < (ByteArray.size vs0 : Int)))
                (cond ((decide ((0 : Int) ≤ (IntKind.wrap .i64 (vs6 + (1 : Int))))) && (decide ((IntKind.wrap .i64 (vs6 + (1 : Int))) < (ByteArray.size vs0 : Int))))
                  (cond ((((ByteArray.data vs0).getD (Int.toNat (IntKind.wrap .i64 (vs6 + (1 : Int)))) 0).toNat : Int) == (48 : Int))
                    (cond (Nat.ble (vr512.length + 1) LIM)
                      (f11L0 n x0 vs0 m (IntKind.wrap .i64 ((IntKind.wrap .i64 (vs6 + (1 : Int))) + (1 : Int))) vr448 (vr512 ++ ([(126 : Int)] : List Int)))
                      none)
                    (cond ((decide ((0 : Int) ≤ vs6)) && (decide (vs6 < (ByteArray.size vs0 : Int))))
                      (cond ((((ByteArray.data vs0).getD (Int.toNat vs6) 0).toNat : Int) == (126 : Int))
                        (cond (decide ((IntKind.wrap .i64 (vs6 + (1 : Int))) < (ByteArray.size vs0 : Int)))
                          (cond ((decide ((0 : Int) ≤ (IntKind.wrap .i64 (vs6 + (1 : Int))))) && (decide ((IntKind.wrap .i64 (vs6 + (1 : Int))) < (ByteArray.size vs0 : Int))))
                            (cond ((((ByteArray.data vs0).getD (Int.toNat (IntKind.wrap .i64 (vs6 + (1 : Int)))) 0).toNat : Int) == (49 : Int))
                              (cond (Nat.ble (vr512.length + 1) LIM)
                                (f11L0 n x0 vs0 m (IntKind.wrap .i64 ((IntKind.wrap .i64 (vs6 + (1 : Int))) + (1 : Int))) vr448 (vr512 ++ ([(47 : Int)] : List Int)))
                                none)
                              (cond ((decide ((0 : Int) ≤ vs6)) && (decide (vs6 < (ByteArray.size vs0 : Int))))
                                (cond (Nat.ble (vr512.length + 1) LIM)
                                  (f11L0 n x0 vs0 m (IntKind.wrap .i64 (vs6 + (1 : Int))) vr448 (vr512 ++ ([(((ByteArray.data vs0).getD (Int.toNat vs6) 0).toNat : Int)] : List Int)))
                                  none)
                                none))
                            none)
                          (cond ((decide ((0 : Int) ≤ vs6)) && (decide (vs6 < (ByteArray.size vs0 : Int))))
                            (cond (Nat.ble (vr512.length + 1) LIM)
                              (f11L0 n x0 vs0 m (IntKind.wrap .i64 (vs6 + (1 : Int))) vr448 (vr512 ++ ([(((ByteArray.data vs0).getD (Int.toNat vs6) 0).toNat : Int)] : List Int)))
                              none)
                            none))
                        (cond ((decide ((0 : Int) ≤ vs6)) && (decide (vs6 < (ByteArray.size vs0 : Int))))
                          (cond (Nat.ble (vr512.length + 1) LIM)
                            (f11L0 n x0 vs0 m (IntKind.wrap .i64 (vs6 + (1 : Int))) vr448 (vr512 ++ ([(((ByteArray.data vs0).getD (Int.toNat vs6) 0).toNat : Int)] : List Int)))
                            none)
                          none))
                      none))
                  none)
                (cond ((decide ((0 : Int) ≤ vs6)) && (decide (vs6 < (ByteArray.size vs0 : Int))))
                  (cond ((((ByteArray.data vs0).getD (Int.toNat vs6) 0).toNat : Int) == (126 : Int))
                    (cond (decide ((IntKind.wrap .i64 (vs6 + (1 : Int))) < (ByteArray.size vs0 : Int)))
                      (cond ((decide ((0 : Int) ≤ (IntKind.wrap .i64 (vs6 + (1 : Int))))) && (decide ((IntKind.wrap .i64 (vs6 + (1 : Int))) < (ByteArray.size vs0 : Int))))
                        (cond ((((ByteArray.data vs0).getD (Int.toNat (IntKind.wrap .i64 (vs6 + (1 : Int)))) 0).toNat : Int) == (49 : Int))
                          (cond (Nat.ble (vr512.length + 1) LIM)
                            (f11L0 n x0 vs0 m (IntKind.wrap .i64 ((IntKind.wrap .i64 (vs6 + (1 : Int))) + (1 : Int))) vr448 (vr512 ++ ([(47 : Int)] : List Int)))
                            none)
                          (cond ((decide ((0 : Int) ≤ vs6)) && (decide (vs6 < (ByteArray.size vs0 : Int))))
                            (cond (Nat.ble (vr512.length + 1) LIM)
                              (f11L0 n x0 vs0 m (IntKind.wrap .i64 (vs6 + (1 : Int))) vr448 (vr512 ++ ([(((ByteArray.data vs0).getD (Int.toNat vs6) 0).toNat : Int)] : List Int)))
                              none)
                            none))
                        none)
                      (cond ((decide ((0 : Int) ≤ vs6)) && (decide (vs6 < (ByteArray.size vs0 : Int))))
                        (cond (Nat.ble (vr512.length + 1) LIM)
                          (f11L0 n x0 vs0 m (IntKind.wrap .i64 (vs6 + (1 : Int))) vr448 (vr512 ++ ([(((ByteArray.data vs0).getD (Int.toNat vs6) 0).toNat : Int)] : List Int)))
                          none)
                        none))
                    (cond ((decide ((0 : Int) ≤ vs6)) && (decide (vs6 < (ByteArray.size vs0 : Int))))
                      (cond (Nat.ble (vr512.length + 1) LIM)
                        (f11L0 n x0 vs0 m (IntKind.wrap .i64 (vs6 + (1 : Int))) vr448 (vr512 ++ ([(((ByteArray.data vs0).getD (Int.toNat vs6) 0).toNat : Int)] : List Int)))
                        none)
                      none))
                  none))
              (cond ((decide ((0 : Int) ≤ vs6)) && (decide (vs6 < (ByteArray.size vs0 : Int))))
                (cond ((((ByteArray.data vs0).getD (Int.toNat vs6) 0).toNat : Int) == (126 : Int))
                  (cond (decide ((IntKind.wrap .i64 (vs6 + (1 : Int))) < (ByteArray.size vs0 : Int)))
                    (cond ((decide ((0 : Int) ≤ (IntKind.wrap .i64 (vs6 + (1 : Int))))) && (decide ((IntKind.wrap .i64 (vs6 + (1 : Int))) < (ByteArray.size vs0 : Int))))
                      (cond ((((ByteArray.data vs0).getD (Int.toNat (IntKind.wrap .i64 (vs6 + (1 : Int)))) 0).toNat : Int) == (49 : Int))
                        (cond (Nat.ble (vr512.length + 1) LIM)
                          (f11L0 n x0 vs0 m (IntKind.wrap .i64 ((IntKind.wrap .i64 (vs6 + (1 : Int))) + (1 : Int))) vr448 (vr512 ++ ([(47 : Int)] : List Int)))
                          none)
                        (cond ((decide ((0 : Int) ≤ vs6)) && (decide (vs6 < (ByteArray.size vs0 : Int))))
                          (cond (Nat.ble (vr512.length + 1) LIM)
                            (f11L0 n x0 vs0 m (IntKind.wrap .i64 (vs6 + (1 : Int))) vr448 (vr512 ++ ([(((ByteArray.data vs0).getD (Int.toNat vs6) 0).toNat : Int)] : List Int)))
                            none)
                          none))
                      none)
                    (cond ((decide ((0 : Int) ≤ vs6)) && (decide (vs6 < (ByteArray.size vs0 : Int))))
                      (cond (Nat.ble (vr512.length + 1) LIM)
                        (f11L0 n x0 vs0 m (IntKind.wrap .i64 (vs6 + (1 : Int))) vr448 (vr512 ++ ([(((ByteArray.data vs0).getD (Int.toNat vs6) 0).toNat : Int)] : List Int)))
                        none)
                      none))
                  (cond ((decide ((0 : Int) ≤ vs6)) && (decide (vs6 < (ByteArray.size vs0 : Int))))
                    (cond (Nat.ble (vr512.length + 1) LIM)
                      (f11L0 n x0 vs0 m (IntKind.wrap .i64 (vs6 + (1 : Int))) vr448 (vr512 ++ ([(((ByteArray.data vs0).getD (Int.toNat vs6) 0).toNat : Int)] : List Int)))
                      none)
                    none))
                none))
            none))
        none)
      (x0 vs6 (decide (vs6 < (ByteArray.size vs0 : Int))) vr448 vr512))
theorem f11L0_b {R : Type} (n : Nat) (k' : Ex → St → Option R) (vs0 : ByteArray) (vs6 : Int) (vr448 : List ByteArray) (vr512 : List Int) : ev f11e f11k n (cAt [1,1,1,0,1,0,0] f11c) ⟨[(0, .c (.one (.v (.string vs0)))), (4, .c (.one (.h 448 0 0 []))), (5, .c (.one (.h 512 0 0 []))), (6, .c (.one (.v (.int .i64 vs6))))], [], [(448, .live ⟨.str, .deep, 0, [], vr448⟩), (512, .live ⟨(.i .u8), .deep, 0, [], vr512⟩)]⟩ k' =
    (cond (decide (vs6 < (ByteArray.size vs0 : Int)))
    (cond ((decide ((0 : Int) ≤ vs6)) && (decide (vs6 < (ByteArray.size vs0 : Int))))
      (cond ((((ByteArray.data vs0).getD (Int.toNat vs6) 0).toNat : Int) == (47 : Int))
        (cond (decide (vs6 > (0 : Int)))
          (cond (Nat.ble (vr448.length + 1) LIM)
            (k' .normal ⟨[(0, .c (.one (.v (.string vs0)))), (4, .c (.one (.h 448 0 0 []))), (5, .c (.one (.h 512 0 0 []))), (6, .c (.one (.v (.int .i64 (IntKind.wrap .i64 (vs6 + (1 : Int)))))))], [], [(448, .live ⟨.str, .deep, 0, [], (vr448 ++ ([(bytesOf vr512)] : List ByteArray))⟩), (512, .live ⟨(.i .u8), .deep, 0, [], ([] : List Int)⟩)]⟩)
            none)
          (k' .normal ⟨[(0, .c (.one (.v (.string vs0)))), (4, .c (.one (.h 448 0 0 []))), (5, .c (.one (.h 512 0 0 []))), (6, .c (.one (.v (.int .i64 (IntKind.wrap .i64 (vs6 + (1 : Int)))))))], [], [(448, .live ⟨.str, .deep, 0, [], vr448⟩), (512, .live ⟨(.i .u8), .deep, 0, [], ([] : List Int)⟩)]⟩))
        (cond ((decide ((0 : Int) ≤ vs6)) && (decide (vs6 < (ByteArray.size vs0 : Int))))
          (cond ((((ByteArray.data vs0).getD (Int.toNat vs6) 0).toNat : Int) == (126 : Int))
            (cond (decide ((IntKind.wrap .i64 (vs6 + (1 : Int))) < (ByteArray.size vs0 : Int)))
              (cond ((decide ((0 : Int) ≤ (IntKind.wrap .i64 (vs6 + (1 : Int))))) && (decide ((IntKind.wrap .i64 (vs6 + (1 : Int))) < (ByteArray.size vs0 : Int))))
                (cond ((((ByteArray.data vs0).getD (Int.toNat (IntKind.wrap .i64 (vs6 + (1 : Int)))) 0).toNat : Int) == (48 : Int))
                  (cond (Nat.ble (vr512.length + 1) LIM)
                    (k' .normal ⟨[(0, .c (.one (.v (.string vs0)))), (4, .c (.one (.h 448 0 0 []))), (5, .c (.one (.h 512 0 0 []))), (6, .c (.one (.v (.int .i64 (IntKind.wrap .i64 ((IntKind.wrap .i64 (vs6 + (1 : Int))) + (1 : Int)))))))], [], [(448, .live ⟨.str, .deep, 0, [], vr448⟩), (512, .live ⟨(.i .u8), .deep, 0, [], (vr512 ++ ([(126 : Int)] : List Int))⟩)]⟩)
                    none)
                  (cond ((decide ((0 : Int) ≤ vs6)) && (decide (vs6 < (ByteArray.size vs0 : Int))))
                    (cond ((((ByteArray.data vs0).getD (Int.toNat vs6) 0).toNat : Int) == (126 : Int))
                      (cond (decide ((IntKind.wrap .i64 (vs6 + (1 : Int))) < (ByteArray.size vs0 : Int)))
                        (cond ((decide ((0 : Int) ≤ (IntKind.wrap .i64 (vs6 + (1 : Int))))) && (decide ((IntKind.wrap .i64 (vs6 + (1 : Int))) < (ByteArray.size vs0 : Int))))
                          (cond ((((ByteArray.data vs0).getD (Int.toNat (IntKind.wrap .i64 (vs6 + (1 : Int)))) 0).toNat : Int) == (49 : Int))
                            (cond (Nat.ble (vr512.length + 1) LIM)
                              (k' .normal ⟨[(0, .c (.one (.v (.string vs0)))), (4, .c (.one (.h 448 0 0 []))), (5, .c (.one (.h 512 0 0 []))), (6, .c (.one (.v (.int .i64 (IntKind.wrap .i64 ((IntKind.wrap .i64 (vs6 + (1 : Int))) + (1 : Int)))))))], [], [(448, .live ⟨.str, .deep, 0, [], vr448⟩), (512, .live ⟨(.i .u8), .deep, 0, [], (vr512 ++ ([(47 : Int)] : List Int))⟩)]⟩)
                              none)
                            (cond ((decide ((0 : Int) ≤ vs6)) && (decide (vs6 < (ByteArray.size vs0 : Int))))
                              (cond (Nat.ble (vr512.length + 1) LIM)
                                (k' .normal ⟨[(0, .c (.one (.v (.string vs0)))), (4, .c (.one (.h 448 0 0 []))), (5, .c (.one (.h 512 0 0 []))), (6, .c (.one (.v (.int .i64 (IntKind.wrap .i64 (vs6 + (1 : Int)))))))], [], [(448, .live ⟨.str, .deep, 0, [], vr448⟩), (512, .live ⟨(.i .u8), .deep, 0, [], (vr512 ++ ([(((ByteArray.data vs0).getD (Int.toNat vs6) 0).toNat : Int)] : List Int))⟩)]⟩)
                                none)
                              none))
                          none)
                        (cond ((decide ((0 : Int) ≤ vs6)) && (decide (vs6 < (ByteArray.size vs0 : Int))))
                          (cond (Nat.ble (vr512.length + 1) LIM)
                            (k' .normal ⟨[(0, .c (.one (.v (.string vs0)))), (4, .c (.one (.h 448 0 0 []))), (5, .c (.one (.h 512 0 0 []))), (6, .c (.one (.v (.int .i64 (IntKind.wrap .i64 (vs6 + (1 : Int)))))))], [], [(448, .live ⟨.str, .deep, 0, [], vr448⟩), (512, .live ⟨(.i .u8), .deep, 0, [], (vr512 ++ ([(((ByteArray.data vs0).getD (Int.toNat vs6) 0).toNat : Int)] : List Int))⟩)]⟩)
                            none)
                          none))
                      (cond ((decide ((0 : Int) ≤ vs6)) && (decide (vs6 < (ByteArray.size vs0 : Int))))
                        (cond (Nat.ble (vr512.length + 1) LIM)
                          (k' .normal ⟨[(0, .c (.one (.v (.string vs0)))), (4, .c (.one (.h 448 0 0 []))), (5, .c (.one (.h 512 0 0 []))), (6, .c (.one (.v (.int .i64 (IntKind.wrap .i64 (vs6 + (1 : Int)))))))], [], [(448, .live ⟨.str, .deep, 0, [], vr448⟩), (512, .live ⟨(.i .u8), .deep, 0, [], (vr512 ++ ([(((ByteArray.data vs0).getD (Int.toNat vs6) 0).toNat : Int)] : List Int))⟩)]⟩)
                          none)
                        none))
                    none))
                none)
              (cond ((decide ((0 : Int) ≤ vs6)) && (decide (vs6 < (ByteArray.size vs0 : Int))))
                (cond ((((ByteArray.data vs0).getD (Int.toNat vs6) 0).toNat : Int) == (126 : Int))
                  (cond (decide ((IntKind.wrap .i64 (vs6 + (1 : Int))) < (ByteArray.size vs0 : Int)))
                    (cond ((decide ((0 : Int) ≤ (IntKind.wrap .i64 (vs6 + (1 : Int))))) && (decide ((IntKind.wrap .i64 (vs6 + (1 : Int))) < (ByteArray.size vs0 : Int))))
                      (cond ((((ByteArray.data vs0).getD (Int.toNat (IntKind.wrap .i64 (vs6 + (1 : Int)))) 0).toNat : Int) == (49 : Int))
                        (cond (Nat.ble (vr512.length + 1) LIM)
                          (k' .normal ⟨[(0, .c (.one (.v (.string vs0)))), (4, .c (.one (.h 448 0 0 []))), (5, .c (.one (.h 512 0 0 []))), (6, .c (.one (.v (.int .i64 (IntKind.wrap .i64 ((IntKind.wrap .i64 (vs6 + (1 : Int))) + (1 : Int)))))))], [], [(448, .live ⟨.str, .deep, 0, [], vr448⟩), (512, .live ⟨(.i .u8), .deep, 0, [], (vr512 ++ ([(47 : Int)] : List Int))⟩)]⟩)
                          none)
                        (cond ((decide ((0 : Int) ≤ vs6)) && (decide (vs6 < (ByteArray.size vs0 : Int))))
                          (cond (Nat.ble (vr512.length + 1) LIM)
                            (k' .normal ⟨[(0, .c (.one (.v (.string vs0)))), (4, .c (.one (.h 448 0 0 []))), (5, .c (.one (.h 512 0 0 []))), (6, .c (.one (.v (.int .i64 (IntKind.wrap .i64 (vs6 + (1 : Int)))))))], [], [(448, .live ⟨.str, .deep, 0, [], vr448⟩), (512, .live ⟨(.i .u8), .deep, 0, [], (vr512 ++ ([(((ByteArray.data vs0).getD (Int.toNat vs6) 0).toNat : Int)] : List Int))⟩)]⟩)
                            none)
                          none))
                      none)
                    (cond ((decide ((0 : Int) ≤ vs6)) && (decide (vs6 < (ByteArray.size vs0 : Int))))
                      (cond (Nat.ble (vr512.length + 1) LIM)
                        (k' .normal ⟨[(0, .c (.one (.v (.string vs0)))), (4, .c (.one (.h 448 0 0 []))), (5, .c (.one (.h 512 0 0 []))), (6, .c (.one (.v (.int .i64 (IntKind.wrap .i64 (vs6 + (1 : Int)))))))], [], [(448, .live ⟨.str, .deep, 0, [], vr448⟩), (512, .live ⟨(.i .u8), .deep, 0, [], (vr512 ++ ([(((ByteArray.data vs0).getD (Int.toNat vs6) 0).toNat : Int)] : List Int))⟩)]⟩)
                        none)
                      none))
                  (cond ((decide ((0 : Int) ≤ vs6)) && (decide (vs6 < (ByteArray.size vs0 : Int))))
                    (cond (Nat.ble (vr512.length + 1) LIM)
                      (k' .normal ⟨[(0, .c (.one (.v (.string vs0)))), (4, .c (.one (.h 448 0 0 []))), (5, .c (.one (.h 512 0 0 []))), (6, .c (.one (.v (.int .i64 (IntKind.wrap .i64 (vs6 + (1 : Int)))))))], [], [(448, .live ⟨.str, .deep, 0, [], vr448⟩), (512, .live ⟨(.i .u8), .deep, 0, [], (vr512 ++ ([(((ByteArray.data vs0).getD (Int.toNat vs6) 0).toNat : Int)] : List Int))⟩)]⟩)
                      none)
                    none))
                none))
            (cond ((decide ((0 : Int) ≤ vs6)) && (decide (vs6 < (ByteArray.size vs0 : Int))))
              (cond ((((ByteArray.data vs0).getD (Int.toNat vs6) 0).toNat : Int) == (126 : Int))
                (cond (decide ((IntKind.wrap .i64 (vs6 + (1 : Int))) < (ByteArray.size vs0 : Int)))
                  (cond ((decide ((0 : Int) ≤ (IntKind.wrap .i64 (vs6 + (1 : Int))))) && (decide ((IntKind.wrap .i64 (vs6 + (1 : Int))) < (ByteArray.size vs0 : Int))))
                    (cond ((((ByteArray.data vs0).getD (Int.toNat (IntKind.wrap .i64 (vs6 + (1 : Int)))) 0).toNat : Int) == (49 : Int))
                      (cond (Nat.ble (vr512.length + 1) LIM)
                        (k' .normal ⟨[(0, .c (.one (.v (.string vs0)))), (4, .c (.one (.h 448 0 0 []))), (5, .c (.one (.h 512 0 0 []))), (6, .c (.one (.v (.int .i64 (IntKind.wrap .i64 ((IntKind.wrap .i64 (vs6 + (1 : Int))) + (1 : Int)))))))], [], [(448, .live ⟨.str, .deep, 0, [], vr448⟩), (512, .live ⟨(.i .u8), .deep, 0, [], (vr512 ++ ([(47 : Int)] : List Int))⟩)]⟩)
                        none)
                      (cond ((decide ((0 : Int) ≤ vs6)) && (decide (vs6 < (ByteArray.size vs0 : Int))))
                        (cond (Nat.ble (vr512.length + 1) LIM)
                          (k' .normal ⟨[(0, .c (.one (.v (.string vs0)))), (4, .c (.one (.h 448 0 0 []))), (5, .c (.one (.h 512 0 0 []))), (6, .c (.one (.v (.int .i64 (IntKind.wrap .i64 (vs6 + (1 : Int)))))))], [], [(448, .live ⟨.str, .deep, 0, [], vr448⟩), (512, .live ⟨(.i .u8), .deep, 0, [], (vr512 ++ ([(((ByteArray.data vs0).getD (Int.toNat vs6) 0).toNat : Int)] : List Int))⟩)]⟩)
                          none)
                        none))
                    none)
                  (cond ((decide ((0 : Int) ≤ vs6)) && (decide (vs6 < (ByteArray.size vs0 : Int))))
                    (cond (Nat.ble (vr512.length + 1) LIM)
                      (k' .normal ⟨[(0, .c (.one (.v (.string vs0)))), (4, .c (.one (.h 448 0 0 []))), (5, .c (.one (.h 512 0 0 []))), (6, .c (.one (.v (.int .i64 (IntKind.wrap .i64 (vs6 + (1 : Int)))))))], [], [(448, .live ⟨.str, .deep, 0, [], vr448⟩), (512, .live ⟨(.i .u8), .deep, 0, [], (vr512 ++ ([(((ByteArray.data vs0).getD (Int.toNat vs6) 0).toNat : Int)] : List Int))⟩)]⟩)
                      none)
                    none))
                (cond ((decide ((0 : Int) ≤ vs6)) && (decide (vs6 < (ByteArray.size vs0 : Int))))
                  (cond (Nat.ble (vr512.length + 1) LIM)
                    (k' .normal ⟨[(0, .c (.one (.v (.string vs0)))), (4, .c (.one (.h 448 0 0 []))), (5, .c (.one (.h 512 0 0 []))), (6, .c (.one (.v (.int .i64 (IntKind.wrap .i64 (vs6 + (1 : Int)))))))], [], [(448, .live ⟨.str, .deep, 0, [], vr448⟩), (512, .live ⟨(.i .u8), .deep, 0, [], (vr512 ++ ([(((ByteArray.data vs0).getD (Int.toNat vs6) 0).toNat : Int)] : List Int))⟩)]⟩)
                    none)
                  none))
              none))
          none))
      none)
    (k' (.exit 0) ⟨[(0, .c (.one (.v (.string vs0)))), (4, .c (.one (.h 448 0 0 []))), (5, .c (.one (.h 512 0 0 []))), (6, .c (.one (.v (.int .i64 vs6)))), (12, .c (.one (.v (.bool (decide (vs6 < (ByteArray.size vs0 : Int)))))))], [], [(448, .live ⟨.str, .deep, 0, [], vr448⟩), (512, .live ⟨(.i .u8), .deep, 0, [], vr512⟩)]⟩)) := by kernel_rfl
theorem f11L0_eq {R : Type} (n : Nat) (k' : Ex → St → Option R) (vs0 : ByteArray) : ∀ (m : Nat) (vs6 : Int) (vr448 : List ByteArray) (vr512 : List Int), iter (fun st k => ev f11e f11k n (cAt [1,1,1,0,1,0,0] f11c) st k) m ⟨[(0, .c (.one (.v (.string vs0)))), (4, .c (.one (.h 448 0 0 []))), (5, .c (.one (.h 512 0 0 []))), (6, .c (.one (.v (.int .i64 vs6))))], [], [(448, .live ⟨.str, .deep, 0, [], vr448⟩), (512, .live ⟨(.i .u8), .deep, 0, [], vr512⟩)]⟩ k' = f11L0 n (fun (xvs6 : Int) (xvs12 : Bool) (xvr448 : List ByteArray) (xvr512 : List Int) => k' (.exit 0) ⟨[(0, .c (.one (.v (.string vs0)))), (4, .c (.one (.h 448 0 0 []))), (5, .c (.one (.h 512 0 0 []))), (6, .c (.one (.v (.int .i64 xvs6)))), (12, .c (.one (.v (.bool xvs12))))], [], [(448, .live ⟨.str, .deep, 0, [], xvr448⟩), (512, .live ⟨(.i .u8), .deep, 0, [], xvr512⟩)]⟩) vs0 m vs6 vr448 vr512 := by
  intro m; induction m with
  | zero => intros; rfl
  | succ m ih =>
    intro vs6 vr448 vr512
    simp only [iter]
    rw [f11L0_b]
    simp only [ih, f11L0]

noncomputable def f11K0 {R : Type} (n : Nat) (k' : Ex → St → Option R) : Ex → St → Option R := (blockK 0 (seqK f11e f11k n (cAt [1,1,1,1] f11c) k'))
theorem f11K0_x0 {R : Type} (n : Nat) (k : List Dt → Option R) (a0 : ByteArray) (vs0 : ByteArray) (xvs6 : Int) (xvs12 : Bool) (xvr448 : List ByteArray) (xvr512 : List Int) : f11K0 n (exitK f11e [.ro] [false, false] true [.tmp 2, .tmp 3] [22, 4] [.d .str a0] k) (.exit 0) ⟨[(0, .c (.one (.v (.string vs0)))), (4, .c (.one (.h 448 0 0 []))), (5, .c (.one (.h 512 0 0 []))), (6, .c (.one (.v (.int .i64 xvs6)))), (12, .c (.one (.v (.bool xvs12))))], [], [(448, .live ⟨.str, .deep, 0, [], xvr448⟩), (512, .live ⟨(.i .u8), .deep, 0, [], xvr512⟩)]⟩ =
    (cond (!(sEq vs0 ByteArray.empty))
    (cond (Nat.ble (xvr448.length + 1) LIM)
      (cond (gPtrT (xvr448 ++ ([(bytesOf xvr512)] : List ByteArray)))
        (cond (!(sEq (ptrText (xvr448 ++ ([(bytesOf xvr512)] : List ByteArray))) vs0))
          (k [.d (.sl .str) ([] : List ByteArray), .d .bool false])
          (k [.d (.sl .str) (xvr448 ++ ([(bytesOf xvr512)] : List ByteArray)), .d .bool true]))
        none)
      none)
    (cond (gPtrT xvr448)
      (cond (!(sEq (ptrText xvr448) vs0))
        (k [.d (.sl .str) ([] : List ByteArray), .d .bool false])
        (k [.d (.sl .str) xvr448, .d .bool true]))
      none)) := by kernel_rfl

theorem f11_run {R : Type} (n : Nat) (k : List Dt → Option R) (a0 : ByteArray) : evFn f11e f11k n f11c [.ro] [false, false] true [.tmp 2, .tmp 3] [22, 4] [.d .str a0] k =
    (f11L0 n (fun (xvs6 : Int) (xvs12 : Bool) (xvr448 : List ByteArray) (xvr512 : List Int) =>
    (cond (!(sEq a0 ByteArray.empty))
      (cond (Nat.ble (xvr448.length + 1) LIM)
        (cond (gPtrT (xvr448 ++ ([(bytesOf xvr512)] : List ByteArray)))
          (cond (!(sEq (ptrText (xvr448 ++ ([(bytesOf xvr512)] : List ByteArray))) a0))
            (k [.d (.sl .str) ([] : List ByteArray), .d .bool false])
            (k [.d (.sl .str) (xvr448 ++ ([(bytesOf xvr512)] : List ByteArray)), .d .bool true]))
          none)
        none)
      (cond (gPtrT xvr448)
        (cond (!(sEq (ptrText xvr448) a0))
          (k [.d (.sl .str) ([] : List ByteArray), .d .bool false])
          (k [.d (.sl .str) xvr448, .d .bool true]))
        none))) a0 n (0 : Int) ([] : List ByteArray) ([] : List Int)) := by
  refine Eq.trans (b := (iter (fun st k => ev f11e f11k n (cAt [1,1,1,0,1,0,0] f11c) st k) n ⟨[(0, .c (.one (.v (.string a0)))), (4, .c (.one (.h 448 0 0 []))), (5, .c (.one (.h 512 0 0 []))), (6, .c (.one (.v (.int .i64 (0 : Int)))))], [], [(448, .live ⟨.str, .deep, 0, [], ([] : List ByteArray)⟩), (512, .live ⟨(.i .u8), .deep, 0, [], ([] : List Int)⟩)]⟩ (f11K0 n (exitK f11e [.ro] [false, false] true [.tmp 2, .tmp 3] [22, 4] [.d .str a0] k)))) (by kernel_rfl) ?_
  simp only [f11L0_eq, f11K0_x0]
theorem f11_spec (a0 : ByteArray) (hg : gPtrOf a0 = true) : ∃ keep rounds, ∀ {R : Type} (k : List Dt → Option R), evFn f11e keep rounds f11c [.ro] [false, false] true [.tmp 2, .tmp 3] [22, 4] [.d .str a0] k = k [.d (.sl .str) ((ptrOf a0).1), .d .bool ((ptrOf a0).2)] := by
  have hl : a0.size ≤ 1048576 := bleN hg
  have hbl := bszL a0
  refine ⟨f11k, 1048578, fun {R} k => ?_⟩
  rw [f11_run]
  generalize hN : (1048578 : Nat) = N
  have key : ∀ (X : Int → Bool → List ByteArray → List Int → Option R) (Y : List ByteArray → Option R), (∀ i b o p, o.length ≤ 2000000 → X i b o p = Y (o ++ [bytesOf p])) →
      ∀ (n i m : Nat) (l : List UInt8) (out : List ByteArray) (p : List UInt8), l.length ≤ n → a0.data.toList.drop i = l → i + l.length = a0.size → l.length < m → (i = 0 → l.head? ≠ some 47) → out.length ≤ i → p.length ≤ i →
      f11L0 N X a0 m (i : Int) out (toI p) = Y (out ++ (runD p l).map mkB) := by
    intro X Y hX n
    induction n with
    | zero =>
      intro i m l out p hn hd hi hm h0 ho hp
      obtain ⟨m, rfl⟩ : ∃ m', m = m' + 1 := ⟨m - 1, by omega⟩
      have hl0 : l = [] := List.eq_nil_of_length_eq_zero (by omega)
      subst hl0
      have hi : i = a0.size := by simpa using hi
      subst hi
      simp only [f11L0, idxE, cond_false, hX _ _ _ _ (by omega : out.length ≤ 2000000), runD_nil, bytesOf_toI, List.map_cons, List.map_nil]
    | succ n ih =>
      intro i m l out p hn hd hi hm h0 ho hp
      obtain ⟨m, rfl⟩ : ∃ m', m = m' + 1 := ⟨m - 1, by omega⟩
      cases l with
      | nil =>
        have hi : i = a0.size := by simpa using hi
        subst hi
        simp only [f11L0, idxE, cond_false, hX _ _ _ _ (by omega : out.length ≤ 2000000), runD_nil, bytesOf_toI, List.map_cons, List.map_nil]
      | cons b l =>
        simp only [List.length_cons] at hn hi hm
        have hjl : i < a0.size := by omega
        have hjs : i < a0.data.toList.length := by omega
        obtain ⟨k1, k0, kw, kt⟩ := idx hjl (by omega)
        have hcons := List.drop_eq_getElem_cons hjs
        rw [hd] at hcons
        have hb0 : a0.data.toList[i] = b := by cases hcons; rfl
        have hd' : a0.data.toList.drop (i + 1) = l := by cases hcons; rfl
        have hget : a0.data.getD i 0 = b := by
          have hja : i < a0.data.size := hjl
          rw [Array.getD_eq_getD_getElem?, Array.getElem?_eq_getElem hja, ← hb0]
          simp
        have e1 : (((b.toNat : Int)) == (47 : Int)) = decide (b = 47) := byteI b 47
        have e2 : (((b.toNat : Int)) == (126 : Int)) = decide (b = 126) := byteI b 126
        have l1 := (Nat.ble_eq_true_of_le (by have : (LIM : Nat) = 4294967296 := rfl; omega) : Nat.ble (out.length + 1) LIM = true)
        have l2 := (Nat.ble_eq_true_of_le (by have : (LIM : Nat) = 4294967296 := rfl; rw [toI_len]; omega) : Nat.ble ((toI p).length + 1) LIM = true)
        have hone : ∀ c : UInt8, toI p ++ [(c.toNat : Int)] = toI (p ++ [c]) := fun c => by simp [toI]
        have h126 : toI p ++ [(126 : Int)] = toI (p ++ [126]) := hone 126
        have h47 : toI p ++ [(47 : Int)] = toI (p ++ [47]) := hone 47
        by_cases hb : b = 47
        · have hi0 : 0 < i := by
            rcases Nat.eq_zero_or_pos i with h | h
            · exact absurd (by rw [hb]; rfl) (h0 h)
            · exact h
          have hgt : decide ((i : Int) > (0 : Int)) = true := decide_eq_true (by omega)
          have e1' : (((b.toNat : Int)) == (47 : Int)) = true := by rw [e1]; simp [hb]
          have := ih (i + 1) m l (out ++ [mkB p]) [] (by omega) hd' (by omega) (by omega) (by omega) (by simp; omega) (by simp)
          rw [show toI [] = ([] : List Int) from rfl] at this
          simp only [f11L0, k1, k0, kw, kt, hget, e1', hgt, l1, bytesOf_toI, Bool.and_self, cond_true, this]
          cases l with
          | nil => rw [runD_one, if_pos hb, runD_nil]; simp
          | cons c l => rw [runD_two, if_pos hb]; simp
        · have e1' : (((b.toNat : Int)) == (47 : Int)) = false := by rw [e1]; simp [hb]
          cases l with
          | nil =>
            have hnx : decide (((i + 1 : Nat) : Int) < (a0.size : Int)) = false := decide_eq_false (by simp at hi; omega)
            have := ih (i + 1) m [] out (p ++ [b]) (by simp) hd' (by simp at hi ⊢; omega) (by simp; omega) (by omega) (by omega) (by simp; omega)
            simp only [f11L0, k1, k0, kw, kt, hget, e1', hnx, l2, hone, Bool.and_self, cond_true, cond_false, this, Bool.cond_self]
            rw [runD_one, if_neg hb, runD_nil]
          | cons c l =>
            simp only [List.length_cons] at hn hi hm
            obtain ⟨q1, q0, qw, qt⟩ := idx (show i + 1 < a0.size by omega) (by omega)
            have hjs' : i + 1 < a0.data.toList.length := by omega
            have hcons' := List.drop_eq_getElem_cons hjs'
            rw [hd'] at hcons'
            have hc0 : a0.data.toList[i + 1] = c := by cases hcons'; rfl
            have hd'' : a0.data.toList.drop (i + 1 + 1) = l := by cases hcons'; rfl
            have hget' : a0.data.getD (i + 1) 0 = c := by
              have hja : i + 1 < a0.data.size := by show i + 1 < a0.size; omega
              rw [Array.getD_eq_getD_getElem?, Array.getElem?_eq_getElem hja, ← hc0]
              simp
            have e3 : (((c.toNat : Int)) == (48 : Int)) = decide (c = 48) := byteI c 48
            have e4 : (((c.toNat : Int)) == (49 : Int)) = decide (c = 49) := byteI c 49
            have i1 := ih (i + 1 + 1) m l out (p ++ [126]) (by omega) hd'' (by omega) (by omega) (by omega) (by omega) (by simp; omega)
            have i2 := ih (i + 1 + 1) m l out (p ++ [47]) (by omega) hd'' (by omega) (by omega) (by omega) (by omega) (by simp; omega)
            have i3 := ih (i + 1) m (c :: l) out (p ++ [b]) (by simp; omega) hd' (by simp; omega) (by simp; omega) (by omega) (by omega) (by simp; omega)
            simp only [f11L0, k1, k0, kw, kt, q1, q0, qw, qt, hget, hget', e1', e2, e3, e4, l2, hone, h126, h47, Bool.and_self, cond_true, cond_false, i1, i2, i3]
            rw [runD_two, if_neg hb]
            by_cases hb1 : b = 126
            · subst hb1
              by_cases hc : c = 48
              · subst hc; simp
              · by_cases hc' : c = 49
                · subst hc'; simp
                · simp [hc, hc']
            · simp [hb1]
  cases he : sEq a0 ByteArray.empty
  · have hz : Nat.beq a0.size 0 = false := by rw [size0, he]
    have hne : a0 ≠ ByteArray.empty := fun h => by rw [h, sEq_self] at he; cases he
    have hcont := key (fun (_ : Int) (_ : Bool) (o : List ByteArray) (p : List Int) => cond (!false) (cond (Nat.ble (o.length + 1) LIM) (cond (gPtrT (o ++ [bytesOf p])) (cond (!(sEq (ptrText (o ++ [bytesOf p])) a0)) (k [.d (.sl .str) ([] : List ByteArray), .d .bool false]) (k [.d (.sl .str) (o ++ [bytesOf p]), .d .bool true])) none) none)
        (cond (gPtrT o) (cond (!(sEq (ptrText o) a0)) (k [.d (.sl .str) ([] : List ByteArray), .d .bool false]) (k [.d (.sl .str) o, .d .bool true])) none))
      (fun o => (cond (gPtrT o) (cond (!(sEq (ptrText o) a0)) (k [.d (.sl .str) ([] : List ByteArray), .d .bool false]) (k [.d (.sl .str) o, .d .bool true])) none)) (by
      intro i b o p ho
      have l1 := (Nat.ble_eq_true_of_le (by have : (LIM : Nat) = 4294967296 := rfl; omega) : Nat.ble (o.length + 1) LIM = true)
      simp only [he, l1, Bool.not_false, cond_true])
    cases hl0 : a0.data.toList with
    | nil => exfalso; rw [hl0] at hbl; simp at hbl; rw [← hbl] at hz; cases hz
    | cons b l =>
      have hlen : l.length + 1 = a0.size := by rw [← hbl, hl0]; rfl
      by_cases hb : b = 47
      · subst hb
        obtain ⟨M, rfl⟩ : ∃ M, N = M + 1 := ⟨N - 1, by omega⟩
        obtain ⟨k1, k0, kw, kt⟩ := idx (show 0 < a0.size by omega) (by omega)
        have hget : a0.data.getD 0 0 = 47 := by
          have hja : 0 < a0.data.size := by show 0 < a0.size; omega
          rw [Array.getD_eq_getD_getElem?, Array.getElem?_eq_getElem hja]
          have : a0.data.toList[0]? = some 47 := by rw [hl0]; rfl
          simpa [Array.getElem?_eq_getElem hja] using this
        have := hcont l.length 1 M l [] [] (Nat.le_refl _) (by rw [hl0]; rfl) (by omega) (by omega) (by omega) (by simp) (by simp)
        have k1 : decide ((0 : Int) < (a0.size : Int)) = true := k1
        have kt : Int.toNat (0 : Int) = 0 := rfl
        have kw : IntKind.wrap .i64 ((0 : Int) + (1 : Int)) = ((1 : Nat) : Int) := kw
        have e1 : ((((47 : UInt8).toNat : Nat) : Int) == (47 : Int)) = true := rfl
        have hgt : decide ((0 : Int) > (0 : Int)) = false := rfl
        have h00 : decide ((0 : Int) ≤ (0 : Int)) = true := rfl
        refine Eq.trans ?_ (this.trans ?_)
        · simp only [f11L0, k1, h00, kt, kw, hget, e1, hgt, Bool.and_self, cond_true, cond_false]
          rfl
        · obtain ⟨x, t, e3, e4⟩ := runD_eq l.length [] l (Nat.le_refl _)
          have hp : partsOf a0.data.toList = runD [] l := by
            unfold partsOf
            rw [hl0, splL, if_pos rfl, List.tail_cons, e3, e4]; rfl
          have hsz := szL_runD l
          have hg2 : gPtrT ((runD [] l).map mkB) = true := Nat.ble_eq_true_of_le (by omega)
          rw [List.nil_append]
          simp only [hg2, cond_true, ptrOf, hz, hp, cond_false]
          cases sEq (ptrText ((runD [] l).map mkB)) a0 <;> rfl
      · have := hcont (b :: l).length 0 N (b :: l) [] [] (Nat.le_refl _) (by rw [hl0]; rfl) (by simp; omega) (by simp; omega) (fun _ => by simpa using hb) (by simp) (by simp)
        refine Eq.trans this ?_
        have hsz := szL_runD (b :: l)
        simp only [List.length_cons] at hsz
        have hg2 : gPtrT ((runD [] (b :: l)).map mkB) = true := Nat.ble_eq_true_of_le (by omega)
        have hf := fun xs => ptrOf_keep hne (by rw [hl0]; simpa using hb) xs
        rw [List.nil_append]
        simp only [hg2, cond_true, ptrOf, hz, hf, cond_false, Bool.not_false]
  · have h0 := sEq_iff.1 he
    subst h0
    have hM : N = N - 1 + 1 := by omega
    rw [hM]
    have hN2 : decide ((0 : Int) < (ByteArray.size ByteArray.empty : Int)) = false := rfl
    have hg2 : gPtrT ([] : List ByteArray) = true := rfl
    have ht : sEq (ptrText ([] : List ByteArray)) ByteArray.empty = true := sEq_iff.2 rfl
    simp only [f11L0, hN2, cond_false, he, Bool.not_true, hg2, ht, cond_true, ptrOf]
    rfl

noncomputable def q11 : List Dt → Option (Bool × List Dt)
  | [.d .str a0] => some ((gPtrOf a0), [.d (.sl .str) ((ptrOf a0).1), .d .bool ((ptrOf a0).2)])
  | _ => none
noncomputable def s11 : Gm.Spec := Gm.Spec.of [.ro] [false, false] true q11
theorem good11 : Gm.Good Tryd.prog (11, s11) := by
  have hl : ∀ x ∈ [(7, s7)], Gm.Good Tryd.prog x := List.forall_mem_cons.2 ⟨good7, List.forall_mem_nil _⟩
  refine ⟨⟨spec_ok (tab_ok.env hl) (tab.natl hl) Tryd.func11 (by kernel_rfl : Tryd.f11.body = some f11c) [22, 4] (by kernel_rfl) ?_, _, Tryd.func11, by kernel_rfl, of_decide_eq_true (by kernel_rfl)⟩, Gm.Spec.of_natl _ _ _ _⟩
  intro ds outs h
  unfold q11 at h
  split at h
  · simp only [Option.some.injEq, Prod.mk.injEq] at h; obtain ⟨hg, h⟩ := h; cases h; exact f11_spec _ hg
  · cases h
/-! ### loop.example/g00465/impl.PtrOf -/
noncomputable def f12c : Code := (Tryd.f12.body).getD .skip
def f12k : Nat → Kp := kat [⟨[0], [], [], []⟩, ⟨[0, 4], [], [], []⟩, ⟨[0, 4, 9], [], [], []⟩, ⟨[2, 3], [], [], []⟩, ⟨[0, 4, 13, 14, 15], [], [], []⟩, ⟨[0, 4, 13, 14, 15, 16], [], [], []⟩, ⟨[0, 4, 6, 13, 14, 15], [], [], []⟩, ⟨[0, 4, 13, 14, 15], [], [], []⟩, ⟨[0, 4, 13, 14, 15], [], [], []⟩, ⟨[4, 29], [], [], []⟩, ⟨[2, 3], [], [], []⟩, ⟨[2, 3], [], [], []⟩]
noncomputable def f12e : Env := tab.env [(9, s9), (19, s19), (20, s20)]
noncomputable def f12L0 {R : Type} (n : Nat) (x0 : Int → Bool → (List ByteArray) → Option R) (vs0 : ByteArray) (vs13hi : Nat) (vs14 : Int) (vr768 : List ByteArray) : Nat → Int → (List ByteArray) → Option R
  | 0, _, _ => none
  | m + 1, vs15, vr448 =>
    (cond (decide (vs15 < vs14))
      (cond ((decide ((0 : Int) ≤ vs15)) && (decide (vs15 < (((vr768.take vs13hi).drop 1).length : Int))))
        (cond (gRepl (atI (t := .str) vr768 (1 + (Int.toNat vs15))) (bs [126,49]) (bs [47]))
          (cond (gRepl (replS (atI (t := .str) vr768 (1 + (Int.toNat vs15))) (bs [126,49]) (bs [47])) (bs [126,48]) (bs [126]))
            (cond (Nat.ble (vr448.length + 1) LIM)
              (f12L0 n x0 vs0 vs13hi vs14 vr768 m (IntKind.wrap .i64 (vs15 + (1 : Int))) (vr448 ++ ([(replS (replS (atI (t := .str) vr768 (1 + (Int.toNat vs15))) (bs [126,49]) (bs [47])) (bs [126,48]) (bs [126]))] : List ByteArray)))
              none)
            none)
          none)
        none)
      (x0 vs15 (decide (vs15 < vs14)) vr448))
theorem f12L0_b {R : Type} (n : Nat) (k' : Ex → St → Option R) (vs0 : ByteArray) (vs13hi : Nat) (vs14 : Int) (vs15 : Int) (vr448 : List ByteArray) (vr768 : List ByteArray) : ev f12e f12k n (cAt [1,1,1,0,1,0,0] f12c) ⟨[(0, .c (.one (.v (.string vs0)))), (4, .c (.one (.h 448 0 0 []))), (13, .c (.one (.vw 768 0 1 vs13hi))), (14, .c (.one (.v (.int .i64 vs14)))), (15, .c (.one (.v (.int .i64 vs15))))], [], [(448, .live ⟨.str, .deep, 0, [], vr448⟩), (768, .live ⟨.str, .deep, 0, [], vr768⟩)]⟩ k' =
    (cond (decide (vs15 < vs14))
    (cond ((decide ((0 : Int) ≤ vs15)) && (decide (vs15 < (((vr768.take vs13hi).drop 1).length : Int))))
      (cond (gRepl (atI (t := .str) vr768 (1 + (Int.toNat vs15))) (bs [126,49]) (bs [47]))
        (cond (gRepl (replS (atI (t := .str) vr768 (1 + (Int.toNat vs15))) (bs [126,49]) (bs [47])) (bs [126,48]) (bs [126]))
          (cond (Nat.ble (vr448.length + 1) LIM)
            (k' .normal ⟨[(0, .c (.one (.v (.string vs0)))), (4, .c (.one (.h 448 0 0 []))), (13, .c (.one (.vw 768 0 1 vs13hi))), (14, .c (.one (.v (.int .i64 vs14)))), (15, .c (.one (.v (.int .i64 (IntKind.wrap .i64 (vs15 + (1 : Int)))))))], [], [(448, .live ⟨.str, .deep, 0, [], (vr448 ++ ([(replS (replS (atI (t := .str) vr768 (1 + (Int.toNat vs15))) (bs [126,49]) (bs [47])) (bs [126,48]) (bs [126]))] : List ByteArray))⟩), (768, .live ⟨.str, .deep, 0, [], vr768⟩)]⟩)
            none)
          none)
        none)
      none)
    (k' (.exit 0) ⟨[(0, .c (.one (.v (.string vs0)))), (4, .c (.one (.h 448 0 0 []))), (13, .c (.one (.vw 768 0 1 vs13hi))), (14, .c (.one (.v (.int .i64 vs14)))), (15, .c (.one (.v (.int .i64 vs15)))), (16, .c (.one (.v (.bool (decide (vs15 < vs14))))))], [], [(448, .live ⟨.str, .deep, 0, [], vr448⟩), (768, .live ⟨.str, .deep, 0, [], vr768⟩)]⟩)) := by kernel_rfl
theorem f12L0_eq {R : Type} (n : Nat) (k' : Ex → St → Option R) (vs0 : ByteArray) (vs13hi : Nat) (vs14 : Int) (vr768 : List ByteArray) : ∀ (m : Nat) (vs15 : Int) (vr448 : List ByteArray), iter (fun st k => ev f12e f12k n (cAt [1,1,1,0,1,0,0] f12c) st k) m ⟨[(0, .c (.one (.v (.string vs0)))), (4, .c (.one (.h 448 0 0 []))), (13, .c (.one (.vw 768 0 1 vs13hi))), (14, .c (.one (.v (.int .i64 vs14)))), (15, .c (.one (.v (.int .i64 vs15))))], [], [(448, .live ⟨.str, .deep, 0, [], vr448⟩), (768, .live ⟨.str, .deep, 0, [], vr768⟩)]⟩ k' = f12L0 n (fun (xvs15 : Int) (xvs16 : Bool) (xvr448 : List ByteArray) => k' (.exit 0) ⟨[(0, .c (.one (.v (.string vs0)))), (4, .c (.one (.h 448 0 0 []))), (13, .c (.one (.vw 768 0 1 vs13hi))), (14, .c (.one (.v (.int .i64 vs14)))), (15, .c (.one (.v (.int .i64 xvs15)))), (16, .c (.one (.v (.bool xvs16))))], [], [(448, .live ⟨.str, .deep, 0, [], xvr448⟩), (768, .live ⟨.str, .deep, 0, [], vr768⟩)]⟩) vs0 vs13hi vs14 vr768 m vs15 vr448 := by
  intro m; induction m with
  | zero => intros; rfl
  | succ m ih =>
    intro vs15 vr448
    simp only [iter]
    rw [f12L0_b]
    simp only [ih, f12L0]

noncomputable def f12K0 {R : Type} (n : Nat) (k' : Ex → St → Option R) : Ex → St → Option R := (blockK 0 (seqK f12e f12k n (cAt [1,1,1,1] f12c) k'))
theorem f12K0_x0 {R : Type} (n : Nat) (k : List Dt → Option R) (a0 : ByteArray) (vs0 : ByteArray) (vs13hi : Nat) (vs14 : Int) (vr768 : List ByteArray) (xvs15 : Int) (xvs16 : Bool) (xvr448 : List ByteArray) : f12K0 n (exitK f12e [.ro] [false, false] true [.tmp 2, .tmp 3] [22, 4] [.d .str a0] k) (.exit 0) ⟨[(0, .c (.one (.v (.string vs0)))), (4, .c (.one (.h 448 0 0 []))), (13, .c (.one (.vw 768 0 1 vs13hi))), (14, .c (.one (.v (.int .i64 vs14)))), (15, .c (.one (.v (.int .i64 xvs15)))), (16, .c (.one (.v (.bool xvs16))))], [], [(448, .live ⟨.str, .deep, 0, [], xvr448⟩), (768, .live ⟨.str, .deep, 0, [], vr768⟩)]⟩ =
    (cond (gPtrT xvr448)
    (cond (!(sEq (ptrText xvr448) vs0))
      (k [.d (.sl .str) ([] : List ByteArray), .d .bool false])
      (k [.d (.sl .str) xvr448, .d .bool true]))
    none) := by kernel_rfl

theorem f12_run {R : Type} (n : Nat) (k : List Dt → Option R) (a0 : ByteArray) : evFn f12e f12k n f12c [.ro] [false, false] true [.tmp 2, .tmp 3] [22, 4] [.d .str a0] k =
    (cond (sEq a0 ByteArray.empty)
    (k [.d (.sl .str) ([] : List ByteArray), .d .bool true])
    (cond (gSplit a0 (bs [47]))
      (cond ((decide ((1 : Int) ≤ ((splitS a0 (bs [47])).length : Int))) && (decide (((splitS a0 (bs [47])).length : Int) ≤ ((splitS a0 (bs [47])).length : Int))))
        (f12L0 n (fun (xvs15 : Int) (xvs16 : Bool) (xvr448 : List ByteArray) =>
          (cond (gPtrT xvr448)
            (cond (!(sEq (ptrText xvr448) a0))
              (k [.d (.sl .str) ([] : List ByteArray), .d .bool false])
              (k [.d (.sl .str) xvr448, .d .bool true]))
            none)) a0 (Int.toNat ((splitS a0 (bs [47])).length : Int)) ((((splitS a0 (bs [47])).take (Int.toNat ((splitS a0 (bs [47])).length : Int))).drop 1).length : Int) (splitS a0 (bs [47])) n (0 : Int) ([] : List ByteArray))
        none)
      none)) := by
  refine Eq.trans (b := (cond (sEq a0 ByteArray.empty)
    (k [.d (.sl .str) ([] : List ByteArray), .d .bool true])
    (cond (gSplit a0 (bs [47]))
      (cond ((decide ((1 : Int) ≤ ((splitS a0 (bs [47])).length : Int))) && (decide (((splitS a0 (bs [47])).length : Int) ≤ ((splitS a0 (bs [47])).length : Int))))
        (iter (fun st k => ev f12e f12k n (cAt [1,1,1,0,1,0,0] f12c) st k) n ⟨[(0, .c (.one (.v (.string a0)))), (4, .c (.one (.h 448 0 0 []))), (13, .c (.one (.vw 768 0 1 (Int.toNat ((splitS a0 (bs [47])).length : Int))))), (14, .c (.one (.v (.int .i64 ((((splitS a0 (bs [47])).take (Int.toNat ((splitS a0 (bs [47])).length : Int))).drop 1).length : Int))))), (15, .c (.one (.v (.int .i64 (0 : Int)))))], [], [(448, .live ⟨.str, .deep, 0, [], ([] : List ByteArray)⟩), (768, .live ⟨.str, .deep, 0, [], (splitS a0 (bs [47]))⟩)]⟩ (f12K0 n (exitK f12e [.ro] [false, false] true [.tmp 2, .tmp 3] [22, 4] [.d .str a0] k)))
        none)
      none))) (by kernel_rfl) ?_
  simp only [f12L0_eq, f12K0_x0]
theorem f12_spec (a0 : ByteArray) (hg : gPtrOf a0 = true) : ∃ keep rounds, ∀ {R : Type} (k : List Dt → Option R), evFn f12e keep rounds f12c [.ro] [false, false] true [.tmp 2, .tmp 3] [22, 4] [.d .str a0] k = k [.d (.sl .str) ((ptrOf a0).1), .d .bool ((ptrOf a0).2)] := by
  have hl : a0.size ≤ 1048576 := bleN hg
  have hsz := szL_tail a0.data.toList
  have hd := szL_dec (splL a0.data.toList).tail
  have hbl := bszL a0
  cases he : sEq a0 ByteArray.empty
  · have hgs : gSplit a0 (bs [47]) = true := by
      unfold gSplit; rw [Nat.ble_eq_true_of_le (by omega : a0.size ≤ 2147483648)]; rfl
    obtain ⟨x, t, e1, e2⟩ : ∃ x t, splL a0.data.toList = x :: t ∧ True := by
      cases hs : splL a0.data.toList with
      | nil => exact absurd hs (splL_ne _)
      | cons x t => exact ⟨x, t, rfl, trivial⟩
    have es : splitS a0 (bs [47]) = mkB x :: t.map mkB := by rw [splitS_1, e1]; rfl
    rw [e1, List.tail_cons] at hsz hd
    have htl := szL_ge List.length t
    refine ⟨f12k, t.length + 1, fun {R} k => ?_⟩
    rw [f12_run]
    have hlen : (mkB x :: t.map mkB).length = t.length + 1 := by simp
    have c1 : decide ((1 : Int) ≤ ((mkB x :: t.map mkB).length : Int)) = true := decide_eq_true (by rw [hlen]; omega)
    have c2 : decide (((mkB x :: t.map mkB).length : Int) ≤ ((mkB x :: t.map mkB).length : Int)) = true := decide_eq_true (Int.le_refl _)
    have c3 : Int.toNat ((mkB x :: t.map mkB).length : Int) = t.length + 1 := by rw [hlen]; rfl
    have c4 : ((mkB x :: t.map mkB).take (t.length + 1)).drop 1 = t.map mkB := by rw [← hlen, List.take_length]; rfl
    have c5 : ((t.map mkB).length : Int) = (t.length : Int) := by simp
    simp only [he, hgs, es, c1, c2, c3, c4, c5, Bool.and_self, cond_true, cond_false]
    refine Eq.trans (loop_acc (xs := t) (F := fun m j out => f12L0 (t.length + 1) _ a0 (t.length + 1) (t.length : Int) (mkB x :: t.map mkB) m (j : Int) out) (f := fun out s => out ++ [mkB (decB s)]) (good := fun out => cond (gPtrT out) (cond (!(sEq (ptrText out) a0)) (k [.d (.sl .str) ([] : List ByteArray), .d .bool false]) (k [.d (.sl .str) out, .d .bool true])) none) (fun j out => out.length = j)
      (fun j out y hy hi => ?_) (fun m j out y hy hi => ?_) (fun m out hi => by simp only [f12L0, idxE, cond_false]) t.length 0 (t.length + 1) [] (by omega) (by omega) rfl) ?_
    · have hi : out.length = j := hi
      simp [hi]
    · have hi : out.length = j := hi
      obtain ⟨h1, h0, hw, ht⟩ := idx (lt_of_get hy) (by omega)
      have hj := lt_of_get hy
      have hat : atI (t := .str) (mkB x :: t.map mkB) (1 + j) = mkB y := atI_of (t := .str) (by rw [Nat.add_comm, List.getElem?_cons_succ, List.getElem?_map, hy]; rfl)
      have hb : Nat.ble (out.length + 1) LIM = true := Nat.ble_eq_true_of_le (by have : (LIM : Nat) = 4294967296 := rfl; omega)
      have hyz : y.length ≤ 1048576 := by
        have := sum_le List.length (List.mem_of_getElem? hy)
        unfold szL at hsz; omega
      have g1 : gRepl (mkB y) (bs [126,49]) (bs [47]) = true := by
        unfold gRepl; rw [mkB_size, Nat.ble_eq_true_of_le (by omega : y.length ≤ 2147483648)]; rfl
      have g2 : gRepl (replS (mkB y) (bs [126,49]) (bs [47])) (bs [126,48]) (bs [126]) = true := by
        have := r1_len y
        unfold gRepl; rw [replS_d1, data_mkB, mkB_size, Nat.ble_eq_true_of_le (by omega : (r1 y).length ≤ 2147483648)]; rfl
      simp only [f12L0, h1, h0, hw, ht, c4, c5, hat, g1, g2, hb, replS_d2, data_mkB, Bool.and_self, cond_true]
    · rw [List.drop_zero]
      have key : ∀ (xs : List (List UInt8)) (l : List ByteArray), xs.foldl (fun out s => out ++ [mkB (decB s)]) l = l ++ (xs.map decB).map mkB := by
        intro xs
        induction xs with
        | nil => intro l; simp
        | cons x r ih => intro l; rw [List.foldl_cons, ih]; simp
      rw [key t [], List.nil_append]
      have hg2 : gPtrT ((t.map decB).map mkB) = true := Nat.ble_eq_true_of_le (by omega)
      have hz : Nat.beq a0.size 0 = false := by rw [size0, he]
      have hp : partsOf a0.data.toList = t.map decB := by unfold partsOf; rw [e1]; rfl
      simp only [hg2, cond_true, ptrOf, hz, hp, cond_false]
      cases sEq (ptrText ((t.map decB).map mkB)) a0 <;> rfl
  · refine ⟨f12k, 0, fun {R} k => ?_⟩
    rw [f12_run]
    have hz : Nat.beq a0.size 0 = true := by rw [size0, he]
    simp only [he, cond_true, ptrOf, hz]

noncomputable def q12 : List Dt → Option (Bool × List Dt)
  | [.d .str a0] => some ((gPtrOf a0), [.d (.sl .str) ((ptrOf a0).1), .d .bool ((ptrOf a0).2)])
  | _ => none
noncomputable def s12 : Gm.Spec := Gm.Spec.of [.ro] [false, false] true q12
theorem good12 : Gm.Good Tryd.prog (12, s12) := by
  have hl : ∀ x ∈ [(9, s9), (19, s19), (20, s20)], Gm.Good Tryd.prog x := List.forall_mem_cons.2 ⟨good9, List.forall_mem_cons.2 ⟨good19, List.forall_mem_cons.2 ⟨good20, List.forall_mem_nil _⟩⟩⟩
  refine ⟨⟨spec_ok (tab_ok.env hl) (tab.natl hl) Tryd.func12 (by kernel_rfl : Tryd.f12.body = some f12c) [22, 4] (by kernel_rfl) ?_, _, Tryd.func12, by kernel_rfl, of_decide_eq_true (by kernel_rfl)⟩, Gm.Spec.of_natl _ _ _ _⟩
  intro ds outs h
  unfold q12 at h
  split at h
  · simp only [Option.some.injEq, Prod.mk.injEq] at h; obtain ⟨hg, h⟩ := h; cases h; exact f12_spec _ hg
  · cases h
end Go.Proofs.YtinbejnakemfjaaDoor

/- x -/
namespace Go.Proofs.YtinbejnakemfjaaDoor
open Go Go.Gm
/-! ### loop.example/g00465/laws.eqStringS -/
noncomputable def f10c : Code := (Tryd.f10.body).getD .skip
def f10k : Nat → Kp := kat [⟨[0, 1], [], [], []⟩, ⟨[0, 1, 10], [], [], []⟩, ⟨[4], [], [], []⟩, ⟨[0, 1, 5], [], [], []⟩, ⟨[0, 1, 5, 14], [], [], []⟩, ⟨[0, 1, 5], [], [], []⟩, ⟨[0, 1, 5, 25], [], [], []⟩, ⟨[4], [], [], []⟩, ⟨[4], [], [], []⟩]
noncomputable def f10e : Env := tab.env []
noncomputable def f10L0 {R : Type} (n : Nat) (x0 : Option R) (x1 : Int → Bool → Option R) (vs0 : List ByteArray) (vs1 : List ByteArray) : Nat → Int → Option R
  | 0, _ => none
  | m + 1, vs5 =>
    (cond (decide (vs5 < (vs0.length : Int)))
      (cond ((decide ((0 : Int) ≤ vs5)) && (decide (vs5 < (vs0.length : Int))))
        (cond ((decide ((0 : Int) ≤ vs5)) && (decide (vs5 < (vs1.length : Int))))
          (cond (!(sEq (atI (t := .str) vs0 (Int.toNat vs5)) (atI (t := .str) vs1 (Int.toNat vs5))))
            (x0)
            (f10L0 n x0 x1 vs0 vs1 m (IntKind.wrap .i64 (vs5 + (1 : Int)))))
          none)
        none)
      (x1 vs5 (decide (vs5 < (vs0.length : Int)))))
theorem f10L0_b {R : Type} (n : Nat) (k' : Ex → St → Option R) (vs0 : List ByteArray) (vs1 : List ByteArray) (vs5 : Int) : ev f10e f10k n (cAt [1,1,0,1,0,0] f10c) ⟨[(0, .c (.one (.ro .str vs0))), (1, .c (.one (.ro .str vs1))), (5, .c (.one (.v (.int .i64 vs5))))], [], []⟩ k' =
    (cond (decide (vs5 < (vs0.length : Int)))
    (cond ((decide ((0 : Int) ≤ vs5)) && (decide (vs5 < (vs0.length : Int))))
      (cond ((decide ((0 : Int) ≤ vs5)) && (decide (vs5 < (vs1.length : Int))))
        (cond (!(sEq (atI (t := .str) vs0 (Int.toNat vs5)) (atI (t := .str) vs1 (Int.toNat vs5))))
          (k' .ret ⟨[(4, .c (.one (.v (.bool false))))], [], []⟩)
          (k' .normal ⟨[(0, .c (.one (.ro .str vs0))), (1, .c (.one (.ro .str vs1))), (5, .c (.one (.v (.int .i64 (IntKind.wrap .i64 (vs5 + (1 : Int)))))))], [], []⟩))
        none)
      none)
    (k' (.exit 0) ⟨[(0, .c (.one (.ro .str vs0))), (1, .c (.one (.ro .str vs1))), (5, .c (.one (.v (.int .i64 vs5)))), (14, .c (.one (.v (.bool (decide (vs5 < (vs0.length : Int)))))))], [], []⟩)) := by kernel_rfl
theorem f10L0_eq {R : Type} (n : Nat) (k' : Ex → St → Option R) (vs0 : List ByteArray) (vs1 : List ByteArray) : ∀ (m : Nat) (vs5 : Int), iter (fun st k => ev f10e f10k n (cAt [1,1,0,1,0,0] f10c) st k) m ⟨[(0, .c (.one (.ro .str vs0))), (1, .c (.one (.ro .str vs1))), (5, .c (.one (.v (.int .i64 vs5))))], [], []⟩ k' = f10L0 n (k' .ret ⟨[(4, .c (.one (.v (.bool false))))], [], []⟩) (fun (xvs5 : Int) (xvs14 : Bool) => k' (.exit 0) ⟨[(0, .c (.one (.ro .str vs0))), (1, .c (.one (.ro .str vs1))), (5, .c (.one (.v (.int .i64 xvs5)))), (14, .c (.one (.v (.bool xvs14))))], [], []⟩) vs0 vs1 m vs5 := by
  intro m; induction m with
  | zero => intros; rfl
  | succ m ih =>
    intro vs5
    simp only [iter]
    rw [f10L0_b]
    simp only [ih, f10L0]

noncomputable def f10K0 {R : Type} (n : Nat) (k' : Ex → St → Option R) : Ex → St → Option R := (blockK 0 (seqK f10e f10k n (cAt [1,1,1] f10c) k'))
theorem f10K0_x0 {R : Type} (n : Nat) (k : List Dt → Option R) (a0 : List ByteArray) (a1 : List ByteArray)  : f10K0 n (exitK f10e [.ro, .ro] [false] true [.tmp 4] [4] [.d (.sl .str) a0, .d (.sl .str) a1] k) .ret ⟨[(4, .c (.one (.v (.bool false))))], [], []⟩ =
    (k [.d .bool false]) := by kernel_rfl
theorem f10K0_x1 {R : Type} (n : Nat) (k : List Dt → Option R) (a0 : List ByteArray) (a1 : List ByteArray) (vs0 : List ByteArray) (vs1 : List ByteArray) (xvs5 : Int) (xvs14 : Bool) : f10K0 n (exitK f10e [.ro, .ro] [false] true [.tmp 4] [4] [.d (.sl .str) a0, .d (.sl .str) a1] k) (.exit 0) ⟨[(0, .c (.one (.ro .str vs0))), (1, .c (.one (.ro .str vs1))), (5, .c (.one (.v (.int .i64 xvs5)))), (14, .c (.one (.v (.bool xvs14))))], [], []⟩ =
    (k [.d .bool true]) := by kernel_rfl

theorem f10_run {R : Type} (n : Nat) (k : List Dt → Option R) (a0 : List ByteArray) (a1 : List ByteArray) : evFn f10e f10k n f10c [.ro, .ro] [false] true [.tmp 4] [4] [.d (.sl .str) a0, .d (.sl .str) a1] k =
    (cond ((a0.length : Int) != (a1.length : Int))
    (k [.d .bool false])
    (f10L0 n (k [.d .bool false]) (fun (xvs5 : Int) (xvs14 : Bool) =>
      (k [.d .bool true])) a0 a1 n (0 : Int))) := by
  refine Eq.trans (b := (cond ((a0.length : Int) != (a1.length : Int))
    (k [.d .bool false])
    (iter (fun st k => ev f10e f10k n (cAt [1,1,0,1,0,0] f10c) st k) n ⟨[(0, .c (.one (.ro .str a0))), (1, .c (.one (.ro .str a1))), (5, .c (.one (.v (.int .i64 (0 : Int)))))], [], []⟩ (f10K0 n (exitK f10e [.ro, .ro] [false] true [.tmp 4] [4] [.d (.sl .str) a0, .d (.sl .str) a1] k))))) (by kernel_rfl) ?_
  simp only [f10L0_eq, f10K0_x0, f10K0_x1]
theorem f10_spec (a0 : List ByteArray) (a1 : List ByteArray) (hg : sm2 (smL smStr) a0 a1 = true) : ∃ keep rounds, ∀ {R : Type} (k : List Dt → Option R), evFn f10e keep rounds f10c [.ro, .ro] [false] true [.tmp 4] [4] [.d (.sl .str) a0, .d (.sl .str) a1] k = k [.d .bool (eqD a0 a1)] := by
  simp only [sm2, Bool.and_eq_true] at hg
  obtain ⟨hg0, hg1⟩ := hg
  have hl : a0.length ≤ 1048576 := smL_len hg0
  refine ⟨f10k, a0.length + 1, fun k => ?_⟩
  rw [f10_run]
  by_cases hc : a0.length = a1.length
  · have hc' : ((a0.length : Int) != (a1.length : Int)) = false := by simp [hc]
    simp only [hc', cond_false]
    refine Eq.trans (loop_idx (n := a0.length) (F := fun m i => f10L0 (a0.length + 1) _ _ a0 a1 m i) (p := fun j => sEq (atI (t := .str) a0 j) (atI (t := .str) a1 j)) (good := k [.d .bool true]) (bad := k [.d .bool false])
      (fun m j hj => ?_) (fun m => by simp only [f10L0, idxE, cond_false]) a0.length 0 (a0.length + 1) (by omega) (by omega)) ?_
    · obtain ⟨h1, h0, hw, ht⟩ := idx hj (by omega)
      obtain ⟨h2, _, _, _⟩ := idx (show j < a1.length by omega) (by omega)
      simp only [f10L0, h1, h0, h2, hw, ht, Bool.and_self, cond_true]
      cases sEq (atI (t := .str) a0 j) (atI (t := .str) a1 j) <;> rfl
    · rw [allN_eq hc (fun j x y hx hy => by rw [atI_of (t := .str) hx, atI_of (t := .str) hy, ← eqD_str])]
      cases eqD a0 a1 <;> rfl
  · simp only [bneLen hc, cond_true]
    rw [eqD_ne (fun e => hc (by rw [e]))]

noncomputable def q10 : List Dt → Option (Bool × List Dt)
  | [.d (.sl .str) a0, .d (.sl .str) a1] => some ((sm2 (smL smStr) a0 a1), [.d .bool (eqD a0 a1)])
  | _ => none
noncomputable def s10 : Gm.Spec := Gm.Spec.of [.ro, .ro] [false] true q10
theorem good10 : Gm.Good Tryd.prog (10, s10) := by
  have hl : ∀ x ∈ ([] : List (Nat × Gm.Spec)), Gm.Good Tryd.prog x := fun _ h => by cases h
  refine ⟨⟨spec_ok (tab_ok.env hl) (tab.natl hl) Tryd.func10 (by kernel_rfl : Tryd.f10.body = some f10c) [4] (by kernel_rfl) ?_, _, Tryd.func10, by kernel_rfl, of_decide_eq_true (by kernel_rfl)⟩, Gm.Spec.of_natl _ _ _ _⟩
  intro ds outs h
  unfold q10 at h
  split at h
  · simp only [Option.some.injEq, Prod.mk.injEq] at h; obtain ⟨hg, h⟩ := h; cases h; exact f10_spec _ _ hg
  · cases h
end Go.Proofs.YtinbejnakemfjaaDoor

/- x -/
namespace Go.Proofs.YtinbejnakemfjaaDoor
open Go Go.Gm
/-! ### loop.example/g00465/laws.markText -/
noncomputable def f21c : Code := (Tryd.f21.body).getD .skip
def f21k : Nat → Kp := kat [⟨[0], [], [], []⟩, ⟨[0, 5], [], [], []⟩, ⟨[2], [], [], []⟩, ⟨[0, 3], [], [], []⟩, ⟨[0, 3, 7], [], [], []⟩, ⟨[0, 3], [], [], []⟩, ⟨[0, 3], [], [], []⟩, ⟨[2], [], [], []⟩]
noncomputable def f21e : Env := tab.env []
noncomputable def f21L0 {R : Type} (n : Nat) (x0 : Int → ByteArray → Bool → Option R)  : Nat → Int → ByteArray → Option R
  | 0, _, _ => none
  | m + 1, vs0, vs3 =>
    (cond (decide (vs0 > (0 : Int)))
      (cond (decide (ByteArray.size (bytesOf ([(IntKind.wrap .u8 (IntKind.wrap .i64 ((48 : Int) + (Int.tmod vs0 (10 : Int)))))] : List Int)) + ByteArray.size vs3 ≤ 9223372036854775807))
        (f21L0 n x0 m (IntKind.wrap .i64 (Int.tdiv vs0 (10 : Int))) ((bytesOf ([(IntKind.wrap .u8 (IntKind.wrap .i64 ((48 : Int) + (Int.tmod vs0 (10 : Int)))))] : List Int)) ++ vs3))
        none)
      (x0 vs0 vs3 (decide (vs0 > (0 : Int)))))
theorem f21L0_b {R : Type} (n : Nat) (k' : Ex → St → Option R) (vs0 : Int) (vs3 : ByteArray) : ev f21e f21k n (cAt [1,1,1,0,0,0] f21c) ⟨[(0, .c (.one (.v (.int .i64 vs0)))), (3, .c (.one (.v (.string vs3))))], [], []⟩ k' =
    (cond (decide (vs0 > (0 : Int)))
    (cond (decide (ByteArray.size (bytesOf ([(IntKind.wrap .u8 (IntKind.wrap .i64 ((48 : Int) + (Int.tmod vs0 (10 : Int)))))] : List Int)) + ByteArray.size vs3 ≤ 9223372036854775807))
      (k' .normal ⟨[(0, .c (.one (.v (.int .i64 (IntKind.wrap .i64 (Int.tdiv vs0 (10 : Int))))))), (3, .c (.one (.v (.string ((bytesOf ([(IntKind.wrap .u8 (IntKind.wrap .i64 ((48 : Int) + (Int.tmod vs0 (10 : Int)))))] : List Int)) ++ vs3)))))], [], []⟩)
      none)
    (k' (.exit 0) ⟨[(0, .c (.one (.v (.int .i64 vs0)))), (3, .c (.one (.v (.string vs3)))), (7, .c (.one (.v (.bool (decide (vs0 > (0 : Int)))))))], [], []⟩)) := by kernel_rfl
theorem f21L0_eq {R : Type} (n : Nat) (k' : Ex → St → Option R)  : ∀ (m : Nat) (vs0 : Int) (vs3 : ByteArray), iter (fun st k => ev f21e f21k n (cAt [1,1,1,0,0,0] f21c) st k) m ⟨[(0, .c (.one (.v (.int .i64 vs0)))), (3, .c (.one (.v (.string vs3))))], [], []⟩ k' = f21L0 n (fun (xvs0 : Int) (xvs3 : ByteArray) (xvs7 : Bool) => k' (.exit 0) ⟨[(0, .c (.one (.v (.int .i64 xvs0)))), (3, .c (.one (.v (.string xvs3)))), (7, .c (.one (.v (.bool xvs7))))], [], []⟩) m vs0 vs3 := by
  intro m; induction m with
  | zero => intros; rfl
  | succ m ih =>
    intro vs0 vs3
    simp only [iter]
    rw [f21L0_b]
    simp only [ih, f21L0]

noncomputable def f21K0 {R : Type} (n : Nat) (k' : Ex → St → Option R) : Ex → St → Option R := (blockK 0 (seqK f21e f21k n (cAt [1,1,1,1] f21c) k'))
theorem f21K0_x0 {R : Type} (n : Nat) (k : List Dt → Option R) (a0 : Int) (xvs0 : Int) (xvs3 : ByteArray) (xvs7 : Bool) : f21K0 n (exitK f21e [.ro] [false] true [.tmp 2] [9] [.d (.i .i64) a0] k) (.exit 0) ⟨[(0, .c (.one (.v (.int .i64 xvs0)))), (3, .c (.one (.v (.string xvs3)))), (7, .c (.one (.v (.bool xvs7))))], [], []⟩ =
    (cond (decide (ByteArray.size (bs [109]) + ByteArray.size xvs3 ≤ 9223372036854775807))
    (k [.d .str ((bs [109]) ++ xvs3)])
    none) := by kernel_rfl

theorem f21_run {R : Type} (n : Nat) (k : List Dt → Option R) (a0 : Int) : evFn f21e f21k n f21c [.ro] [false] true [.tmp 2] [9] [.d (.i .i64) a0] k =
    (cond (decide (a0 ≤ (0 : Int)))
    (k [.d .str (bs [109,48])])
    (f21L0 n (fun (xvs0 : Int) (xvs3 : ByteArray) (xvs7 : Bool) =>
      (cond (decide (ByteArray.size (bs [109]) + ByteArray.size xvs3 ≤ 9223372036854775807))
        (k [.d .str ((bs [109]) ++ xvs3)])
        none)) n a0 ByteArray.empty)) := by
  refine Eq.trans (b := (cond (decide (a0 ≤ (0 : Int)))
    (k [.d .str (bs [109,48])])
    (iter (fun st k => ev f21e f21k n (cAt [1,1,1,0,0,0] f21c) st k) n ⟨[(0, .c (.one (.v (.int .i64 a0)))), (3, .c (.one (.v (.string ByteArray.empty))))], [], []⟩ (f21K0 n (exitK f21e [.ro] [false] true [.tmp 2] [9] [.d (.i .i64) a0] k))))) (by kernel_rfl) ?_
  simp only [f21L0_eq, f21K0_x0]
theorem f21_spec (a0 : Int) (hg : okI a0 = true) : ∃ keep rounds, ∀ {R : Type} (k : List Dt → Option R), evFn f21e keep rounds f21c [.ro] [false] true [.tmp 2] [9] [.d (.i .i64) a0] k = k [.d .str (mkT a0)] := by
  rw [okI_iff] at hg
  refine ⟨f21k, 25, fun {R} k => ?_⟩
  rw [f21_run]
  show _ = k [.d .str (mkT a0)]
  unfold mkT
  by_cases hz : a0 ≤ 0
  · simp only [hz, decide_true, cond_true]
  simp only [hz, decide_false, cond_false]
  have key : ∀ (d m : Nat) (n : Int) (out : ByteArray), 0 ≤ n → n.natAbs < 10 ^ d → d ≤ 20 → d < m → n ≤ 9223372036854775807 → out.size + d ≤ 100 → ∀ X : Int → ByteArray → Bool → Option R, f21L0 25 X m n out = X 0 (digR n.natAbs out) false := by
    intro d
    induction d with
    | zero =>
      intro m n out h0 hn hd hm hw hs X
      obtain ⟨m, rfl⟩ : ∃ m', m = m' + 1 := ⟨m - 1, by omega⟩
      have : n = 0 := by omega
      subst this
      simp only [f21L0]
      rfl
    | succ d ih =>
      intro m n out h0 hn hd hm hw hs X
      obtain ⟨m, rfl⟩ : ∃ m', m = m' + 1 := ⟨m - 1, by omega⟩
      by_cases hn0 : n = 0
      · subst hn0
        simp only [f21L0]
        rfl
      have h0' : decide (n > (0 : Int)) = true := decide_eq_true (by omega)
      have hn2 : n.natAbs / 10 < 10 ^ d := by rw [Nat.pow_succ] at hn; omega
      have hb := byte_dig (n.natAbs % 10) (by omega)
      have hsz : ByteArray.size ⟨#[UInt8.ofNat (48 + n.natAbs % 10)]⟩ = 1 := rfl
      simp only [f21L0, h0', cond_true]
      have t1 : IntKind.wrap .i64 (Int.tdiv n 10) = ((n.natAbs / 10 : Nat) : Int) := by rw [tdiv_pos (by omega)]; exact wrap_id (by omega) (by omega)
      have t2 : Int.tmod n 10 = ((n.natAbs % 10 : Nat) : Int) := tmod_pos (by omega)
      rw [t1, t2, hb]
      have fin := ih m (((n.natAbs / 10 : Nat) : Int)) (⟨#[UInt8.ofNat (48 + n.natAbs % 10)]⟩ ++ out) (by omega) (by omega) (by omega) (by omega) (by omega) (by rw [ByteArray.size_append]; omega) X
      rw [show (((n.natAbs / 10 : Nat) : Int)).natAbs = n.natAbs / 10 by omega, digR_step (by omega)] at fin
      rw [← fin]
      have hle := app_le (a := ⟨#[UInt8.ofNat (48 + n.natAbs % 10)]⟩) (b := out) (by omega)
      simp only [cond_true, hle]
  refine Eq.trans (key 20 25 a0 ByteArray.empty (by omega) (by have : (10 : Nat) ^ 20 = 100000000000000000000 := rfl; omega) (by omega) (by omega) (by omega) (by show 0 + 20 ≤ 100; omega) _) ?_
  have e : digR a0.natAbs ByteArray.empty = ⟨(natDig a0.natAbs).toArray⟩ := by
    unfold digR; rw [if_neg (by omega)]; apply ba_ext; simp
  have hs := digS_size (n := a0) (okI_iff.2 hg)
  have ed : digS a0 = ⟨(natDig a0.natAbs).toArray⟩ := by
    unfold digS; rw [if_neg (by omega)]; simp
  rw [e, ← ed, app_le (by rw [bs_size, List.length_cons, List.length_nil]; omega)]
  rfl

noncomputable def q21 : List Dt → Option (Bool × List Dt)
  | [.d (.i .i64) a0] => some ((okI a0), [.d .str (mkT a0)])
  | _ => none
noncomputable def s21 : Gm.Spec := Gm.Spec.of [.ro] [false] true q21
theorem good21 : Gm.Good Tryd.prog (21, s21) := by
  have hl : ∀ x ∈ ([] : List (Nat × Gm.Spec)), Gm.Good Tryd.prog x := fun _ h => by cases h
  refine ⟨⟨spec_ok (tab_ok.env hl) (tab.natl hl) Tryd.func21 (by kernel_rfl : Tryd.f21.body = some f21c) [9] (by kernel_rfl) ?_, _, Tryd.func21, by kernel_rfl, of_decide_eq_true (by kernel_rfl)⟩, Gm.Spec.of_natl _ _ _ _⟩
  intro ds outs h
  unfold q21 at h
  split at h
  · simp only [Option.some.injEq, Prod.mk.injEq] at h; obtain ⟨hg, h⟩ := h; cases h; exact f21_spec _ hg
  · cases h
/-! ### loop.example/g00465/laws.markStringS -/
noncomputable def f13c : Code := (Tryd.f13.body).getD .skip
def f13k : Nat → Kp := kat [⟨[0, 1], [], [], []⟩, ⟨[0, 1, 5], [], [], []⟩, ⟨[0, 1, 5, 9], [], [], []⟩, ⟨[0, 1, 5], [], [], []⟩, ⟨[0, 1, 5], [], [], []⟩, ⟨[0, 1, 5], [], [], []⟩, ⟨[0, 4], [], [], []⟩]
noncomputable def f13e : Env := tab.env [(21, s21)]
noncomputable def f13L0 {R : Type} (n : Nat) (x0 : Int → Int → Bool → (List ByteArray) → Option R)  : Nat → Int → Int → (List ByteArray) → Option R
  | 0, _, _, _ => none
  | m + 1, vs1, vs5, vr0 =>
    (cond (decide (vs5 < (vr0.length : Int)))
      (cond (okI vs1)
        (cond ((decide ((0 : Int) ≤ vs5)) && (decide (vs5 < (vr0.length : Int))))
          (f13L0 n x0 m (IntKind.wrap .i64 (vs1 + (1 : Int))) (IntKind.wrap .i64 (vs5 + (1 : Int))) (vr0.set (Int.toNat vs5) (mkT vs1)))
          none)
        none)
      (x0 vs1 vs5 (decide (vs5 < (vr0.length : Int))) vr0))
theorem f13L0_b {R : Type} (n : Nat) (k' : Ex → St → Option R) (vs1 : Int) (vs5 : Int) (vr0 : List ByteArray) : ev f13e f13k n (cAt [1,0,1,0,0] f13c) ⟨[(0, .c (.one (.h 0 0 0 []))), (1, .c (.one (.v (.int .i64 vs1)))), (5, .c (.one (.v (.int .i64 vs5))))], [], [(0, .live ⟨.str, .deep, 0, [], vr0⟩)]⟩ k' =
    (cond (decide (vs5 < (vr0.length : Int)))
    (cond (okI vs1)
      (cond ((decide ((0 : Int) ≤ vs5)) && (decide (vs5 < (vr0.length : Int))))
        (k' .normal ⟨[(0, .c (.one (.h 0 0 0 []))), (1, .c (.one (.v (.int .i64 (IntKind.wrap .i64 (vs1 + (1 : Int))))))), (5, .c (.one (.v (.int .i64 (IntKind.wrap .i64 (vs5 + (1 : Int)))))))], [], [(0, .live ⟨.str, .deep, 0, [], (vr0.set (Int.toNat vs5) (mkT vs1))⟩)]⟩)
        none)
      none)
    (k' (.exit 0) ⟨[(0, .c (.one (.h 0 0 0 []))), (1, .c (.one (.v (.int .i64 vs1)))), (5, .c (.one (.v (.int .i64 vs5)))), (9, .c (.one (.v (.bool (decide (vs5 < (vr0.length : Int)))))))], [], [(0, .live ⟨.str, .deep, 0, [], vr0⟩)]⟩)) := by kernel_rfl
theorem f13L0_eq {R : Type} (n : Nat) (k' : Ex → St → Option R)  : ∀ (m : Nat) (vs1 : Int) (vs5 : Int) (vr0 : List ByteArray), iter (fun st k => ev f13e f13k n (cAt [1,0,1,0,0] f13c) st k) m ⟨[(0, .c (.one (.h 0 0 0 []))), (1, .c (.one (.v (.int .i64 vs1)))), (5, .c (.one (.v (.int .i64 vs5))))], [], [(0, .live ⟨.str, .deep, 0, [], vr0⟩)]⟩ k' = f13L0 n (fun (xvs1 : Int) (xvs5 : Int) (xvs9 : Bool) (xvr0 : List ByteArray) => k' (.exit 0) ⟨[(0, .c (.one (.h 0 0 0 []))), (1, .c (.one (.v (.int .i64 xvs1)))), (5, .c (.one (.v (.int .i64 xvs5)))), (9, .c (.one (.v (.bool xvs9))))], [], [(0, .live ⟨.str, .deep, 0, [], xvr0⟩)]⟩) m vs1 vs5 vr0 := by
  intro m; induction m with
  | zero => intros; rfl
  | succ m ih =>
    intro vs1 vs5 vr0
    simp only [iter]
    rw [f13L0_b]
    simp only [ih, f13L0]

noncomputable def f13K0 {R : Type} (n : Nat) (k' : Ex → St → Option R) : Ex → St → Option R := (blockK 0 (seqK f13e f13k n (cAt [1,1] f13c) k'))
theorem f13K0_x0 {R : Type} (n : Nat) (k : List Dt → Option R) (a0 : List ByteArray) (a1 : Int) (xvs1 : Int) (xvs5 : Int) (xvs9 : Bool) (xvr0 : List ByteArray) : f13K0 n (exitK f13e [.«mut», .ro] [false] true [.tmp 4] [3] [.d (.sl .str) a0, .d (.i .i64) a1] k) (.exit 0) ⟨[(0, .c (.one (.h 0 0 0 []))), (1, .c (.one (.v (.int .i64 xvs1)))), (5, .c (.one (.v (.int .i64 xvs5)))), (9, .c (.one (.v (.bool xvs9))))], [], [(0, .live ⟨.str, .deep, 0, [], xvr0⟩)]⟩ =
    (k [.d (.i .i64) xvs1, .d (.sl .str) xvr0]) := by kernel_rfl

theorem f13_run {R : Type} (n : Nat) (k : List Dt → Option R) (a0 : List ByteArray) (a1 : Int) : evFn f13e f13k n f13c [.«mut», .ro] [false] true [.tmp 4] [3] [.d (.sl .str) a0, .d (.i .i64) a1] k =
    (f13L0 n (fun (xvs1 : Int) (xvs5 : Int) (xvs9 : Bool) (xvr0 : List ByteArray) =>
    (k [.d (.i .i64) xvs1, .d (.sl .str) xvr0])) n a1 (0 : Int) a0) := by
  refine Eq.trans (b := (iter (fun st k => ev f13e f13k n (cAt [1,0,1,0,0] f13c) st k) n ⟨[(0, .c (.one (.h 0 0 0 []))), (1, .c (.one (.v (.int .i64 a1)))), (5, .c (.one (.v (.int .i64 (0 : Int)))))], [], [(0, .live ⟨.str, .deep, 0, [], a0⟩)]⟩ (f13K0 n (exitK f13e [.«mut», .ro] [false] true [.tmp 4] [3] [.d (.sl .str) a0, .d (.i .i64) a1] k)))) (by kernel_rfl) ?_
  simp only [f13L0_eq, f13K0_x0]
theorem f13_spec (a0 : List ByteArray) (a1 : Int) (hg : gmk a1 (ctL ct_str a0) = true) : ∃ keep rounds, ∀ {R : Type} (k : List Dt → Option R), evFn f13e keep rounds f13c [.«mut», .ro] [false] true [.tmp 4] [3] [.d (.sl .str) a0, .d (.i .i64) a1] k = k [.d (.i .i64) (mkL mk_str a1 a0).2, .d (.sl .str) (mkL mk_str a1 a0).1] := by
  rw [gmk_iff] at hg
  have hl := ctL_len ct_str_pos a0
  refine ⟨f13k, a0.length + 1, fun {R} k => ?_⟩
  rw [f13_run]
  refine Eq.trans (loop_mark (F := fun m kk i l => f13L0 (a0.length + 1) _ m kk i l) (f := mk_str) (c := ct_str) (good := fun kk l => k [.d (.i .i64) kk, .d (.sl .str) l]) (n := a0.length) mk_str_ct
    (fun m kk j l x hx hln h0 hB => ?_) (fun m kk l hln => by simp only [f13L0, hln, idxE, cond_false]) a0 (a0.length + 1) a1 [] (by simp) (by omega) hg.1 hg.2) rfl
  obtain ⟨h1, h2, _, ht⟩ := idx (lt_of_get hx) (by omega)
  have hA : ∀ a, atI (t := .str) (l.set j a) j = a := fun a => atI_set (t := .str) (lt_of_get hx) a
  have hj := lt_of_get hx
  simp only [ct_str] at hB
  simp (disch := omega) only [f13L0, h1, h2, ht, hA, atI_of (t := .str) hx, List.set_set, List.length_set, wrap_id, gmk_of, okI_of, mk_str, Bool.and_self, cond_true]

noncomputable def q13 : List Dt → Option (Bool × List Dt)
  | [.d (.sl .str) a0, .d (.i .i64) a1] => some (((fun (x : List ByteArray) (k : Int) => gmk k (ctL ct_str x)) a0 a1), [.d (.i .i64) (mkL mk_str a1 a0).2, .d (.sl .str) (mkL mk_str a1 a0).1])
  | _ => none
noncomputable def s13 : Gm.Spec := Gm.Spec.of [.«mut», .ro] [false] true q13
theorem good13 : Gm.Good Tryd.prog (13, s13) := by
  have hl : ∀ x ∈ [(21, s21)], Gm.Good Tryd.prog x := List.forall_mem_cons.2 ⟨good21, List.forall_mem_nil _⟩
  refine ⟨⟨spec_ok (tab_ok.env hl) (tab.natl hl) Tryd.func13 (by kernel_rfl : Tryd.f13.body = some f13c) [3] (by kernel_rfl) ?_, _, Tryd.func13, by kernel_rfl, of_decide_eq_true (by kernel_rfl)⟩, Gm.Spec.of_natl _ _ _ _⟩
  intro ds outs h
  unfold q13 at h
  split at h
  · simp only [Option.some.injEq, Prod.mk.injEq] at h; obtain ⟨hg, h⟩ := h; cases h; exact f13_spec _ _ hg
  · cases h
/-! ### loop.example/g00465/laws.heldStringS -/
noncomputable def f14c : Code := (Tryd.f14.body).getD .skip
def f14k : Nat → Kp := kat [⟨[0, 1], [], [], []⟩, ⟨[0, 1, 5], [], [], []⟩, ⟨[0, 1, 5, 9], [], [], []⟩, ⟨[0, 1, 5], [], [], []⟩, ⟨[0, 1, 5, 18], [], [], []⟩, ⟨[4], [], [], []⟩, ⟨[0, 1, 5], [], [], []⟩, ⟨[4], [], [], []⟩]
noncomputable def f14e : Env := tab.env [(21, s21)]
noncomputable def f14L0 {R : Type} (n : Nat) (x0 : Option R) (x1 : Int → Int → Bool → Option R) (vs0 : List ByteArray) : Nat → Int → Int → Option R
  | 0, _, _ => none
  | m + 1, vs1, vs5 =>
    (cond (decide (vs5 < (vs0.length : Int)))
      (cond ((decide ((0 : Int) ≤ vs5)) && (decide (vs5 < (vs0.length : Int))))
        (cond (okI vs1)
          (cond (!(sEq (atI (t := .str) vs0 (Int.toNat vs5)) (mkT vs1)))
            (x0)
            (f14L0 n x0 x1 vs0 m (IntKind.wrap .i64 (vs1 + (1 : Int))) (IntKind.wrap .i64 (vs5 + (1 : Int)))))
          none)
        none)
      (x1 vs1 vs5 (decide (vs5 < (vs0.length : Int)))))
theorem f14L0_b {R : Type} (n : Nat) (k' : Ex → St → Option R) (vs0 : List ByteArray) (vs1 : Int) (vs5 : Int) : ev f14e f14k n (cAt [1,0,1,0,0] f14c) ⟨[(0, .c (.one (.ro .str vs0))), (1, .c (.one (.v (.int .i64 vs1)))), (5, .c (.one (.v (.int .i64 vs5))))], [], []⟩ k' =
    (cond (decide (vs5 < (vs0.length : Int)))
    (cond ((decide ((0 : Int) ≤ vs5)) && (decide (vs5 < (vs0.length : Int))))
      (cond (okI vs1)
        (cond (!(sEq (atI (t := .str) vs0 (Int.toNat vs5)) (mkT vs1)))
          (k' .ret ⟨[(4, .c (.one (.v (.int .i64 (-1 : Int)))))], [], []⟩)
          (k' .normal ⟨[(0, .c (.one (.ro .str vs0))), (1, .c (.one (.v (.int .i64 (IntKind.wrap .i64 (vs1 + (1 : Int))))))), (5, .c (.one (.v (.int .i64 (IntKind.wrap .i64 (vs5 + (1 : Int)))))))], [], []⟩))
        none)
      none)
    (k' (.exit 0) ⟨[(0, .c (.one (.ro .str vs0))), (1, .c (.one (.v (.int .i64 vs1)))), (5, .c (.one (.v (.int .i64 vs5)))), (9, .c (.one (.v (.bool (decide (vs5 < (vs0.length : Int)))))))], [], []⟩)) := by kernel_rfl
theorem f14L0_eq {R : Type} (n : Nat) (k' : Ex → St → Option R) (vs0 : List ByteArray) : ∀ (m : Nat) (vs1 : Int) (vs5 : Int), iter (fun st k => ev f14e f14k n (cAt [1,0,1,0,0] f14c) st k) m ⟨[(0, .c (.one (.ro .str vs0))), (1, .c (.one (.v (.int .i64 vs1)))), (5, .c (.one (.v (.int .i64 vs5))))], [], []⟩ k' = f14L0 n (k' .ret ⟨[(4, .c (.one (.v (.int .i64 (-1 : Int)))))], [], []⟩) (fun (xvs1 : Int) (xvs5 : Int) (xvs9 : Bool) => k' (.exit 0) ⟨[(0, .c (.one (.ro .str vs0))), (1, .c (.one (.v (.int .i64 xvs1)))), (5, .c (.one (.v (.int .i64 xvs5)))), (9, .c (.one (.v (.bool xvs9))))], [], []⟩) vs0 m vs1 vs5 := by
  intro m; induction m with
  | zero => intros; rfl
  | succ m ih =>
    intro vs1 vs5
    simp only [iter]
    rw [f14L0_b]
    simp only [ih, f14L0]

noncomputable def f14K0 {R : Type} (n : Nat) (k' : Ex → St → Option R) : Ex → St → Option R := (blockK 0 (seqK f14e f14k n (cAt [1,1] f14c) k'))
theorem f14K0_x0 {R : Type} (n : Nat) (k : List Dt → Option R) (a0 : List ByteArray) (a1 : Int)  : f14K0 n (exitK f14e [.ro, .ro] [false] true [.tmp 4] [3] [.d (.sl .str) a0, .d (.i .i64) a1] k) .ret ⟨[(4, .c (.one (.v (.int .i64 (-1 : Int)))))], [], []⟩ =
    (k [.d (.i .i64) (-1 : Int)]) := by kernel_rfl
theorem f14K0_x1 {R : Type} (n : Nat) (k : List Dt → Option R) (a0 : List ByteArray) (a1 : Int) (vs0 : List ByteArray) (xvs1 : Int) (xvs5 : Int) (xvs9 : Bool) : f14K0 n (exitK f14e [.ro, .ro] [false] true [.tmp 4] [3] [.d (.sl .str) a0, .d (.i .i64) a1] k) (.exit 0) ⟨[(0, .c (.one (.ro .str vs0))), (1, .c (.one (.v (.int .i64 xvs1)))), (5, .c (.one (.v (.int .i64 xvs5)))), (9, .c (.one (.v (.bool xvs9))))], [], []⟩ =
    (k [.d (.i .i64) xvs1]) := by kernel_rfl

theorem f14_run {R : Type} (n : Nat) (k : List Dt → Option R) (a0 : List ByteArray) (a1 : Int) : evFn f14e f14k n f14c [.ro, .ro] [false] true [.tmp 4] [3] [.d (.sl .str) a0, .d (.i .i64) a1] k =
    (f14L0 n (k [.d (.i .i64) (-1 : Int)]) (fun (xvs1 : Int) (xvs5 : Int) (xvs9 : Bool) =>
    (k [.d (.i .i64) xvs1])) a0 n a1 (0 : Int)) := by
  refine Eq.trans (b := (iter (fun st k => ev f14e f14k n (cAt [1,0,1,0,0] f14c) st k) n ⟨[(0, .c (.one (.ro .str a0))), (1, .c (.one (.v (.int .i64 a1)))), (5, .c (.one (.v (.int .i64 (0 : Int)))))], [], []⟩ (f14K0 n (exitK f14e [.ro, .ro] [false] true [.tmp 4] [3] [.d (.sl .str) a0, .d (.i .i64) a1] k)))) (by kernel_rfl) ?_
  simp only [f14L0_eq, f14K0_x0, f14K0_x1]
theorem f14_spec (a0 : List ByteArray) (a1 : Int) (hg : gmk a1 (ctL ct_str a0) = true) : ∃ keep rounds, ∀ {R : Type} (k : List Dt → Option R), evFn f14e keep rounds f14c [.ro, .ro] [false] true [.tmp 4] [3] [.d (.sl .str) a0, .d (.i .i64) a1] k = k [.d (.i .i64) (hdL mk_str a1 a0)] := by
  rw [gmk_iff] at hg
  have hl := ctL_len ct_str_pos a0
  refine ⟨f14k, a0.length + 1, fun {R} k => ?_⟩
  rw [f14_run]
  refine Eq.trans (loop_held (xs := a0) (F := fun m kk i => f14L0 (a0.length + 1) _ _ a0 m kk i) (f := mk_str) (c := ct_str) (good := fun kk => k [.d (.i .i64) kk]) (bad := k [.d (.i .i64) (-1 : Int)]) mk_str_ct
    (fun m kk j x hx h0 hB => ?_) (fun m kk => by simp only [f14L0, idxE, cond_false]) a0.length 0 (a0.length + 1) a1 (by omega) (by omega) hg.1 (by rw [List.drop_zero]; exact hg.2)) ?_
  · obtain ⟨h1, h2, _, ht⟩ := idx (lt_of_get hx) (by omega)
    have hj := lt_of_get hx
    simp only [ct_str] at hB
    simp (disch := omega) only [f14L0, h1, h2, ht, atI_of (t := .str) hx, wrap_id, gmk_of, okI_of, mk_str, eqD_str, Bool.cond_not, cond_and, bne, decide_ge0, decide_m1, cond_true, cond_false, Bool.cond_self, Bool.and_self]
  · rw [List.drop_zero]
    show _ = k [.d (.i .i64) (hdL mk_str a1 a0)]
    unfold hdL
    cases eqD a0 (mkL mk_str a1 a0).1 <;> rfl

noncomputable def q14 : List Dt → Option (Bool × List Dt)
  | [.d (.sl .str) a0, .d (.i .i64) a1] => some (((fun (x : List ByteArray) (k : Int) => gmk k (ctL ct_str x)) a0 a1), [.d (.i .i64) (hdL mk_str a1 a0)])
  | _ => none
noncomputable def s14 : Gm.Spec := Gm.Spec.of [.ro, .ro] [false] true q14
theorem good14 : Gm.Good Tryd.prog (14, s14) := by
  have hl : ∀ x ∈ [(21, s21)], Gm.Good Tryd.prog x := List.forall_mem_cons.2 ⟨good21, List.forall_mem_nil _⟩
  refine ⟨⟨spec_ok (tab_ok.env hl) (tab.natl hl) Tryd.func14 (by kernel_rfl : Tryd.f14.body = some f14c) [3] (by kernel_rfl) ?_, _, Tryd.func14, by kernel_rfl, of_decide_eq_true (by kernel_rfl)⟩, Gm.Spec.of_natl _ _ _ _⟩
  intro ds outs h
  unfold q14 at h
  split at h
  · simp only [Option.some.injEq, Prod.mk.injEq] at h; obtain ⟨hg, h⟩ := h; cases h; exact f14_spec _ _ hg
  · cases h
end Go.Proofs.YtinbejnakemfjaaDoor

/- x -/
namespace Go.Proofs.YtinbejnakemfjaaDoor
open Go Go.Gm
/-! ### loop.example/g00465/laws.FnExactPtrOf -/
noncomputable def f4c : Code := (Tryd.f4.body).getD .skip
def f4k : Nat → Kp := kat [⟨[0], [], [], []⟩, ⟨[0, 13], [], [], []⟩, ⟨[2], [], [], []⟩, ⟨[0, 3, 4], [], [], []⟩, ⟨[0, 3, 4, 5, 6], [], [], []⟩, ⟨[0, 3, 4, 5, 32], [], [], []⟩, ⟨[2], [], [], []⟩, ⟨[0, 3, 4, 5, 7], [], [], []⟩, ⟨[0, 3, 4, 5, 7], [], [], []⟩, ⟨[0, 3, 4, 5, 7, 8], [], [], []⟩, ⟨[0, 3, 4, 5, 7, 8], [], [], []⟩, ⟨[0, 3, 4, 5, 7, 8, 40], [], [], []⟩, ⟨[2], [], [], []⟩, ⟨[0, 3, 4, 5, 7, 43], [], [], []⟩, ⟨[2], [], [], []⟩, ⟨[3, 4, 5, 7, 9, 10], [], [], []⟩, ⟨[5, 7, 57], [], [], []⟩, ⟨[2], [], [], []⟩, ⟨[5, 7, 8], [], [], []⟩, ⟨[7, 8], [], [], []⟩, ⟨[7, 8, 62], [], [], []⟩, ⟨[2], [], [], []⟩, ⟨[65], [], [], []⟩, ⟨[2], [], [], []⟩, ⟨[2], [], [], []⟩]
noncomputable def f4e : Env := tab.env [(10, s10), (11, s11), (12, s12), (13, s13), (14, s14)]
theorem f4_run {R : Type} (n : Nat) (k : List Dt → Option R) (a0 : ByteArray) : evFn f4e f4k n f4c [.ro] [false] true [.tmp 2] [4] [.d .str a0] k =
    (cond (decide ((ByteArray.size a0 : Int) > (1048576 : Int)))
    (k [.d .bool true])
    (cond (gPtrOf a0)
      (cond (gPtrOf a0)
        (cond (sm2 (smL smStr) ((ptrOf a0).1) ((ptrOf a0).1))
          (cond (!(eqD ((ptrOf a0).1) ((ptrOf a0).1)))
            (k [.d .bool false])
            (cond (!(((ptrOf a0).2) == ((ptrOf a0).2)))
              (k [.d .bool false])
              (cond ((fun (x : List ByteArray) (k : Int) => gmk k (ctL ct_str x)) ((ptrOf a0).1) (1 : Int))
                (cond ((fun (x : List ByteArray) (k : Int) => gmk k (ctL ct_str x)) (mkL mk_str (1 : Int) ((ptrOf a0).1)).1 (1 : Int))
                  (cond (decide ((hdL mk_str (1 : Int) (mkL mk_str (1 : Int) ((ptrOf a0).1)).1) < (0 : Int)))
                    (k [.d .bool false])
                    (cond ((hdL mk_str (1 : Int) (mkL mk_str (1 : Int) ((ptrOf a0).1)).1) != (mkL mk_str (1 : Int) ((ptrOf a0).1)).2)
                      (k [.d .bool false])
                      (cond (gPtrOf a0)
                        (cond (sm2 (smL smStr) ((ptrOf a0).1) ((ptrOf a0).1))
                          (cond (!(eqD ((ptrOf a0).1) ((ptrOf a0).1)))
                            (k [.d .bool false])
                            (cond (!(((ptrOf a0).2) == ((ptrOf a0).2)))
                              (k [.d .bool false])
                              (cond ((fun (x : List ByteArray) (k : Int) => gmk k (ctL ct_str x)) (mkL mk_str (1 : Int) ((ptrOf a0).1)).1 (1 : Int))
                                (cond (decide ((hdL mk_str (1 : Int) (mkL mk_str (1 : Int) ((ptrOf a0).1)).1) < (0 : Int)))
                                  (k [.d .bool false])
                                  (cond ((hdL mk_str (1 : Int) (mkL mk_str (1 : Int) ((ptrOf a0).1)).1) != (mkL mk_str (1 : Int) ((ptrOf a0).1)).2)
                                    (k [.d .bool false])
                                    (k [.d .bool true])))
                                none)))
                          none)
                        none)))
                  none)
                none)))
          none)
        none)
      none)) := by kernel_rfl
theorem f4_spec (a0 : ByteArray) (hg : (okStr a0) = true) : ∃ keep rounds, ∀ {R : Type} (k : List Dt → Option R), evFn f4e keep rounds f4c [.ro] [false] true [.tmp 2] [4] [.d .str a0] k = k [.d .bool ((fun (_ : ByteArray) => true) a0)] := by
  have hg0 := hg
  refine ⟨f4k, 0, fun {R} k => ?_⟩
  rw [f4_run]
  by_cases c0 : ((a0.size : Nat) : Int) > 1048576
  · simp only [c0, decide_true, decide_false, cond_true, cond_false]
  have s0 : smStr a0 = true := smStr_of (by omega)
  have sA0 : smL smStr ((ptrOf a0).1) = true := ptrOf_sm s0
  have pA0 := ctL_sm ct_str_sm sA0
  have hP : gPtrOf a0 = true := Nat.ble_eq_true_of_le (bleN s0)
  simp only [ctL_mk_str, hdL_marked mk_str_idem]
  simp (disch := omega) only [c0, s0, sA0, sm2, gmk_of, decide_ge0, decide_false, cond_true, cond_false, Bool.and_self, bne_self_eq_false, beq_self_eq_true, sEq_self, eqD_self, Bool.not_true, mkL_str_ct, hP]

noncomputable def q4 : List Dt → Option (Bool × List Dt)
  | [.d .str a0] => some (((fun (x0 : ByteArray) => okStr x0) a0), [.d .bool ((fun (_ : ByteArray) => true) a0)])
  | _ => none
noncomputable def s4 : Gm.Spec := Gm.Spec.of [.ro] [false] true q4
theorem good4 : Gm.Good Tryd.prog (4, s4) := by
  have hl : ∀ x ∈ [(10, s10), (11, s11), (12, s12), (13, s13), (14, s14)], Gm.Good Tryd.prog x := List.forall_mem_cons.2 ⟨good10, List.forall_mem_cons.2 ⟨good11, List.forall_mem_cons.2 ⟨good12, List.forall_mem_cons.2 ⟨good13, List.forall_mem_cons.2 ⟨good14, List.forall_mem_nil _⟩⟩⟩⟩⟩
  refine ⟨⟨spec_ok (tab_ok.env hl) (tab.natl hl) Tryd.func4 (by kernel_rfl : Tryd.f4.body = some f4c) [4] (by kernel_rfl) ?_, _, Tryd.func4, by kernel_rfl, of_decide_eq_true (by kernel_rfl)⟩, Gm.Spec.of_natl _ _ _ _⟩
  intro ds outs h
  unfold q4 at h
  split at h
  · simp only [Option.some.injEq, Prod.mk.injEq] at h; obtain ⟨hg, h⟩ := h; cases h; exact f4_spec _ hg
  · cases h
end Go.Proofs.YtinbejnakemfjaaDoor

/- What the functions compute, part 1. No conditions. -/
import Derived.Test.YtinbejnakemfjaaDoorGm4
import Derived.Test.YtinbejnakemfjaaDoorRows
import Derived.Ground.NamesProg
import Derived.Shelf.Strings.SplitShaped
/- The table of types of the program, and that it is the program's. Printed by gev.py of this session. -/
namespace Go.Proofs.YtinbejnakemfjaaDoor
open Go Go.Gm
def tab : Tab := { code := [(2, (.i .i64)), (3, (.i .i64)), (4, .bool), (5, (.i .u8)), (6, (.i .u8)), (9, .str), (10, .str), (11, .str), (12, (.i .u64)), (21, (.i .i32)), (22, (.sl .str)), (31, (.sl (.i .u8))), (45, .cur), (60, (.i .u64)), (72, (.i .u32)), (81, (.i .u8)), (82, (.i .u8)), (84, (.i .i32)), (85, (.i .i32))], eqs := [], fld := [(45, [(0, 31), (1, 3), (2, 3)])] }
theorem und2 : UndOk (tab.env []) Tryd.prog 2 (.i .i64) := (by kernel_rfl : Tryd.prog.underlying 2 = some (.int .i64))
theorem und3 : UndOk (tab.env []) Tryd.prog 3 (.i .i64) := (by kernel_rfl : Tryd.prog.underlying 3 = some (.int .i64))
theorem und4 : UndOk (tab.env []) Tryd.prog 4 .bool := (by kernel_rfl : Tryd.prog.underlying 4 = some .bool)
theorem und5 : UndOk (tab.env []) Tryd.prog 5 (.i .u8) := (by kernel_rfl : Tryd.prog.underlying 5 = some (.int .u8))
theorem und6 : UndOk (tab.env []) Tryd.prog 6 (.i .u8) := (by kernel_rfl : Tryd.prog.underlying 6 = some (.int .u8))
theorem und9 : UndOk (tab.env []) Tryd.prog 9 .str := (by kernel_rfl : Tryd.prog.underlying 9 = some .string)
theorem und10 : UndOk (tab.env []) Tryd.prog 10 .str := (by kernel_rfl : Tryd.prog.underlying 10 = some .string)
theorem und11 : UndOk (tab.env []) Tryd.prog 11 .str := (by kernel_rfl : Tryd.prog.underlying 11 = some .string)
theorem und12 : UndOk (tab.env []) Tryd.prog 12 (.i .u64) := (by kernel_rfl : Tryd.prog.underlying 12 = some (.int .u64))
theorem und21 : UndOk (tab.env []) Tryd.prog 21 (.i .i32) := (by kernel_rfl : Tryd.prog.underlying 21 = some (.int .i32))
theorem und22 : UndOk (tab.env []) Tryd.prog 22 (.sl .str) := ⟨9, by kernel_rfl, by kernel_rfl⟩
theorem und31 : UndOk (tab.env []) Tryd.prog 31 (.sl (.i .u8)) := ⟨5, by kernel_rfl, by kernel_rfl⟩
theorem und45 : UndOk (tab.env []) Tryd.prog 45 .cur := ⟨_, Tryd.underlying45⟩
theorem und60 : UndOk (tab.env []) Tryd.prog 60 (.i .u64) := (by kernel_rfl : Tryd.prog.underlying 60 = some (.int .u64))
theorem und72 : UndOk (tab.env []) Tryd.prog 72 (.i .u32) := (by kernel_rfl : Tryd.prog.underlying 72 = some (.int .u32))
theorem und81 : UndOk (tab.env []) Tryd.prog 81 (.i .u8) := (by kernel_rfl : Tryd.prog.underlying 81 = some (.int .u8))
theorem und82 : UndOk (tab.env []) Tryd.prog 82 (.i .u8) := (by kernel_rfl : Tryd.prog.underlying 82 = some (.int .u8))
theorem und84 : UndOk (tab.env []) Tryd.prog 84 (.i .i32) := (by kernel_rfl : Tryd.prog.underlying 84 = some (.int .i32))
theorem und85 : UndOk (tab.env []) Tryd.prog 85 (.i .i32) := (by kernel_rfl : Tryd.prog.underlying 85 = some (.int .i32))
theorem fld45 : ∃ fs : Array Field, Tryd.prog.underlying 45 = some (.struct fs) ∧ [(0, 31), (1, 3), (2, 3)] = fs.toList.map (fun f => (f.offset, f.type)) ∧ (∀ y ∈ ([(0, 31), (1, 3), (2, 3)] : List (Nat × Nat)), (aget tab.code y.2).isSome) ∧ (fs.toList.mapM (fun f => (Tryd.prog.info? f.type).map fun i => (f.offset, i.size))).isSome :=
  ⟨_, Tryd.underlying45, by kernel_rfl, List.all_eq_true.1 (by kernel_rfl), by kernel_rfl⟩
theorem tab_ok : tab.Ok Tryd.prog := {
  info := infoChk_ok (by kernel_rfl)
  und := List.forall_mem_cons.2 ⟨und2, List.forall_mem_cons.2 ⟨und3, List.forall_mem_cons.2 ⟨und4, List.forall_mem_cons.2 ⟨und5, List.forall_mem_cons.2 ⟨und6, List.forall_mem_cons.2 ⟨und9, List.forall_mem_cons.2 ⟨und10, List.forall_mem_cons.2 ⟨und11, List.forall_mem_cons.2 ⟨und12, List.forall_mem_cons.2 ⟨und21, List.forall_mem_cons.2 ⟨und22, List.forall_mem_cons.2 ⟨und31, List.forall_mem_cons.2 ⟨und45, List.forall_mem_cons.2 ⟨und60, List.forall_mem_cons.2 ⟨und72, List.forall_mem_cons.2 ⟨und81, List.forall_mem_cons.2 ⟨und82, List.forall_mem_cons.2 ⟨und84, List.forall_mem_cons.2 ⟨und85, List.forall_mem_nil _⟩⟩⟩⟩⟩⟩⟩⟩⟩⟩⟩⟩⟩⟩⟩⟩⟩⟩⟩
  fld := List.forall_mem_cons.2 ⟨fld45, List.forall_mem_nil _⟩
  sts := List.forall_mem_cons.2 ⟨fun h => by first | (cases h; done) | (simp; done), List.forall_mem_cons.2 ⟨fun h => by first | (cases h; done) | (simp; done), List.forall_mem_cons.2 ⟨fun h => by first | (cases h; done) | (simp; done), List.forall_mem_cons.2 ⟨fun h => by first | (cases h; done) | (simp; done), List.forall_mem_cons.2 ⟨fun h => by first | (cases h; done) | (simp; done), List.forall_mem_cons.2 ⟨fun h => by first | (cases h; done) | (simp; done), List.forall_mem_cons.2 ⟨fun h => by first | (cases h; done) | (simp; done), List.forall_mem_cons.2 ⟨fun h => by first | (cases h; done) | (simp; done), List.forall_mem_cons.2 ⟨fun h => by first | (cases h; done) | (simp; done), List.forall_mem_cons.2 ⟨fun h => by first | (cases h; done) | (simp; done), List.forall_mem_cons.2 ⟨fun h => by first | (cases h; done) | (simp; done), List.forall_mem_cons.2 ⟨fun h => by first | (cases h; done) | (simp; done), List.forall_mem_cons.2 ⟨fun _ => by simp [tab], List.forall_mem_cons.2 ⟨fun h => by first | (cases h; done) | (simp; done), List.forall_mem_cons.2 ⟨fun h => by first | (cases h; done) | (simp; done), List.forall_mem_cons.2 ⟨fun h => by first | (cases h; done) | (simp; done), List.forall_mem_cons.2 ⟨fun h => by first | (cases h; done) | (simp; done), List.forall_mem_cons.2 ⟨fun h => by first | (cases h; done) | (simp; done), List.forall_mem_cons.2 ⟨fun h => by first | (cases h; done) | (simp; done), List.forall_mem_nil _⟩⟩⟩⟩⟩⟩⟩⟩⟩⟩⟩⟩⟩⟩⟩⟩⟩⟩⟩
  eqs := List.forall_mem_nil _
  ord := by kernel_rfl }
end Go.Proofs.YtinbejnakemfjaaDoor

/- x -/
namespace Go.Proofs
open Go.Shelf Go.RowKit
def Tryd.laysRepl_ren : Go.Shelf.Ren := ⟨fun | 155 => 19 | 154 => 25 | 138 => 28 | 165 => 29 | 143 => 30 | 166 => 31 | 197 => 32 | 169 => 33 | 195 => 35 | 218 => 36 | 240 => 37 | 241 => 38 | 219 => 39 | 260 => 40 | 276 => 41 | 277 => 42 | 217 => 43 | 225 => 44 | 224 => 45 | 267 => 46 | 266 => 47 | 314 => 48 | n => n, fun | 9 => 9 | 3 => 3 | 4 => 4 | 72 => 50 | 0 => 0 | 76 => 54 | 105 => 56 | 21 => 21 | 5 => 5 | 70 => 48 | 20 => 20 | 37 => 31 | 75 => 53 | 127 => 63 | 164 => 64 | 46 => 60 | 119 => 68 | 139 => 71 | 138 => 70 | 146 => 73 | 51 => 72 | 80 => 58 | n => n, fun | 1 => 0 | 3 => 1 | 4 => 2 | n => n⟩
theorem Tryd.laysRepl : Go.Proofs.LaysM.n155 Tryd.prog Tryd.laysRepl_ren := {
  mixed := by kernel_rfl
  f138 := Tryd.func28.trans (congrArg some (by kernel_rfl))
  f143 := Tryd.func30.trans (congrArg some (by kernel_rfl))
  f154 := Tryd.func25.trans (congrArg some (by kernel_rfl))
  f155 := Tryd.func19.trans (congrArg some (by kernel_rfl))
  f165 := Tryd.func29.trans (congrArg some (by kernel_rfl))
  f166 := Tryd.func31.trans (congrArg some (by kernel_rfl))
  f169 := Tryd.func33.trans (congrArg some (by kernel_rfl))
  f195 := Tryd.func35.trans (congrArg some (by kernel_rfl))
  f197 := Tryd.func32.trans (congrArg some (by kernel_rfl))
  f217 := Tryd.func43.trans (congrArg some (by kernel_rfl))
  f218 := Tryd.func36.trans (congrArg some (by kernel_rfl))
  f219 := Tryd.func39.trans (congrArg some (by kernel_rfl))
  f224 := Tryd.func45.trans (congrArg some (by kernel_rfl))
  f225 := Tryd.func44.trans (congrArg some (by kernel_rfl))
  f240 := Tryd.func37.trans (congrArg some (by kernel_rfl))
  f241 := Tryd.func38.trans (congrArg some (by kernel_rfl))
  f260 := Tryd.func40.trans (congrArg some (by kernel_rfl))
  f266 := Tryd.func47.trans (congrArg some (by kernel_rfl))
  f267 := Tryd.func46.trans (congrArg some (by kernel_rfl))
  f276 := Tryd.func41.trans (congrArg some (by kernel_rfl))
  f277 := Tryd.func42.trans (congrArg some (by kernel_rfl))
  f314 := Tryd.func48.trans (congrArg some (by kernel_rfl))
  t0 := Tryd.underlying0
  a0 := Tryd.isAgg0
  z0 := Tryd.sizeOf0
  v0 := Tryd.zeroValue0
  t3 := Tryd.underlying3
  a3 := Tryd.isAgg3
  z3 := Tryd.sizeOf3
  v3 := Tryd.zeroValue3
  t4 := Tryd.underlying4
  a4 := Tryd.isAgg4
  z4 := Tryd.sizeOf4
  v4 := Tryd.zeroValue4
  t5 := Tryd.underlying5
  a5 := Tryd.isAgg5
  z5 := Tryd.sizeOf5
  v5 := Tryd.zeroValue5
  t9 := Tryd.underlying9
  a9 := Tryd.isAgg9
  z9 := Tryd.sizeOf9
  v9 := Tryd.zeroValue9
  t20 := Tryd.underlying20
  a20 := Tryd.isAgg20
  z20 := Tryd.sizeOf20
  v20 := Tryd.zeroValue20
  t21 := Tryd.underlying21
  a21 := Tryd.isAgg21
  z21 := Tryd.sizeOf21
  v21 := Tryd.zeroValue21
  t37 := Tryd.underlying31
  a37 := Tryd.isAgg31
  z37 := Tryd.sizeOf31
  v37 := Tryd.zeroValue31
  t46 := Tryd.underlying60
  a46 := Tryd.isAgg60
  z46 := Tryd.sizeOf60
  v46 := Tryd.zeroValue60
  t51 := Tryd.underlying72
  a51 := Tryd.isAgg72
  z51 := Tryd.sizeOf72
  v51 := Tryd.zeroValue72
  t70 := Tryd.underlying48
  a70 := Tryd.isAgg48
  z70 := Tryd.sizeOf48
  v70 := Tryd.zeroValue48
  t72 := Tryd.underlying50
  a72 := Tryd.isAgg50
  z72 := Tryd.sizeOf50
  v72 := Tryd.zeroValue50
  t75 := Tryd.underlying53
  a75 := Tryd.isAgg53
  z75 := Tryd.sizeOf53
  v75 := Tryd.zeroValue53
  t76 := Tryd.underlying54
  a76 := Tryd.isAgg54
  z76 := Tryd.sizeOf54
  v76 := Tryd.zeroValue54
  t105 := Tryd.underlying56
  a105 := Tryd.isAgg56
  z105 := Tryd.sizeOf56
  v105 := Tryd.zeroValue56
  t119 := Tryd.underlying68
  a119 := Tryd.isAgg68
  z119 := Tryd.sizeOf68
  t127 := Tryd.underlying63
  a127 := Tryd.isAgg63
  z127 := Tryd.sizeOf63
  v127 := Tryd.zeroValue63
  t138 := Tryd.underlying70
  a138 := Tryd.isAgg70
  z138 := Tryd.sizeOf70
  v138 := Tryd.zeroValue70
  t139 := Tryd.underlying71
  a139 := Tryd.isAgg71
  z139 := Tryd.sizeOf71
  v139 := Tryd.zeroValue71
  t146 := Tryd.underlying73
  a146 := Tryd.isAgg73
  z146 := Tryd.sizeOf73
  v146 := Tryd.zeroValue73
  t164 := Tryd.underlying64
  a164 := Tryd.isAgg64
  z164 := Tryd.sizeOf64
  v164 := Tryd.zeroValue64
  g1 := by kernel_rfl
  g3 := by kernel_rfl
  g4 := by kernel_rfl
  t80 := Tryd.underlying58
  a80 := Tryd.isAgg58
  z80 := Tryd.sizeOf58
  v80 := Tryd.zeroValue58
  i0 := by kernel_rfl
  i3 := by kernel_rfl
  i4 := by kernel_rfl
  i5 := by kernel_rfl
  i9 := by kernel_rfl
  i20 := by kernel_rfl
  i21 := by kernel_rfl
  i37 := by kernel_rfl
  i46 := by kernel_rfl
  i51 := by kernel_rfl
  i70 := by kernel_rfl
  i72 := by kernel_rfl
  i75 := by kernel_rfl
  i76 := by kernel_rfl
  i80 := by kernel_rfl
  i105 := by kernel_rfl
  i127 := by kernel_rfl
  i138 := by kernel_rfl
  i139 := by kernel_rfl
  i146 := by kernel_rfl
  i164 := by kernel_rfl
  m1 := by kernel_rfl
  s1_3 := fun w h => Go.Proofs.cell_of_shapedOpen_int (zero := #[.int .i64 0]) (t := 3) h (of_decide_eq_true (by kernel_rfl)) (by kernel_rfl) rfl (by kernel_rfl) (by kernel_rfl) Tryd.underlying3
  m3 := by kernel_rfl
  m4 := by kernel_rfl }

theorem Tryd.extra : Builder.Extra Tryd.prog Tryd.laysRepl_ren := {
  sizeBuilder := by kernel_rfl
  liesBuilder := by kernel_rfl
  t5 := Tryd.underlying5
  a5 := Tryd.isAgg5
  z5 := Tryd.sizeOf5
  v5 := Tryd.zeroValue5
  infoByte := by kernel_rfl
  cellsByte := by kernel_rfl
  sizeByte := by kernel_rfl
  neB5 := by decide }
end Go.Proofs
namespace Go.Proofs.YtinbejnakemfjaaDoor
open Go Go.Gm Go.RowKit
noncomputable def q19 : List Dt → Option (Bool × List Dt)
  | [.d .str a0, .d .str a1, .d .str a2] => some (gRepl a0 a1 a2, [.d .str (replS a0 a1 a2)])
  | _ => none
noncomputable def s19 : Gm.Spec := Gm.Spec.of [.ro, .ro, .ro] [false] true q19
theorem good19 : Gm.Good Tryd.prog (19, s19) := by
  refine ⟨⟨spec_growW rfl ?_, _, Tryd.func19, by kernel_rfl, of_decide_eq_true (by kernel_rfl)⟩, Gm.Spec.of_natl _ _ _ _⟩
  intro ds outs h
  unfold q19 at h
  split at h
  · rename_i a0 a1 a2
    simp only [Option.some.injEq, Prod.mk.injEq] at h
    obtain ⟨hg, h⟩ := h
    cases h
    refine ⟨_, _, .string (replS a0 a1 a2), rfl, rfl, rfl, rfl, fun w us ROa Fs hW hB hA hlt => ?_⟩
    cases hA with
    | cons h1 hA =>
      cases hA with
      | cons h2 hA =>
        cases hA with
        | cons h3 hA =>
        cases hA
        have e1 := valRd_v (t := .str) (v := .string a0) rfl rfl h1
        have e2 := valRd_v (t := .str) (v := .string a1) rfl rfl h2
        have e3 := valRd_v (t := .str) (v := .string a2) rfl rfl h3
        subst e1; subst e2; subst e3
        obtain ⟨g1, g2, g3⟩ := gRepl_iff hg
        obtain ⟨m, hm⟩ := Go.Proofs.Tryd.laysRepl.s1_3 _ hW
        exact Go.Proofs.Any.strings_ReplaceAll { Go.Proofs.Tryd.laysRepl with } Go.Proofs.Tryd.extra a0 a1 a2 m w g1 (hB.cell hm) g2 g3
  · cases h
end Go.Proofs.YtinbejnakemfjaaDoor

/- x -/
namespace Go.Proofs.YtinbejnakemfjaaDoor
open Go Go.Gm
/-! ### loop.example/g00465/spec.PtrText -/
noncomputable def f7c : Code := (Tryd.f7.body).getD .skip
def f7k : Nat → Kp := kat [⟨[0], [], [], []⟩, ⟨[0, 3], [], [], []⟩, ⟨[0, 3, 4], [], [], []⟩, ⟨[0, 3, 4, 10], [], [], []⟩, ⟨[0, 3, 4], [], [], []⟩, ⟨[0, 3, 4], [], [], []⟩, ⟨[0, 3, 4, 5], [], [], []⟩, ⟨[0, 3, 4, 5, 22], [], [], []⟩, ⟨[0, 3, 4, 5], [], [], []⟩, ⟨[0, 3, 4, 5, 30], [], [], []⟩, ⟨[0, 3, 4, 5], [], [], []⟩, ⟨[0, 3, 4, 5, 30, 40], [], [], []⟩, ⟨[0, 3, 4, 5], [], [], []⟩, ⟨[0, 3, 4, 5, 45], [], [], []⟩, ⟨[0, 3, 4, 5], [], [], []⟩, ⟨[2], [], [], []⟩]
noncomputable def f7e : Env := tab.env []
noncomputable def f7L0 {R : Type} (n : Nat) (x0 : Int → Bool → (List Int) → Option R) (vs0 : List ByteArray) (vs4 : Int) : Nat → Int → (List Int) → Option R
  | 0, _, _ => none
  | m + 1, vs5, vr384 =>
    (cond ((decide ((0 : Int) ≤ vs4)) && (decide (vs4 < (vs0.length : Int))))
      (cond (decide (vs5 < (ByteArray.size (atI (t := .str) vs0 (Int.toNat vs4)) : Int)))
        (cond ((decide ((0 : Int) ≤ vs4)) && (decide (vs4 < (vs0.length : Int))))
          (cond ((decide ((0 : Int) ≤ vs5)) && (decide (vs5 < (ByteArray.size (atI (t := .str) vs0 (Int.toNat vs4)) : Int))))
            (cond ((((ByteArray.data (atI (t := .str) vs0 (Int.toNat vs4))).getD (Int.toNat vs5) 0).toNat : Int) == (126 : Int))
              (cond (Nat.ble (vr384.length + 2) LIM)
                (f7L0 n x0 vs0 vs4 m (IntKind.wrap .i64 (vs5 + (1 : Int))) (vr384 ++ ([(126 : Int), (48 : Int)] : List Int)))
                none)
              (cond ((((ByteArray.data (atI (t := .str) vs0 (Int.toNat vs4))).getD (Int.toNat vs5) 0).toNat : Int) == (47 : Int))
                (cond (Nat.ble (vr384.length + 2) LIM)
                  (f7L0 n x0 vs0 vs4 m (IntKind.wrap .i64 (vs5 + (1 : Int))) (vr384 ++ ([(126 : Int), (49 : Int)] : List Int)))
                  none)
                (cond ((decide ((0 : Int) ≤ vs4)) && (decide (vs4 < (vs0.length : Int))))
                  (cond ((decide ((0 : Int) ≤ vs5)) && (decide (vs5 < (ByteArray.size (atI (t := .str) vs0 (Int.toNat vs4)) : Int))))
                    (cond (Nat.ble (vr384.length + 1) LIM)
                      (f7L0 n x0 vs0 vs4 m (IntKind.wrap .i64 (vs5 + (1 : Int))) (vr384 ++ ([(((ByteArray.data (atI (t := .str) vs0 (Int.toNat vs4))).getD (Int.toNat vs5) 0).toNat : Int)] : List Int)))
                      none)
                    none)
                  none)))
            none)
          none)
        (x0 vs5 (decide (vs5 < (ByteArray.size (atI (t := .str) vs0 (Int.toNat vs4)) : Int))) vr384))
      none)
theorem f7L0_b {R : Type} (n : Nat) (k' : Ex → St → Option R) (vs0 : List ByteArray) (vs4 : Int) (vs5 : Int) (vr384 : List Int) : ev f7e f7k n (cAt [1,1,0,1,0,0,1,0,0,1,1,0,0] f7c) ⟨[(0, .c (.one (.ro .str vs0))), (3, .c (.one (.h 384 0 0 []))), (4, .c (.one (.v (.int .i64 vs4)))), (5, .c (.one (.v (.int .i64 vs5))))], [], [(384, .live ⟨(.i .u8), .deep, 0, [], vr384⟩)]⟩ k' =
    (cond ((decide ((0 : Int) ≤ vs4)) && (decide (vs4 < (vs0.length : Int))))
    (cond (decide (vs5 < (ByteArray.size (atI (t := .str) vs0 (Int.toNat vs4)) : Int)))
      (cond ((decide ((0 : Int) ≤ vs4)) && (decide (vs4 < (vs0.length : Int))))
        (cond ((decide ((0 : Int) ≤ vs5)) && (decide (vs5 < (ByteArray.size (atI (t := .str) vs0 (Int.toNat vs4)) : Int))))
          (cond ((((ByteArray.data (atI (t := .str) vs0 (Int.toNat vs4))).getD (Int.toNat vs5) 0).toNat : Int) == (126 : Int))
            (cond (Nat.ble (vr384.length + 2) LIM)
              (k' .normal ⟨[(0, .c (.one (.ro .str vs0))), (3, .c (.one (.h 384 0 0 []))), (4, .c (.one (.v (.int .i64 vs4)))), (5, .c (.one (.v (.int .i64 (IntKind.wrap .i64 (vs5 + (1 : Int)))))))], [], [(384, .live ⟨(.i .u8), .deep, 0, [], (vr384 ++ ([(126 : Int), (48 : Int)] : List Int))⟩)]⟩)
              none)
            (cond ((((ByteArray.data (atI (t := .str) vs0 (Int.toNat vs4))).getD (Int.toNat vs5) 0).toNat : Int) == (47 : Int))
              (cond (Nat.ble (vr384.length + 2) LIM)
                (k' .normal ⟨[(0, .c (.one (.ro .str vs0))), (3, .c (.one (.h 384 0 0 []))), (4, .c (.one (.v (.int .i64 vs4)))), (5, .c (.one (.v (.int .i64 (IntKind.wrap .i64 (vs5 + (1 : Int)))))))], [], [(384, .live ⟨(.i .u8), .deep, 0, [], (vr384 ++ ([(126 : Int), (49 : Int)] : List Int))⟩)]⟩)
                none)
              (cond ((decide ((0 : Int) ≤ vs4)) && (decide (vs4 < (vs0.length : Int))))
                (cond ((decide ((0 : Int) ≤ vs5)) && (decide (vs5 < (ByteArray.size (atI (t := .str) vs0 (Int.toNat vs4)) : Int))))
                  (cond (Nat.ble (vr384.length + 1) LIM)
                    (k' .normal ⟨[(0, .c (.one (.ro .str vs0))), (3, .c (.one (.h 384 0 0 []))), (4, .c (.one (.v (.int .i64 vs4)))), (5, .c (.one (.v (.int .i64 (IntKind.wrap .i64 (vs5 + (1 : Int)))))))], [], [(384, .live ⟨(.i .u8), .deep, 0, [], (vr384 ++ ([(((ByteArray.data (atI (t := .str) vs0 (Int.toNat vs4))).getD (Int.toNat vs5) 0).toNat : Int)] : List Int))⟩)]⟩)
                    none)
                  none)
                none)))
          none)
        none)
      (k' (.exit 2) ⟨[(0, .c (.one (.ro .str vs0))), (3, .c (.one (.h 384 0 0 []))), (4, .c (.one (.v (.int .i64 vs4)))), (5, .c (.one (.v (.int .i64 vs5)))), (22, .c (.one (.v (.bool (decide (vs5 < (ByteArray.size (atI (t := .str) vs0 (Int.toNat vs4)) : Int)))))))], [], [(384, .live ⟨(.i .u8), .deep, 0, [], vr384⟩)]⟩))
    none) := by kernel_rfl
theorem f7L0_eq {R : Type} (n : Nat) (k' : Ex → St → Option R) (vs0 : List ByteArray) (vs4 : Int) : ∀ (m : Nat) (vs5 : Int) (vr384 : List Int), iter (fun st k => ev f7e f7k n (cAt [1,1,0,1,0,0,1,0,0,1,1,0,0] f7c) st k) m ⟨[(0, .c (.one (.ro .str vs0))), (3, .c (.one (.h 384 0 0 []))), (4, .c (.one (.v (.int .i64 vs4)))), (5, .c (.one (.v (.int .i64 vs5))))], [], [(384, .live ⟨(.i .u8), .deep, 0, [], vr384⟩)]⟩ k' = f7L0 n (fun (xvs5 : Int) (xvs22 : Bool) (xvr384 : List Int) => k' (.exit 2) ⟨[(0, .c (.one (.ro .str vs0))), (3, .c (.one (.h 384 0 0 []))), (4, .c (.one (.v (.int .i64 vs4)))), (5, .c (.one (.v (.int .i64 xvs5)))), (22, .c (.one (.v (.bool xvs22))))], [], [(384, .live ⟨(.i .u8), .deep, 0, [], xvr384⟩)]⟩) vs0 vs4 m vs5 vr384 := by
  intro m; induction m with
  | zero => intros; rfl
  | succ m ih =>
    intro vs5 vr384
    simp only [iter]
    rw [f7L0_b]
    simp only [ih, f7L0]

noncomputable def f7K0 {R : Type} (n : Nat) (k' : Ex → St → Option R) : Ex → St → Option R := (blockK 2 (blockK 1 (seqK f7e f7k n (cAt [1,1,0,1,0,0,1,1] f7c) k')))
theorem f7K0_x0 {R : Type} (n : Nat) (k' : Ex → St → Option R) (vs0 : List ByteArray) (vs4 : Int) (xvs5 : Int) (xvs22 : Bool) (xvr384 : List Int) : f7K0 n k' (.exit 2) ⟨[(0, .c (.one (.ro .str vs0))), (3, .c (.one (.h 384 0 0 []))), (4, .c (.one (.v (.int .i64 vs4)))), (5, .c (.one (.v (.int .i64 xvs5)))), (22, .c (.one (.v (.bool xvs22))))], [], [(384, .live ⟨(.i .u8), .deep, 0, [], xvr384⟩)]⟩ =
    (k' .normal ⟨[(0, .c (.one (.ro .str vs0))), (3, .c (.one (.h 384 0 0 []))), (4, .c (.one (.v (.int .i64 (IntKind.wrap .i64 (vs4 + (1 : Int)))))))], [], [(384, .live ⟨(.i .u8), .deep, 0, [], xvr384⟩)]⟩) := by kernel_rfl

noncomputable def f7L1 {R : Type} (n : Nat) (x0 : Int → Bool → (List Int) → Option R) (vs0 : List ByteArray) : Nat → Int → (List Int) → Option R
  | 0, _, _ => none
  | m + 1, vs4, vr384 =>
    (cond (decide (vs4 < (vs0.length : Int)))
      (cond (Nat.ble (vr384.length + 1) LIM)
        (f7L0 n (fun (xvs5 : Int) (xvs22 : Bool) (xvr384 : List Int) =>
          (f7L1 n x0 vs0 m (IntKind.wrap .i64 (vs4 + (1 : Int))) xvr384)) vs0 vs4 n (0 : Int) (vr384 ++ ([(47 : Int)] : List Int)))
        none)
      (x0 vs4 (decide (vs4 < (vs0.length : Int))) vr384))
theorem f7L1_b {R : Type} (n : Nat) (k' : Ex → St → Option R) (vs0 : List ByteArray) (vs4 : Int) (vr384 : List Int) : ev f7e f7k n (cAt [1,1,0,1,0,0] f7c) ⟨[(0, .c (.one (.ro .str vs0))), (3, .c (.one (.h 384 0 0 []))), (4, .c (.one (.v (.int .i64 vs4))))], [], [(384, .live ⟨(.i .u8), .deep, 0, [], vr384⟩)]⟩ k' =
    (cond (decide (vs4 < (vs0.length : Int)))
    (cond (Nat.ble (vr384.length + 1) LIM)
      (f7L0 n (fun (xvs5 : Int) (xvs22 : Bool) (xvr384 : List Int) =>
        (k' .normal ⟨[(0, .c (.one (.ro .str vs0))), (3, .c (.one (.h 384 0 0 []))), (4, .c (.one (.v (.int .i64 (IntKind.wrap .i64 (vs4 + (1 : Int)))))))], [], [(384, .live ⟨(.i .u8), .deep, 0, [], xvr384⟩)]⟩)) vs0 vs4 n (0 : Int) (vr384 ++ ([(47 : Int)] : List Int)))
      none)
    (k' (.exit 0) ⟨[(0, .c (.one (.ro .str vs0))), (3, .c (.one (.h 384 0 0 []))), (4, .c (.one (.v (.int .i64 vs4)))), (10, .c (.one (.v (.bool (decide (vs4 < (vs0.length : Int)))))))], [], [(384, .live ⟨(.i .u8), .deep, 0, [], vr384⟩)]⟩)) := by
  refine Eq.trans (b := (cond (decide (vs4 < (vs0.length : Int)))
    (cond (Nat.ble (vr384.length + 1) LIM)
      (iter (fun st k => ev f7e f7k n (cAt [1,1,0,1,0,0,1,0,0,1,1,0,0] f7c) st k) n ⟨[(0, .c (.one (.ro .str vs0))), (3, .c (.one (.h 384 0 0 []))), (4, .c (.one (.v (.int .i64 vs4)))), (5, .c (.one (.v (.int .i64 (0 : Int)))))], [], [(384, .live ⟨(.i .u8), .deep, 0, [], (vr384 ++ ([(47 : Int)] : List Int))⟩)]⟩ (f7K0 n k'))
      none)
    (k' (.exit 0) ⟨[(0, .c (.one (.ro .str vs0))), (3, .c (.one (.h 384 0 0 []))), (4, .c (.one (.v (.int .i64 vs4)))), (10, .c (.one (.v (.bool (decide (vs4 < (vs0.length : Int)))))))], [], [(384, .live ⟨(.i .u8), .deep, 0, [], vr384⟩)]⟩))) (by kernel_rfl) ?_
  simp only [f7L0_eq, f7K0_x0]
theorem f7L1_eq {R : Type} (n : Nat) (k' : Ex → St → Option R) (vs0 : List ByteArray) : ∀ (m : Nat) (vs4 : Int) (vr384 : List Int), iter (fun st k => ev f7e f7k n (cAt [1,1,0,1,0,0] f7c) st k) m ⟨[(0, .c (.one (.ro .str vs0))), (3, .c (.one (.h 384 0 0 []))), (4, .c (.one (.v (.int .i64 vs4))))], [], [(384, .live ⟨(.i .u8), .deep, 0, [], vr384⟩)]⟩ k' = f7L1 n (fun (xvs4 : Int) (xvs10 : Bool) (xvr384 : List Int) => k' (.exit 0) ⟨[(0, .c (.one (.ro .str vs0))), (3, .c (.one (.h 384 0 0 []))), (4, .c (.one (.v (.int .i64 xvs4)))), (10, .c (.one (.v (.bool xvs10))))], [], [(384, .live ⟨(.i .u8), .deep, 0, [], xvr384⟩)]⟩) vs0 m vs4 vr384 := by
  intro m; induction m with
  | zero => intros; rfl
  | succ m ih =>
    intro vs4 vr384
    simp only [iter]
    rw [f7L1_b]
    simp only [ih, f7L1]

noncomputable def f7K1 {R : Type} (n : Nat) (k' : Ex → St → Option R) : Ex → St → Option R := (blockK 0 (seqK f7e f7k n (cAt [1,1,1] f7c) k'))
theorem f7K1_x0 {R : Type} (n : Nat) (k : List Dt → Option R) (a0 : List ByteArray) (vs0 : List ByteArray) (xvs4 : Int) (xvs10 : Bool) (xvr384 : List Int) : f7K1 n (exitK f7e [.ro] [false] true [.tmp 2] [9] [.d (.sl .str) a0] k) (.exit 0) ⟨[(0, .c (.one (.ro .str vs0))), (3, .c (.one (.h 384 0 0 []))), (4, .c (.one (.v (.int .i64 xvs4)))), (10, .c (.one (.v (.bool xvs10))))], [], [(384, .live ⟨(.i .u8), .deep, 0, [], xvr384⟩)]⟩ =
    (k [.d .str (bytesOf xvr384)]) := by kernel_rfl

theorem f7_run {R : Type} (n : Nat) (k : List Dt → Option R) (a0 : List ByteArray) : evFn f7e f7k n f7c [.ro] [false] true [.tmp 2] [9] [.d (.sl .str) a0] k =
    (f7L1 n (fun (xvs4 : Int) (xvs10 : Bool) (xvr384 : List Int) =>
    (k [.d .str (bytesOf xvr384)])) a0 n (0 : Int) ([] : List Int)) := by
  refine Eq.trans (b := (iter (fun st k => ev f7e f7k n (cAt [1,1,0,1,0,0] f7c) st k) n ⟨[(0, .c (.one (.ro .str a0))), (3, .c (.one (.h 384 0 0 []))), (4, .c (.one (.v (.int .i64 (0 : Int)))))], [], [(384, .live ⟨(.i .u8), .deep, 0, [], ([] : List Int)⟩)]⟩ (f7K1 n (exitK f7e [.ro] [false] true [.tmp 2] [9] [.d (.sl .str) a0] k)))) (by kernel_rfl) ?_
  simp only [f7L1_eq, f7K1_x0]
theorem f7_spec (a0 : List ByteArray) (hg : gPtrT a0 = true) : ∃ keep rounds, ∀ {R : Type} (k : List Dt → Option R), evFn f7e keep rounds f7c [.ro] [false] true [.tmp 2] [9] [.d (.sl .str) a0] k = k [.d .str (ptrText a0)] := by
  have hl : szL ByteArray.size a0 ≤ 1048576 := bleN hg
  have hn := szL_ge ByteArray.size a0
  refine ⟨f7k, 1048577, fun {R} k => ?_⟩
  rw [f7_run]
  generalize hN : (1048577 : Nat) = N
  have inner : ∀ (i : Nat) (s : ByteArray), a0[i]? = some s → ∀ (X : Int → Bool → List Int → Option R) (Y : List Int → Option R), (∀ j b l, X j b l = Y l) → ∀ (d j m : Nat) (acc : List Int), j + d = s.size → d < m → acc.length + 2 * d ≤ 1000000000 →
      f7L0 N X a0 (i : Int) m (j : Int) acc = Y (acc ++ toI ((s.data.toList.drop j).flatMap escB)) := by
    intro i s hs X Y hX d
    obtain ⟨h1, h0, hw, ht⟩ := idx (lt_of_get hs) (by omega)
    have hss := sizes_at hs
    induction d with
    | zero =>
      intro j m acc hj hm ha
      obtain ⟨m, rfl⟩ : ∃ m', m = m' + 1 := ⟨m - 1, by omega⟩
      simp only [f7L0, h1, h0, ht, atI_of (t := .str) hs, Bool.and_self, cond_true, decide_eq_false (show ¬ ((j : Int) < (s.size : Int)) by omega), cond_false, hX]
      rw [List.drop_eq_nil_of_le (by have : s.data.toList.length = s.size := bszL _
                                     omega)]
      simp [toI]
    | succ d ih =>
      intro j m acc hj hm ha
      obtain ⟨m, rfl⟩ : ∃ m', m = m' + 1 := ⟨m - 1, by omega⟩
      have hjl : j < s.size := by omega
      obtain ⟨k1, k0, kw, kt⟩ := idx hjl (by omega)
      have hjs : j < s.data.toList.length := by
        have : s.data.toList.length = s.size := bszL _
        omega
      have hdrop : s.data.toList.drop j = s.data.toList[j] :: s.data.toList.drop (j + 1) := List.drop_eq_getElem_cons hjs
      have hget : s.data.getD j 0 = s.data.toList[j] := by
        have hja : j < s.data.size := hjl
        rw [Array.getD_eq_getD_getElem?, Array.getElem?_eq_getElem hja]
        simp
      rw [hdrop, List.flatMap_cons]
      generalize s.data.toList[j] = b at *
      have l1 := (Nat.ble_eq_true_of_le (by have : (LIM : Nat) = 4294967296 := rfl; omega) : Nat.ble (acc.length + 1) LIM = true)
      have l2 := (Nat.ble_eq_true_of_le (by have : (LIM : Nat) = 4294967296 := rfl; omega) : Nat.ble (acc.length + 2) LIM = true)
      have e1 := byteI b 126
      have e2 := byteI b 47
      have e1 : (((b.toNat : Int)) == (126 : Int)) = decide (b = 126) := e1
      have e2 : (((b.toNat : Int)) == (47 : Int)) = decide (b = 47) := e2
      simp only [f7L0, h1, h0, ht, atI_of (t := .str) hs, k1, k0, kt, kw, hget, e1, e2, l1, l2, Bool.and_self, cond_true]
      by_cases hb1 : b = 126
      · simp only [hb1, decide_true, cond_true]
        rw [ih (j + 1) m _ (by omega) (by omega) (by simp only [List.length_append, List.length_cons, List.length_nil]; omega), List.append_assoc]
        rfl
      · by_cases hb2 : b = 47
        · simp only [hb2, decide_true, cond_true, show decide ((47 : UInt8) = 126) = false from rfl, cond_false]
          rw [ih (j + 1) m _ (by omega) (by omega) (by simp only [List.length_append, List.length_cons, List.length_nil]; omega), List.append_assoc]
          rfl
        · simp only [hb1, hb2, decide_false, cond_false]
          rw [ih (j + 1) m _ (by omega) (by omega) (by simp only [List.length_append, List.length_cons, List.length_nil]; omega), List.append_assoc]
          simp only [escB, if_neg hb1, if_neg hb2]; rfl
  refine Eq.trans (loop_acc (xs := a0) (F := fun m j out => f7L1 N _ a0 m (j : Int) out) (f := fun out s => out ++ toI (stepB s)) (good := fun out => k [.d .str (bytesOf out)]) (fun j out => out.length + 2 * szL ByteArray.size (a0.drop j) ≤ 2097152)
    (fun j out x hx hi => ?_) (fun m j out x hx hi => ?_) (fun m out hi => by simp only [f7L1, idxE, cond_false]) a0.length 0 N [] (by omega) (by omega) (by simp only [List.drop_zero, List.length_nil]; omega)) ?_
  · have hd := szL_drop hx
    have h2 := esc_len x.data.toList
    have hxl : x.data.toList.length = x.size := bszL _
    have hi : out.length + 2 * szL ByteArray.size (a0.drop j) ≤ 2097152 := hi
    show (out ++ toI (stepB x)).length + 2 * szL ByteArray.size (a0.drop (j + 1)) ≤ 2097152
    rw [List.length_append, toI_len]
    simp only [stepB, List.length_cons]
    omega
  · obtain ⟨h1, h0, hw, ht⟩ := idx (lt_of_get hx) (by omega)
    have hs := sizes_at hx
    have hi : out.length + 2 * szL ByteArray.size (a0.drop j) ≤ 2097152 := hi
    have hd := szL_drop hx
    have hb : Nat.ble (out.length + 1) LIM = true := Nat.ble_eq_true_of_le (by have : (LIM : Nat) = 4294967296 := rfl; omega)
    simp only [f7L1, h1, hb, cond_true, hw]
    refine (inner j x hx _ (fun l => f7L1 N _ a0 m ((j + 1 : Nat) : Int) l) (fun _ _ _ => rfl) x.size 0 N _ (by omega) (by omega) (by simp only [List.length_append, List.length_cons, List.length_nil]; omega)).trans ?_
    rw [List.append_assoc]; rfl
  · rw [List.drop_zero]
    have key : ∀ (xs : List ByteArray) (l : List UInt8), xs.foldl (fun out s => out ++ toI (stepB s)) (toI l) = toI (l ++ xs.flatMap stepB) := by
      intro xs
      induction xs with
      | nil => intro l; simp
      | cons x r ih => intro l; rw [List.foldl_cons, show toI l ++ toI (stepB x) = toI (l ++ stepB x) by simp [toI], ih, List.flatMap_cons, List.append_assoc]
    have := key a0 []
    rw [show ([] : List Int) = toI [] from rfl, this, bytesOf_toI]; rfl

noncomputable def q7 : List Dt → Option (Bool × List Dt)
  | [.d (.sl .str) a0] => some ((gPtrT a0), [.d .str (ptrText a0)])
  | _ => none
noncomputable def s7 : Gm.Spec := Gm.Spec.of [.ro] [false] true q7
theorem good7 : Gm.Good Tryd.prog (7, s7) := by
  have hl : ∀ x ∈ ([] : List (Nat × Gm.Spec)), Gm.Good Tryd.prog x := fun _ h => by cases h
  refine ⟨⟨spec_ok (tab_ok.env hl) (tab.natl hl) Tryd.func7 (by kernel_rfl : Tryd.f7.body = some f7c) [9] (by kernel_rfl) ?_, _, Tryd.func7, by kernel_rfl, of_decide_eq_true (by kernel_rfl)⟩, Gm.Spec.of_natl _ _ _ _⟩
  intro ds outs h
  unfold q7 at h
  split at h
  · simp only [Option.some.injEq, Prod.mk.injEq] at h; obtain ⟨hg, h⟩ := h; cases h; exact f7_spec _ hg
  · cases h
/-! ### loop.example/g00465/impl.PtrText -/
noncomputable def f9c : Code := (Tryd.f9.body).getD .skip
def f9k : Nat → Kp := kat [⟨[0], [], [], []⟩, ⟨[0, 3], [], [], []⟩, ⟨[3, 6, 7, 8], [], [], []⟩, ⟨[3, 6, 7, 8, 9], [], [], []⟩, ⟨[3, 5, 6, 7, 8], [], [], []⟩, ⟨[3, 6, 7, 8], [], [], []⟩, ⟨[3, 6, 7, 8], [], [], []⟩, ⟨[2], [], [], []⟩]
noncomputable def f9e : Env := tab.env [(19, s19)]
noncomputable def f9L0 {R : Type} (n : Nat) (x0 : ByteArray → Int → Bool → Option R) (vs6 : List ByteArray) (vs7 : Int) : Nat → ByteArray → Int → Option R
  | 0, _, _ => none
  | m + 1, vs3, vs8 =>
    (cond (decide (vs8 < vs7))
      (cond ((decide ((0 : Int) ≤ vs8)) && (decide (vs8 < (vs6.length : Int))))
        (cond (gRepl (atI (t := .str) vs6 (Int.toNat vs8)) (bs [126]) (bs [126,48]))
          (cond (gRepl (replS (atI (t := .str) vs6 (Int.toNat vs8)) (bs [126]) (bs [126,48])) (bs [47]) (bs [126,49]))
            (cond (decide (ByteArray.size (bs [47]) + ByteArray.size (replS (replS (atI (t := .str) vs6 (Int.toNat vs8)) (bs [126]) (bs [126,48])) (bs [47]) (bs [126,49])) ≤ 9223372036854775807))
              (cond (decide (ByteArray.size vs3 + ByteArray.size ((bs [47]) ++ (replS (replS (atI (t := .str) vs6 (Int.toNat vs8)) (bs [126]) (bs [126,48])) (bs [47]) (bs [126,49]))) ≤ 9223372036854775807))
                (f9L0 n x0 vs6 vs7 m (vs3 ++ ((bs [47]) ++ (replS (replS (atI (t := .str) vs6 (Int.toNat vs8)) (bs [126]) (bs [126,48])) (bs [47]) (bs [126,49])))) (IntKind.wrap .i64 (vs8 + (1 : Int))))
                none)
              none)
            none)
          none)
        none)
      (x0 vs3 vs8 (decide (vs8 < vs7))))
theorem f9L0_b {R : Type} (n : Nat) (k' : Ex → St → Option R) (vs3 : ByteArray) (vs6 : List ByteArray) (vs7 : Int) (vs8 : Int) : ev f9e f9k n (cAt [1,1,0,1,0,0] f9c) ⟨[(3, .c (.one (.v (.string vs3)))), (6, .c (.one (.ro .str vs6))), (7, .c (.one (.v (.int .i64 vs7)))), (8, .c (.one (.v (.int .i64 vs8))))], [], []⟩ k' =
    (cond (decide (vs8 < vs7))
    (cond ((decide ((0 : Int) ≤ vs8)) && (decide (vs8 < (vs6.length : Int))))
      (cond (gRepl (atI (t := .str) vs6 (Int.toNat vs8)) (bs [126]) (bs [126,48]))
        (cond (gRepl (replS (atI (t := .str) vs6 (Int.toNat vs8)) (bs [126]) (bs [126,48])) (bs [47]) (bs [126,49]))
          (cond (decide (ByteArray.size (bs [47]) + ByteArray.size (replS (replS (atI (t := .str) vs6 (Int.toNat vs8)) (bs [126]) (bs [126,48])) (bs [47]) (bs [126,49])) ≤ 9223372036854775807))
            (cond (decide (ByteArray.size vs3 + ByteArray.size ((bs [47]) ++ (replS (replS (atI (t := .str) vs6 (Int.toNat vs8)) (bs [126]) (bs [126,48])) (bs [47]) (bs [126,49]))) ≤ 9223372036854775807))
              (k' .normal ⟨[(3, .c (.one (.v (.string (vs3 ++ ((bs [47]) ++ (replS (replS (atI (t := .str) vs6 (Int.toNat vs8)) (bs [126]) (bs [126,48])) (bs [47]) (bs [126,49])))))))), (6, .c (.one (.ro .str vs6))), (7, .c (.one (.v (.int .i64 vs7)))), (8, .c (.one (.v (.int .i64 (IntKind.wrap .i64 (vs8 + (1 : Int)))))))], [], []⟩)
              none)
            none)
          none)
        none)
      none)
    (k' (.exit 0) ⟨[(3, .c (.one (.v (.string vs3)))), (6, .c (.one (.ro .str vs6))), (7, .c (.one (.v (.int .i64 vs7)))), (8, .c (.one (.v (.int .i64 vs8)))), (9, .c (.one (.v (.bool (decide (vs8 < vs7))))))], [], []⟩)) := by kernel_rfl
theorem f9L0_eq {R : Type} (n : Nat) (k' : Ex → St → Option R) (vs6 : List ByteArray) (vs7 : Int) : ∀ (m : Nat) (vs3 : ByteArray) (vs8 : Int), iter (fun st k => ev f9e f9k n (cAt [1,1,0,1,0,0] f9c) st k) m ⟨[(3, .c (.one (.v (.string vs3)))), (6, .c (.one (.ro .str vs6))), (7, .c (.one (.v (.int .i64 vs7)))), (8, .c (.one (.v (.int .i64 vs8))))], [], []⟩ k' = f9L0 n (fun (xvs3 : ByteArray) (xvs8 : Int) (xvs9 : Bool) => k' (.exit 0) ⟨[(3, .c (.one (.v (.string xvs3)))), (6, .c (.one (.ro .str vs6))), (7, .c (.one (.v (.int .i64 vs7)))), (8, .c (.one (.v (.int .i64 xvs8)))), (9, .c (.one (.v (.bool xvs9))))], [], []⟩) vs6 vs7 m vs3 vs8 := by
  intro m; induction m with
  | zero => intros; rfl
  | succ m ih =>
    intro vs3 vs8
    simp only [iter]
    rw [f9L0_b]
    simp only [ih, f9L0]

noncomputable def f9K0 {R : Type} (n : Nat) (k' : Ex → St → Option R) : Ex → St → Option R := (blockK 0 (seqK f9e f9k n (cAt [1,1,1] f9c) k'))
theorem f9K0_x0 {R : Type} (n : Nat) (k : List Dt → Option R) (a0 : List ByteArray) (vs6 : List ByteArray) (vs7 : Int) (xvs3 : ByteArray) (xvs8 : Int) (xvs9 : Bool) : f9K0 n (exitK f9e [.ro] [false] true [.tmp 2] [9] [.d (.sl .str) a0] k) (.exit 0) ⟨[(3, .c (.one (.v (.string xvs3)))), (6, .c (.one (.ro .str vs6))), (7, .c (.one (.v (.int .i64 vs7)))), (8, .c (.one (.v (.int .i64 xvs8)))), (9, .c (.one (.v (.bool xvs9))))], [], []⟩ =
    (k [.d .str xvs3]) := by kernel_rfl

theorem f9_run {R : Type} (n : Nat) (k : List Dt → Option R) (a0 : List ByteArray) : evFn f9e f9k n f9c [.ro] [false] true [.tmp 2] [9] [.d (.sl .str) a0] k =
    (f9L0 n (fun (xvs3 : ByteArray) (xvs8 : Int) (xvs9 : Bool) =>
    (k [.d .str xvs3])) a0 (a0.length : Int) n ByteArray.empty (0 : Int)) := by
  refine Eq.trans (b := (iter (fun st k => ev f9e f9k n (cAt [1,1,0,1,0,0] f9c) st k) n ⟨[(3, .c (.one (.v (.string ByteArray.empty)))), (6, .c (.one (.ro .str a0))), (7, .c (.one (.v (.int .i64 (a0.length : Int))))), (8, .c (.one (.v (.int .i64 (0 : Int)))))], [], []⟩ (f9K0 n (exitK f9e [.ro] [false] true [.tmp 2] [9] [.d (.sl .str) a0] k)))) (by kernel_rfl) ?_
  simp only [f9L0_eq, f9K0_x0]
theorem f9_spec (a0 : List ByteArray) (hg : gPtrT a0 = true) : ∃ keep rounds, ∀ {R : Type} (k : List Dt → Option R), evFn f9e keep rounds f9c [.ro] [false] true [.tmp 2] [9] [.d (.sl .str) a0] k = k [.d .str (ptrText a0)] := by
  have hl : szL ByteArray.size a0 ≤ 1048576 := bleN hg
  have hn := szL_ge ByteArray.size a0
  refine ⟨f9k, a0.length + 1, fun {R} k => ?_⟩
  rw [f9_run]
  refine Eq.trans (loop_acc (xs := a0) (F := fun m j out => f9L0 (a0.length + 1) _ a0 (a0.length : Int) m out (j : Int)) (f := fun out s => out ++ mkB (stepB s)) (good := fun out => k [.d .str out]) (fun j out => out.size ≤ 3000000 * j)
    (fun j out x hx hi => ?_) (fun m j out x hx hi => ?_) (fun m out hi => by simp only [f9L0, idxE, cond_false]) a0.length 0 (a0.length + 1) ByteArray.empty (by omega) (by omega) (by simp)) ?_
  · have h1 := sizes_at hx
    have h2 := esc_len x.data.toList
    have hi : out.size ≤ 3000000 * j := hi
    show (out ++ mkB (stepB x)).size ≤ 3000000 * (j + 1)
    rw [ByteArray.size_append, mkB_size]
    simp only [stepB, List.length_cons]
    have : x.data.toList.length = x.size := bszL _
    rw [Nat.mul_add_one]; omega
  · obtain ⟨h1, h0, hw, ht⟩ := idx (lt_of_get hx) (by omega)
    have hj := lt_of_get hx
    have hs := sizes_at hx
    have hi : out.size ≤ 3000000 * j := hi
    have hr1 : gRepl x (bs [126]) (bs [126,48]) = true := by
      unfold gRepl; rw [Nat.ble_eq_true_of_le (by omega : x.size ≤ 2147483648)]; rfl
    have hsz := rep126_len x.data.toList
    have hxl : x.data.toList.length = x.size := bszL _
    have hr2 : gRepl (replS x (bs [126]) (bs [126,48])) (bs [47]) (bs [126,49]) = true := by
      unfold gRepl; rw [replS_1, mkB_size, Nat.ble_eq_true_of_le (by omega)]; rfl
    have he := esc_len x.data.toList
    have e : bs [47] ++ mkB (x.data.toList.flatMap escB) = mkB (stepB x) := by
      rw [show bs [47] = mkB [47] from rfl, mkB_app]; rfl
    have hz1 : decide (ByteArray.size (bs [47]) + ByteArray.size (mkB (x.data.toList.flatMap escB)) ≤ 9223372036854775807) = true := decide_eq_true (by rw [mkB_size, show (bs [47]).size = 1 from rfl]; omega)
    have hz2 : decide (ByteArray.size out + ByteArray.size (mkB (stepB x)) ≤ 9223372036854775807) = true := decide_eq_true (by rw [mkB_size]; simp only [stepB, List.length_cons]; omega)
    simp only [f9L0, h1, h0, hw, ht, atI_of (t := .str) hx, hr1, hr2, replS_2, hz1, e, hz2, Bool.and_self, cond_true]
  · rw [List.drop_zero]
    have key : ∀ (xs : List ByteArray) (l : List UInt8), xs.foldl (fun out s => out ++ mkB (stepB s)) (mkB l) = mkB (l ++ xs.flatMap stepB) := by
      intro xs
      induction xs with
      | nil => intro l; simp
      | cons x r ih => intro l; rw [List.foldl_cons, mkB_app, ih, List.flatMap_cons, List.append_assoc]
    have := key a0 []
    rw [show ByteArray.empty = mkB [] from rfl, this]; rfl

noncomputable def q9 : List Dt → Option (Bool × List Dt)
  | [.d (.sl .str) a0] => some ((gPtrT a0), [.d .str (ptrText a0)])
  | _ => none
noncomputable def s9 : Gm.Spec := Gm.Spec.of [.ro] [false] true q9
theorem good9 : Gm.Good Tryd.prog (9, s9) := by
  have hl : ∀ x ∈ [(19, s19)], Gm.Good Tryd.prog x := List.forall_mem_cons.2 ⟨good19, List.forall_mem_nil _⟩
  refine ⟨⟨spec_ok (tab_ok.env hl) (tab.natl hl) Tryd.func9 (by kernel_rfl : Tryd.f9.body = some f9c) [9] (by kernel_rfl) ?_, _, Tryd.func9, by kernel_rfl, of_decide_eq_true (by kernel_rfl)⟩, Gm.Spec.of_natl _ _ _ _⟩
  intro ds outs h
  unfold q9 at h
  split at h
  · simp only [Option.some.injEq, Prod.mk.injEq] at h; obtain ⟨hg, h⟩ := h; cases h; exact f9_spec _ hg
  · cases h
end Go.Proofs.YtinbejnakemfjaaDoor

/- x -/
namespace Go.Proofs.YtinbejnakemfjaaDoor
open Go Go.Gm
/-! ### loop.example/g00465/laws.szStringS -/
noncomputable def f6c : Code := (Tryd.f6.body).getD .skip
def f6k : Nat → Kp := kat [⟨[0, 1], [], [], []⟩, ⟨[0, 1], [], [], []⟩, ⟨[0, 1, 11], [], [], []⟩, ⟨[4], [], [], []⟩, ⟨[0, 1, 5], [], [], []⟩, ⟨[0, 1, 5, 15], [], [], []⟩, ⟨[0, 1, 5], [], [], []⟩, ⟨[0, 1, 5], [], [], []⟩, ⟨[0, 1, 5, 26], [], [], []⟩, ⟨[4], [], [], []⟩, ⟨[4], [], [], []⟩]
noncomputable def f6e : Env := tab.env []
noncomputable def f6L0 {R : Type} (n : Nat) (x0 : Option R) (x1 : Int → Int → Bool → Option R) (vs0 : List ByteArray) : Nat → Int → Int → Option R
  | 0, _, _ => none
  | m + 1, vs1, vs5 =>
    (cond (decide (vs5 < (vs0.length : Int)))
      (cond ((decide ((0 : Int) ≤ vs5)) && (decide (vs5 < (vs0.length : Int))))
        (cond (decide ((IntKind.wrap .i64 (vs1 - (ByteArray.size (atI (t := .str) vs0 (Int.toNat vs5)) : Int))) < (0 : Int)))
          (x0)
          (f6L0 n x0 x1 vs0 m (IntKind.wrap .i64 (vs1 - (ByteArray.size (atI (t := .str) vs0 (Int.toNat vs5)) : Int))) (IntKind.wrap .i64 (vs5 + (1 : Int)))))
        none)
      (x1 vs1 vs5 (decide (vs5 < (vs0.length : Int)))))
theorem f6L0_b {R : Type} (n : Nat) (k' : Ex → St → Option R) (vs0 : List ByteArray) (vs1 : Int) (vs5 : Int) : ev f6e f6k n (cAt [1,1,1,0,1,0,0] f6c) ⟨[(0, .c (.one (.ro .str vs0))), (1, .c (.one (.v (.int .i64 vs1)))), (5, .c (.one (.v (.int .i64 vs5))))], [], []⟩ k' =
    (cond (decide (vs5 < (vs0.length : Int)))
    (cond ((decide ((0 : Int) ≤ vs5)) && (decide (vs5 < (vs0.length : Int))))
      (cond (decide ((IntKind.wrap .i64 (vs1 - (ByteArray.size (atI (t := .str) vs0 (Int.toNat vs5)) : Int))) < (0 : Int)))
        (k' .ret ⟨[(4, .c (.one (.v (.int .i64 (-1 : Int)))))], [], []⟩)
        (k' .normal ⟨[(0, .c (.one (.ro .str vs0))), (1, .c (.one (.v (.int .i64 (IntKind.wrap .i64 (vs1 - (ByteArray.size (atI (t := .str) vs0 (Int.toNat vs5)) : Int))))))), (5, .c (.one (.v (.int .i64 (IntKind.wrap .i64 (vs5 + (1 : Int)))))))], [], []⟩))
      none)
    (k' (.exit 0) ⟨[(0, .c (.one (.ro .str vs0))), (1, .c (.one (.v (.int .i64 vs1)))), (5, .c (.one (.v (.int .i64 vs5)))), (15, .c (.one (.v (.bool (decide (vs5 < (vs0.length : Int)))))))], [], []⟩)) := by kernel_rfl
theorem f6L0_eq {R : Type} (n : Nat) (k' : Ex → St → Option R) (vs0 : List ByteArray) : ∀ (m : Nat) (vs1 : Int) (vs5 : Int), iter (fun st k => ev f6e f6k n (cAt [1,1,1,0,1,0,0] f6c) st k) m ⟨[(0, .c (.one (.ro .str vs0))), (1, .c (.one (.v (.int .i64 vs1)))), (5, .c (.one (.v (.int .i64 vs5))))], [], []⟩ k' = f6L0 n (k' .ret ⟨[(4, .c (.one (.v (.int .i64 (-1 : Int)))))], [], []⟩) (fun (xvs1 : Int) (xvs5 : Int) (xvs15 : Bool) => k' (.exit 0) ⟨[(0, .c (.one (.ro .str vs0))), (1, .c (.one (.v (.int .i64 xvs1)))), (5, .c (.one (.v (.int .i64 xvs5)))), (15, .c (.one (.v (.bool xvs15))))], [], []⟩) vs0 m vs1 vs5 := by
  intro m; induction m with
  | zero => intros; rfl
  | succ m ih =>
    intro vs1 vs5
    simp only [iter]
    rw [f6L0_b]
    simp only [ih, f6L0]

noncomputable def f6K0 {R : Type} (n : Nat) (k' : Ex → St → Option R) : Ex → St → Option R := (blockK 0 (seqK f6e f6k n (cAt [1,1,1,1] f6c) k'))
theorem f6K0_x0 {R : Type} (n : Nat) (k : List Dt → Option R) (a0 : List ByteArray) (a1 : Int)  : f6K0 n (exitK f6e [.ro, .ro] [false] true [.tmp 4] [3] [.d (.sl .str) a0, .d (.i .i64) a1] k) .ret ⟨[(4, .c (.one (.v (.int .i64 (-1 : Int)))))], [], []⟩ =
    (k [.d (.i .i64) (-1 : Int)]) := by kernel_rfl
theorem f6K0_x1 {R : Type} (n : Nat) (k : List Dt → Option R) (a0 : List ByteArray) (a1 : Int) (vs0 : List ByteArray) (xvs1 : Int) (xvs5 : Int) (xvs15 : Bool) : f6K0 n (exitK f6e [.ro, .ro] [false] true [.tmp 4] [3] [.d (.sl .str) a0, .d (.i .i64) a1] k) (.exit 0) ⟨[(0, .c (.one (.ro .str vs0))), (1, .c (.one (.v (.int .i64 xvs1)))), (5, .c (.one (.v (.int .i64 xvs5)))), (15, .c (.one (.v (.bool xvs15))))], [], []⟩ =
    (k [.d (.i .i64) xvs1]) := by kernel_rfl

theorem f6_run {R : Type} (n : Nat) (k : List Dt → Option R) (a0 : List ByteArray) (a1 : Int) : evFn f6e f6k n f6c [.ro, .ro] [false] true [.tmp 4] [3] [.d (.sl .str) a0, .d (.i .i64) a1] k =
    (cond (decide ((IntKind.wrap .i64 (a1 - (a0.length : Int))) < (0 : Int)))
    (k [.d (.i .i64) (-1 : Int)])
    (f6L0 n (k [.d (.i .i64) (-1 : Int)]) (fun (xvs1 : Int) (xvs5 : Int) (xvs15 : Bool) =>
      (k [.d (.i .i64) xvs1])) a0 n (IntKind.wrap .i64 (a1 - (a0.length : Int))) (0 : Int))) := by
  refine Eq.trans (b := (cond (decide ((IntKind.wrap .i64 (a1 - (a0.length : Int))) < (0 : Int)))
    (k [.d (.i .i64) (-1 : Int)])
    (iter (fun st k => ev f6e f6k n (cAt [1,1,1,0,1,0,0] f6c) st k) n ⟨[(0, .c (.one (.ro .str a0))), (1, .c (.one (.v (.int .i64 (IntKind.wrap .i64 (a1 - (a0.length : Int))))))), (5, .c (.one (.v (.int .i64 (0 : Int)))))], [], []⟩ (f6K0 n (exitK f6e [.ro, .ro] [false] true [.tmp 4] [3] [.d (.sl .str) a0, .d (.i .i64) a1] k))))) (by kernel_rfl) ?_
  simp only [f6L0_eq, f6K0_x0, f6K0_x1]
theorem f6_spec (a0 : List ByteArray) (a1 : Int) (hg : gzL_str a0 a1 = true) : ∃ keep rounds, ∀ {R : Type} (k : List Dt → Option R), evFn f6e keep rounds f6c [.ro, .ro] [false] true [.tmp 4] [3] [.d (.sl .str) a0, .d (.i .i64) a1] k = k [.d (.i .i64) (zL_str a0 a1)] := by
  simp only [gzL_str, okL, Bool.and_eq_true, okN_iff] at hg
  obtain ⟨⟨hl, hs⟩, hn⟩ := hg
  have hl : a0.length ≤ 9223372036854775807 := bleN hl
  refine ⟨f6k, a0.length + 1, fun k => ?_⟩
  rw [f6_run, wrap_id (x := a1 - (a0.length : Int)) (by omega) (by omega)]
  show _ = k [.d (.i .i64) (zL_str a0 a1)]
  unfold zL_str
  have eL : szL ByteArray.size a0 = a0.length + (a0.map ByteArray.size).sum := rfl
  by_cases hc : a1 - (a0.length : Int) < 0
  · simp only [hc, decide_true, cond_true]
    rw [szI_neg (by omega)]
  · simp only [hc, decide_false, cond_false]
    refine Eq.trans (loop_fold (xs := a0) (F := fun m j left => f6L0 (a0.length + 1) _ _ a0 m left (j : Int)) (step := szStep ByteArray.size)
      (out := fun _ => k [.d (.i .i64) (-1 : Int)]) (good := fun left => k [.d (.i .i64) left]) (fun n => 0 ≤ n ∧ n ≤ 1048576)
      (fun x n n' hx hn h => by
        unfold szStep at h
        split at h
        · cases h
        · cases h; omega)
      (fun m j n x hx hn => ?_)
      (fun m n hn => by simp only [f6L0, idxE, cond_false]) a0.length 0 (a0.length + 1) (a1 - (a0.length : Int)) (by omega) (by omega) (by omega)) ?_
    · obtain ⟨h1, h0, hw, ht⟩ := idx (lt_of_get hx) (by omega)
      have hx2 := List.all_eq_true.1 hs x (List.mem_of_getElem? hx)
      have hx2 : x.size ≤ 9223372036854775807 := bleN hx2
      simp only [f6L0, h1, h0, hw, ht, atI_of (t := .str) hx, Bool.and_self, cond_true]
      rw [wrap_id (x := n - (x.size : Int)) (by omega) (by omega)]
      unfold szStep
      by_cases h : n - (x.size : Int) < 0
      · simp only [h, decide_true, cond_true, if_true, Sum.elim_inl]
      · simp only [h, decide_false, cond_false, if_false, Sum.elim_inr]
    · rw [List.drop_zero, sz_fold _ _ _ (by omega)]
      by_cases h2 : a1 - (a0.length : Int) - ((a0.map ByteArray.size).sum : Nat) < 0
      · rw [if_pos h2, szI_neg (by omega)]; rfl
      · rw [if_neg h2, szI_pos (by omega)]
        simp only [Sum.elim_inr]
        rw [show a1 - (a0.length : Int) - ((a0.map ByteArray.size).sum : Nat) = a1 - (szL ByteArray.size a0 : Nat) by omega]

noncomputable def q6 : List Dt → Option (Bool × List Dt)
  | [.d (.sl .str) a0, .d (.i .i64) a1] => some ((gzL_str a0 a1), [.d (.i .i64) (zL_str a0 a1)])
  | _ => none
noncomputable def s6 : Gm.Spec := Gm.Spec.of [.ro, .ro] [false] true q6
theorem good6 : Gm.Good Tryd.prog (6, s6) := by
  have hl : ∀ x ∈ ([] : List (Nat × Gm.Spec)), Gm.Good Tryd.prog x := fun _ h => by cases h
  refine ⟨⟨spec_ok (tab_ok.env hl) (tab.natl hl) Tryd.func6 (by kernel_rfl : Tryd.f6.body = some f6c) [3] (by kernel_rfl) ?_, _, Tryd.func6, by kernel_rfl, of_decide_eq_true (by kernel_rfl)⟩, Gm.Spec.of_natl _ _ _ _⟩
  intro ds outs h
  unfold q6 at h
  split at h
  · simp only [Option.some.injEq, Prod.mk.injEq] at h; obtain ⟨hg, h⟩ := h; cases h; exact f6_spec _ _ hg
  · cases h
/-! ### loop.example/g00465/laws.toStringS -/
noncomputable def f8c : Code := (Tryd.f8.body).getD .skip
def f8k : Nat → Kp := kat [⟨[0], [], [], []⟩, ⟨[0, 3], [], [], []⟩, ⟨[0, 3, 4], [], [], []⟩, ⟨[0, 3, 4, 11], [], [], []⟩, ⟨[0, 3, 4], [], [], []⟩, ⟨[0, 3, 4], [], [], []⟩, ⟨[2], [], [], []⟩]
noncomputable def f8e : Env := tab.env []
noncomputable def f8L0 {R : Type} (n : Nat) (x0 : Int → Bool → (List ByteArray) → Option R) (vs0 : List ByteArray) : Nat → Int → (List ByteArray) → Option R
  | 0, _, _ => none
  | m + 1, vs4, vr448 =>
    (cond (decide (vs4 < (vs0.length : Int)))
      (cond ((decide ((0 : Int) ≤ vs4)) && (decide (vs4 < (vs0.length : Int))))
        (cond ((decide ((0 : Int) ≤ vs4)) && (decide (vs4 < (vr448.length : Int))))
          (f8L0 n x0 vs0 m (IntKind.wrap .i64 (vs4 + (1 : Int))) (vr448.set (Int.toNat vs4) (atI (t := .str) vs0 (Int.toNat vs4))))
          none)
        none)
      (x0 vs4 (decide (vs4 < (vs0.length : Int))) vr448))
theorem f8L0_b {R : Type} (n : Nat) (k' : Ex → St → Option R) (vs0 : List ByteArray) (vs4 : Int) (vr448 : List ByteArray) : ev f8e f8k n (cAt [1,1,0,1,0,0] f8c) ⟨[(0, .c (.one (.ro .str vs0))), (3, .c (.one (.h 448 0 0 []))), (4, .c (.one (.v (.int .i64 vs4))))], [], [(448, .live ⟨.str, .deep, 0, [], vr448⟩)]⟩ k' =
    (cond (decide (vs4 < (vs0.length : Int)))
    (cond ((decide ((0 : Int) ≤ vs4)) && (decide (vs4 < (vs0.length : Int))))
      (cond ((decide ((0 : Int) ≤ vs4)) && (decide (vs4 < (vr448.length : Int))))
        (k' .normal ⟨[(0, .c (.one (.ro .str vs0))), (3, .c (.one (.h 448 0 0 []))), (4, .c (.one (.v (.int .i64 (IntKind.wrap .i64 (vs4 + (1 : Int)))))))], [], [(448, .live ⟨.str, .deep, 0, [], (vr448.set (Int.toNat vs4) (atI (t := .str) vs0 (Int.toNat vs4)))⟩)]⟩)
        none)
      none)
    (k' (.exit 0) ⟨[(0, .c (.one (.ro .str vs0))), (3, .c (.one (.h 448 0 0 []))), (4, .c (.one (.v (.int .i64 vs4)))), (11, .c (.one (.v (.bool (decide (vs4 < (vs0.length : Int)))))))], [], [(448, .live ⟨.str, .deep, 0, [], vr448⟩)]⟩)) := by kernel_rfl
theorem f8L0_eq {R : Type} (n : Nat) (k' : Ex → St → Option R) (vs0 : List ByteArray) : ∀ (m : Nat) (vs4 : Int) (vr448 : List ByteArray), iter (fun st k => ev f8e f8k n (cAt [1,1,0,1,0,0] f8c) st k) m ⟨[(0, .c (.one (.ro .str vs0))), (3, .c (.one (.h 448 0 0 []))), (4, .c (.one (.v (.int .i64 vs4))))], [], [(448, .live ⟨.str, .deep, 0, [], vr448⟩)]⟩ k' = f8L0 n (fun (xvs4 : Int) (xvs11 : Bool) (xvr448 : List ByteArray) => k' (.exit 0) ⟨[(0, .c (.one (.ro .str vs0))), (3, .c (.one (.h 448 0 0 []))), (4, .c (.one (.v (.int .i64 xvs4)))), (11, .c (.one (.v (.bool xvs11))))], [], [(448, .live ⟨.str, .deep, 0, [], xvr448⟩)]⟩) vs0 m vs4 vr448 := by
  intro m; induction m with
  | zero => intros; rfl
  | succ m ih =>
    intro vs4 vr448
    simp only [iter]
    rw [f8L0_b]
    simp only [ih, f8L0]

noncomputable def f8K0 {R : Type} (n : Nat) (k' : Ex → St → Option R) : Ex → St → Option R := (blockK 0 (seqK f8e f8k n (cAt [1,1,1] f8c) k'))
theorem f8K0_x0 {R : Type} (n : Nat) (k : List Dt → Option R) (a0 : List ByteArray) (vs0 : List ByteArray) (xvs4 : Int) (xvs11 : Bool) (xvr448 : List ByteArray) : f8K0 n (exitK f8e [.ro] [false] true [.tmp 2] [22] [.d (.sl .str) a0] k) (.exit 0) ⟨[(0, .c (.one (.ro .str vs0))), (3, .c (.one (.h 448 0 0 []))), (4, .c (.one (.v (.int .i64 xvs4)))), (11, .c (.one (.v (.bool xvs11))))], [], [(448, .live ⟨.str, .deep, 0, [], xvr448⟩)]⟩ =
    (k [.d (.sl .str) xvr448]) := by kernel_rfl

theorem f8_run {R : Type} (n : Nat) (k : List Dt → Option R) (a0 : List ByteArray) : evFn f8e f8k n f8c [.ro] [false] true [.tmp 2] [22] [.d (.sl .str) a0] k =
    (cond ((decide ((a0.length : Int) = (a0.length : Int))) && ((decide ((0 : Int) ≤ (a0.length : Int))) && (decide ((a0.length : Int) ≤ (LIM : Int)))))
    (f8L0 n (fun (xvs4 : Int) (xvs11 : Bool) (xvr448 : List ByteArray) =>
      (k [.d (.sl .str) xvr448])) a0 n (0 : Int) (List.replicate (Int.toNat (a0.length : Int)) ByteArray.empty))
    none) := by
  refine Eq.trans (b := (cond ((decide ((a0.length : Int) = (a0.length : Int))) && ((decide ((0 : Int) ≤ (a0.length : Int))) && (decide ((a0.length : Int) ≤ (LIM : Int)))))
    (iter (fun st k => ev f8e f8k n (cAt [1,1,0,1,0,0] f8c) st k) n ⟨[(0, .c (.one (.ro .str a0))), (3, .c (.one (.h 448 0 0 []))), (4, .c (.one (.v (.int .i64 (0 : Int)))))], [], [(448, .live ⟨.str, .deep, 0, [], (List.replicate (Int.toNat (a0.length : Int)) ByteArray.empty)⟩)]⟩ (f8K0 n (exitK f8e [.ro] [false] true [.tmp 2] [22] [.d (.sl .str) a0] k)))
    none)) (by kernel_rfl) ?_
  simp only [f8L0_eq, f8K0_x0]
theorem f8_spec (a0 : List ByteArray) (hg : smL smStr a0 = true) : ∃ keep rounds, ∀ {R : Type} (k : List Dt → Option R), evFn f8e keep rounds f8c [.ro] [false] true [.tmp 2] [22] [.d (.sl .str) a0] k = k [.d (.sl .str) a0] := by
  have hl : a0.length ≤ 1048576 := smL_len hg
  have hs := smL_all hg
  refine ⟨f8k, a0.length + 1, fun k => ?_⟩
  rw [f8_run, mkOk hl]
  simp only [cond_true]
  have := loop_copy (xs := a0) (f := fun x => x) (F := fun m j out => f8L0 (a0.length + 1) (fun (xvs4 : Int) (xvs11 : Bool) (xvr448 : List ByteArray) => (k [.d (.sl .str) xvr448])) a0 m (j : Int) out) (good := fun out => k [.d (.sl .str) out]) ByteArray.empty
    (fun m j out x hx hl' => by
      obtain ⟨h1, h0, hw, ht⟩ := idx (lt_of_get hx) (by omega)
      obtain ⟨h2, _, _, _⟩ := idx (show j < out.length by rw [hl']; exact lt_of_get hx) (by omega)
      have hx2 := List.all_eq_true.1 hs x (List.mem_of_getElem? hx)
      simp only [f8L0, h1, h0, h2, hw, ht, atI_of (t := .str) hx, Bool.and_self, cond_true])
    (fun m out => by simp only [f8L0, idxE, cond_false]) a0.length 0 (a0.length + 1) (by omega) (by omega)
  simpa using this

noncomputable def q8 : List Dt → Option (Bool × List Dt)
  | [.d (.sl .str) a0] => some ((smL smStr a0), [.d (.sl .str) a0])
  | _ => none
noncomputable def s8 : Gm.Spec := Gm.Spec.of [.ro] [false] true q8
theorem good8 : Gm.Good Tryd.prog (8, s8) := by
  have hl : ∀ x ∈ ([] : List (Nat × Gm.Spec)), Gm.Good Tryd.prog x := fun _ h => by cases h
  refine ⟨⟨spec_ok (tab_ok.env hl) (tab.natl hl) Tryd.func8 (by kernel_rfl : Tryd.f8.body = some f8c) [22] (by kernel_rfl) ?_, _, Tryd.func8, by kernel_rfl, of_decide_eq_true (by kernel_rfl)⟩, Gm.Spec.of_natl _ _ _ _⟩
  intro ds outs h
  unfold q8 at h
  split at h
  · simp only [Option.some.injEq, Prod.mk.injEq] at h; obtain ⟨hg, h⟩ := h; cases h; exact f8_spec _ hg
  · cases h
/-! ### loop.example/g00465/laws.eqStringS -/
noncomputable def f10c : Code := (Tryd.f10.body).getD .skip
def f10k : Nat → Kp := kat [⟨[0, 1], [], [], []⟩, ⟨[0, 1, 10], [], [], []⟩, ⟨[4], [], [], []⟩, ⟨[0, 1, 5], [], [], []⟩, ⟨[0, 1, 5, 14], [], [], []⟩, ⟨[0, 1, 5], [], [], []⟩, ⟨[0, 1, 5, 25], [], [], []⟩, ⟨[4], [], [], []⟩, ⟨[4], [], [], []⟩]
noncomputable def f10e : Env := tab.env []
noncomputable def f10L0 {R : Type} (n : Nat) (x0 : Option R) (x1 : Int → Bool → Option R) (vs0 : List ByteArray) (vs1 : List ByteArray) : Nat → Int → Option R
  | 0, _ => none
  | m + 1, vs5 =>
    (cond (decide (vs5 < (vs0.length : Int)))
      (cond ((decide ((0 : Int) ≤ vs5)) && (decide (vs5 < (vs0.length : Int))))
        (cond ((decide ((0 : Int) ≤ vs5)) && (decide (vs5 < (vs1.length : Int))))
          (cond (!(sEq (atI (t := .str) vs0 (Int.toNat vs5)) (atI (t := .str) vs1 (Int.toNat vs5))))
            (x0)
            (f10L0 n x0 x1 vs0 vs1 m (IntKind.wrap .i64 (vs5 + (1 : Int)))))
          none)
        none)
      (x1 vs5 (decide (vs5 < (vs0.length : Int)))))
theorem f10L0_b {R : Type} (n : Nat) (k' : Ex → St → Option R) (vs0 : List ByteArray) (vs1 : List ByteArray) (vs5 : Int) : ev f10e f10k n (cAt [1,1,0,1,0,0] f10c) ⟨[(0, .c (.one (.ro .str vs0))), (1, .c (.one (.ro .str vs1))), (5, .c (.one (.v (.int .i64 vs5))))], [], []⟩ k' =
    (cond (decide (vs5 < (vs0.length : Int)))
    (cond ((decide ((0 : Int) ≤ vs5)) && (decide (vs5 < (vs0.length : Int))))
      (cond ((decide ((0 : Int) ≤ vs5)) && (decide (vs5 < (vs1.length : Int))))
        (cond (!(sEq (atI (t := .str) vs0 (Int.toNat vs5)) (atI (t := .str) vs1 (Int.toNat vs5))))
          (k' .ret ⟨[(4, .c (.one (.v (.bool false))))], [], []⟩)
          (k' .normal ⟨[(0, .c (.one (.ro .str vs0))), (1, .c (.one (.ro .str vs1))), (5, .c (.one (.v (.int .i64 (IntKind.wrap .i64 (vs5 + (1 : Int)))))))], [], []⟩))
        none)
      none)
    (k' (.exit 0) ⟨[(0, .c (.one (.ro .str vs0))), (1, .c (.one (.ro .str vs1))), (5, .c (.one (.v (.int .i64 vs5)))), (14, .c (.one (.v (.bool (decide (vs5 < (vs0.length : Int)))))))], [], []⟩)) := by kernel_rfl
theorem f10L0_eq {R : Type} (n : Nat) (k' : Ex → St → Option R) (vs0 : List ByteArray) (vs1 : List ByteArray) : ∀ (m : Nat) (vs5 : Int), iter (fun st k => ev f10e f10k n (cAt [1,1,0,1,0,0] f10c) st k) m ⟨[(0, .c (.one (.ro .str vs0))), (1, .c (.one (.ro .str vs1))), (5, .c (.one (.v (.int .i64 vs5))))], [], []⟩ k' = f10L0 n (k' .ret ⟨[(4, .c (.one (.v (.bool false))))], [], []⟩) (fun (xvs5 : Int) (xvs14 : Bool) => k' (.exit 0) ⟨[(0, .c (.one (.ro .str vs0))), (1, .c (.one (.ro .str vs1))), (5, .c (.one (.v (.int .i64 xvs5)))), (14, .c (.one (.v (.bool xvs14))))], [], []⟩) vs0 vs1 m vs5 := by
  intro m; induction m with
  | zero => intros; rfl
  | succ m ih =>
    intro vs5
    simp only [iter]
    rw [f10L0_b]
    simp only [ih, f10L0]

noncomputable def f10K0 {R : Type} (n : Nat) (k' : Ex → St → Option R) : Ex → St → Option R := (blockK 0 (seqK f10e f10k n (cAt [1,1,1] f10c) k'))
theorem f10K0_x0 {R : Type} (n : Nat) (k : List Dt → Option R) (a0 : List ByteArray) (a1 : List ByteArray)  : f10K0 n (exitK f10e [.ro, .ro] [false] true [.tmp 4] [4] [.d (.sl .str) a0, .d (.sl .str) a1] k) .ret ⟨[(4, .c (.one (.v (.bool false))))], [], []⟩ =
    (k [.d .bool false]) := by kernel_rfl
theorem f10K0_x1 {R : Type} (n : Nat) (k : List Dt → Option R) (a0 : List ByteArray) (a1 : List ByteArray) (vs0 : List ByteArray) (vs1 : List ByteArray) (xvs5 : Int) (xvs14 : Bool) : f10K0 n (exitK f10e [.ro, .ro] [false] true [.tmp 4] [4] [.d (.sl .str) a0, .d (.sl .str) a1] k) (.exit 0) ⟨[(0, .c (.one (.ro .str vs0))), (1, .c (.one (.ro .str vs1))), (5, .c (.one (.v (.int .i64 xvs5)))), (14, .c (.one (.v (.bool xvs14))))], [], []⟩ =
    (k [.d .bool true]) := by kernel_rfl

theorem f10_run {R : Type} (n : Nat) (k : List Dt → Option R) (a0 : List ByteArray) (a1 : List ByteArray) : evFn f10e f10k n f10c [.ro, .ro] [false] true [.tmp 4] [4] [.d (.sl .str) a0, .d (.sl .str) a1] k =
    (cond ((a0.length : Int) != (a1.length : Int))
    (k [.d .bool false])
    (f10L0 n (k [.d .bool false]) (fun (xvs5 : Int) (xvs14 : Bool) =>
      (k [.d .bool true])) a0 a1 n (0 : Int))) := by
  refine Eq.trans (b := (cond ((a0.length : Int) != (a1.length : Int))
    (k [.d .bool false])
    (iter (fun st k => ev f10e f10k n (cAt [1,1,0,1,0,0] f10c) st k) n ⟨[(0, .c (.one (.ro .str a0))), (1, .c (.one (.ro .str a1))), (5, .c (.one (.v (.int .i64 (0 : Int)))))], [], []⟩ (f10K0 n (exitK f10e [.ro, .ro] [false] true [.tmp 4] [4] [.d (.sl .str) a0, .d (.sl .str) a1] k))))) (by kernel_rfl) ?_
  simp only [f10L0_eq, f10K0_x0, f10K0_x1]
theorem f10_spec (a0 : List ByteArray) (a1 : List ByteArray) (hg : sm2 (smL smStr) a0 a1 = true) : ∃ keep rounds, ∀ {R : Type} (k : List Dt → Option R), evFn f10e keep rounds f10c [.ro, .ro] [false] true [.tmp 4] [4] [.d (.sl .str) a0, .d (.sl .str) a1] k = k [.d .bool (eqD a0 a1)] := by
  simp only [sm2, Bool.and_eq_true] at hg
  obtain ⟨hg0, hg1⟩ := hg
  have hl : a0.length ≤ 1048576 := smL_len hg0
  refine ⟨f10k, a0.length + 1, fun k => ?_⟩
  rw [f10_run]
  by_cases hc : a0.length = a1.length
  · have hc' : ((a0.length : Int) != (a1.length : Int)) = false := by simp [hc]
    simp only [hc', cond_false]
    refine Eq.trans (loop_idx (n := a0.length) (F := fun m i => f10L0 (a0.length + 1) _ _ a0 a1 m i) (p := fun j => sEq (atI (t := .str) a0 j) (atI (t := .str) a1 j)) (good := k [.d .bool true]) (bad := k [.d .bool false])
      (fun m j hj => ?_) (fun m => by simp only [f10L0, idxE, cond_false]) a0.length 0 (a0.length + 1) (by omega) (by omega)) ?_
    · obtain ⟨h1, h0, hw, ht⟩ := idx hj (by omega)
      obtain ⟨h2, _, _, _⟩ := idx (show j < a1.length by omega) (by omega)
      simp only [f10L0, h1, h0, h2, hw, ht, Bool.and_self, cond_true]
      cases sEq (atI (t := .str) a0 j) (atI (t := .str) a1 j) <;> rfl
    · rw [allN_eq hc (fun j x y hx hy => by rw [atI_of (t := .str) hx, atI_of (t := .str) hy, ← eqD_str])]
      cases eqD a0 a1 <;> rfl
  · simp only [bneLen hc, cond_true]
    rw [eqD_ne (fun e => hc (by rw [e]))]

noncomputable def q10 : List Dt → Option (Bool × List Dt)
  | [.d (.sl .str) a0, .d (.sl .str) a1] => some ((sm2 (smL smStr) a0 a1), [.d .bool (eqD a0 a1)])
  | _ => none
noncomputable def s10 : Gm.Spec := Gm.Spec.of [.ro, .ro] [false] true q10
theorem good10 : Gm.Good Tryd.prog (10, s10) := by
  have hl : ∀ x ∈ ([] : List (Nat × Gm.Spec)), Gm.Good Tryd.prog x := fun _ h => by cases h
  refine ⟨⟨spec_ok (tab_ok.env hl) (tab.natl hl) Tryd.func10 (by kernel_rfl : Tryd.f10.body = some f10c) [4] (by kernel_rfl) ?_, _, Tryd.func10, by kernel_rfl, of_decide_eq_true (by kernel_rfl)⟩, Gm.Spec.of_natl _ _ _ _⟩
  intro ds outs h
  unfold q10 at h
  split at h
  · simp only [Option.some.injEq, Prod.mk.injEq] at h; obtain ⟨hg, h⟩ := h; cases h; exact f10_spec _ _ hg
  · cases h
end Go.Proofs.YtinbejnakemfjaaDoor

/- x -/
namespace Go.Proofs.YtinbejnakemfjaaDoor
open Go Go.Gm
/-! ### loop.example/g00465/laws.FnExactPtrText -/
noncomputable def f3c : Code := (Tryd.f3.body).getD .skip
def f3k : Nat → Kp := kat [⟨[0], [], [], []⟩, ⟨[0, 3], [], [], []⟩, ⟨[0, 3], [], [], []⟩, ⟨[0, 11], [], [], []⟩, ⟨[2], [], [], []⟩, ⟨[0, 4], [], [], []⟩, ⟨[0, 4, 5], [], [], []⟩, ⟨[0, 4, 5, 6], [], [], []⟩, ⟨[0, 5, 21], [], [], []⟩, ⟨[2], [], [], []⟩, ⟨[26], [], [], []⟩, ⟨[2], [], [], []⟩, ⟨[2], [], [], []⟩]
noncomputable def f3e : Env := tab.env [(6, s6), (7, s7), (8, s8), (9, s9), (10, s10)]
theorem f3_run {R : Type} (n : Nat) (k : List Dt → Option R) (a0 : List ByteArray) : evFn f3e f3k n f3c [.ro] [false] true [.tmp 2] [4] [.d (.sl .str) a0] k =
    (cond (gzL_str a0 (1048576 : Int))
    (cond (decide ((zL_str a0 (1048576 : Int)) < (0 : Int)))
      (k [.d .bool true])
      (cond (smL smStr a0)
        (cond (gPtrT a0)
          (cond (smL smStr a0)
            (cond (gPtrT a0)
              (cond (!(sEq (ptrText a0) (ptrText a0)))
                (k [.d .bool false])
                (cond (smL smStr a0)
                  (cond (sm2 (smL smStr) a0 a0)
                    (cond (!(eqD a0 a0))
                      (k [.d .bool false])
                      (k [.d .bool true]))
                    none)
                  none))
              none)
            none)
          none)
        none))
    none) := by kernel_rfl
theorem f3_spec (a0 : List ByteArray) (hg : (okL okStr a0) = true) : ∃ keep rounds, ∀ {R : Type} (k : List Dt → Option R), evFn f3e keep rounds f3c [.ro] [false] true [.tmp 2] [4] [.d (.sl .str) a0] k = k [.d .bool ((fun (_ : List ByteArray) => true) a0)] := by
  have hg0 := hg
  refine ⟨f3k, 0, fun {R} k => ?_⟩
  rw [f3_run]
  have g0 : gzL_str a0 (1048576 : Int) = true := by simp only [gzL_str, Bool.and_eq_true, okN_iff]; exact ⟨hg0, by omega, by omega⟩
  have e0 : zL_str a0 (1048576 : Int) = szI (szL ByteArray.size a0) (1048576 : Int) := rfl
  by_cases c0 : szI (szL ByteArray.size a0) (1048576 : Int) < 0
  · simp only [g0, e0, c0, decide_true, decide_false, cond_true, cond_false]
  have b0 : szI (szL ByteArray.size a0) (1048576 : Int) = (1048576 : Int) - ((szL ByteArray.size a0) : Nat) := by
    by_cases h : (1048576 : Int) - ((szL ByteArray.size a0) : Nat) < 0
    · rw [szI_neg h] at c0; omega
    · exact szI_pos h
  have s0 : smL smStr a0 = true := smL_of hg0 (show szL ByteArray.size a0 ≤ 1048576 by omega) (fun x hx h => smStr_of h)
  have n0 : 0 ≤ (szI (szL ByteArray.size a0) (1048576 : Int)) ∧ (szI (szL ByteArray.size a0) (1048576 : Int)) ≤ 1048576 := by omega
  have hT : gPtrT a0 = true := Nat.ble_eq_true_of_le (by omega)
  simp (disch := omega) only [g0, e0, c0, s0, sm2, gmk_of, decide_ge0, decide_false, cond_true, cond_false, Bool.and_self, bne_self_eq_false, beq_self_eq_true, sEq_self, eqD_self, Bool.not_true, hT]

noncomputable def q3 : List Dt → Option (Bool × List Dt)
  | [.d (.sl .str) a0] => some (((fun (x0 : List ByteArray) => okL okStr x0) a0), [.d .bool ((fun (_ : List ByteArray) => true) a0)])
  | _ => none
noncomputable def s3 : Gm.Spec := Gm.Spec.of [.ro] [false] true q3
theorem good3 : Gm.Good Tryd.prog (3, s3) := by
  have hl : ∀ x ∈ [(6, s6), (7, s7), (8, s8), (9, s9), (10, s10)], Gm.Good Tryd.prog x := List.forall_mem_cons.2 ⟨good6, List.forall_mem_cons.2 ⟨good7, List.forall_mem_cons.2 ⟨good8, List.forall_mem_cons.2 ⟨good9, List.forall_mem_cons.2 ⟨good10, List.forall_mem_nil _⟩⟩⟩⟩⟩
  refine ⟨⟨spec_ok (tab_ok.env hl) (tab.natl hl) Tryd.func3 (by kernel_rfl : Tryd.f3.body = some f3c) [4] (by kernel_rfl) ?_, _, Tryd.func3, by kernel_rfl, of_decide_eq_true (by kernel_rfl)⟩, Gm.Spec.of_natl _ _ _ _⟩
  intro ds outs h
  unfold q3 at h
  split at h
  · simp only [Option.some.injEq, Prod.mk.injEq] at h; obtain ⟨hg, h⟩ := h; cases h; exact f3_spec _ hg
  · cases h
end Go.Proofs.YtinbejnakemfjaaDoor

/- What the functions compute, part 1. No conditions. -/
import Derived.Test.YtalnkjjnohgjkaaGm4
import Derived.Test.YtalnkjjnohgjkaaRows
import Derived.Lib.Strings
import Derived.Lib.Slices
import Derived.Lib.SliceRun
import Derived.Lib.Walk
import Derived.WalkKit
import Derived.Deep.RegionLaw
import Derived.Lib.AppendZeros
import Derived.Laws.Externs
namespace Go.Proofs.Ytalnkjjnohgjkaa
open Go Go.Gm
def tab : Tab := { code := [(2, (.i .i64)), (3, (.i .i64)), (4, .bool), (5, (.i .u8)), (6, (.i .u8)), (9, .str), (10, .str), (11, .str), (12, (.i .u64)), (21, (.i .i32)), (22, (.sl (.i .u8))), (24, (.sl .str)), (25, (.sl .node)), (27, .node), (35, .pop), (38, (.sl .pop)), (43, (.sl .node)), (45, .node), (54, .pop), (60, (.sl .pop)), (90, .cur), (94, (.sl (.i .i64))), (98, (.sl (.sl .str))), (115, (.i .u64)), (125, (.i .i64)), (133, (.i .u32)), (135, (.i .u64)), (137, (.i .u64)), (154, (.i .u8)), (155, (.i .u8)), (158, (.i .i32)), (159, (.i .i32))], eqs := [], fld := [(27, [(0, 3), (1, 3), (2, 9), (3, 24), (4, 25)]), (35, [(0, 3), (1, 24), (2, 24), (3, 27)]), (45, [(0, 3), (1, 3), (2, 9), (3, 24), (4, 43)]), (54, [(0, 3), (1, 24), (2, 24), (3, 45)]), (90, [(0, 22), (1, 3), (2, 3)])] }
theorem und2 : UndOk (tab.env []) Try.prog 2 (.i .i64) := (by kernel_rfl : Try.prog.underlying 2 = some (.int .i64))
theorem und3 : UndOk (tab.env []) Try.prog 3 (.i .i64) := (by kernel_rfl : Try.prog.underlying 3 = some (.int .i64))
theorem und4 : UndOk (tab.env []) Try.prog 4 .bool := (by kernel_rfl : Try.prog.underlying 4 = some .bool)
theorem und5 : UndOk (tab.env []) Try.prog 5 (.i .u8) := (by kernel_rfl : Try.prog.underlying 5 = some (.int .u8))
theorem und6 : UndOk (tab.env []) Try.prog 6 (.i .u8) := (by kernel_rfl : Try.prog.underlying 6 = some (.int .u8))
theorem und9 : UndOk (tab.env []) Try.prog 9 .str := (by kernel_rfl : Try.prog.underlying 9 = some .string)
theorem und10 : UndOk (tab.env []) Try.prog 10 .str := (by kernel_rfl : Try.prog.underlying 10 = some .string)
theorem und11 : UndOk (tab.env []) Try.prog 11 .str := (by kernel_rfl : Try.prog.underlying 11 = some .string)
theorem und12 : UndOk (tab.env []) Try.prog 12 (.i .u64) := (by kernel_rfl : Try.prog.underlying 12 = some (.int .u64))
theorem und21 : UndOk (tab.env []) Try.prog 21 (.i .i32) := (by kernel_rfl : Try.prog.underlying 21 = some (.int .i32))
theorem und22 : UndOk (tab.env []) Try.prog 22 (.sl (.i .u8)) := ⟨5, by kernel_rfl, by kernel_rfl⟩
theorem und24 : UndOk (tab.env []) Try.prog 24 (.sl .str) := ⟨9, by kernel_rfl, by kernel_rfl⟩
theorem und25 : UndOk (tab.env []) Try.prog 25 (.sl .node) := ⟨27, by kernel_rfl, by kernel_rfl⟩
theorem und27 : UndOk (tab.env []) Try.prog 27 .node := ⟨_, Try.underlying27⟩
theorem und35 : UndOk (tab.env []) Try.prog 35 .pop := ⟨_, Try.underlying35⟩
theorem und38 : UndOk (tab.env []) Try.prog 38 (.sl .pop) := ⟨35, by kernel_rfl, by kernel_rfl⟩
theorem und43 : UndOk (tab.env []) Try.prog 43 (.sl .node) := ⟨45, by kernel_rfl, by kernel_rfl⟩
theorem und45 : UndOk (tab.env []) Try.prog 45 .node := ⟨_, Try.underlying45⟩
theorem und54 : UndOk (tab.env []) Try.prog 54 .pop := ⟨_, Try.underlying54⟩
theorem und60 : UndOk (tab.env []) Try.prog 60 (.sl .pop) := ⟨54, by kernel_rfl, by kernel_rfl⟩
theorem und90 : UndOk (tab.env []) Try.prog 90 .cur := ⟨_, Try.underlying90⟩
theorem und94 : UndOk (tab.env []) Try.prog 94 (.sl (.i .i64)) := ⟨3, by kernel_rfl, by kernel_rfl⟩
theorem und98 : UndOk (tab.env []) Try.prog 98 (.sl (.sl .str)) := ⟨24, by kernel_rfl, by kernel_rfl⟩
theorem und115 : UndOk (tab.env []) Try.prog 115 (.i .u64) := (by kernel_rfl : Try.prog.underlying 115 = some (.int .u64))
theorem und125 : UndOk (tab.env []) Try.prog 125 (.i .i64) := (by kernel_rfl : Try.prog.underlying 125 = some (.int .i64))
theorem und133 : UndOk (tab.env []) Try.prog 133 (.i .u32) := (by kernel_rfl : Try.prog.underlying 133 = some (.int .u32))
theorem und135 : UndOk (tab.env []) Try.prog 135 (.i .u64) := (by kernel_rfl : Try.prog.underlying 135 = some (.int .u64))
theorem und137 : UndOk (tab.env []) Try.prog 137 (.i .u64) := (by kernel_rfl : Try.prog.underlying 137 = some (.int .u64))
theorem und154 : UndOk (tab.env []) Try.prog 154 (.i .u8) := (by kernel_rfl : Try.prog.underlying 154 = some (.int .u8))
theorem und155 : UndOk (tab.env []) Try.prog 155 (.i .u8) := (by kernel_rfl : Try.prog.underlying 155 = some (.int .u8))
theorem und158 : UndOk (tab.env []) Try.prog 158 (.i .i32) := (by kernel_rfl : Try.prog.underlying 158 = some (.int .i32))
theorem und159 : UndOk (tab.env []) Try.prog 159 (.i .i32) := (by kernel_rfl : Try.prog.underlying 159 = some (.int .i32))
theorem fld27 : ∃ fs : Array Field, Try.prog.underlying 27 = some (.struct fs) ∧ [(0, 3), (1, 3), (2, 9), (3, 24), (4, 25)] = fs.toList.map (fun f => (f.offset, f.type)) ∧ (∀ y ∈ ([(0, 3), (1, 3), (2, 9), (3, 24), (4, 25)] : List (Nat × Nat)), (aget tab.code y.2).isSome) ∧ (fs.toList.mapM (fun f => (Try.prog.info? f.type).map fun i => (f.offset, i.size))).isSome :=
 ⟨_, Try.underlying27, by kernel_rfl, List.all_eq_true.1 (by kernel_rfl), by kernel_rfl⟩
theorem fld35 : ∃ fs : Array Field, Try.prog.underlying 35 = some (.struct fs) ∧ [(0, 3), (1, 24), (2, 24), (3, 27)] = fs.toList.map (fun f => (f.offset, f.type)) ∧ (∀ y ∈ ([(0, 3), (1, 24), (2, 24), (3, 27)] : List (Nat × Nat)), (aget tab.code y.2).isSome) ∧ (fs.toList.mapM (fun f => (Try.prog.info? f.type).map fun i => (f.offset, i.size))).isSome :=
 ⟨_, Try.underlying35, by kernel_rfl, List.all_eq_true.1 (by kernel_rfl), by kernel_rfl⟩
theorem fld45 : ∃ fs : Array Field, Try.prog.underlying 45 = some (.struct fs) ∧ [(0, 3), (1, 3), (2, 9), (3, 24), (4, 43)] = fs.toList.map (fun f => (f.offset, f.type)) ∧ (∀ y ∈ ([(0, 3), (1, 3), (2, 9), (3, 24), (4, 43)] : List (Nat × Nat)), (aget tab.code y.2).isSome) ∧ (fs.toList.mapM (fun f => (Try.prog.info? f.type).map fun i => (f.offset, i.size))).isSome :=
 ⟨_, Try.underlying45, by kernel_rfl, List.all_eq_true.1 (by kernel_rfl), by kernel_rfl⟩
theorem fld54 : ∃ fs : Array Field, Try.prog.underlying 54 = some (.struct fs) ∧ [(0, 3), (1, 24), (2, 24), (3, 45)] = fs.toList.map (fun f => (f.offset, f.type)) ∧ (∀ y ∈ ([(0, 3), (1, 24), (2, 24), (3, 45)] : List (Nat × Nat)), (aget tab.code y.2).isSome) ∧ (fs.toList.mapM (fun f => (Try.prog.info? f.type).map fun i => (f.offset, i.size))).isSome :=
 ⟨_, Try.underlying54, by kernel_rfl, List.all_eq_true.1 (by kernel_rfl), by kernel_rfl⟩
theorem fld90 : ∃ fs : Array Field, Try.prog.underlying 90 = some (.struct fs) ∧ [(0, 22), (1, 3), (2, 3)] = fs.toList.map (fun f => (f.offset, f.type)) ∧ (∀ y ∈ ([(0, 22), (1, 3), (2, 3)] : List (Nat × Nat)), (aget tab.code y.2).isSome) ∧ (fs.toList.mapM (fun f => (Try.prog.info? f.type).map fun i => (f.offset, i.size))).isSome :=
 ⟨_, Try.underlying90, by kernel_rfl, List.all_eq_true.1 (by kernel_rfl), by kernel_rfl⟩
theorem tab_ok : tab.Ok Try.prog := {
 info := infoChk_ok (by kernel_rfl)
 und := fcJ.2 ⟨und2, fcJ.2 ⟨und3, fcJ.2 ⟨und4, fcJ.2 ⟨und5, fcJ.2 ⟨und6, fcJ.2 ⟨und9, fcJ.2 ⟨und10, fcJ.2 ⟨und11, fcJ.2 ⟨und12, fcJ.2 ⟨und21, fcJ.2 ⟨und22, fcJ.2 ⟨und24, fcJ.2 ⟨und25, fcJ.2 ⟨und27, fcJ.2 ⟨und35, fcJ.2 ⟨und38, fcJ.2 ⟨und43, fcJ.2 ⟨und45, fcJ.2 ⟨und54, fcJ.2 ⟨und60, fcJ.2 ⟨und90, fcJ.2 ⟨und94, fcJ.2 ⟨und98, fcJ.2 ⟨und115, fcJ.2 ⟨und125, fcJ.2 ⟨und133, fcJ.2 ⟨und135, fcJ.2 ⟨und137, fcJ.2 ⟨und154, fcJ.2 ⟨und155, fcJ.2 ⟨und158, fcJ.2 ⟨und159, fcN⟩⟩⟩⟩⟩⟩⟩⟩⟩⟩⟩⟩⟩⟩⟩⟩⟩⟩⟩⟩⟩⟩⟩⟩⟩⟩⟩⟩⟩⟩⟩⟩
 fld := fcJ.2 ⟨fld27, fcJ.2 ⟨fld35, fcJ.2 ⟨fld45, fcJ.2 ⟨fld54, fcJ.2 ⟨fld90, fcN⟩⟩⟩⟩⟩
 sts := fcJ.2 ⟨fun h => by first | (cases h; done) | (simp; done), fcJ.2 ⟨fun h => by first | (cases h; done) | (simp; done), fcJ.2 ⟨fun h => by first | (cases h; done) | (simp; done), fcJ.2 ⟨fun h => by first | (cases h; done) | (simp; done), fcJ.2 ⟨fun h => by first | (cases h; done) | (simp; done), fcJ.2 ⟨fun h => by first | (cases h; done) | (simp; done), fcJ.2 ⟨fun h => by first | (cases h; done) | (simp; done), fcJ.2 ⟨fun h => by first | (cases h; done) | (simp; done), fcJ.2 ⟨fun h => by first | (cases h; done) | (simp; done), fcJ.2 ⟨fun h => by first | (cases h; done) | (simp; done), fcJ.2 ⟨fun h => by first | (cases h; done) | (simp; done), fcJ.2 ⟨fun h => by first | (cases h; done) | (simp; done), fcJ.2 ⟨fun h => by first | (cases h; done) | (simp; done), fcJ.2 ⟨fun _ => by simp [tab], fcJ.2 ⟨fun _ => by simp [tab], fcJ.2 ⟨fun h => by first | (cases h; done) | (simp; done), fcJ.2 ⟨fun h => by first | (cases h; done) | (simp; done), fcJ.2 ⟨fun _ => by simp [tab], fcJ.2 ⟨fun _ => by simp [tab], fcJ.2 ⟨fun h => by first | (cases h; done) | (simp; done), fcJ.2 ⟨fun _ => by simp [tab], fcJ.2 ⟨fun h => by first | (cases h; done) | (simp; done), fcJ.2 ⟨fun h => by first | (cases h; done) | (simp; done), fcJ.2 ⟨fun h => by first | (cases h; done) | (simp; done), fcJ.2 ⟨fun h => by first | (cases h; done) | (simp; done), fcJ.2 ⟨fun h => by first | (cases h; done) | (simp; done), fcJ.2 ⟨fun h => by first | (cases h; done) | (simp; done), fcJ.2 ⟨fun h => by first | (cases h; done) | (simp; done), fcJ.2 ⟨fun h => by first | (cases h; done) | (simp; done), fcJ.2 ⟨fun h => by first | (cases h; done) | (simp; done), fcJ.2 ⟨fun h => by first | (cases h; done) | (simp; done), fcJ.2 ⟨fun h => by first | (cases h; done) | (simp; done), fcN⟩⟩⟩⟩⟩⟩⟩⟩⟩⟩⟩⟩⟩⟩⟩⟩⟩⟩⟩⟩⟩⟩⟩⟩⟩⟩⟩⟩⟩⟩⟩⟩
 eqs := fcN
 ord := by kernel_rfl }
noncomputable def f35S0 (y0 : List Int) (y1 : Int) (y2 : Int) : St := ⟨[(0, .c (.one (.rk (.i .u8) y0))), (3, .c (.one (.v (.int .i64 y1)))), (4, .c (.one (.v (.int .i64 y2))))], [], []⟩
noncomputable def f35S1 (y0 : List Int) (y1 : Int) (y2 : Int) (y3 : Bool) : St := ⟨[(0, .c (.one (.rk (.i .u8) y0))), (3, .c (.one (.v (.int .i64 y1)))), (4, .c (.one (.v (.int .i64 y2)))), (15, .c (.one (.v (.bool y3))))], [], []⟩
noncomputable def f35c : Code := (Try.f35.body).getD .skip
def f35k : Nat → Kp := kat [⟨[0], [], [], []⟩, ⟨[0, 3], [], [], []⟩, ⟨[0, 3, 4], [], [], []⟩, ⟨[0, 3, 4, 15], [], [], []⟩, ⟨[0, 3, 4], [], [], []⟩, ⟨[0, 3, 4], [], [], []⟩, ⟨[2], [], [], []⟩]
noncomputable def f35e : Env := tab.env []
noncomputable def f35L0 {R : Type} (n : Nat) (x0 : Int → Int → Bool → Option R) (x1 : Int → Int → Option R) (wB : List Int) : Nat → Int → Int → Option R
  | 0, _, _ => none
  | m + 1, wD, wA =>
    (cond (decide (wA < (wB.length : Int)))
   (cond (decide (wA < (4000 : Int)))
    (cond ((decide ((0 : Int) ≤ wA)) && (decide (wA < (wB.length : Int))))
     (f35L0 n x0 x1 wB m (IntKind.wrap .i64 ((BitVec.toNat (BitVec.ofInt (IntKind.bits .i64) (IntKind.wrap .i64 ((IntKind.wrap .i64 ((IntKind.wrap .i64 (wD * (131 : Int))) + (IntKind.wrap .i64 (atI (t := (.i .u8)) wB (Int.toNat wA))))) + (7 : Int))) &&& BitVec.ofInt (IntKind.bits .i64) (1073741823 : Int)) : Nat) : Int)) (IntKind.wrap .i64 (wA + (1 : Int))))
     none)
    (x0 wD wA (decide (wA < (4000 : Int)))))
   (x1 wD wA))
theorem f35L0_b {R : Type} (n : Nat) (k' : Kx R) (wB : List Int) (wD : Int) (wA : Int) : ev f35e f35k n (cAt [1,1,0,1,0,0] f35c) (f35S0 wB wD wA) k' =
 (cond (decide (wA < (wB.length : Int)))
 (cond (decide (wA < (4000 : Int)))
 (cond ((decide ((0 : Int) ≤ wA)) && (decide (wA < (wB.length : Int))))
 (k' .normal (f35S0 wB (IntKind.wrap .i64 ((BitVec.toNat (BitVec.ofInt (IntKind.bits .i64) (IntKind.wrap .i64 ((IntKind.wrap .i64 ((IntKind.wrap .i64 (wD * (131 : Int))) + (IntKind.wrap .i64 (atI (t := (.i .u8)) wB (Int.toNat wA))))) + (7 : Int))) &&& BitVec.ofInt (IntKind.bits .i64) (1073741823 : Int)) : Nat) : Int)) (IntKind.wrap .i64 (wA + (1 : Int)))))
 none)
 (k' (.exit 0) (f35S1 wB wD wA (decide (wA < (4000 : Int))))))
 (k' (.exit 0) (f35S1 wB wD wA false))) := by kernel_rfl
theorem f35L0_eq {R : Type} (n : Nat) (k' : Kx R) (wB : List Int) : ∀ (m : Nat) (wD : Int) (wA : Int), iter (fun st k => ev f35e f35k n (cAt [1,1,0,1,0,0] f35c) st k) m (f35S0 wB wD wA) k' = f35L0 n (fun (wC : Int) (wE : Int) (wF : Bool) => k' (.exit 0) (f35S1 wB wC wE wF)) (fun (wC : Int) (wE : Int) => k' (.exit 0) (f35S1 wB wC wE false)) wB m wD wA := by
 intro m; induction m with
 | zero => intros; rfl
 | succ m ih =>
  intro wD wA
  simp only [iter]
  rw [f35L0_b]
  simp only [ih, f35L0]
noncomputable def f35K0 {R : Type} (n : Nat) (k' : Kx R) : Kx R := (blockK 0 (seqK f35e f35k n (cAt [1,1,1] f35c) k'))
theorem f35K0_x0 {R : Type} (n : Nat) (k : Kt R) (a0 : List Int) (wB : List Int) (wC : Int) (wE : Int) (wF : Bool) : f35K0 n (exitK f35e [.kp] [true] true [.tmp 2] [64] [.d (.sl (.i .u8)) a0] k) (.exit 0) (f35S1 wB wC wE wF) =
 (k [.d .cur (⟨wB, (0 : Int), wC⟩ : CurT)]) := by kernel_rfl
theorem f35K0_x1 {R : Type} (n : Nat) (k : Kt R) (a0 : List Int) (wB : List Int) (wC : Int) (wE : Int) : f35K0 n (exitK f35e [.kp] [true] true [.tmp 2] [64] [.d (.sl (.i .u8)) a0] k) (.exit 0) (f35S1 wB wC wE false) =
 (k [.d .cur (⟨wB, (0 : Int), wC⟩ : CurT)]) := by kernel_rfl
theorem f35_run {R : Type} (n : Nat) (k : Kt R) (a0 : List Int) : evFn f35e f35k n f35c [.kp] [true] true [.tmp 2] [64] [.d (.sl (.i .u8)) a0] k =
 (f35L0 n (fun (wC : Int) (wE : Int) (wF : Bool) =>
 (k [.d .cur (⟨a0, (0 : Int), wC⟩ : CurT)])) (fun (wC : Int) (wE : Int) =>
 (k [.d .cur (⟨a0, (0 : Int), wC⟩ : CurT)])) a0 n (IntKind.wrap .i64 ((27212 : Int) + (a0.length : Int))) (0 : Int)) := by
 refine Eq.trans (b := (iter (fun st k => ev f35e f35k n (cAt [1,1,0,1,0,0] f35c) st k) n (f35S0 a0 (IntKind.wrap .i64 ((27212 : Int) + (a0.length : Int))) (0 : Int)) (f35K0 n (exitK f35e [.kp] [true] true [.tmp 2] [64] [.d (.sl (.i .u8)) a0] k)))) (by kernel_rfl) ?_
 simp only [f35L0_eq, f35K0_x0, f35K0_x1]
def f35_P (a0 : List Int) (o : CurT) : Prop := (fun _ o => gCur o = true) a0 o ∧ ∃ n : Nat, ∀ {R : Type} (k : Kt R), evFn f35e f35k n f35c [.kp] [true] true [.tmp 2] [64] [.d (.sl (.i .u8)) a0] k = k [.d .cur o]
theorem f35_ex (a0 : List Int) (hg : gCode a0 = true) : ∃ o : CurT, (fun _ o => gCur o = true) a0 o ∧ ∃ n : Nat, ∀ {R : Type} (k : Kt R), evFn f35e f35k n f35c [.kp] [true] true [.tmp 2] [64] [.d (.sl (.i .u8)) a0] k = k [.d .cur o] := by
 have hl : a0.length ≤ 1048576 := bleN hg
 have key : ∀ (d : Nat) (m : Nat) (h : Int) (i : Nat), i + d = 4000 → d < m → ∃ h' : Int, ∀ {R : Type} (X : Int → Int → Bool → Option R) (Y : Int → Int → Option R) (Z : Int → Option R), (∀ x y z, X x y z = Z x) → (∀ x y, Y x y = Z x) → f35L0 4001 X Y a0 m h (i : Int) = Z h' := by
  intro d
  induction d with
  | zero =>
   intro m h i hi hm
   obtain ⟨m, rfl⟩ : ∃ m', m = m' + 1 := ⟨m - 1, by omega⟩
   refine ⟨h, fun {R} X Y Z hX hY => ?_⟩
   simp only [f35L0, decide_eq_false (show ¬ ((i : Int) < 4000) by omega), cond_false]
   cases decide ((i : Int) < (a0.length : Int)) <;> simp only [cond_true, cond_false, hX, hY]
  | succ d ih =>
   intro m h i hi hm
   obtain ⟨m, rfl⟩ : ∃ m', m = m' + 1 := ⟨m - 1, by omega⟩
   cases hd : decide ((i : Int) < (a0.length : Int))
   ·refine ⟨h, fun {R} X Y Z hX hY => ?_⟩
    simp only [f35L0, hd, cond_false, hY]
   ·obtain ⟨h', hh⟩ := ih m _ (i + 1) (by omega) (by omega)
    refine ⟨h', fun {R} X Y Z hX hY => ?_⟩
    simp only [f35L0, hd, decide_eq_true (show (i : Int) < 4000 by omega), decide_eq_true (show (0 : Int) ≤ (i : Int) by omega), Bool.and_self, cond_true, wrap_id (x := (i : Int) + 1) (by omega) (by omega)]
    exact hh X Y Z hX hY
 obtain ⟨h', hh⟩ := key 4000 4001 (IntKind.wrap .i64 ((27212 : Int) + (a0.length : Int))) 0 rfl (by omega)
 refine ⟨⟨a0, 0, h'⟩, gCur_iff.2 ⟨Int.le_refl _, hl⟩, 4001, fun {R} k => ?_⟩
 rw [f35_run]
 exact hh _ _ (fun x => k [.d .cur ⟨a0, 0, x⟩]) (fun _ _ _ => rfl) (fun _ _ => rfl)
theorem f35_ne (a0 : List Int) : Nonempty {o : CurT // gCode a0 = true → f35_P a0 o} := by
 by_cases hg : gCode a0 = true
 ·obtain ⟨o, ho⟩ := f35_ex a0 hg
  exact ⟨⟨o, fun _ => ho⟩⟩
 ·exact ⟨⟨((zero .cur)), fun h => absurd h hg⟩⟩
noncomputable def curNew (a0 : List Int) : CurT := (Classical.choice (f35_ne a0)).val
theorem f35_sp (a0 : List Int) (hg : gCode a0 = true) : f35_P a0 (curNew a0) := (Classical.choice (f35_ne a0)).property hg
theorem curNew_ok (a0 : List Int) (hg : gCode a0 = true) : (fun _ o => gCur o = true) a0 (curNew a0) := (f35_sp a0 hg).1
theorem f35_spec (a0 : List Int) (hg : gCode a0 = true) : ∃ keep rounds, ∀ {R : Type} (k : Kt R), evFn f35e keep rounds f35c [.kp] [true] true [.tmp 2] [64] [.d (.sl (.i .u8)) a0] k = k [.d .cur (curNew a0)] := by
 obtain ⟨n, hn⟩ := (f35_sp a0 hg).2
 exact ⟨f35k, n, hn⟩
noncomputable def q35 : Qt
 | [.d (.sl (.i .u8)) a0] => some ((gCode a0), [.d .cur (curNew a0)])
 | _ => none
noncomputable def s35 : Gm.Spec := Gm.Spec.of [.kp] [true] true q35
theorem good35 : Gm.Good Try.prog (35, s35) := by
 have hl : ∀ x ∈ ([] : List (Nat × Gm.Spec)), Gm.Good Try.prog x := fun _ h => by cases h
 refine ⟨⟨spec_ok (tab_ok.env hl) (tab.natl hl) Try.func35 (by kernel_rfl : Try.f35.body = some f35c) [64] (by kernel_rfl) ?_, _, Try.func35, by kernel_rfl, of_decide_eq_true (by kernel_rfl)⟩, Gm.Spec.of_natl _ _ _ _⟩
 intro ds outs h
 unfold q35 at h
 split at h
 ·simp only [Option.some.injEq, Prod.mk.injEq] at h; obtain ⟨hg, h⟩ := h; cases h; exact f35_spec _ hg
 ·cases h
noncomputable def f90c : Code := (Try.f90.body).getD .skip
def f90k : Nat → Kp := kat [⟨[0], [], [], []⟩, ⟨[0], [], [], []⟩, ⟨[0, 3], [], [], []⟩, ⟨[0, 3, 34], [], [], []⟩, ⟨[0, 3], [], [], []⟩, ⟨[0, 3], [], [], []⟩, ⟨[0, 2], [], [], []⟩]
noncomputable def f90e : Env := tab.env []
theorem f90_run {R : Type} (n : Nat) (k : Kt R) (a0 : CurT) : evFn f90e f90k n f90c [.pmut] [false] true [.tmp 2] [3] [.d .cur a0] k =
 (cond (decide ((CurT.i a0) < ((CurT.b a0).length : Int)))
 (cond ((decide ((0 : Int) ≤ (CurT.i a0))) && (decide ((CurT.i a0) < ((CurT.b a0).length : Int))))
 (k [.d (.i .i64) (IntKind.wrap .i64 ((BitVec.toNat (BitVec.ofInt (IntKind.bits .i64) (IntKind.wrap .i64 ((IntKind.wrap .i64 ((BitVec.toNat (BitVec.ofInt (IntKind.bits .i64) (IntKind.wrap .i64 ((BitVec.toNat (BitVec.ofInt (IntKind.bits .i64) (Int.fdiv (IntKind.wrap .i64 ((IntKind.wrap .i64 ((CurT.h a0) * (6364136223846793005 : Int))) + (1442695040888963407 : Int))) (2 ^ (min (Int.toNat (33 : Int)) (IntKind.bits .i64)))) ^^^ BitVec.ofInt (IntKind.bits .i64) (Int.fdiv (IntKind.wrap .i64 ((IntKind.wrap .i64 ((CurT.h a0) * (6364136223846793005 : Int))) + (1442695040888963407 : Int))) (2 ^ (min (Int.toNat (45 : Int)) (IntKind.bits .i64))))) : Nat) : Int)) &&& BitVec.ofInt (IntKind.bits .i64) (255 : Int)) : Nat) : Int)) + (IntKind.wrap .i64 (atI (t := (.i .u8)) (CurT.b a0) (Int.toNat (CurT.i a0)))))) &&& BitVec.ofInt (IntKind.bits .i64) (255 : Int)) : Nat) : Int)), .d .cur (⟨(CurT.b a0), (IntKind.wrap .i64 ((CurT.i a0) + (1 : Int))), (IntKind.wrap .i64 ((IntKind.wrap .i64 ((CurT.h a0) * (6364136223846793005 : Int))) + (1442695040888963407 : Int)))⟩ : CurT)])
 none)
 (k [.d (.i .i64) (IntKind.wrap .i64 ((BitVec.toNat (BitVec.ofInt (IntKind.bits .i64) (IntKind.wrap .i64 ((BitVec.toNat (BitVec.ofInt (IntKind.bits .i64) (Int.fdiv (IntKind.wrap .i64 ((IntKind.wrap .i64 ((CurT.h a0) * (6364136223846793005 : Int))) + (1442695040888963407 : Int))) (2 ^ (min (Int.toNat (33 : Int)) (IntKind.bits .i64)))) ^^^ BitVec.ofInt (IntKind.bits .i64) (Int.fdiv (IntKind.wrap .i64 ((IntKind.wrap .i64 ((CurT.h a0) * (6364136223846793005 : Int))) + (1442695040888963407 : Int))) (2 ^ (min (Int.toNat (45 : Int)) (IntKind.bits .i64))))) : Nat) : Int)) &&& BitVec.ofInt (IntKind.bits .i64) (255 : Int)) : Nat) : Int)), .d .cur (⟨(CurT.b a0), (CurT.i a0), (IntKind.wrap .i64 ((IntKind.wrap .i64 ((CurT.h a0) * (6364136223846793005 : Int))) + (1442695040888963407 : Int)))⟩ : CurT)])) := by kernel_rfl
def f90_P (a0 : CurT) (o : Int × CurT) : Prop := (fun _ o => (0 ≤ o.1 ∧ o.1 ≤ 255) ∧ gCur o.2 = true) a0 o ∧ ∃ n : Nat, ∀ {R : Type} (k : Kt R), evFn f90e f90k n f90c [.pmut] [false] true [.tmp 2] [3] [.d .cur a0] k = k [.d (.i .i64) o.1, .d .cur o.2]
theorem f90_ex (a0 : CurT) (hg : gCur a0 = true) : ∃ o : Int × CurT, (fun _ o => (0 ≤ o.1 ∧ o.1 ≤ 255) ∧ gCur o.2 = true) a0 o ∧ ∃ n : Nat, ∀ {R : Type} (k : Kt R), evFn f90e f90k n f90c [.pmut] [false] true [.tmp 2] [3] [.d .cur a0] k = k [.d (.i .i64) o.1, .d .cur o.2] := by
 obtain ⟨h0, hl⟩ := gCur_iff.1 hg
 cases hd : decide (CurT.i a0 < ((CurT.b a0).length : Int))
 ·refine ⟨(?az0, ?bz0), ?gz0, 0, ?rz0⟩
  case rz0 =>
   intro R k
   rw [f90_run]
   simp only [hd, Bool.and_self, cond_true, cond_false]
   exact rfl
  case gz0 => exact ⟨and255w _, gCur_iff.2 ⟨h0, hl⟩⟩
 ·have hlt := of_decide_eq_true hd
  refine ⟨(?az1, ?bz1), ?gz1, 0, ?rz1⟩
  case rz1 =>
   intro R k
   rw [f90_run]
   simp only [hd, decide_eq_true h0, Bool.and_self, cond_true, cond_false]
   exact rfl
  case gz1 =>
   refine ⟨and255w _, gCur_iff.2 ⟨?_, hl⟩⟩
   show 0 ≤ IntKind.wrap .i64 (CurT.i a0 + 1)
   rw [wrap_id (by omega) (by omega)]; omega
theorem f90_ne (a0 : CurT) : Nonempty {o : Int × CurT // gCur a0 = true → f90_P a0 o} := by
 by_cases hg : gCur a0 = true
 ·obtain ⟨o, ho⟩ := f90_ex a0 hg
  exact ⟨⟨o, fun _ => ho⟩⟩
 ·exact ⟨⟨((zero (.i .i64)), (zero .cur)), fun h => absurd h hg⟩⟩
noncomputable def curByte (a0 : CurT) : Int × CurT := (Classical.choice (f90_ne a0)).val
theorem f90_sp (a0 : CurT) (hg : gCur a0 = true) : f90_P a0 (curByte a0) := (Classical.choice (f90_ne a0)).property hg
theorem curByte_ok (a0 : CurT) (hg : gCur a0 = true) : (fun _ o => (0 ≤ o.1 ∧ o.1 ≤ 255) ∧ gCur o.2 = true) a0 (curByte a0) := (f90_sp a0 hg).1
theorem f90_spec (a0 : CurT) (hg : gCur a0 = true) : ∃ keep rounds, ∀ {R : Type} (k : Kt R), evFn f90e keep rounds f90c [.pmut] [false] true [.tmp 2] [3] [.d .cur a0] k = k [.d (.i .i64) ((curByte a0).1), .d .cur ((curByte a0).2)] := by
 obtain ⟨n, hn⟩ := (f90_sp a0 hg).2
 exact ⟨f90k, n, hn⟩
noncomputable def q90 : Qt
 | [.d .cur a0] => some ((gCur a0), [.d (.i .i64) ((curByte a0).1), .d .cur ((curByte a0).2)])
 | _ => none
noncomputable def s90 : Gm.Spec := Gm.Spec.of [.pmut] [false] true q90
theorem good90 : Gm.Good Try.prog (90, s90) := by
 have hl : ∀ x ∈ ([] : List (Nat × Gm.Spec)), Gm.Good Try.prog x := fun _ h => by cases h
 refine ⟨⟨spec_ok (tab_ok.env hl) (tab.natl hl) Try.func90 (by kernel_rfl : Try.f90.body = some f90c) [3] (by kernel_rfl) ?_, _, Try.func90, by kernel_rfl, of_decide_eq_true (by kernel_rfl)⟩, Gm.Spec.of_natl _ _ _ _⟩
 intro ds outs h
 unfold q90 at h
 split at h
 ·simp only [Option.some.injEq, Prod.mk.injEq] at h; obtain ⟨hg, h⟩ := h; cases h; exact f90_spec _ hg
 ·cases h
noncomputable def f52c : Code := (Try.f52.body).getD .skip
def f52k : Nat → Kp := kat [⟨[0, 1], [], [], []⟩, ⟨[0, 1, 10], [], [], []⟩, ⟨[0, 4], [], [], []⟩, ⟨[0, 1, 12], [], [], []⟩, ⟨[0, 4], [], [], []⟩, ⟨[0, 1, 5], [], [], []⟩, ⟨[0, 1, 5, 6], [], [], []⟩, ⟨[0, 1, 5, 6, 7], [], [], []⟩, ⟨[0, 1, 5, 6, 7, 8], [], [], []⟩, ⟨[0, 4], [], [], []⟩]
noncomputable def f52e : Env := tab.env [(90, s90)]
theorem f52_run {R : Type} (n : Nat) (k : Kt R) (a0 : CurT) (a1 : Int) : evFn f52e f52k n f52c [.pmut, .ro] [false] true [.tmp 4] [3] [.d .cur a0, .d (.i .i64) a1] k =
 (cond (decide (a1 ≤ (0 : Int)))
 (k [.d (.i .i64) (0 : Int), .d .cur a0])
 (cond (decide (a1 ≤ (256 : Int)))
 (cond (gCur a0)
 (cond (decide (a1 = 0))
 none
 (k [.d (.i .i64) (Int.tmod ((curByte a0).1) a1), .d .cur ((curByte a0).2)]))
 none)
 (cond (gCur a0)
 (cond (gCur ((curByte a0).2))
 (cond (gCur ((curByte ((curByte a0).2)).2))
 (cond (gCur ((curByte ((curByte ((curByte a0).2)).2)).2))
 (cond (decide (a1 = 0))
 none
 (k [.d (.i .i64) (Int.tmod (IntKind.wrap .i64 ((IntKind.wrap .i64 ((IntKind.wrap .i64 ((IntKind.wrap .i64 (((curByte a0).1) * (16777216 : Int))) + (IntKind.wrap .i64 (((curByte ((curByte a0).2)).1) * (65536 : Int))))) + (IntKind.wrap .i64 (((curByte ((curByte ((curByte a0).2)).2)).1) * (256 : Int))))) + ((curByte ((curByte ((curByte ((curByte a0).2)).2)).2)).1))) a1), .d .cur ((curByte ((curByte ((curByte ((curByte a0).2)).2)).2)).2)]))
 none)
 none)
 none)
 none))) := by kernel_rfl
def f52_P (a0 : CurT) (a1 : Int) (o : Int × CurT) : Prop := (fun _ n o => 0 ≤ o.1 ∧ (0 < n → o.1 < n) ∧ gCur o.2 = true) a0 a1 o ∧ ∃ n : Nat, ∀ {R : Type} (k : Kt R), evFn f52e f52k n f52c [.pmut, .ro] [false] true [.tmp 4] [3] [.d .cur a0, .d (.i .i64) a1] k = k [.d (.i .i64) o.1, .d .cur o.2]
theorem f52_ex (a0 : CurT) (a1 : Int) (hg : (fun c _ => gCur c) a0 a1 = true) : ∃ o : Int × CurT, (fun _ n o => 0 ≤ o.1 ∧ (0 < n → o.1 < n) ∧ gCur o.2 = true) a0 a1 o ∧ ∃ n : Nat, ∀ {R : Type} (k : Kt R), evFn f52e f52k n f52c [.pmut, .ro] [false] true [.tmp 4] [3] [.d .cur a0, .d (.i .i64) a1] k = k [.d (.i .i64) o.1, .d .cur o.2] := by
 have hg : gCur a0 = true := hg
 cases h1 : decide (a1 ≤ (0 : Int))
 ·have hn := of_decide_eq_false h1
  have hz : decide (a1 = 0) = false := decide_eq_false (by omega)
  obtain ⟨b1, g1⟩ := curByte_ok a0 hg
  cases h2 : decide (a1 ≤ (256 : Int))
  ·obtain ⟨b2, g2⟩ := curByte_ok _ g1
   obtain ⟨b3, g3⟩ := curByte_ok _ g2
   obtain ⟨b4, g4⟩ := curByte_ok _ g3
   refine ⟨(?az0, ?bz0), ?gz0, 0, ?rz0⟩
   case rz0 =>
    intro R k
    rw [f52_run]
    simp only [h1, h2, hz, hg, g1, g2, g3, Bool.and_self, cond_true, cond_false]
    exact rfl
   case gz0 =>
    have := tmod_bd (below4 b1 b2 b3 b4) (show 0 < a1 by omega)
    exact ⟨this.1, fun _ => this.2, g4⟩
  ·refine ⟨(?az1, ?bz1), ?gz1, 0, ?rz1⟩
   case rz1 =>
    intro R k
    rw [f52_run]
    simp only [h1, h2, hz, hg, Bool.and_self, cond_true, cond_false]
    exact rfl
   case gz1 =>
    have := tmod_bd b1.1 (show 0 < a1 by omega)
    exact ⟨this.1, fun _ => this.2, g1⟩
 ·have hn := of_decide_eq_true h1
  refine ⟨(?az2, ?bz2), ?gz2, 0, ?rz2⟩
  case rz2 =>
   intro R k
   rw [f52_run]
   simp only [h1, Bool.and_self, cond_true, cond_false]
   exact rfl
  case gz2 => exact ⟨Int.le_refl _, fun h => by omega, hg⟩
theorem f52_ne (a0 : CurT) (a1 : Int) : Nonempty {o : Int × CurT // (fun c _ => gCur c) a0 a1 = true → f52_P a0 a1 o} := by
 by_cases hg : (fun c _ => gCur c) a0 a1 = true
 ·obtain ⟨o, ho⟩ := f52_ex a0 a1 hg
  exact ⟨⟨o, fun _ => ho⟩⟩
 ·exact ⟨⟨((zero (.i .i64)), (zero .cur)), fun h => absurd h hg⟩⟩
noncomputable def curBelow (a0 : CurT) (a1 : Int) : Int × CurT := (Classical.choice (f52_ne a0 a1)).val
theorem f52_sp (a0 : CurT) (a1 : Int) (hg : (fun c _ => gCur c) a0 a1 = true) : f52_P a0 a1 (curBelow a0 a1) := (Classical.choice (f52_ne a0 a1)).property hg
theorem curBelow_ok (a0 : CurT) (a1 : Int) (hg : (fun c _ => gCur c) a0 a1 = true) : (fun _ n o => 0 ≤ o.1 ∧ (0 < n → o.1 < n) ∧ gCur o.2 = true) a0 a1 (curBelow a0 a1) := (f52_sp a0 a1 hg).1
theorem curBelow_g (a0 : CurT) (a1 : Int) (hg : gCur a0 = true) : gCur (curBelow a0 a1).2 = true := by
  have h := curBelow_ok a0 a1 hg
  first | exact h | exact h.2 | exact h.2.2 | exact h.2.2.2
theorem f52_spec (a0 : CurT) (a1 : Int) (hg : (fun c _ => gCur c) a0 a1 = true) : ∃ keep rounds, ∀ {R : Type} (k : Kt R), evFn f52e keep rounds f52c [.pmut, .ro] [false] true [.tmp 4] [3] [.d .cur a0, .d (.i .i64) a1] k = k [.d (.i .i64) ((curBelow a0 a1).1), .d .cur ((curBelow a0 a1).2)] := by
 obtain ⟨n, hn⟩ := (f52_sp a0 a1 hg).2
 exact ⟨f52k, n, hn⟩
noncomputable def q52 : Qt
 | [.d .cur a0, .d (.i .i64) a1] => some (((fun c _ => gCur c) a0 a1), [.d (.i .i64) ((curBelow a0 a1).1), .d .cur ((curBelow a0 a1).2)])
 | _ => none
noncomputable def s52 : Gm.Spec := Gm.Spec.of [.pmut, .ro] [false] true q52
theorem good52 : Gm.Good Try.prog (52, s52) := by
 have hl : ∀ x ∈ [(90, s90)], Gm.Good Try.prog x := fcJ.2 ⟨good90, fcN⟩
 refine ⟨⟨spec_ok (tab_ok.env hl) (tab.natl hl) Try.func52 (by kernel_rfl : Try.f52.body = some f52c) [3] (by kernel_rfl) ?_, _, Try.func52, by kernel_rfl, of_decide_eq_true (by kernel_rfl)⟩, Gm.Spec.of_natl _ _ _ _⟩
 intro ds outs h
 unfold q52 at h
 split at h
 ·simp only [Option.some.injEq, Prod.mk.injEq] at h; obtain ⟨hg, h⟩ := h; cases h; exact f52_spec _ _ hg
 ·cases h
noncomputable def f53c : Code := (Try.f53.body).getD .skip
def f53k : Nat → Kp := kat [⟨[0, 1], [], [], []⟩, ⟨[0, 4], [], [], []⟩]
noncomputable def f53e : Env := tab.env [(52, s52)]
theorem f53_run {R : Type} (n : Nat) (k : Kt R) (a0 : CurT) (a1 : Int) : evFn f53e f53k n f53c [.pmut, .ro] [false] true [.tmp 4] [4] [.d .cur a0, .d (.i .i64) a1] k =
 (cond ((fun c _ => gCur c) a0 a1)
 (k [.d .bool (((curBelow a0 a1).1) == (0 : Int)), .d .cur ((curBelow a0 a1).2)])
 none) := by kernel_rfl
def f53_P (a0 : CurT) (a1 : Int) (o : Bool × CurT) : Prop := (fun _ _ o => gCur o.2 = true) a0 a1 o ∧ ∃ n : Nat, ∀ {R : Type} (k : Kt R), evFn f53e f53k n f53c [.pmut, .ro] [false] true [.tmp 4] [4] [.d .cur a0, .d (.i .i64) a1] k = k [.d .bool o.1, .d .cur o.2]
theorem f53_ex (a0 : CurT) (a1 : Int) (hg : (fun c _ => gCur c) a0 a1 = true) : ∃ o : Bool × CurT, (fun _ _ o => gCur o.2 = true) a0 a1 o ∧ ∃ n : Nat, ∀ {R : Type} (k : Kt R), evFn f53e f53k n f53c [.pmut, .ro] [false] true [.tmp 4] [4] [.d .cur a0, .d (.i .i64) a1] k = k [.d .bool o.1, .d .cur o.2] := by
 have hg : gCur a0 = true := hg
 obtain ⟨_, _, g1⟩ := curBelow_ok a0 a1 hg
 refine ⟨(?az0, ?bz0), ?gz0, 0, ?rz0⟩
 case rz0 =>
  intro R k
  rw [f53_run]
  simp only [hg, cond_true]
  exact rfl
 case gz0 => exact g1
theorem f53_ne (a0 : CurT) (a1 : Int) : Nonempty {o : Bool × CurT // (fun c _ => gCur c) a0 a1 = true → f53_P a0 a1 o} := by
 by_cases hg : (fun c _ => gCur c) a0 a1 = true
 ·obtain ⟨o, ho⟩ := f53_ex a0 a1 hg
  exact ⟨⟨o, fun _ => ho⟩⟩
 ·exact ⟨⟨((zero .bool), (zero .cur)), fun h => absurd h hg⟩⟩
noncomputable def curOnce (a0 : CurT) (a1 : Int) : Bool × CurT := (Classical.choice (f53_ne a0 a1)).val
theorem f53_sp (a0 : CurT) (a1 : Int) (hg : (fun c _ => gCur c) a0 a1 = true) : f53_P a0 a1 (curOnce a0 a1) := (Classical.choice (f53_ne a0 a1)).property hg
theorem curOnce_ok (a0 : CurT) (a1 : Int) (hg : (fun c _ => gCur c) a0 a1 = true) : (fun _ _ o => gCur o.2 = true) a0 a1 (curOnce a0 a1) := (f53_sp a0 a1 hg).1
theorem curOnce_g (a0 : CurT) (a1 : Int) (hg : gCur a0 = true) : gCur (curOnce a0 a1).2 = true := by
  have h := curOnce_ok a0 a1 hg
  first | exact h | exact h.2 | exact h.2.2 | exact h.2.2.2
theorem f53_spec (a0 : CurT) (a1 : Int) (hg : (fun c _ => gCur c) a0 a1 = true) : ∃ keep rounds, ∀ {R : Type} (k : Kt R), evFn f53e keep rounds f53c [.pmut, .ro] [false] true [.tmp 4] [4] [.d .cur a0, .d (.i .i64) a1] k = k [.d .bool ((curOnce a0 a1).1), .d .cur ((curOnce a0 a1).2)] := by
 obtain ⟨n, hn⟩ := (f53_sp a0 a1 hg).2
 exact ⟨f53k, n, hn⟩
noncomputable def q53 : Qt
 | [.d .cur a0, .d (.i .i64) a1] => some (((fun c _ => gCur c) a0 a1), [.d .bool ((curOnce a0 a1).1), .d .cur ((curOnce a0 a1).2)])
 | _ => none
noncomputable def s53 : Gm.Spec := Gm.Spec.of [.pmut, .ro] [false] true q53
theorem good53 : Gm.Good Try.prog (53, s53) := by
 have hl : ∀ x ∈ [(52, s52)], Gm.Good Try.prog x := fcJ.2 ⟨good52, fcN⟩
 refine ⟨⟨spec_ok (tab_ok.env hl) (tab.natl hl) Try.func53 (by kernel_rfl : Try.f53.body = some f53c) [4] (by kernel_rfl) ?_, _, Try.func53, by kernel_rfl, of_decide_eq_true (by kernel_rfl)⟩, Gm.Spec.of_natl _ _ _ _⟩
 intro ds outs h
 unfold q53 at h
 split at h
 ·simp only [Option.some.injEq, Prod.mk.injEq] at h; obtain ⟨hg, h⟩ := h; cases h; exact f53_spec _ _ hg
 ·cases h
noncomputable def f81c : Code := (Try.f81.body).getD .skip
def f81k : Nat → Kp := kat [⟨[0, 1], [], [], []⟩, ⟨[0, 4], [], [], []⟩]
noncomputable def f81e : Env := tab.env [(52, s52)]
theorem f81_run {R : Type} (n : Nat) (k : Kt R) (a0 : CurT) (a1 : List BA) : evFn f81e f81k n f81c [.pmut, .ro] [false] true [.tmp 4] [9] [.d .cur a0, .d (.sl .str) a1] k =
 (cond ((fun c _ => gCur c) a0 (a1.length : Int))
 (cond ((decide ((0 : Int) ≤ ((curBelow a0 (a1.length : Int)).1))) && (decide (((curBelow a0 (a1.length : Int)).1) < (a1.length : Int))))
 (k [.d .str (atI (t := .str) a1 (Int.toNat ((curBelow a0 (a1.length : Int)).1))), .d .cur ((curBelow a0 (a1.length : Int)).2)])
 none)
 none) := by kernel_rfl
def f81_P (a0 : CurT) (a1 : List BA) (o : BA × CurT) : Prop := (fun _ l o => o.1 ∈ l ∧ gCur o.2 = true) a0 a1 o ∧ ∃ n : Nat, ∀ {R : Type} (k : Kt R), evFn f81e f81k n f81c [.pmut, .ro] [false] true [.tmp 4] [9] [.d .cur a0, .d (.sl .str) a1] k = k [.d .str o.1, .d .cur o.2]
theorem f81_ex (a0 : CurT) (a1 : List BA) (hg : gPickS a0 a1 = true) : ∃ o : BA × CurT, (fun _ l o => o.1 ∈ l ∧ gCur o.2 = true) a0 a1 o ∧ ∃ n : Nat, ∀ {R : Type} (k : Kt R), evFn f81e f81k n f81c [.pmut, .ro] [false] true [.tmp 4] [9] [.d .cur a0, .d (.sl .str) a1] k = k [.d .str o.1, .d .cur o.2] := by
 obtain ⟨hg, hne⟩ := Bool.and_eq_true_iff.1 hg
 obtain ⟨hne, hl⟩ := Bool.and_eq_true_iff.1 hne
 obtain ⟨h0, h1, g1⟩ := curBelow_ok a0 (a1.length : Int) hg
 have h1 := h1 (lenPos hne)
 refine ⟨(?az0, ?bz0), ?gz0, 0, ?rz0⟩
 case rz0 =>
  intro R k
  rw [f81_run]
  simp only [hg, idxOk h0 h1, cond_true]
  exact rfl
 case gz0 => exact ⟨mem_atI (t := .str) h0 h1, g1⟩
theorem f81_ne (a0 : CurT) (a1 : List BA) : Nonempty {o : BA × CurT // gPickS a0 a1 = true → f81_P a0 a1 o} := by
 by_cases hg : gPickS a0 a1 = true
 ·obtain ⟨o, ho⟩ := f81_ex a0 a1 hg
  exact ⟨⟨o, fun _ => ho⟩⟩
 ·exact ⟨⟨((zero .str), (zero .cur)), fun h => absurd h hg⟩⟩
noncomputable def curPick (a0 : CurT) (a1 : List BA) : BA × CurT := (Classical.choice (f81_ne a0 a1)).val
theorem f81_sp (a0 : CurT) (a1 : List BA) (hg : gPickS a0 a1 = true) : f81_P a0 a1 (curPick a0 a1) := (Classical.choice (f81_ne a0 a1)).property hg
theorem curPick_ok (a0 : CurT) (a1 : List BA) (hg : gPickS a0 a1 = true) : (fun _ l o => o.1 ∈ l ∧ gCur o.2 = true) a0 a1 (curPick a0 a1) := (f81_sp a0 a1 hg).1
theorem curPick_g (a0 : CurT) (a1 : List BA) (hg : gPickS a0 a1 = true) : gCur (curPick a0 a1).2 = true := by
  have h := curPick_ok a0 a1 hg
  first | exact h | exact h.2 | exact h.2.2 | exact h.2.2.2
theorem f81_spec (a0 : CurT) (a1 : List BA) (hg : gPickS a0 a1 = true) : ∃ keep rounds, ∀ {R : Type} (k : Kt R), evFn f81e keep rounds f81c [.pmut, .ro] [false] true [.tmp 4] [9] [.d .cur a0, .d (.sl .str) a1] k = k [.d .str ((curPick a0 a1).1), .d .cur ((curPick a0 a1).2)] := by
 obtain ⟨n, hn⟩ := (f81_sp a0 a1 hg).2
 exact ⟨f81k, n, hn⟩
noncomputable def q81 : Qt
 | [.d .cur a0, .d (.sl .str) a1] => some ((gPickS a0 a1), [.d .str ((curPick a0 a1).1), .d .cur ((curPick a0 a1).2)])
 | _ => none
noncomputable def s81 : Gm.Spec := Gm.Spec.of [.pmut, .ro] [false] true q81
theorem good81 : Gm.Good Try.prog (81, s81) := by
 have hl : ∀ x ∈ [(52, s52)], Gm.Good Try.prog x := fcJ.2 ⟨good52, fcN⟩
 refine ⟨⟨spec_ok (tab_ok.env hl) (tab.natl hl) Try.func81 (by kernel_rfl : Try.f81.body = some f81c) [9] (by kernel_rfl) ?_, _, Try.func81, by kernel_rfl, of_decide_eq_true (by kernel_rfl)⟩, Gm.Spec.of_natl _ _ _ _⟩
 intro ds outs h
 unfold q81 at h
 split at h
 ·simp only [Option.some.injEq, Prod.mk.injEq] at h; obtain ⟨hg, h⟩ := h; cases h; exact f81_spec _ _ hg
 ·cases h
noncomputable def f75c : Code := (Try.f75.body).getD .skip
def f75k : Nat → Kp := kat [⟨[0, 1], [], [], []⟩, ⟨[0, 4], [], [], []⟩]
noncomputable def f75e : Env := tab.env [(52, s52)]
theorem f75_run {R : Type} (n : Nat) (k : Kt R) (a0 : CurT) (a1 : List Int) : evFn f75e f75k n f75c [.pmut, .ro] [false] true [.tmp 4] [3] [.d .cur a0, .d (.sl (.i .i64)) a1] k =
 (cond ((fun c _ => gCur c) a0 (a1.length : Int))
 (cond ((decide ((0 : Int) ≤ ((curBelow a0 (a1.length : Int)).1))) && (decide (((curBelow a0 (a1.length : Int)).1) < (a1.length : Int))))
 (k [.d (.i .i64) (atI (t := (.i .i64)) a1 (Int.toNat ((curBelow a0 (a1.length : Int)).1))), .d .cur ((curBelow a0 (a1.length : Int)).2)])
 none)
 none) := by kernel_rfl
def f75_P (a0 : CurT) (a1 : List Int) (o : Int × CurT) : Prop := (fun _ l o => o.1 ∈ l ∧ gCur o.2 = true) a0 a1 o ∧ ∃ n : Nat, ∀ {R : Type} (k : Kt R), evFn f75e f75k n f75c [.pmut, .ro] [false] true [.tmp 4] [3] [.d .cur a0, .d (.sl (.i .i64)) a1] k = k [.d (.i .i64) o.1, .d .cur o.2]
theorem f75_ex (a0 : CurT) (a1 : List Int) (hg : gPickI a0 a1 = true) : ∃ o : Int × CurT, (fun _ l o => o.1 ∈ l ∧ gCur o.2 = true) a0 a1 o ∧ ∃ n : Nat, ∀ {R : Type} (k : Kt R), evFn f75e f75k n f75c [.pmut, .ro] [false] true [.tmp 4] [3] [.d .cur a0, .d (.sl (.i .i64)) a1] k = k [.d (.i .i64) o.1, .d .cur o.2] := by
 obtain ⟨hg, hne⟩ := Bool.and_eq_true_iff.1 hg
 obtain ⟨hne, hl⟩ := Bool.and_eq_true_iff.1 hne
 obtain ⟨h0, h1, g1⟩ := curBelow_ok a0 (a1.length : Int) hg
 have h1 := h1 (lenPos hne)
 refine ⟨(?az0, ?bz0), ?gz0, 0, ?rz0⟩
 case rz0 =>
  intro R k
  rw [f75_run]
  simp only [hg, idxOk h0 h1, cond_true]
  exact rfl
 case gz0 => exact ⟨mem_atI (t := (.i .i64)) h0 h1, g1⟩
theorem f75_ne (a0 : CurT) (a1 : List Int) : Nonempty {o : Int × CurT // gPickI a0 a1 = true → f75_P a0 a1 o} := by
 by_cases hg : gPickI a0 a1 = true
 ·obtain ⟨o, ho⟩ := f75_ex a0 a1 hg
  exact ⟨⟨o, fun _ => ho⟩⟩
 ·exact ⟨⟨((zero (.i .i64)), (zero .cur)), fun h => absurd h hg⟩⟩
noncomputable def curPickI (a0 : CurT) (a1 : List Int) : Int × CurT := (Classical.choice (f75_ne a0 a1)).val
theorem f75_sp (a0 : CurT) (a1 : List Int) (hg : gPickI a0 a1 = true) : f75_P a0 a1 (curPickI a0 a1) := (Classical.choice (f75_ne a0 a1)).property hg
theorem curPickI_ok (a0 : CurT) (a1 : List Int) (hg : gPickI a0 a1 = true) : (fun _ l o => o.1 ∈ l ∧ gCur o.2 = true) a0 a1 (curPickI a0 a1) := (f75_sp a0 a1 hg).1
theorem curPickI_g (a0 : CurT) (a1 : List Int) (hg : gPickI a0 a1 = true) : gCur (curPickI a0 a1).2 = true := by
  have h := curPickI_ok a0 a1 hg
  first | exact h | exact h.2 | exact h.2.2 | exact h.2.2.2
theorem f75_spec (a0 : CurT) (a1 : List Int) (hg : gPickI a0 a1 = true) : ∃ keep rounds, ∀ {R : Type} (k : Kt R), evFn f75e keep rounds f75c [.pmut, .ro] [false] true [.tmp 4] [3] [.d .cur a0, .d (.sl (.i .i64)) a1] k = k [.d (.i .i64) ((curPickI a0 a1).1), .d .cur ((curPickI a0 a1).2)] := by
 obtain ⟨n, hn⟩ := (f75_sp a0 a1 hg).2
 exact ⟨f75k, n, hn⟩
theorem smStr_pick {c : CurT} {l : List BA} (hg : gCur c = true) (hn : (!l.isEmpty && Nat.ble l.length 1048576) = true) (h : (l.all smStr) = true) : smStr (curPick c l).1 = true :=
  smStr_in (curPick_ok c l (gPickS_of hg hn)).1 h
theorem okI_pickI {c : CurT} {l : List Int} (hg : gCur c = true) (hn : (!l.isEmpty && Nat.ble l.length 1048576) = true) (h : (l.all okI) = true) : okI (curPickI c l).1 = true :=
  List.all_eq_true.1 h _ (curPickI_ok c l (gPickI_of hg hn)).1
theorem okI_below {c : CurT} {n : Int} (hg : gCur c = true) (h : 0 < n) (h2 : n ≤ 9223372036854775807) : okI (curBelow c n).1 = true := by
 obtain ⟨h0, h1, _⟩ := curBelow_ok c n hg
 have := h1 h
 exact okI_of (by omega) (by omega)
noncomputable def q75 : Qt
 | [.d .cur a0, .d (.sl (.i .i64)) a1] => some ((gPickI a0 a1), [.d (.i .i64) ((curPickI a0 a1).1), .d .cur ((curPickI a0 a1).2)])
 | _ => none
noncomputable def s75 : Gm.Spec := Gm.Spec.of [.pmut, .ro] [false] true q75
theorem good75 : Gm.Good Try.prog (75, s75) := by
 have hl : ∀ x ∈ [(52, s52)], Gm.Good Try.prog x := fcJ.2 ⟨good52, fcN⟩
 refine ⟨⟨spec_ok (tab_ok.env hl) (tab.natl hl) Try.func75 (by kernel_rfl : Try.f75.body = some f75c) [3] (by kernel_rfl) ?_, _, Try.func75, by kernel_rfl, of_decide_eq_true (by kernel_rfl)⟩, Gm.Spec.of_natl _ _ _ _⟩
 intro ds outs h
 unfold q75 at h
 split at h
 ·simp only [Option.some.injEq, Prod.mk.injEq] at h; obtain ⟨hg, h⟩ := h; cases h; exact f75_spec _ _ hg
 ·cases h
noncomputable def f98c : Code := (Try.f98.body).getD .skip
def f98k : Nat → Kp := kat [⟨[1], [], [], []⟩, ⟨[2], [], [], []⟩]
noncomputable def f98e : Env := tab.env []
theorem f98_run {R : Type} (n : Nat) (k : Kt R) (a0 : NodeT) : evFn f98e f98k n f98c [.ro] [false] true [.tmp 2] [4] [.d .node a0] k =
 (cond ((NodeT.kind a0) == (5 : Int))
 (k [.d .bool (((NodeT.keys a0).length : Int) == ((NodeT.kids a0).length : Int))])
 (k [.d .bool false])) := by kernel_rfl
theorem f98_spec (a0 : NodeT) : ∃ keep rounds, ∀ {R : Type} (k : Kt R), evFn f98e keep rounds f98c [.ro] [false] true [.tmp 2] [4] [.d .node a0] k = k [.d .bool (isMapN a0)] := by
 refine ⟨f98k, 0, fun k => ?_⟩
 rw [f98_run]; unfold isMapN
 cases a0.kind == (5 : Int) <;> rfl
noncomputable def q98 : Qt
 | [.d .node a0] => some (true, [.d .bool (isMapN a0)])
 | _ => none
noncomputable def s98 : Gm.Spec := Gm.Spec.of [.ro] [false] true q98
theorem good98 : Gm.Good Try.prog (98, s98) := by
 have hl : ∀ x ∈ ([] : List (Nat × Gm.Spec)), Gm.Good Try.prog x := fun _ h => by cases h
 refine ⟨⟨spec_ok (tab_ok.env hl) (tab.natl hl) Try.func98 (by kernel_rfl : Try.f98.body = some f98c) [4] (by kernel_rfl) ?_, _, Try.func98, by kernel_rfl, of_decide_eq_true (by kernel_rfl)⟩, Gm.Spec.of_natl _ _ _ _⟩
 intro ds outs h
 unfold q98 at h
 split at h
 ·cases h; exact f98_spec _
 ·cases h
noncomputable def f107c : Code := (Try.f107.body).getD .skip
def f107k : Nat → Kp := kat [⟨[0, 1, 2], [], [], []⟩, ⟨[6], [], [], []⟩]
noncomputable def f107e : Env := tab.env []
theorem f107_run {R : Type} (n : Nat) (k : Kt R) (a0 : Int) (a1 : Int) (a2 : Int) : evFn f107e f107k n f107c [.ro, .ro, .ro] [false] true [.tmp 6] [4] [.d (.i .i64) a0, .d (.i .i64) a1, .d (.i .i64) a2] k =
 (cond (decide (a0 ≥ a1))
 (k [.d .bool (decide (a0 ≤ a2))])
 (k [.d .bool false])) := by kernel_rfl
theorem f107_spec (a0 : Int) (a1 : Int) (a2 : Int) : ∃ keep rounds, ∀ {R : Type} (k : Kt R), evFn f107e keep rounds f107c [.ro, .ro, .ro] [false] true [.tmp 6] [4] [.d (.i .i64) a0, .d (.i .i64) a1, .d (.i .i64) a2] k = k [.d .bool (inR a0 a1 a2)] := by
 refine ⟨f107k, 0, fun k => ?_⟩
 rw [f107_run]; unfold inR
 cases decide (a0 ≥ a1) <;> rfl
noncomputable def q107 : Qt
 | [.d (.i .i64) a0, .d (.i .i64) a1, .d (.i .i64) a2] => some (true, [.d .bool (inR a0 a1 a2)])
 | _ => none
noncomputable def s107 : Gm.Spec := Gm.Spec.of [.ro, .ro, .ro] [false] true q107
theorem good107 : Gm.Good Try.prog (107, s107) := by
 have hl : ∀ x ∈ ([] : List (Nat × Gm.Spec)), Gm.Good Try.prog x := fun _ h => by cases h
 refine ⟨⟨spec_ok (tab_ok.env hl) (tab.natl hl) Try.func107 (by kernel_rfl : Try.f107.body = some f107c) [4] (by kernel_rfl) ?_, _, Try.func107, by kernel_rfl, of_decide_eq_true (by kernel_rfl)⟩, Gm.Spec.of_natl _ _ _ _⟩
 intro ds outs h
 unfold q107 at h
 split at h
 ·cases h; exact f107_spec _ _ _
 ·cases h
noncomputable def f82S0 (y0 : List BA) (y1 : BA) (y2 : Int) (y3 : Int) : St := ⟨[(0, .c (.one (.ro .str y0))), (1, .c (.one (.v (.string y1)))), (7, .c (.one (.v (.int .i64 y2)))), (8, .c (.one (.v (.int .i64 y3))))], [], []⟩
noncomputable def f82S1 (y0 : Int) : St := ⟨[(4, .c (.one (.v (.int .i64 y0))))], [], []⟩
noncomputable def f82S2 (y0 : List BA) (y1 : BA) (y2 : Int) (y3 : Int) (y4 : Bool) : St := ⟨[(0, .c (.one (.ro .str y0))), (1, .c (.one (.v (.string y1)))), (7, .c (.one (.v (.int .i64 y2)))), (8, .c (.one (.v (.int .i64 y3)))), (9, .c (.one (.v (.bool y4))))], [], []⟩
noncomputable def f82c : Code := (Try.f82.body).getD .skip
def f82k : Nat → Kp := kat [⟨[0, 1], [], [], []⟩, ⟨[0, 1, 7, 8], [], [], []⟩, ⟨[0, 1, 7, 8, 9], [], [], []⟩, ⟨[0, 1, 5, 7, 8], [], [], []⟩, ⟨[0, 1, 5, 7, 8, 16], [], [], []⟩, ⟨[4], [], [], []⟩, ⟨[0, 1, 7, 8], [], [], []⟩, ⟨[4], [], [], []⟩]
noncomputable def f82e : Env := tab.env []
noncomputable def f82L0 {R : Type} (n : Nat) (x0 : Int → Option R) (x1 : Int → Bool → Option R) (wA : List BA) (wC : BA) (wO : Int) : Nat → Int → Option R
  | 0, _ => none
  | m + 1, wM =>
    (cond (decide (wM < wO))
   (cond ((decide ((0 : Int) ≤ wM)) && (decide (wM < (wA.length : Int))))
    (cond (sEq wC (atI (t := .str) wA (Int.toNat wM)))
     (x0 wM)
     (f82L0 n x0 x1 wA wC wO m (IntKind.wrap .i64 (wM + (1 : Int)))))
    none)
   (x1 wM (decide (wM < wO))))
theorem f82L0_b {R : Type} (n : Nat) (k' : Kx R) (wA : List BA) (wC : BA) (wO : Int) (wM : Int) : ev f82e f82k n (cAt [1,0,1,0,0] f82c) (f82S0 wA wC wO wM) k' =
 (cond (decide (wM < wO))
 (cond ((decide ((0 : Int) ≤ wM)) && (decide (wM < (wA.length : Int))))
 (cond (sEq wC (atI (t := .str) wA (Int.toNat wM)))
 (k' .ret (f82S1 wM))
 (k' .normal (f82S0 wA wC wO (IntKind.wrap .i64 (wM + (1 : Int))))))
 none)
 (k' (.exit 0) (f82S2 wA wC wO wM (decide (wM < wO))))) := by kernel_rfl
theorem f82L0_eq {R : Type} (n : Nat) (k' : Kx R) (wA : List BA) (wC : BA) (wO : Int) : ∀ (m : Nat) (wM : Int), iter (fun st k => ev f82e f82k n (cAt [1,0,1,0,0] f82c) st k) m (f82S0 wA wC wO wM) k' = f82L0 n (fun (wJ : Int) => k' .ret (f82S1 wJ)) (fun (wT : Int) (wU : Bool) => k' (.exit 0) (f82S2 wA wC wO wT wU)) wA wC wO m wM := by
 intro m; induction m with
 | zero => intros; rfl
 | succ m ih =>
  intro wM
  simp only [iter]
  rw [f82L0_b]
  simp only [ih, f82L0]
noncomputable def f82K0 {R : Type} (n : Nat) (k' : Kx R) : Kx R := (blockK 0 (seqK f82e f82k n (cAt [1,1] f82c) k'))
theorem f82K0_x0 {R : Type} (n : Nat) (k : Kt R) (a0 : List BA) (a1 : BA) (wJ : Int) : f82K0 n (exitK f82e [.ro, .ro] [false] true [.tmp 4] [3] [.d (.sl .str) a0, .d .str a1] k) .ret (f82S1 wJ) =
 (k [.d (.i .i64) wJ]) := by kernel_rfl
theorem f82K0_x1 {R : Type} (n : Nat) (k : Kt R) (a0 : List BA) (a1 : BA) (wA : List BA) (wC : BA) (wO : Int) (wT : Int) (wU : Bool) : f82K0 n (exitK f82e [.ro, .ro] [false] true [.tmp 4] [3] [.d (.sl .str) a0, .d .str a1] k) (.exit 0) (f82S2 wA wC wO wT wU) =
 (k [.d (.i .i64) (-1 : Int)]) := by kernel_rfl
theorem f82_run {R : Type} (n : Nat) (k : Kt R) (a0 : List BA) (a1 : BA) : evFn f82e f82k n f82c [.ro, .ro] [false] true [.tmp 4] [3] [.d (.sl .str) a0, .d .str a1] k =
 (f82L0 n (fun (wJ : Int) =>
 (k [.d (.i .i64) wJ])) (fun (wT : Int) (wU : Bool) =>
 (k [.d (.i .i64) (-1 : Int)])) a0 a1 (a0.length : Int) n (0 : Int)) := by
 refine Eq.trans (b := (iter (fun st k => ev f82e f82k n (cAt [1,0,1,0,0] f82c) st k) n (f82S0 a0 a1 (a0.length : Int) (0 : Int)) (f82K0 n (exitK f82e [.ro, .ro] [false] true [.tmp 4] [3] [.d (.sl .str) a0, .d .str a1] k)))) (by kernel_rfl) ?_
 simp only [f82L0_eq, f82K0_x0, f82K0_x1]
theorem f82_spec (a0 : List BA) (a1 : BA) (hg : gLenW a0 = true) : ∃ keep rounds, ∀ {R : Type} (k : Kt R), evFn f82e keep rounds f82c [.ro, .ro] [false] true [.tmp 4] [3] [.d (.sl .str) a0, .d .str a1] k = k [.d (.i .i64) (idxS a0 a1)] := by
 have hl := gLenW_le hg
 refine ⟨f82k, a0.length + 1, fun k => ?_⟩
 rw [f82_run]
 refine Eq.trans (loop_find (n := a0.length) (F := fun m i => f82L0 (a0.length + 1) _ _ a0 a1 (a0.length : Int) m i) (p := fun j => sEq a1 (atI (t := .str) a0 j)) (hit := fun i => k [.d (.i .i64) i]) (miss := k [.d (.i .i64) (-1 : Int)])
  (fun m j hj => ?_) (fun m => by simp only [f82L0, idxE, cond_false]) a0.length 0 (a0.length + 1) (by omega) (by omega)) ?_
 ·obtain ⟨h1, h0, hw, ht⟩ := idx hj (by omega)
  simp only [f82L0, h1, h0, hw, ht, Bool.and_self, cond_true]
 ·show _ = k [.d (.i .i64) (plc _)]
  cases firstN (fun j => sEq a1 (atI (t := .str) a0 j)) 0 a0.length <;> rfl
noncomputable def q82 : Qt
 | [.d (.sl .str) a0, .d .str a1] => some (((fun (x : List BA) (_ : BA) => gLenW x) a0 a1), [.d (.i .i64) (idxS a0 a1)])
 | _ => none
noncomputable def s82 : Gm.Spec := Gm.Spec.of [.ro, .ro] [false] true q82
theorem good82 : Gm.Good Try.prog (82, s82) := by
 have hl : ∀ x ∈ ([] : List (Nat × Gm.Spec)), Gm.Good Try.prog x := fun _ h => by cases h
 refine ⟨⟨spec_ok (tab_ok.env hl) (tab.natl hl) Try.func82 (by kernel_rfl : Try.f82.body = some f82c) [3] (by kernel_rfl) ?_, _, Try.func82, by kernel_rfl, of_decide_eq_true (by kernel_rfl)⟩, Gm.Spec.of_natl _ _ _ _⟩
 intro ds outs h
 unfold q82 at h
 split at h
 ·simp only [Option.some.injEq, Prod.mk.injEq] at h; obtain ⟨hg, h⟩ := h; cases h; exact f82_spec _ _ hg
 ·cases h
noncomputable def f59S0 (y0 : Int) (y1 : Bool) (y2 : BA) : St := ⟨[(0, .c (.one (.v (.int .i64 y0)))), (3, .c (.one (.v (.bool y1)))), (4, .c (.one (.v (.string y2))))], [], []⟩
noncomputable def f59S1 (y0 : Int) (y1 : Bool) (y2 : BA) (y3 : Bool) : St := ⟨[(0, .c (.one (.v (.int .i64 y0)))), (3, .c (.one (.v (.bool y1)))), (4, .c (.one (.v (.string y2)))), (11, .c (.one (.v (.bool y3))))], [], []⟩
noncomputable def f59c : Code := (Try.f59.body).getD .skip
def f59k : Nat → Kp := kat [⟨[0], [], [], []⟩, ⟨[0, 7], [], [], []⟩, ⟨[2], [], [], []⟩, ⟨[0, 3], [], [], []⟩, ⟨[0, 3, 4], [], [], []⟩, ⟨[0, 3, 4, 11], [], [], []⟩, ⟨[0, 3, 4, 5], [], [], []⟩, ⟨[0, 3, 4, 5, 15], [], [], []⟩, ⟨[0, 3, 4, 5], [], [], []⟩, ⟨[0, 3, 4], [], [], []⟩, ⟨[0, 3, 4], [], [], []⟩, ⟨[4, 27], [], [], []⟩, ⟨[2], [], [], []⟩, ⟨[2], [], [], []⟩]
noncomputable def f59e : Env := tab.env []
noncomputable def f59L0 {R : Type} (n : Nat) (x0 : Int → BA → Bool → Option R) (wQ : Bool) : Nat → Int → BA → Option R
  | 0, _, _ => none
  | m + 1, wA, wD =>
    (cond (wA != (0 : Int))
   (cond (decide ((Int.tmod wA (10 : Int)) < (0 : Int)))
    (cond (decide (ByteArray.size (bytesOf ([(IntKind.wrap .u8 (IntKind.wrap .i64 ((48 : Int) + (IntKind.wrap .i64 ((0 : Int) - (Int.tmod wA (10 : Int)))))))] : List Int)) + ByteArray.size wD ≤ 9223372036854775807))
     (f59L0 n x0 wQ m (IntKind.wrap .i64 (Int.tdiv wA (10 : Int))) ((bytesOf ([(IntKind.wrap .u8 (IntKind.wrap .i64 ((48 : Int) + (IntKind.wrap .i64 ((0 : Int) - (Int.tmod wA (10 : Int)))))))] : List Int)) ++ wD))
     none)
    (cond (decide (ByteArray.size (bytesOf ([(IntKind.wrap .u8 (IntKind.wrap .i64 ((48 : Int) + (Int.tmod wA (10 : Int)))))] : List Int)) + ByteArray.size wD ≤ 9223372036854775807))
     (f59L0 n x0 wQ m (IntKind.wrap .i64 (Int.tdiv wA (10 : Int))) ((bytesOf ([(IntKind.wrap .u8 (IntKind.wrap .i64 ((48 : Int) + (Int.tmod wA (10 : Int)))))] : List Int)) ++ wD))
     none))
   (x0 wA wD (wA != (0 : Int))))
theorem f59L0_b {R : Type} (n : Nat) (k' : Kx R) (wA : Int) (wQ : Bool) (wD : BA) : ev f59e f59k n (cAt [1,1,1,1,0,0,0] f59c) (f59S0 wA wQ wD) k' =
 (cond (wA != (0 : Int))
 (cond (decide ((Int.tmod wA (10 : Int)) < (0 : Int)))
 (cond (decide (ByteArray.size (bytesOf ([(IntKind.wrap .u8 (IntKind.wrap .i64 ((48 : Int) + (IntKind.wrap .i64 ((0 : Int) - (Int.tmod wA (10 : Int)))))))] : List Int)) + ByteArray.size wD ≤ 9223372036854775807))
 (k' .normal (f59S0 (IntKind.wrap .i64 (Int.tdiv wA (10 : Int))) wQ ((bytesOf ([(IntKind.wrap .u8 (IntKind.wrap .i64 ((48 : Int) + (IntKind.wrap .i64 ((0 : Int) - (Int.tmod wA (10 : Int)))))))] : List Int)) ++ wD)))
 none)
 (cond (decide (ByteArray.size (bytesOf ([(IntKind.wrap .u8 (IntKind.wrap .i64 ((48 : Int) + (Int.tmod wA (10 : Int)))))] : List Int)) + ByteArray.size wD ≤ 9223372036854775807))
 (k' .normal (f59S0 (IntKind.wrap .i64 (Int.tdiv wA (10 : Int))) wQ ((bytesOf ([(IntKind.wrap .u8 (IntKind.wrap .i64 ((48 : Int) + (Int.tmod wA (10 : Int)))))] : List Int)) ++ wD)))
 none))
 (k' (.exit 0) (f59S1 wA wQ wD (wA != (0 : Int))))) := by kernel_rfl
theorem f59L0_eq {R : Type} (n : Nat) (k' : Kx R) (wQ : Bool) : ∀ (m : Nat) (wA : Int) (wD : BA), iter (fun st k => ev f59e f59k n (cAt [1,1,1,1,0,0,0] f59c) st k) m (f59S0 wA wQ wD) k' = f59L0 n (fun (wV : Int) (wJ : BA) (wW : Bool) => k' (.exit 0) (f59S1 wV wQ wJ wW)) wQ m wA wD := by
 intro m; induction m with
 | zero => intros; rfl
 | succ m ih =>
  intro wA wD
  simp only [iter]
  rw [f59L0_b]
  simp only [ih, f59L0]
noncomputable def f59K0 {R : Type} (n : Nat) (k' : Kx R) : Kx R := (blockK 0 (seqK f59e f59k n (cAt [1,1,1,1,1] f59c) k'))
theorem f59K0_x0 {R : Type} (n : Nat) (k : Kt R) (a0 : Int) (wQ : Bool) (wV : Int) (wJ : BA) (wW : Bool) : f59K0 n (exitK f59e [.ro] [false] true [.tmp 2] [9] [.d (.i .i64) a0] k) (.exit 0) (f59S1 wV wQ wJ wW) =
 (cond wQ
 (cond (decide (ByteArray.size (bs [45]) + ByteArray.size wJ ≤ 9223372036854775807))
 (k [.d .str ((bs [45]) ++ wJ)])
 none)
 (k [.d .str wJ])) := by kernel_rfl
theorem f59_run {R : Type} (n : Nat) (k : Kt R) (a0 : Int) : evFn f59e f59k n f59c [.ro] [false] true [.tmp 2] [9] [.d (.i .i64) a0] k =
 (cond (a0 == (0 : Int))
 (k [.d .str (bs [48])])
 (f59L0 n (fun (wV : Int) (wJ : BA) (wW : Bool) =>
 (cond (decide (a0 < (0 : Int)))
 (cond (decide (ByteArray.size (bs [45]) + ByteArray.size wJ ≤ 9223372036854775807))
 (k [.d .str ((bs [45]) ++ wJ)])
 none)
 (k [.d .str wJ]))) (decide (a0 < (0 : Int))) n a0 ByteArray.empty)) := by
 refine Eq.trans (b := (cond (a0 == (0 : Int))
 (k [.d .str (bs [48])])
 (iter (fun st k => ev f59e f59k n (cAt [1,1,1,1,0,0,0] f59c) st k) n (f59S0 a0 (decide (a0 < (0 : Int))) ByteArray.empty) (f59K0 n (exitK f59e [.ro] [false] true [.tmp 2] [9] [.d (.i .i64) a0] k))))) (by kernel_rfl) ?_
 simp only [f59L0_eq, f59K0_x0]
theorem f59_spec (a0 : Int) (hg : okI a0 = true) : ∃ keep rounds, ∀ {R : Type} (k : Kt R), evFn f59e keep rounds f59c [.ro] [false] true [.tmp 2] [9] [.d (.i .i64) a0] k = k [.d .str (digS a0)] := by
 have hg0 := hg
 rw [okI_iff] at hg
 refine ⟨f59k, 25, fun {R} k => ?_⟩
 rw [f59_run]
 by_cases hz : a0 = 0
 ·subst hz
  have e : digS 0 = bs [48] := by rw [show (0 : Int) = ((0 : Nat) : Int) from rfl, digS_nat, natDig_lt (by omega)]; rfl
  rw [e]; rfl
 have hz' : (a0 == (0 : Int)) = false := by rw [beq_eq_false_iff_ne]; exact hz
 rw [hz', cond_false]
 have key : ∀ (d m : Nat) (n : Int) (out : BA), n.natAbs < 10 ^ d → d ≤ 20 → d < m → (n ≤ 9223372036854775807 ∧ -9223372036854775808 ≤ n) → out.size + d ≤ 100 → ∀ X : Int → BA → Bool → Option R, (∀ o b, X 0 o b = X 0 o false) →
   f59L0 25 X (decide (a0 < (0 : Int))) m n out = X 0 (digR n.natAbs out) false := by
  intro d
  induction d with
  | zero =>
   intro m n out hn hd hm hw hs X hX
   obtain ⟨m, rfl⟩ : ∃ m', m = m' + 1 := ⟨m - 1, by omega⟩
   have : n = 0 := by omega
   subst this
   simp only [f59L0]
   rfl
  | succ d ih =>
   intro m n out hn hd hm hw hs X hX
   obtain ⟨m, rfl⟩ : ∃ m', m = m' + 1 := ⟨m - 1, by omega⟩
   by_cases h0 : n = 0
   ·subst h0
    simp only [f59L0]
    rfl
   have h0' : (n != (0 : Int)) = true := by rw [bne_iff_ne]; exact h0
   have hn2 : n.natAbs / 10 < 10 ^ d := by rw [Nat.pow_succ] at hn; omega
   have hb := byte_dig (n.natAbs % 10) (by omega)
   have hsz : ByteArray.size ⟨#[UInt8.ofNat (48 + n.natAbs % 10)]⟩ = 1 := rfl
   simp only [f59L0, h0', cond_true]
   by_cases h1 : n < 0
   ·have t1 : IntKind.wrap .i64 (Int.tdiv n 10) = -((n.natAbs / 10 : Nat) : Int) := by rw [tdiv_neg h1]; exact wrap_id (by omega) (by omega)
    have t2 : Int.tmod n 10 = -((n.natAbs % 10 : Nat) : Int) := tmod_neg h1
    have e1 : IntKind.wrap .i64 ((0 : Int) - -((n.natAbs % 10 : Nat) : Int)) = ((n.natAbs % 10 : Nat) : Int) := by rw [wrap_id (by omega) (by omega)]; omega
    rw [t1, t2, e1, hb]
    have fin := ih m (-((n.natAbs / 10 : Nat) : Int)) (⟨#[UInt8.ofNat (48 + n.natAbs % 10)]⟩ ++ out) (by omega) (by omega) (by omega) (by omega) (by rw [ByteArray.size_append]; omega) X hX
    rw [show (-((n.natAbs / 10 : Nat) : Int)).natAbs = n.natAbs / 10 by omega, digR_step (by omega)] at fin
    rw [← fin]
    have hle := app_le (a := ⟨#[UInt8.ofNat (48 + n.natAbs % 10)]⟩) (b := out) (by omega)
    by_cases h2 : -((n.natAbs % 10 : Nat) : Int) < 0
    ·simp only [h2, decide_true, cond_true, hle]
    ·have h3 : n.natAbs % 10 = 0 := by omega
     simp only [h2, decide_false, cond_false]
     have hb0 : bytesOf [IntKind.wrap .u8 (IntKind.wrap .i64 ((48 : Int) + -((n.natAbs % 10 : Nat) : Int)))] = ⟨#[UInt8.ofNat (48 + n.natAbs % 10)]⟩ := by rw [h3]; rfl
     rw [hb0, hle, cond_true]
   ·have t1 : IntKind.wrap .i64 (Int.tdiv n 10) = ((n.natAbs / 10 : Nat) : Int) := by rw [tdiv_pos (by omega)]; exact wrap_id (by omega) (by omega)
    have t2 : Int.tmod n 10 = ((n.natAbs % 10 : Nat) : Int) := tmod_pos (by omega)
    rw [t1, t2, hb]
    have fin := ih m (((n.natAbs / 10 : Nat) : Int)) (⟨#[UInt8.ofNat (48 + n.natAbs % 10)]⟩ ++ out) (by omega) (by omega) (by omega) (by omega) (by rw [ByteArray.size_append]; omega) X hX
    rw [show (((n.natAbs / 10 : Nat) : Int)).natAbs = n.natAbs / 10 by omega, digR_step (by omega)] at fin
    rw [← fin]
    have hle := app_le (a := ⟨#[UInt8.ofNat (48 + n.natAbs % 10)]⟩) (b := out) (by omega)
    have h2 : ¬ ((n.natAbs % 10 : Nat) : Int) < 0 := by omega
    simp only [h2, decide_false, cond_false, cond_true, hle]
 refine Eq.trans (key 20 25 a0 ByteArray.empty (by have : (10 : Nat) ^ 20 = 100000000000000000000 := rfl; omega) (by omega) (by omega) (by omega) (by show 0 + 20 ≤ 100; omega) _ (fun _ _ => rfl)) ?_
 have e : digR a0.natAbs ByteArray.empty = ⟨(natDig a0.natAbs).toArray⟩ := by
  unfold digR; rw [if_neg (by omega)]; apply ba_ext; simp
 rw [e]
 by_cases h1 : a0 < 0
 ·have hs := digS_size hg0
  have ed : digS a0 = bs [45] ++ ⟨(natDig a0.natAbs).toArray⟩ := by
   unfold digS; rw [if_pos h1]; apply ba_ext; rw [ba_app]; simp [bs]
  have hs2 : (bs [45]).size + ByteArray.size ⟨(natDig a0.natAbs).toArray⟩ ≤ 9223372036854775807 := by
   rw [ed, ByteArray.size_append] at hs; omega
  simp only [h1, decide_true, cond_true, app_le hs2, ed]
 ·have ed : digS a0 = ⟨(natDig a0.natAbs).toArray⟩ := by
   unfold digS; rw [if_neg h1]; simp
  simp only [h1, decide_false, cond_false, ed]
noncomputable def q59 : Qt
 | [.d (.i .i64) a0] => some ((okI a0), [.d .str (digS a0)])
 | _ => none
noncomputable def s59 : Gm.Spec := Gm.Spec.of [.ro] [false] true q59
theorem good59 : Gm.Good Try.prog (59, s59) := by
 have hl : ∀ x ∈ ([] : List (Nat × Gm.Spec)), Gm.Good Try.prog x := fun _ h => by cases h
 refine ⟨⟨spec_ok (tab_ok.env hl) (tab.natl hl) Try.func59 (by kernel_rfl : Try.f59.body = some f59c) [9] (by kernel_rfl) ?_, _, Try.func59, by kernel_rfl, of_decide_eq_true (by kernel_rfl)⟩, Gm.Spec.of_natl _ _ _ _⟩
 intro ds outs h
 unfold q59 at h
 split at h
 ·simp only [Option.some.injEq, Prod.mk.injEq] at h; obtain ⟨hg, h⟩ := h; cases h; exact f59_spec _ hg
 ·cases h
noncomputable def q65 : Qt
 | [.d (.i .i64) a0] => some ((okI a0), [.d .str (digS a0)])
 | _ => none
noncomputable def mu65 : List Dt → Nat
 | [.d (.i .i64) a0] => muDig a0
 | _ => 0
noncomputable def s65r (N : Nat) : Gm.Spec := Gm.Spec.of [.ro] [false] true (qlt mu65 N q65)
noncomputable def f65c : Code := (Try.f65.body).getD .skip
def f65k : Nat → Kp := kat [⟨[0], [], [], []⟩, ⟨[0, 3], [], [], []⟩, ⟨[2], [], [], []⟩, ⟨[0, 14], [], [], []⟩, ⟨[2], [], [], []⟩, ⟨[0, 25], [], [], []⟩, ⟨[2], [], [], []⟩, ⟨[2], [], [], []⟩]
noncomputable def f65e (N : Nat) : Env := tab.env [(65, s65r N)]
theorem f65_run {R : Type} (N : Nat) (n : Nat) (k : Kt R) (a0 : Int) : evFn (f65e N) f65k n f65c [.ro] [false] true [.tmp 2] [9] [.d (.i .i64) a0] k =
 (cond (decide (a0 < (0 : Int)))
 (cond (decide (a0 > (-10 : Int)))
 (cond ((okI (IntKind.wrap .i64 (0 - a0))) && (Nat.blt (muDig (IntKind.wrap .i64 (0 - a0))) N))
 (cond (decide (ByteArray.size (bs [45]) + ByteArray.size (digS (IntKind.wrap .i64 (0 - a0))) ≤ 9223372036854775807))
 (k [.d .str ((bs [45]) ++ (digS (IntKind.wrap .i64 (0 - a0))))])
 none)
 none)
 (cond (decide (a0 < (0 : Int)))
 (cond ((okI (IntKind.wrap .i64 (Int.tdiv a0 (10 : Int)))) && (Nat.blt (muDig (IntKind.wrap .i64 (Int.tdiv a0 (10 : Int)))) N))
 (cond ((okI (IntKind.wrap .i64 (0 - (Int.tmod a0 (10 : Int))))) && (Nat.blt (muDig (IntKind.wrap .i64 (0 - (Int.tmod a0 (10 : Int))))) N))
 (cond (decide (ByteArray.size (digS (IntKind.wrap .i64 (Int.tdiv a0 (10 : Int)))) + ByteArray.size (digS (IntKind.wrap .i64 (0 - (Int.tmod a0 (10 : Int))))) ≤ 9223372036854775807))
 (k [.d .str ((digS (IntKind.wrap .i64 (Int.tdiv a0 (10 : Int)))) ++ (digS (IntKind.wrap .i64 (0 - (Int.tmod a0 (10 : Int))))))])
 none)
 none)
 none)
 (cond (decide (a0 < (10 : Int)))
 (k [.d .str (Utf8.encode (IntKind.wrap .i32 (IntKind.wrap .i64 ((48 : Int) + a0))))])
 (cond ((okI (IntKind.wrap .i64 (Int.tdiv a0 (10 : Int)))) && (Nat.blt (muDig (IntKind.wrap .i64 (Int.tdiv a0 (10 : Int)))) N))
 (cond (decide (ByteArray.size (digS (IntKind.wrap .i64 (Int.tdiv a0 (10 : Int)))) + ByteArray.size (Utf8.encode (IntKind.wrap .i32 (IntKind.wrap .i64 ((48 : Int) + (Int.tmod a0 (10 : Int)))))) ≤ 9223372036854775807))
 (k [.d .str ((digS (IntKind.wrap .i64 (Int.tdiv a0 (10 : Int)))) ++ (Utf8.encode (IntKind.wrap .i32 (IntKind.wrap .i64 ((48 : Int) + (Int.tmod a0 (10 : Int)))))))])
 none)
 none))))
 (cond (decide (a0 < (0 : Int)))
 (cond ((okI (IntKind.wrap .i64 (Int.tdiv a0 (10 : Int)))) && (Nat.blt (muDig (IntKind.wrap .i64 (Int.tdiv a0 (10 : Int)))) N))
 (cond ((okI (IntKind.wrap .i64 (0 - (Int.tmod a0 (10 : Int))))) && (Nat.blt (muDig (IntKind.wrap .i64 (0 - (Int.tmod a0 (10 : Int))))) N))
 (cond (decide (ByteArray.size (digS (IntKind.wrap .i64 (Int.tdiv a0 (10 : Int)))) + ByteArray.size (digS (IntKind.wrap .i64 (0 - (Int.tmod a0 (10 : Int))))) ≤ 9223372036854775807))
 (k [.d .str ((digS (IntKind.wrap .i64 (Int.tdiv a0 (10 : Int)))) ++ (digS (IntKind.wrap .i64 (0 - (Int.tmod a0 (10 : Int))))))])
 none)
 none)
 none)
 (cond (decide (a0 < (10 : Int)))
 (k [.d .str (Utf8.encode (IntKind.wrap .i32 (IntKind.wrap .i64 ((48 : Int) + a0))))])
 (cond ((okI (IntKind.wrap .i64 (Int.tdiv a0 (10 : Int)))) && (Nat.blt (muDig (IntKind.wrap .i64 (Int.tdiv a0 (10 : Int)))) N))
 (cond (decide (ByteArray.size (digS (IntKind.wrap .i64 (Int.tdiv a0 (10 : Int)))) + ByteArray.size (Utf8.encode (IntKind.wrap .i32 (IntKind.wrap .i64 ((48 : Int) + (Int.tmod a0 (10 : Int)))))) ≤ 9223372036854775807))
 (k [.d .str ((digS (IntKind.wrap .i64 (Int.tdiv a0 (10 : Int)))) ++ (Utf8.encode (IntKind.wrap .i32 (IntKind.wrap .i64 ((48 : Int) + (Int.tmod a0 (10 : Int)))))))])
 none)
 none)))) := by kernel_rfl
theorem f65_spec (N : Nat) (a0 : Int) (hg : okI a0 = true) (hm : mu65 [.d (.i .i64) a0] = N) : ∃ keep rounds, ∀ {R : Type} (k : Kt R), evFn (f65e N) keep rounds f65c [.ro] [false] true [.tmp 2] [9] [.d (.i .i64) a0] k = k [.d .str (digS a0)] := by
 refine ⟨f65k, 0, fun k => ?_⟩
 rw [f65_run]
 have hm : muDig a0 = N := hm
 subst hm
 have hg0 := hg
 rw [okI_iff] at hg
 by_cases h1 : a0 < 0
 ·by_cases h2 : a0 > -10
  ·have o1 : okI (IntKind.wrap .i64 (0 - a0)) = true := by rw [wrap_id (by omega) (by omega), okI_iff]; omega
   have m1 : Nat.blt (muDig (IntKind.wrap .i64 (0 - a0))) (muDig a0) = true := by
    rw [wrap_id (by omega) (by omega), Nat.blt_eq]; unfold muDig; rw [if_pos h1, if_neg (by omega)]; omega
   have s1 := digS_size o1
   have b1 : (bs [45]).size = 1 := rfl
   simp only [h1, h2, o1, m1, decide_true, cond_true, Bool.and_self, app_le (show (bs [45]).size + (digS (IntKind.wrap .i64 (0 - a0))).size ≤ 9223372036854775807 by omega), digS_negone h1 h2]
  ·have t1 : IntKind.wrap .i64 (Int.tdiv a0 10) = Int.tdiv a0 10 := by rw [tdiv_neg h1]; exact wrap_id (by omega) (by omega)
   have o1 : okI (Int.tdiv a0 10) = true := by rw [tdiv_neg h1, okI_iff]; omega
   have m1 : Nat.blt (muDig (Int.tdiv a0 10)) (muDig a0) = true := by
    rw [tdiv_neg h1, Nat.blt_eq]; unfold muDig; rw [if_pos h1]; split <;> omega
   have e2 : IntKind.wrap .i64 (0 - (Int.tmod a0 10)) = ((a0.natAbs % 10 : Nat) : Int) := by
    rw [tmod_neg h1, wrap_id (by omega) (by omega)]; omega
   have o2 : okI (IntKind.wrap .i64 (0 - (Int.tmod a0 10))) = true := by rw [e2, okI_iff]; omega
   have m2 : Nat.blt (muDig (IntKind.wrap .i64 (0 - (Int.tmod a0 10)))) (muDig a0) = true := by
    rw [e2, Nat.blt_eq]; unfold muDig; rw [if_pos h1, if_neg (by omega)]; omega
   have s1 := digS_size o1
   have s2 := digS_size o2
   simp only [h1, h2, t1, o1, m1, o2, m2, decide_true, decide_false, cond_true, cond_false, Bool.and_self, app_le (show (digS (Int.tdiv a0 10)).size + (digS (IntKind.wrap .i64 (0 - (Int.tmod a0 10)))).size ≤ 9223372036854775807 by omega), digS_le h2]
 ·by_cases h2 : a0 < 10
  ·simp only [h1, h2, decide_true, decide_false, cond_true, cond_false, digS_one (show 0 ≤ a0 by omega) h2]
  ·have t1 : IntKind.wrap .i64 (Int.tdiv a0 10) = Int.tdiv a0 10 := by rw [tdiv_pos (by omega)]; exact wrap_id (by omega) (by omega)
   have o1 : okI (Int.tdiv a0 10) = true := by rw [tdiv_pos (by omega), okI_iff]; omega
   have m1 : Nat.blt (muDig (Int.tdiv a0 10)) (muDig a0) = true := by
    rw [tdiv_pos (by omega), Nat.blt_eq]; unfold muDig; rw [if_neg h1, if_neg (by omega)]; omega
   have s1 := digS_size o1
   have s2 : (Utf8.encode (IntKind.wrap .i32 (IntKind.wrap .i64 ((48 : Int) + (Int.tmod a0 10))))).size ≤ 4 := encode_size_le _
   simp only [h1, h2, t1, o1, m1, decide_true, decide_false, cond_true, cond_false, Bool.and_self, app_le (show (digS (Int.tdiv a0 10)).size + (Utf8.encode (IntKind.wrap .i32 (IntKind.wrap .i64 ((48 : Int) + (Int.tmod a0 10))))).size ≤ 9223372036854775807 by omega), digS_ge h2]
noncomputable def s65 : Gm.Spec := Gm.Spec.of [.ro] [false] true q65
theorem good65 : Gm.Good Try.prog (65, s65) := by
 refine ⟨⟨spec_rec mu65 fun N hr => ?_, _, Try.func65, by kernel_rfl, of_decide_eq_true (by kernel_rfl)⟩, Gm.Spec.of_natl _ _ _ _⟩
 have hl : ∀ x ∈ [(65, s65r N)], Gm.Good Try.prog x := fcJ.2 ⟨⟨⟨hr, _, Try.func65, by kernel_rfl, of_decide_eq_true (by kernel_rfl)⟩, Gm.Spec.of_natl _ _ _ _⟩, fcN⟩
 intro R
 refine spec_ok (E := f65e N) (tab_ok.env hl) (tab.natl hl) Try.func65 (by kernel_rfl : Try.f65.body = some f65c) [9] (by kernel_rfl) ?_
 intro ds outs h
 obtain ⟨h, hm⟩ := qeq_some h
 unfold q65 at h
 split at h
 ·simp only [Option.some.injEq, Prod.mk.injEq] at h; obtain ⟨hg, h⟩ := h; cases h; exact f65_spec N _ hg hm
 ·cases h
noncomputable def f95S0 (y0 : BA) (y1 : BA) (y2 : Int) (y3 : Int) (y4 : Int) : St := ⟨[(0, .c (.one (.v (.string y0)))), (4, .c (.one (.v (.string y1)))), (5, .c (.one (.v (.int .i64 y2)))), (25, .c (.one (.v (.int .i64 y3)))), (26, .c (.one (.v (.int .i64 y4))))], [], []⟩
noncomputable def f95S1 : St := ⟨[(2, .c (.one (.v (.int .i64 (0 : Int))))), (3, .c (.one (.v (.bool false))))], [], []⟩
noncomputable def f95S2 (y0 : BA) (y1 : BA) (y2 : Int) (y3 : Int) (y4 : Int) (y5 : Bool) : St := ⟨[(0, .c (.one (.v (.string y0)))), (4, .c (.one (.v (.string y1)))), (5, .c (.one (.v (.int .i64 y2)))), (25, .c (.one (.v (.int .i64 y3)))), (26, .c (.one (.v (.int .i64 y4)))), (27, .c (.one (.v (.bool y5))))], [], []⟩
noncomputable def f95c : Code := (Try.f95.body).getD .skip
def f95k : Nat → Kp := kat [⟨[0], [], [], []⟩, ⟨[0, 4], [], [], []⟩, ⟨[0, 4, 14], [], [], []⟩, ⟨[0, 4], [], [], []⟩, ⟨[0, 4, 23], [], [], []⟩, ⟨[2, 3], [], [], []⟩, ⟨[0, 4, 5], [], [], []⟩, ⟨[0, 4, 5, 25, 26], [], [], []⟩, ⟨[0, 4, 5, 25, 26, 27], [], [], []⟩, ⟨[0, 4, 5, 6, 25, 26], [], [], []⟩, ⟨[0, 4, 5, 6, 25, 26, 38], [], [], []⟩, ⟨[2, 3], [], [], []⟩, ⟨[0, 4, 5, 25, 26], [], [], []⟩, ⟨[0, 4, 5, 25, 26], [], [], []⟩, ⟨[0, 5, 52], [], [], []⟩, ⟨[0, 5], [], [], []⟩, ⟨[5, 63], [], [], []⟩, ⟨[2, 3], [], [], []⟩, ⟨[2, 3], [], [], []⟩]
noncomputable def f95e : Env := tab.env [(65, s65), (107, s107)]
noncomputable def f95L0 {R : Type} (n : Nat) (x0 : Option R) (x1 : Int → Int → Bool → Option R) (wA : BA) (wD : BA) (wP : Int) : Nat → Int → Int → Option R
  | 0, _, _ => none
  | m + 1, wE, wH =>
    (cond (decide (wH < wP))
   (cond ((decide ((0 : Int) ≤ wH)) && (decide (wH < (ByteArray.size wD : Int))))
    (cond (decide ((((ByteArray.data wD).getD (Int.toNat wH) 0).toNat : Int) < (48 : Int)))
     (x0)
     (cond ((decide ((0 : Int) ≤ wH)) && (decide (wH < (ByteArray.size wD : Int))))
      (cond (decide ((((ByteArray.data wD).getD (Int.toNat wH) 0).toNat : Int) > (57 : Int)))
       (x0)
       (cond ((decide ((0 : Int) ≤ wH)) && (decide (wH < (ByteArray.size wD : Int))))
        (f95L0 n x0 x1 wA wD wP m (IntKind.wrap .i64 ((IntKind.wrap .i64 ((10 : Int) * wE)) + (IntKind.wrap .i64 (IntKind.wrap .u8 ((((ByteArray.data wD).getD (Int.toNat wH) 0).toNat : Int) - (48 : Int)))))) (IntKind.wrap .i64 (wH + (1 : Int))))
        none))
      none))
    none)
   (x1 wE wH (decide (wH < wP))))
theorem f95L0_b {R : Type} (n : Nat) (k' : Kx R) (wA : BA) (wD : BA) (wE : Int) (wP : Int) (wH : Int) : ev f95e f95k n (cAt [1,1,1,1,1,0,1,0,0] f95c) (f95S0 wA wD wE wP wH) k' =
 (cond (decide (wH < wP))
 (cond ((decide ((0 : Int) ≤ wH)) && (decide (wH < (ByteArray.size wD : Int))))
 (cond (decide ((((ByteArray.data wD).getD (Int.toNat wH) 0).toNat : Int) < (48 : Int)))
 (k' .ret f95S1)
 (cond ((decide ((0 : Int) ≤ wH)) && (decide (wH < (ByteArray.size wD : Int))))
 (cond (decide ((((ByteArray.data wD).getD (Int.toNat wH) 0).toNat : Int) > (57 : Int)))
 (k' .ret f95S1)
 (cond ((decide ((0 : Int) ≤ wH)) && (decide (wH < (ByteArray.size wD : Int))))
 (k' .normal (f95S0 wA wD (IntKind.wrap .i64 ((IntKind.wrap .i64 ((10 : Int) * wE)) + (IntKind.wrap .i64 (IntKind.wrap .u8 ((((ByteArray.data wD).getD (Int.toNat wH) 0).toNat : Int) - (48 : Int)))))) wP (IntKind.wrap .i64 (wH + (1 : Int)))))
 none))
 none))
 none)
 (k' (.exit 0) (f95S2 wA wD wE wP wH (decide (wH < wP))))) := by kernel_rfl
theorem f95L0_eq {R : Type} (n : Nat) (k' : Kx R) (wA : BA) (wD : BA) (wP : Int) : ∀ (m : Nat) (wE : Int) (wH : Int), iter (fun st k => ev f95e f95k n (cAt [1,1,1,1,1,0,1,0,0] f95c) st k) m (f95S0 wA wD wE wP wH) k' = f95L0 n (k' .ret f95S1) (fun (wB : Int) (wR : Int) (wS : Bool) => k' (.exit 0) (f95S2 wA wD wB wP wR wS)) wA wD wP m wE wH := by
 intro m; induction m with
 | zero => intros; rfl
 | succ m ih =>
  intro wE wH
  simp only [iter]
  rw [f95L0_b]
  simp only [ih, f95L0]
noncomputable def f95K0 {R : Type} (n : Nat) (k' : Kx R) : Kx R := (blockK 0 (seqK f95e f95k n (cAt [1,1,1,1,1,1] f95c) k'))
theorem f95K0_x0 {R : Type} (n : Nat) (k : Kt R) (a0 : BA)  : f95K0 n (exitK f95e [.ro] [false, false] true [.tmp 2, .tmp 3] [3, 4] [.d .str a0] k) .ret f95S1 =
 (k [.d (.i .i64) (0 : Int), .d .bool false]) := by kernel_rfl
theorem f95K0_x1 {R : Type} (n : Nat) (k : Kt R) (a0 : BA) (wA : BA) (wD : BA) (wP : Int) (wB : Int) (wR : Int) (wS : Bool) : f95K0 n (exitK f95e [.ro] [false, false] true [.tmp 2, .tmp 3] [3, 4] [.d .str a0] k) (.exit 0) (f95S2 wA wD wB wP wR wS) =
 (cond (decide ((ByteArray.size wD : Int) < (ByteArray.size wA : Int)))
 (cond (!(inR (IntKind.wrap .i64 (0 - wB)) (-1000000000000 : Int) (1000000000000 : Int)))
 (k [.d (.i .i64) (0 : Int), .d .bool false])
 (cond (okI (IntKind.wrap .i64 (0 - wB)))
 (cond (!(sEq (digS (IntKind.wrap .i64 (0 - wB))) wA))
 (k [.d (.i .i64) (0 : Int), .d .bool false])
 (k [.d (.i .i64) (IntKind.wrap .i64 (0 - wB)), .d .bool true]))
 none))
 (cond (!(inR wB (-1000000000000 : Int) (1000000000000 : Int)))
 (k [.d (.i .i64) (0 : Int), .d .bool false])
 (cond (okI wB)
 (cond (!(sEq (digS wB) wA))
 (k [.d (.i .i64) (0 : Int), .d .bool false])
 (k [.d (.i .i64) wB, .d .bool true]))
 none))) := by kernel_rfl
theorem f95_run {R : Type} (n : Nat) (k : Kt R) (a0 : BA) : evFn f95e f95k n f95c [.ro] [false, false] true [.tmp 2, .tmp 3] [3, 4] [.d .str a0] k =
 (cond (!(sEq a0 ByteArray.empty))
 (cond (decide ((0 : Int) < (ByteArray.size a0 : Int)))
 (cond ((((ByteArray.data a0).getD 0 0).toNat : Int) == (45 : Int))
 (cond ((decide ((1 : Int) ≤ (ByteArray.size a0 : Int))) && (decide ((ByteArray.size a0 : Int) ≤ (ByteArray.size a0 : Int))))
 (cond (sEq (ByteArray.extract a0 1 (Int.toNat (ByteArray.size a0 : Int))) ByteArray.empty)
 (k [.d (.i .i64) (0 : Int), .d .bool false])
 (cond (decide ((ByteArray.size (ByteArray.extract a0 1 (Int.toNat (ByteArray.size a0 : Int))) : Int) > (13 : Int)))
 (k [.d (.i .i64) (0 : Int), .d .bool false])
 (f95L0 n (k [.d (.i .i64) (0 : Int), .d .bool false]) (fun (wB : Int) (wR : Int) (wS : Bool) =>
 (cond (decide ((ByteArray.size (ByteArray.extract a0 1 (Int.toNat (ByteArray.size a0 : Int))) : Int) < (ByteArray.size a0 : Int)))
 (cond (!(inR (IntKind.wrap .i64 (0 - wB)) (-1000000000000 : Int) (1000000000000 : Int)))
 (k [.d (.i .i64) (0 : Int), .d .bool false])
 (cond (okI (IntKind.wrap .i64 (0 - wB)))
 (cond (!(sEq (digS (IntKind.wrap .i64 (0 - wB))) a0))
 (k [.d (.i .i64) (0 : Int), .d .bool false])
 (k [.d (.i .i64) (IntKind.wrap .i64 (0 - wB)), .d .bool true]))
 none))
 (cond (!(inR wB (-1000000000000 : Int) (1000000000000 : Int)))
 (k [.d (.i .i64) (0 : Int), .d .bool false])
 (cond (okI wB)
 (cond (!(sEq (digS wB) a0))
 (k [.d (.i .i64) (0 : Int), .d .bool false])
 (k [.d (.i .i64) wB, .d .bool true]))
 none)))) a0 (ByteArray.extract a0 1 (Int.toNat (ByteArray.size a0 : Int))) (ByteArray.size (ByteArray.extract a0 1 (Int.toNat (ByteArray.size a0 : Int))) : Int) n (0 : Int) (0 : Int))))
 none)
 (cond (sEq a0 ByteArray.empty)
 (k [.d (.i .i64) (0 : Int), .d .bool false])
 (cond (decide ((ByteArray.size a0 : Int) > (13 : Int)))
 (k [.d (.i .i64) (0 : Int), .d .bool false])
 (f95L0 n (k [.d (.i .i64) (0 : Int), .d .bool false]) (fun (wB : Int) (wR : Int) (wS : Bool) =>
 (cond (decide ((ByteArray.size a0 : Int) < (ByteArray.size a0 : Int)))
 (cond (!(inR (IntKind.wrap .i64 (0 - wB)) (-1000000000000 : Int) (1000000000000 : Int)))
 (k [.d (.i .i64) (0 : Int), .d .bool false])
 (cond (okI (IntKind.wrap .i64 (0 - wB)))
 (cond (!(sEq (digS (IntKind.wrap .i64 (0 - wB))) a0))
 (k [.d (.i .i64) (0 : Int), .d .bool false])
 (k [.d (.i .i64) (IntKind.wrap .i64 (0 - wB)), .d .bool true]))
 none))
 (cond (!(inR wB (-1000000000000 : Int) (1000000000000 : Int)))
 (k [.d (.i .i64) (0 : Int), .d .bool false])
 (cond (okI wB)
 (cond (!(sEq (digS wB) a0))
 (k [.d (.i .i64) (0 : Int), .d .bool false])
 (k [.d (.i .i64) wB, .d .bool true]))
 none)))) a0 a0 (ByteArray.size a0 : Int) n (0 : Int) (0 : Int)))))
 none)
 (cond (sEq a0 ByteArray.empty)
 (k [.d (.i .i64) (0 : Int), .d .bool false])
 (cond (decide ((ByteArray.size a0 : Int) > (13 : Int)))
 (k [.d (.i .i64) (0 : Int), .d .bool false])
 (f95L0 n (k [.d (.i .i64) (0 : Int), .d .bool false]) (fun (wB : Int) (wR : Int) (wS : Bool) =>
 (cond (decide ((ByteArray.size a0 : Int) < (ByteArray.size a0 : Int)))
 (cond (!(inR (IntKind.wrap .i64 (0 - wB)) (-1000000000000 : Int) (1000000000000 : Int)))
 (k [.d (.i .i64) (0 : Int), .d .bool false])
 (cond (okI (IntKind.wrap .i64 (0 - wB)))
 (cond (!(sEq (digS (IntKind.wrap .i64 (0 - wB))) a0))
 (k [.d (.i .i64) (0 : Int), .d .bool false])
 (k [.d (.i .i64) (IntKind.wrap .i64 (0 - wB)), .d .bool true]))
 none))
 (cond (!(inR wB (-1000000000000 : Int) (1000000000000 : Int)))
 (k [.d (.i .i64) (0 : Int), .d .bool false])
 (cond (okI wB)
 (cond (!(sEq (digS wB) a0))
 (k [.d (.i .i64) (0 : Int), .d .bool false])
 (k [.d (.i .i64) wB, .d .bool true]))
 none)))) a0 a0 (ByteArray.size a0 : Int) n (0 : Int) (0 : Int))))) := by
  refine Eq.trans (b := (cond (!(sEq a0 ByteArray.empty))
  (cond (decide ((0 : Int) < (ByteArray.size a0 : Int)))
   (cond ((((ByteArray.data a0).getD 0 0).toNat : Int) == (45 : Int))
    (cond ((decide ((1 : Int) ≤ (ByteArray.size a0 : Int))) && (decide ((ByteArray.size a0 : Int) ≤ (ByteArray.size a0 : Int))))
     (cond (sEq (ByteArray.extract a0 1 (Int.toNat (ByteArray.size a0 : Int))) ByteArray.empty)
      (k [.d (.i .i64) (0 : Int), .d .bool false])
      (cond (decide ((ByteArray.size (ByteArray.extract a0 1 (Int.toNat (ByteArray.size a0 : Int))) : Int) > (13 : Int)))
       (k [.d (.i .i64) (0 : Int), .d .bool false])
       (iter (fun st k => ev f95e f95k n (cAt [1,1,1,1,1,0,1,0,0] f95c) st k) n (f95S0 a0 (ByteArray.extract a0 1 (Int.toNat (ByteArray.size a0 : Int))) (0 : Int) (ByteArray.size (ByteArray.extract a0 1 (Int.toNat (ByteArray.size a0 : Int))) : Int) (0 : Int)) (f95K0 n (exitK f95e [.ro] [false, false] true [.tmp 2, .tmp 3] [3, 4] [.d .str a0] k)))))
     none)
    (cond (sEq a0 ByteArray.empty)
     (k [.d (.i .i64) (0 : Int), .d .bool false])
     (cond (decide ((ByteArray.size a0 : Int) > (13 : Int)))
      (k [.d (.i .i64) (0 : Int), .d .bool false])
      (iter (fun st k => ev f95e f95k n (cAt [1,1,1,1,1,0,1,0,0] f95c) st k) n (f95S0 a0 a0 (0 : Int) (ByteArray.size a0 : Int) (0 : Int)) (f95K0 n (exitK f95e [.ro] [false, false] true [.tmp 2, .tmp 3] [3, 4] [.d .str a0] k))))))
   none)
  (cond (sEq a0 ByteArray.empty)
   (k [.d (.i .i64) (0 : Int), .d .bool false])
   (cond (decide ((ByteArray.size a0 : Int) > (13 : Int)))
    (k [.d (.i .i64) (0 : Int), .d .bool false])
    (iter (fun st k => ev f95e f95k n (cAt [1,1,1,1,1,0,1,0,0] f95c) st k) n (f95S0 a0 a0 (0 : Int) (ByteArray.size a0 : Int) (0 : Int)) (f95K0 n (exitK f95e [.ro] [false, false] true [.tmp 2, .tmp 3] [3, 4] [.d .str a0] k))))))) (by kernel_rfl) ?_
  simp only [f95L0_eq, f95K0_x0, f95K0_x1]
theorem f95_spec (a0 : BA) : ∃ keep rounds, ∀ {R : Type} (k : Kt R), evFn f95e keep rounds f95c [.ro] [false, false] true [.tmp 2, .tmp 3] [3, 4] [.d .str a0] k = k [.d (.i .i64) ((numS a0).1), .d .bool ((numS a0).2)] := by
  refine ⟨f95k, 14, fun {R} k => ?_⟩
  rw [f95_run]
  show _ = k [.d (.i .i64) (numS a0).1, .d .bool (numS a0).2]
  have key : ∀ (t : BA) (bad : Option R) (fin : Int → Int → Bool → Option R), t.size ≤ 13 → f95L0 14 bad fin a0 t (t.size : Int) 14 (0 : Int) (0 : Int) = Sum.elim (fun _ => bad) (fun n => fin n (t.size : Int) false) (foldE numStep t.data.toList 0) := by
    intro t bad fin ht
    have hlen : t.data.toList.length = t.size := rfl
    refine Eq.trans (loop_fold (xs := t.data.toList) (F := fun m j a => f95L0 14 bad fin a0 t (t.size : Int) m a (j : Int)) (step := numStep) (out := fun _ => bad) (good := fun n => fin n (t.size : Int) false) (fun _ => True) (fun _ _ _ _ _ _ => trivial) (fun m j a x hx _ => ?_) (fun m a _ => ?_) t.size 0 14 0 (by omega) (by omega) trivial) (by rw [List.drop_zero])
    · have hj : j < t.size := by have := lt_of_get hx; omega
      obtain ⟨h1, h0, hw, htt⟩ := idx hj (by omega)
      have hc : (ByteArray.data t).getD j 0 = x := by
        rw [Array.getElem?_toList] at hx
        rw [Array.getD_eq_getD_getElem?, hx]; rfl
      simp only [f95L0, h1, h0, hw, htt, hc, Bool.and_self, cond_true]
      unfold numStep
      cases decide ((x.toNat : Int) < (48 : Int)) <;> cases decide ((x.toNat : Int) > (57 : Int)) <;> rfl
    · simp only [f95L0, hlen, idxE, cond_false]
  have fin : ∀ t : BA, cond (sEq t ByteArray.empty) (k [.d (.i .i64) (0 : Int), .d .bool false]) (cond (decide ((ByteArray.size t : Int) > (13 : Int))) (k [.d (.i .i64) (0 : Int), .d .bool false])
      (f95L0 14 (k [.d (.i .i64) (0 : Int), .d .bool false]) (fun (wB : Int) (wR : Int) (wS : Bool) =>
        (cond (decide ((ByteArray.size t : Int) < (ByteArray.size a0 : Int)))
          (cond (!(inR (IntKind.wrap .i64 (0 - wB)) (-1000000000000 : Int) (1000000000000 : Int)))
            (k [.d (.i .i64) (0 : Int), .d .bool false])
            (cond (okI (IntKind.wrap .i64 (0 - wB)))
              (cond (!(sEq (digS (IntKind.wrap .i64 (0 - wB))) a0))
                (k [.d (.i .i64) (0 : Int), .d .bool false])
                (k [.d (.i .i64) (IntKind.wrap .i64 (0 - wB)), .d .bool true]))
              none))
          (cond (!(inR wB (-1000000000000 : Int) (1000000000000 : Int)))
            (k [.d (.i .i64) (0 : Int), .d .bool false])
            (cond (okI wB)
              (cond (!(sEq (digS wB) a0))
                (k [.d (.i .i64) (0 : Int), .d .bool false])
                (k [.d (.i .i64) wB, .d .bool true]))
              none)))) a0 t (ByteArray.size t : Int) 14 (0 : Int) (0 : Int))) =
      (fun r : Int × Bool => k [.d (.i .i64) r.1, .d .bool r.2]) (cond (sEq t ByteArray.empty) ((0 : Int), false) (cond (decide ((t.size : Int) > 13)) ((0 : Int), false) (Sum.elim (fun _ => ((0 : Int), false)) (numEnd a0 t) (foldE numStep t.data.toList 0)))) := by
    intro t
    cases sEq t ByteArray.empty
    rotate_left
    · rfl
    by_cases h13 : (ByteArray.size t : Int) > (13 : Int)
    · rw [decide_eq_true h13]; rfl
    rw [decide_eq_false h13, key t _ _ (by omega)]
    simp only [cond_false]
    have one : ∀ n : Int, (cond (!(inR n (-1000000000000 : Int) (1000000000000 : Int)))
            (k [.d (.i .i64) (0 : Int), .d .bool false])
            (cond (okI n)
              (cond (!(sEq (digS n) a0))
                (k [.d (.i .i64) (0 : Int), .d .bool false])
                (k [.d (.i .i64) n, .d .bool true]))
              none)) = (fun r : Int × Bool => k [.d (.i .i64) r.1, .d .bool r.2]) (cond (inR n (-1000000000000) 1000000000000) (cond (sEq (digS n) a0) (n, true) ((0 : Int), false)) ((0 : Int), false)) := by
      intro n
      cases hin : inR n (-1000000000000 : Int) (1000000000000 : Int)
      · rfl
      have := inR_iff.1 hin
      rw [okI_of (n := n) (by omega) (by omega)]
      cases sEq (digS n) a0 <;> rfl
    cases foldE numStep t.data.toList 0 with
    | inl _ => rfl
    | inr m =>
      simp only [Sum.elim_inr, numEnd]
      cases decide ((ByteArray.size t : Int) < (ByteArray.size a0 : Int))
      · exact one m
      · exact one (IntKind.wrap .i64 (0 - m))
  cases he : sEq a0 ByteArray.empty
  rotate_left
  · have hT : numT a0 = a0 := by unfold numT; rw [he]; rfl
    unfold numS
    rw [hT]
    simp only [Bool.not_true, cond_false]
    have f := fin a0
    rw [he] at f
    rw [he]
    exact f
  have hpos : 0 < a0.size := by
    rcases Nat.eq_zero_or_pos a0.size with h | h
    · exact absurd (sEq_iff.2 (size_zero h)) (by rw [he]; decide)
    · exact h
  have d1 : decide ((0 : Int) < (ByteArray.size a0 : Int)) = true := decide_eq_true (by omega)
  have d2 : decide ((1 : Int) ≤ (ByteArray.size a0 : Int)) = true := decide_eq_true (by omega)
  have d3 : decide ((ByteArray.size a0 : Int) ≤ (ByteArray.size a0 : Int)) = true := decide_eq_true (by omega)
  simp only [d1, d2, d3, Bool.not_false, Bool.and_self, cond_true, Int.toNat_natCast]
  cases hb : ((((ByteArray.data a0).getD 0 0).toNat : Int) == (45 : Int))
  · have hT : numT a0 = a0 := by unfold numT; rw [he, hb]; rfl
    unfold numS
    rw [hT]
    simp only [cond_false]
    have f := fin a0
    rw [he] at f
    rw [he]
    exact f
  · have hT : numT a0 = ByteArray.extract a0 1 a0.size := by unfold numT; rw [he, hb]; rfl
    unfold numS
    rw [hT]
    simp only [cond_true]
    exact fin _
noncomputable def q95 : Qt
 | [.d .str a0] => some (true, [.d (.i .i64) ((numS a0).1), .d .bool ((numS a0).2)])
 | _ => none
noncomputable def s95 : Gm.Spec := Gm.Spec.of [.ro] [false, false] true q95
theorem good95 : Gm.Good Try.prog (95, s95) := by
 have hl : ∀ x ∈ [(65, s65), (107, s107)], Gm.Good Try.prog x := fcJ.2 ⟨good65, fcJ.2 ⟨good107, fcN⟩⟩
 refine ⟨⟨spec_ok (tab_ok.env hl) (tab.natl hl) Try.func95 (by kernel_rfl : Try.f95.body = some f95c) [3, 4] (by kernel_rfl) ?_, _, Try.func95, by kernel_rfl, of_decide_eq_true (by kernel_rfl)⟩, Gm.Spec.of_natl _ _ _ _⟩
 intro ds outs h
 unfold q95 at h
 split at h
 ·cases h; exact f95_spec _
 ·cases h
noncomputable def f83c : Code := (Try.f83.body).getD .skip
def f83k : Nat → Kp := kat [⟨[0], [], [], []⟩, ⟨[4, 5], [], [], []⟩, ⟨[2, 3], [], [], []⟩]
noncomputable def f83e : Env := tab.env [(95, s95)]
theorem f83_run {R : Type} (n : Nat) (k : Kt R) (a0 : BA) : evFn f83e f83k n f83c [.ro] [false, false] true [.tmp 2, .tmp 3] [3, 4] [.d .str a0] k =
 (cond ((numS a0).2)
 (k [.d (.i .i64) ((numS a0).1), .d .bool (decide (((numS a0).1) ≥ (0 : Int)))])
 (k [.d (.i .i64) ((numS a0).1), .d .bool false])) := by kernel_rfl
theorem f83_spec (a0 : BA) : ∃ keep rounds, ∀ {R : Type} (k : Kt R), evFn f83e keep rounds f83c [.ro] [false, false] true [.tmp 2, .tmp 3] [3, 4] [.d .str a0] k = k [.d (.i .i64) ((natS a0).1), .d .bool ((natS a0).2)] := by
 refine ⟨f83k, 0, fun {R} k => ?_⟩
 rw [f83_run]
 show _ = k [.d (.i .i64) (natS a0).1, .d .bool (natS a0).2]
 unfold natS
 cases (numS a0).2 <;> rfl
noncomputable def q83 : Qt
 | [.d .str a0] => some (true, [.d (.i .i64) ((natS a0).1), .d .bool ((natS a0).2)])
 | _ => none
noncomputable def s83 : Gm.Spec := Gm.Spec.of [.ro] [false, false] true q83
theorem good83 : Gm.Good Try.prog (83, s83) := by
 have hl : ∀ x ∈ [(95, s95)], Gm.Good Try.prog x := fcJ.2 ⟨good95, fcN⟩
 refine ⟨⟨spec_ok (tab_ok.env hl) (tab.natl hl) Try.func83 (by kernel_rfl : Try.f83.body = some f83c) [3, 4] (by kernel_rfl) ?_, _, Try.func83, by kernel_rfl, of_decide_eq_true (by kernel_rfl)⟩, Gm.Spec.of_natl _ _ _ _⟩
 intro ds outs h
 unfold q83 at h
 split at h
 ·cases h; exact f83_spec _
 ·cases h
noncomputable def f38c : Code := (Try.f38.body).getD .skip
def f38k : Nat → Kp := kat [⟨[1, 2], [], [], []⟩, ⟨[1, 2, 10], [], [], []⟩, ⟨[2, 5], [], [], []⟩, ⟨[5, 19], [], [], []⟩, ⟨[4], [], [], []⟩, ⟨[4], [], [], []⟩, ⟨[2, 6, 7], [], [], []⟩, ⟨[6, 39], [], [], []⟩, ⟨[4], [], [], []⟩, ⟨[4], [], [], []⟩]
noncomputable def f38e : Env := tab.env [(82, s82), (83, s83)]
theorem f38_run {R : Type} (n : Nat) (k : Kt R) (a0 : NodeT) (a1 : BA) : evFn f38e f38k n f38c [.ro, .ro] [false] true [.tmp 4] [3] [.d .node a0, .d .str a1] k =
 (cond ((NodeT.kind a0) == (5 : Int))
 (cond ((fun (x : List BA) (_ : BA) => gLenW x) (NodeT.keys a0) a1)
 (cond (decide ((idxS (NodeT.keys a0) a1) ≥ ((NodeT.kids a0).length : Int)))
 (k [.d (.i .i64) (-1 : Int)])
 (k [.d (.i .i64) (idxS (NodeT.keys a0) a1)]))
 none)
 (cond ((NodeT.kind a0) != (4 : Int))
 (k [.d (.i .i64) (-1 : Int)])
 (cond (!((natS a1).2))
 (k [.d (.i .i64) (-1 : Int)])
 (cond (decide (((natS a1).1) ≥ ((NodeT.kids a0).length : Int)))
 (k [.d (.i .i64) (-1 : Int)])
 (k [.d (.i .i64) ((natS a1).1)]))))) := by kernel_rfl
theorem f38_spec (a0 : NodeT) (a1 : BA) (hg : sm_node a0 = true) : ∃ keep rounds, ∀ {R : Type} (k : Kt R), evFn f38e keep rounds f38c [.ro, .ro] [false] true [.tmp 4] [3] [.d .node a0, .d .str a1] k = k [.d (.i .i64) (kidAt a0 a1)] := by
 have hg0 := hg
 rw [sm_node_def] at hg
 simp only [Bool.and_eq_true] at hg
 obtain ⟨_, _, _, hke, hki⟩ := hg
 have nke := smL_len hke
 have nki := smL_len hki
 refine ⟨f38k, 0, fun {R} k => ?_⟩
 rw [f38_run]
 simp only [gLenW_sm hke, cond_true]
 cases h5 : a0.kind == (5 : Int)
 ·have e : kidAt a0 a1 = cond (a0.kind == (4 : Int)) (plc (firstN (fun j => sEq (digS (j : Int)) a1) 0 a0.kids.length)) (-1) := by unfold kidAt; rw [h5]; rfl
  rw [e, ← natS_first nki]
  simp only [bne, cond_false]
  cases a0.kind == (4 : Int)
  ·rfl
  cases (natS a1).2
  ·rfl
  cases decide ((natS a1).1 ≥ (a0.kids.length : Int)) <;> rfl
 ·have e : kidAt a0 a1 = keyAt a0 a1 := by unfold kidAt; rw [h5]; rfl
  rw [e, ← idxS_keyAt h5]
  simp only [cond_true]
  cases decide (idxS a0.keys a1 ≥ (a0.kids.length : Int)) <;> rfl
noncomputable def q38 : Qt
 | [.d .node a0, .d .str a1] => some (((fun (x : NodeT) (_ : BA) => sm_node x) a0 a1), [.d (.i .i64) (kidAt a0 a1)])
 | _ => none
noncomputable def s38 : Gm.Spec := Gm.Spec.of [.ro, .ro] [false] true q38
theorem good38 : Gm.Good Try.prog (38, s38) := by
 have hl : ∀ x ∈ [(82, s82), (83, s83)], Gm.Good Try.prog x := fcJ.2 ⟨good82, fcJ.2 ⟨good83, fcN⟩⟩
 refine ⟨⟨spec_ok (tab_ok.env hl) (tab.natl hl) Try.func38 (by kernel_rfl : Try.f38.body = some f38c) [3] (by kernel_rfl) ?_, _, Try.func38, by kernel_rfl, of_decide_eq_true (by kernel_rfl)⟩, Gm.Spec.of_natl _ _ _ _⟩
 intro ds outs h
 unfold q38 at h
 split at h
 ·simp only [Option.some.injEq, Prod.mk.injEq] at h; obtain ⟨hg, h⟩ := h; cases h; exact f38_spec _ _ hg
 ·cases h
noncomputable def f85S0 (y0 : BA) (y1 : Int) (y2 : Int) (y3 : Int) (y4 : BA) (y5 : List BA) (y6 : List NodeT) : St := ⟨[(1, .c (.one (.v (.string y0)))), (2, .c (.one (.pt 2 0))), (5, .c (.one (.v (.int .i64 y1))))], [(2, ⟨.node, [.v (.int .i64 y2), .v (.int .i64 y3), .v (.string y4), .ro .str y5, .ro .node y6]⟩)], []⟩
noncomputable def f85S1 (y0 : Int) : St := ⟨[(4, .c (.one (.v (.int .i64 y0))))], [], []⟩
noncomputable def f85S2 (y0 : BA) (y1 : Int) (y2 : Bool) (y3 : Int) (y4 : Int) (y5 : BA) (y6 : List BA) (y7 : List NodeT) : St := ⟨[(1, .c (.one (.v (.string y0)))), (2, .c (.one (.pt 2 0))), (5, .c (.one (.v (.int .i64 y1)))), (22, .c (.one (.v (.bool y2))))], [(2, ⟨.node, [.v (.int .i64 y3), .v (.int .i64 y4), .v (.string y5), .ro .str y6, .ro .node y7]⟩)], []⟩
noncomputable def f85c : Code := (Try.f85.body).getD .skip
def f85k : Nat → Kp := kat [⟨[1, 2], [], [], []⟩, ⟨[1, 2, 5], [], [], []⟩, ⟨[1, 2, 5, 22], [], [], []⟩, ⟨[1, 2, 5], [], [], []⟩, ⟨[1, 2, 5, 31], [], [], []⟩, ⟨[4], [], [], []⟩, ⟨[4], [], [], []⟩]
noncomputable def f85e : Env := tab.env []
noncomputable def f85L0 {R : Type} (n : Nat) (x0 : Int → Option R) (x1 : Int → Bool → Option R) (x2 : Int → Option R) (wC : BA) (wI : Int) (wK : Int) (wL : BA) (wF : List BA) (wG : List NodeT) : Nat → Int → Option R
  | 0, _ => none
  | m + 1, wE =>
    (cond (decide (wE < (wF.length : Int)))
   (cond (decide (wE < (wG.length : Int)))
    (cond (wI == (5 : Int))
     (cond ((decide ((0 : Int) ≤ wE)) && (decide (wE < (wF.length : Int))))
      (cond (sEq (atI (t := .str) wF (Int.toNat wE)) wC)
       (x0 wE)
       (f85L0 n x0 x1 x2 wC wI wK wL wF wG m (IntKind.wrap .i64 (wE + (1 : Int)))))
      none)
     (x1 wE (wI == (5 : Int))))
    (x2 wE))
   (x2 wE))
theorem f85L0_b {R : Type} (n : Nat) (k' : Kx R) (wC : BA) (wE : Int) (wI : Int) (wK : Int) (wL : BA) (wF : List BA) (wG : List NodeT) : ev f85e f85k n (cAt [1,0,1,0,0] f85c) (f85S0 wC wE wI wK wL wF wG) k' =
 (cond (decide (wE < (wF.length : Int)))
 (cond (decide (wE < (wG.length : Int)))
 (cond (wI == (5 : Int))
 (cond ((decide ((0 : Int) ≤ wE)) && (decide (wE < (wF.length : Int))))
 (cond (sEq (atI (t := .str) wF (Int.toNat wE)) wC)
 (k' .ret (f85S1 wE))
 (k' .normal (f85S0 wC (IntKind.wrap .i64 (wE + (1 : Int))) wI wK wL wF wG)))
 none)
 (k' (.exit 0) (f85S2 wC wE (wI == (5 : Int)) wI wK wL wF wG)))
 (k' (.exit 0) (f85S2 wC wE false wI wK wL wF wG)))
 (k' (.exit 0) (f85S2 wC wE false wI wK wL wF wG))) := by kernel_rfl
theorem f85L0_eq {R : Type} (n : Nat) (k' : Kx R) (wC : BA) (wI : Int) (wK : Int) (wL : BA) (wF : List BA) (wG : List NodeT) : ∀ (m : Nat) (wE : Int), iter (fun st k => ev f85e f85k n (cAt [1,0,1,0,0] f85c) st k) m (f85S0 wC wE wI wK wL wF wG) k' = f85L0 n (fun (wJ : Int) => k' .ret (f85S1 wJ)) (fun (wB : Int) (wX : Bool) => k' (.exit 0) (f85S2 wC wB wX wI wK wL wF wG)) (fun (wB : Int) => k' (.exit 0) (f85S2 wC wB false wI wK wL wF wG)) wC wI wK wL wF wG m wE := by
 intro m; induction m with
 | zero => intros; rfl
 | succ m ih =>
  intro wE
  simp only [iter]
  rw [f85L0_b]
  simp only [ih, f85L0]
noncomputable def f85K0 {R : Type} (n : Nat) (k' : Kx R) : Kx R := (blockK 0 (seqK f85e f85k n (cAt [1,1] f85c) k'))
theorem f85K0_x0 {R : Type} (n : Nat) (k : Kt R) (a0 : NodeT) (a1 : BA) (wJ : Int) : f85K0 n (exitK f85e [.ro, .ro] [false] true [.tmp 4] [3] [.d .node a0, .d .str a1] k) .ret (f85S1 wJ) =
 (k [.d (.i .i64) wJ]) := by kernel_rfl
theorem f85K0_x1 {R : Type} (n : Nat) (k : Kt R) (a0 : NodeT) (a1 : BA) (wC : BA) (wI : Int) (wK : Int) (wL : BA) (wF : List BA) (wG : List NodeT) (wB : Int) (wX : Bool) : f85K0 n (exitK f85e [.ro, .ro] [false] true [.tmp 4] [3] [.d .node a0, .d .str a1] k) (.exit 0) (f85S2 wC wB wX wI wK wL wF wG) =
 (k [.d (.i .i64) (-1 : Int)]) := by kernel_rfl
theorem f85K0_x2 {R : Type} (n : Nat) (k : Kt R) (a0 : NodeT) (a1 : BA) (wC : BA) (wI : Int) (wK : Int) (wL : BA) (wF : List BA) (wG : List NodeT) (wB : Int) : f85K0 n (exitK f85e [.ro, .ro] [false] true [.tmp 4] [3] [.d .node a0, .d .str a1] k) (.exit 0) (f85S2 wC wB false wI wK wL wF wG) =
 (k [.d (.i .i64) (-1 : Int)]) := by kernel_rfl
theorem f85_run {R : Type} (n : Nat) (k : Kt R) (a0 : NodeT) (a1 : BA) : evFn f85e f85k n f85c [.ro, .ro] [false] true [.tmp 4] [3] [.d .node a0, .d .str a1] k =
 (f85L0 n (fun (wJ : Int) =>
 (k [.d (.i .i64) wJ])) (fun (wB : Int) (wX : Bool) =>
 (k [.d (.i .i64) (-1 : Int)])) (fun (wB : Int) =>
 (k [.d (.i .i64) (-1 : Int)])) a1 (NodeT.kind a0) (NodeT.n a0) (NodeT.s a0) (NodeT.keys a0) (NodeT.kids a0) n (0 : Int)) := by
 refine Eq.trans (b := (iter (fun st k => ev f85e f85k n (cAt [1,0,1,0,0] f85c) st k) n (f85S0 a1 (0 : Int) (NodeT.kind a0) (NodeT.n a0) (NodeT.s a0) (NodeT.keys a0) (NodeT.kids a0)) (f85K0 n (exitK f85e [.ro, .ro] [false] true [.tmp 4] [3] [.d .node a0, .d .str a1] k)))) (by kernel_rfl) ?_
 simp only [f85L0_eq, f85K0_x0, f85K0_x1, f85K0_x2]
theorem f85_spec (a0 : NodeT) (a1 : BA) (hg : sm_node a0 = true) : ∃ keep rounds, ∀ {R : Type} (k : Kt R), evFn f85e keep rounds f85c [.ro, .ro] [false] true [.tmp 4] [3] [.d .node a0, .d .str a1] k = k [.d (.i .i64) (keyAt a0 a1)] := by
 have hg0 := hg
 rw [sm_node_def] at hg
 simp only [Bool.and_eq_true] at hg
 obtain ⟨_, _, _, hke, hki⟩ := hg
 have nke := smL_len hke
 have nki := smL_len hki
 refine ⟨f85k, a0.keys.length + 1, fun {R} k => ?_⟩
 rw [f85_run]
 show _ = k [.d (.i .i64) (keyAt a0 a1)]
 unfold keyAt
 cases h5 : a0.kind == (5 : Int)
 ·rw [f85L0]
  simp only [h5, cond_false]
  cases decide ((0 : Int) < (a0.keys.length : Int)) <;> cases decide ((0 : Int) < (a0.kids.length : Int)) <;> rfl
 refine Eq.trans (loop_find (n := min a0.keys.length a0.kids.length) (F := fun m i => f85L0 (a0.keys.length + 1) _ _ _ a1 a0.kind a0.n a0.s a0.keys a0.kids m i) (p := fun j => sEq (atI (t := .str) a0.keys j) a1) (hit := fun i => k [.d (.i .i64) i]) (miss := k [.d (.i .i64) (-1 : Int)])
  (fun m j hj => ?_) (fun m => ?_) (min a0.keys.length a0.kids.length) 0 (a0.keys.length + 1) (by omega) (by omega)) ?_
 ·obtain ⟨h1, h0, hw, ht⟩ := idx (show j < a0.keys.length by omega) (by omega)
  have h2 : decide ((j : Int) < (a0.kids.length : Int)) = true := decide_eq_true (by omega)
  simp only [f85L0, h1, h0, h2, hw, ht, h5, Bool.and_self, cond_true]
 ·by_cases hle : a0.keys.length ≤ a0.kids.length
  ·rw [Nat.min_eq_left hle]
   simp only [f85L0, idxE, cond_false]
  ·rw [Nat.min_eq_right (by omega)]
   have h2 : decide ((a0.kids.length : Int) < (a0.keys.length : Int)) = true := decide_eq_true (by omega)
   simp only [f85L0, h2, idxE, cond_false, cond_true]
 ·simp only [cond_true]
  show _ = k [.d (.i .i64) (plc _)]
  cases firstN (fun j => sEq (atI (t := .str) a0.keys j) a1) 0 (min a0.keys.length a0.kids.length) <;> rfl
noncomputable def q85 : Qt
 | [.d .node a0, .d .str a1] => some (((fun (x : NodeT) (_ : BA) => sm_node x) a0 a1), [.d (.i .i64) (keyAt a0 a1)])
 | _ => none
noncomputable def s85 : Gm.Spec := Gm.Spec.of [.ro, .ro] [false] true q85
theorem good85 : Gm.Good Try.prog (85, s85) := by
 have hl : ∀ x ∈ ([] : List (Nat × Gm.Spec)), Gm.Good Try.prog x := fun _ h => by cases h
 refine ⟨⟨spec_ok (tab_ok.env hl) (tab.natl hl) Try.func85 (by kernel_rfl : Try.f85.body = some f85c) [3] (by kernel_rfl) ?_, _, Try.func85, by kernel_rfl, of_decide_eq_true (by kernel_rfl)⟩, Gm.Spec.of_natl _ _ _ _⟩
 intro ds outs h
 unfold q85 at h
 split at h
 ·simp only [Option.some.injEq, Prod.mk.injEq] at h; obtain ⟨hg, h⟩ := h; cases h; exact f85_spec _ _ hg
 ·cases h
noncomputable def f40S0 (y0 : BA) (y1 : Int) (y2 : Int) (y3 : Int) (y4 : BA) (y5 : List BA) (y6 : List NodeT) : St := ⟨[(1, .c (.one (.v (.string y0)))), (2, .c (.one (.pt 2 0))), (6, .c (.one (.v (.int .i64 y1))))], [(2, ⟨.node, [.v (.int .i64 y2), .v (.int .i64 y3), .v (.string y4), .ro .str y5, .ro .node y6]⟩)], []⟩
noncomputable def f40S1 (y0 : Int) : St := ⟨[(4, .c (.one (.v (.int .i64 y0))))], [], []⟩
noncomputable def f40S2 (y0 : BA) (y1 : Int) (y2 : Bool) (y3 : Int) (y4 : Int) (y5 : BA) (y6 : List BA) (y7 : List NodeT) : St := ⟨[(1, .c (.one (.v (.string y0)))), (2, .c (.one (.pt 2 0))), (6, .c (.one (.v (.int .i64 y1)))), (21, .c (.one (.v (.bool y2))))], [(2, ⟨.node, [.v (.int .i64 y3), .v (.int .i64 y4), .v (.string y5), .ro .str y6, .ro .node y7]⟩)], []⟩
noncomputable def f40c : Code := (Try.f40.body).getD .skip
def f40k : Nat → Kp := kat [⟨[1, 2], [], [], []⟩, ⟨[1, 2, 8], [], [], []⟩, ⟨[1, 2, 8, 9], [], [], []⟩, ⟨[5], [], [], []⟩, ⟨[4], [], [], []⟩, ⟨[1, 2, 15], [], [], []⟩, ⟨[1, 2, 6], [], [], []⟩, ⟨[1, 2, 6, 21], [], [], []⟩, ⟨[1, 2, 6], [], [], []⟩, ⟨[1, 2, 6, 27], [], [], []⟩, ⟨[4], [], [], []⟩, ⟨[4], [], [], []⟩]
noncomputable def f40e : Env := tab.env [(59, s59), (85, s85)]
noncomputable def f40L0 {R : Type} (n : Nat) (x0 : Int → Option R) (x1 : Int → Bool → Option R) (wC : BA) (wI : Int) (wK : Int) (wL : BA) (wF : List BA) (wG : List NodeT) : Nat → Int → Option R
  | 0, _ => none
  | m + 1, wN =>
    (cond (decide (wN < (wG.length : Int)))
   (cond (okI wN)
    (cond (sEq (digS wN) wC)
     (x0 wN)
     (f40L0 n x0 x1 wC wI wK wL wF wG m (IntKind.wrap .i64 (wN + (1 : Int)))))
    none)
   (x1 wN (decide (wN < (wG.length : Int)))))
theorem f40L0_b {R : Type} (n : Nat) (k' : Kx R) (wC : BA) (wN : Int) (wI : Int) (wK : Int) (wL : BA) (wF : List BA) (wG : List NodeT) : ev f40e f40k n (cAt [1,0,1,0,1,1,1,0,1,0,0] f40c) (f40S0 wC wN wI wK wL wF wG) k' =
 (cond (decide (wN < (wG.length : Int)))
 (cond (okI wN)
 (cond (sEq (digS wN) wC)
 (k' .ret (f40S1 wN))
 (k' .normal (f40S0 wC (IntKind.wrap .i64 (wN + (1 : Int))) wI wK wL wF wG)))
 none)
 (k' (.exit 1) (f40S2 wC wN (decide (wN < (wG.length : Int))) wI wK wL wF wG))) := by kernel_rfl
theorem f40L0_eq {R : Type} (n : Nat) (k' : Kx R) (wC : BA) (wI : Int) (wK : Int) (wL : BA) (wF : List BA) (wG : List NodeT) : ∀ (m : Nat) (wN : Int), iter (fun st k => ev f40e f40k n (cAt [1,0,1,0,1,1,1,0,1,0,0] f40c) st k) m (f40S0 wC wN wI wK wL wF wG) k' = f40L0 n (fun (wJ : Int) => k' .ret (f40S1 wJ)) (fun (wY : Int) (wZ : Bool) => k' (.exit 1) (f40S2 wC wY wZ wI wK wL wF wG)) wC wI wK wL wF wG m wN := by
 intro m; induction m with
 | zero => intros; rfl
 | succ m ih =>
  intro wN
  simp only [iter]
  rw [f40L0_b]
  simp only [ih, f40L0]
noncomputable def f40K0 {R : Type} (n : Nat) (k' : Kx R) : Kx R := (blockK 1 (blockK 0 (seqK f40e f40k n (cAt [1,1] f40c) k')))
theorem f40K0_x0 {R : Type} (n : Nat) (k : Kt R) (a0 : NodeT) (a1 : BA) (wJ : Int) : f40K0 n (exitK f40e [.ro, .ro] [false] true [.tmp 4] [3] [.d .node a0, .d .str a1] k) .ret (f40S1 wJ) =
 (k [.d (.i .i64) wJ]) := by kernel_rfl
theorem f40K0_x1 {R : Type} (n : Nat) (k : Kt R) (a0 : NodeT) (a1 : BA) (wC : BA) (wI : Int) (wK : Int) (wL : BA) (wF : List BA) (wG : List NodeT) (wY : Int) (wZ : Bool) : f40K0 n (exitK f40e [.ro, .ro] [false] true [.tmp 4] [3] [.d .node a0, .d .str a1] k) (.exit 1) (f40S2 wC wY wZ wI wK wL wF wG) =
 (k [.d (.i .i64) (-1 : Int)]) := by kernel_rfl
theorem f40_run {R : Type} (n : Nat) (k : Kt R) (a0 : NodeT) (a1 : BA) : evFn f40e f40k n f40c [.ro, .ro] [false] true [.tmp 4] [3] [.d .node a0, .d .str a1] k =
 (cond ((NodeT.kind a0) == (5 : Int))
 (cond ((fun (x : NodeT) (_ : BA) => sm_node x) (eN a0) a1)
 (k [.d (.i .i64) (keyAt (eN a0) a1)])
 none)
 (cond ((NodeT.kind a0) == (4 : Int))
 (f40L0 n (fun (wJ : Int) =>
 (k [.d (.i .i64) wJ])) (fun (wY : Int) (wZ : Bool) =>
 (k [.d (.i .i64) (-1 : Int)])) a1 (NodeT.kind a0) (NodeT.n a0) (NodeT.s a0) (NodeT.keys a0) (NodeT.kids a0) n (0 : Int))
 (k [.d (.i .i64) (-1 : Int)]))) := by
  refine Eq.trans (b := (cond ((NodeT.kind a0) == (5 : Int))
  (cond ((fun (x : NodeT) (_ : BA) => sm_node x) (eN a0) a1)
   (k [.d (.i .i64) (keyAt (eN a0) a1)])
   none)
  (cond ((NodeT.kind a0) == (4 : Int))
   (iter (fun st k => ev f40e f40k n (cAt [1,0,1,0,1,1,1,0,1,0,0] f40c) st k) n (f40S0 a1 (0 : Int) (NodeT.kind a0) (NodeT.n a0) (NodeT.s a0) (NodeT.keys a0) (NodeT.kids a0)) (f40K0 n (exitK f40e [.ro, .ro] [false] true [.tmp 4] [3] [.d .node a0, .d .str a1] k)))
   (k [.d (.i .i64) (-1 : Int)])))) (by kernel_rfl) ?_
  simp only [f40L0_eq, f40K0_x0, f40K0_x1]
theorem f40_spec (a0 : NodeT) (a1 : BA) (hg : sm_node a0 = true) : ∃ keep rounds, ∀ {R : Type} (k : Kt R), evFn f40e keep rounds f40c [.ro, .ro] [false] true [.tmp 4] [3] [.d .node a0, .d .str a1] k = k [.d (.i .i64) (kidAt a0 a1)] := by
 have hg0 := hg
 rw [sm_node_def] at hg
 simp only [Bool.and_eq_true] at hg
 obtain ⟨_, _, _, hke, hki⟩ := hg
 have nke := smL_len hke
 have nki := smL_len hki
 refine ⟨f40k, a0.kids.length + 1, fun {R} k => ?_⟩
 rw [f40_run]
 show _ = k [.d (.i .i64) (kidAt a0 a1)]
 simp only [eta_node, eN_eq, hg0, cond_true]
 unfold kidAt
 cases h5 : a0.kind == (5 : Int)
 rotate_left
 ·rfl
 simp only [cond_false]
 cases h4 : a0.kind == (4 : Int)
 ·rfl
 simp only [cond_true]
 refine Eq.trans (loop_find (n := a0.kids.length) (F := fun m i => f40L0 (a0.kids.length + 1) _ _ a1 a0.kind a0.n a0.s a0.keys a0.kids m i) (p := fun j => sEq (digS (j : Int)) a1) (hit := fun i => k [.d (.i .i64) i]) (miss := k [.d (.i .i64) (-1 : Int)])
  (fun m j hj => ?_) (fun m => by simp only [f40L0, idxE, cond_false]) a0.kids.length 0 (a0.kids.length + 1) (by omega) (by omega)) ?_
 ·obtain ⟨h1, h0, hw, ht⟩ := idx hj (by omega)
  simp only [f40L0, h1, hw, okI_of (n := (j : Int)) (by omega) (by omega), cond_true]
 ·show _ = k [.d (.i .i64) (plc _)]
  cases firstN (fun j => sEq (digS (j : Int)) a1) 0 a0.kids.length <;> rfl
noncomputable def q40 : Qt
 | [.d .node a0, .d .str a1] => some (((fun (x : NodeT) (_ : BA) => sm_node x) a0 a1), [.d (.i .i64) (kidAt a0 a1)])
 | _ => none
noncomputable def s40 : Gm.Spec := Gm.Spec.of [.ro, .ro] [false] true q40
theorem good40 : Gm.Good Try.prog (40, s40) := by
 have hl : ∀ x ∈ [(59, s59), (85, s85)], Gm.Good Try.prog x := fcJ.2 ⟨good59, fcJ.2 ⟨good85, fcN⟩⟩
 refine ⟨⟨spec_ok (tab_ok.env hl) (tab.natl hl) Try.func40 (by kernel_rfl : Try.f40.body = some f40c) [3] (by kernel_rfl) ?_, _, Try.func40, by kernel_rfl, of_decide_eq_true (by kernel_rfl)⟩, Gm.Spec.of_natl _ _ _ _⟩
 intro ds outs h
 unfold q40 at h
 split at h
 ·simp only [Option.some.injEq, Prod.mk.injEq] at h; obtain ⟨hg, h⟩ := h; cases h; exact f40_spec _ _ hg
 ·cases h
noncomputable def f84ac : Code := (Try.f84.body).getD .skip
def f84ak : Nat → Kp := kat [⟨[0], [], [], []⟩, ⟨[0, 4], [], [], []⟩, ⟨[2], [], [], []⟩, ⟨[2], [], [], []⟩]
noncomputable def f84ae : Env := tab.env []
theorem f84a_run {R : Type} (n : Nat) (k : Kt R) (a0 : List BA) : evFn f84ae f84ak n f84ac [.ro] [false] true [.tmp 2] [24] [.d (.sl .str) a0] k =
 (cond (List.isEmpty a0)
 none
 (cond (Nat.ble (0 + a0.length) LIM)
 (k [.d (.sl .str) (([] : List BA) ++ a0)])
 none)) := by kernel_rfl
theorem f84a_spec (a0 : List BA) (hg : (fun (x : List BA) => !(x.isEmpty) && Nat.ble x.length LIM) a0 = true) : ∃ keep rounds, ∀ {R : Type} (k : Kt R), evFn f84ae keep rounds f84ac [.ro] [false] true [.tmp 2] [24] [.d (.sl .str) a0] k = k [.d (.sl .str) a0] := by
 simp only [Bool.and_eq_true, Bool.not_eq_true'] at hg
 obtain ⟨h1, h2⟩ := hg
 refine ⟨f84ak, 0, fun {R} k => ?_⟩
 rw [f84a_run, h1, Nat.zero_add, h2]
 simp only [cond_true, cond_false, List.nil_append]
noncomputable def q84a : Qt
 | [.d (.sl .str) a0] => some (((fun (x : List BA) => !(x.isEmpty) && Nat.ble x.length LIM) a0), [.d (.sl .str) a0])
 | _ => none
noncomputable def s84a : Gm.Spec := Gm.Spec.of [.ro] [false] true q84a
theorem good84a : Gm.Good Try.prog (84, s84a) := by
 have hl : ∀ x ∈ ([] : List (Nat × Gm.Spec)), Gm.Good Try.prog x := fun _ h => by cases h
 refine ⟨⟨spec_ok (tab_ok.env hl) (tab.natl hl) Try.func84 (by kernel_rfl : Try.f84.body = some f84ac) [24] (by kernel_rfl) ?_, _, Try.func84, by kernel_rfl, of_decide_eq_true (by kernel_rfl)⟩, Gm.Spec.of_natl _ _ _ _⟩
 intro ds outs h
 unfold q84a at h
 split at h
 ·simp only [Option.some.injEq, Prod.mk.injEq] at h; obtain ⟨hg, h⟩ := h; cases h; exact f84a_spec _ hg
 ·cases h
set_option maxHeartbeats 1000000 in
set_option maxRecDepth 100000 in
theorem clE84 : CloneE Try.prog 84 := by
 intro a c w
 cases a with
 | none =>
  have q22 : ∀ (w : World) (n c n' c' : Nat), (binOp .eql 24 (.slice none n c) (.slice none n' c')).run Try.prog w = .ok (.bool true) w := fun w n c n' c' => Lib.run_eql_slice_nil w _ _ none n c n' c' Try.underlying24
  go_enter Try.func84, Try.ntmps84
  go_wp2
  go_ret
  exact .inl ⟨rfl, rfl⟩
 | some a =>
  have q22 : ∀ (w : World) (n c n' c' : Nat), (binOp .eql 24 (.slice (some a) n c) (.slice none n' c')).run Try.prog w = .ok (.bool false) w := fun w n c n' c' => Lib.run_eql_slice_nil w _ _ (some a) n c n' c' Try.underlying24
  go_enter Try.func84, Try.ntmps84
  go_wp2
  go_ret
  exact .inr ⟨_, rfl, rfl⟩
noncomputable def q84b : Qt
 | [.d (.sl .str) []] => some (true, [.d (.sl .str) []])
 | _ => none
noncomputable def q84 : Qt
 | [.d (.sl .str) a0] => some (Nat.ble a0.length LIM, [.d (.sl .str) a0])
 | _ => none
noncomputable def s84 : Gm.Spec := Gm.Spec.of [.ro] [false] true q84
theorem good84 : Gm.Good Try.prog (84, s84) := by
 refine ⟨⟨spec_clone (q := q84) (qb := q84b) good84a.1.1 (spec_cloneE (t := .str) clE84 fun ds outs h => ?_) fun ds outs h => ?_, _, Try.func84, by kernel_rfl, of_decide_eq_true (by kernel_rfl)⟩, Gm.Spec.of_natl _ _ _ _⟩
 ·unfold q84b at h
  split at h
  ·simp only [Option.some.injEq, Prod.mk.injEq, true_and] at h
   exact ⟨rfl, h.symm⟩
  ·cases h
 ·unfold q84 at h
  split at h
  ·rename_i a0
   simp only [Option.some.injEq, Prod.mk.injEq] at h
   obtain ⟨hg, rfl⟩ := h
   cases a0 with
   | nil => exact .inr rfl
   | cons x r => refine .inl ?_; simp only [q84a, List.isEmpty_cons, Bool.not_false, Bool.true_and, hg]
  ·cases h
noncomputable def q39 : Qt
 | [.d .node a0] => some ((sm_node a0), [.d .node a0])
 | _ => none
noncomputable def mu39 : List Dt → Nat
 | [.d .node a0] => nd_node a0
 | _ => 0
noncomputable def s39r (N : Nat) : Gm.Spec := Gm.Spec.of [.ro] [false] true (qlt mu39 N q39)
noncomputable def f39S0 (y0 : List NodeT) (y1 : Int) (y2 : Int) (y3 : Int) (y4 : Int) (y5 : BA) (y6 : List NodeT) (y10 : List BA) (y11 : List NodeT) : St := ⟨[(1, .c (.one (.pt 1 0))), (2, .c (.one (.pt 2 0))), (3, .c (.one (.h 640 0 0 []))), (12, .c (.one (.ro .node y0))), (13, .c (.one (.v (.int .i64 y1)))), (14, .c (.one (.v (.int .i64 y2))))], [(1, ⟨.node, [.v (.int .i64 y3), .v (.int .i64 y4), .v (.string y5), .h 512 0 0 [], .ro .node y6]⟩), (2, ⟨.node, [.v (.int .i64 (0 : Int)), .v (.int .i64 (0 : Int)), .v (.string ByteArray.empty), .nl, .nl]⟩)], [(512, .live ⟨.str, .deep, 0, [], y10⟩), (640, .live ⟨.node, .deep, 0, [], y11⟩)]⟩
noncomputable def f39S1 (y0 : List NodeT) (y1 : Int) (y2 : Int) (y3 : Bool) (y4 : Int) (y5 : Int) (y6 : BA) (y7 : List NodeT) (y11 : List BA) (y12 : List NodeT) : St := ⟨[(1, .c (.one (.pt 1 0))), (2, .c (.one (.pt 2 0))), (3, .c (.one (.h 640 0 0 []))), (12, .c (.one (.ro .node y0))), (13, .c (.one (.v (.int .i64 y1)))), (14, .c (.one (.v (.int .i64 y2)))), (15, .c (.one (.v (.bool y3))))], [(1, ⟨.node, [.v (.int .i64 y4), .v (.int .i64 y5), .v (.string y6), .h 512 0 0 [], .ro .node y7]⟩), (2, ⟨.node, [.v (.int .i64 (0 : Int)), .v (.int .i64 (0 : Int)), .v (.string ByteArray.empty), .nl, .nl]⟩)], [(512, .live ⟨.str, .deep, 0, [], y11⟩), (640, .live ⟨.node, .deep, 0, [], y12⟩)]⟩
noncomputable def f39c : Code := (Try.f39.body).getD .skip
def f39k : Nat → Kp := kat [⟨[1, 2], [], [], []⟩, ⟨[1, 2], [], [], []⟩, ⟨[1, 2, 3], [], [], []⟩, ⟨[1, 2, 3, 12, 13, 14], [], [], []⟩, ⟨[1, 2, 3, 12, 13, 14, 15], [], [], []⟩, ⟨[1, 2, 3, 5, 12, 13, 14], [], [], []⟩, ⟨[1, 2, 3, 12, 13, 14], [], [], []⟩, ⟨[1, 2, 3, 12, 13, 14], [], [], []⟩, ⟨[1, 2], [], [], []⟩, ⟨[2], [], [], []⟩]
noncomputable def f39e (N : Nat) : Env := tab.env [(39, s39r N), (84, s84)]
noncomputable def f39L0 {R : Type} (N : Nat) (n : Nat) (x0 : Int → Bool → (List NodeT) → Option R) (wP : List NodeT) (wV : Int) (wK : Int) (wL : Int) (wM : BA) (wI : List NodeT) (wX : List BA) : Nat → Int → (List NodeT) → Option R
  | 0, _, _ => none
  | m + 1, wN, wY =>
    (cond (decide (wN < wV))
   (cond ((decide ((0 : Int) ≤ wN)) && (decide (wN < (wP.length : Int))))
    (cond ((sm_node (eN (atI (t := .node) wP (Int.toNat wN)))) && (Nat.blt (nd_node (eN (atI (t := .node) wP (Int.toNat wN)))) N))
     (cond (Nat.ble (wY.length + 1) LIM)
      (f39L0 N n x0 wP wV wK wL wM wI wX m (IntKind.wrap .i64 (wN + (1 : Int))) (wY ++ ([(eN (atI (t := .node) wP (Int.toNat wN)))] : List NodeT)))
      none)
     none)
    none)
   (x0 wN (decide (wN < wV)) wY))
theorem f39L0_b {R : Type} (N : Nat) (n : Nat) (k' : Kx R) (wP : List NodeT) (wV : Int) (wN : Int) (wK : Int) (wL : Int) (wM : BA) (wI : List NodeT) (wX : List BA) (wY : List NodeT) : ev (f39e N) f39k n (cAt [1,1,1,0,1,0,0] f39c) (f39S0 wP wV wN wK wL wM wI wX wY) k' =
 (cond (decide (wN < wV))
 (cond ((decide ((0 : Int) ≤ wN)) && (decide (wN < (wP.length : Int))))
 (cond ((sm_node (eN (atI (t := .node) wP (Int.toNat wN)))) && (Nat.blt (nd_node (eN (atI (t := .node) wP (Int.toNat wN)))) N))
 (cond (Nat.ble (wY.length + 1) LIM)
 (k' .normal (f39S0 wP wV (IntKind.wrap .i64 (wN + (1 : Int))) wK wL wM wI wX (wY ++ ([(eN (atI (t := .node) wP (Int.toNat wN)))] : List NodeT))))
 none)
 none)
 none)
 (k' (.exit 0) (f39S1 wP wV wN (decide (wN < wV)) wK wL wM wI wX wY))) := by kernel_rfl
theorem f39L0_eq {R : Type} (N : Nat) (n : Nat) (k' : Kx R) (wP : List NodeT) (wV : Int) (wK : Int) (wL : Int) (wM : BA) (wI : List NodeT) (wX : List BA) : ∀ (m : Nat) (wN : Int) (wY : List NodeT), iter (fun st k => ev (f39e N) f39k n (cAt [1,1,1,0,1,0,0] f39c) st k) m (f39S0 wP wV wN wK wL wM wI wX wY) k' = f39L0 N n (fun (uI : Int) (uJ : Bool) (uG : List NodeT) => k' (.exit 0) (f39S1 wP wV uI uJ wK wL wM wI wX uG)) wP wV wK wL wM wI wX m wN wY := by
 intro m; induction m with
 | zero => intros; rfl
 | succ m ih =>
  intro wN wY
  simp only [iter]
  rw [f39L0_b]
  simp only [ih, f39L0]
noncomputable def f39K0 {R : Type} (N : Nat) (n : Nat) (k' : Kx R) : Kx R := (blockK 0 (seqK (f39e N) f39k n (cAt [1,1,1,1] f39c) k'))
theorem f39K0_x0 {R : Type} (N : Nat) (n : Nat) (k : Kt R) (a0 : NodeT) (wP : List NodeT) (wV : Int) (wK : Int) (wL : Int) (wM : BA) (wI : List NodeT) (wX : List BA) (uI : Int) (uJ : Bool) (uG : List NodeT) : f39K0 N n (exitK (f39e N) [.ro] [false] true [.cell 2 27] [27] [.d .node a0] k) (.exit 0) (f39S1 wP wV uI uJ wK wL wM wI wX uG) =
 (k [.d .node (⟨wK, wL, wM, wX, uG⟩ : NodeT)]) := by kernel_rfl
theorem f39_run {R : Type} (N : Nat) (n : Nat) (k : Kt R) (a0 : NodeT) : evFn (f39e N) f39k n f39c [.ro] [false] true [.cell 2 27] [27] [.d .node a0] k =
 (cond ((fun (x : List BA) => Nat.ble x.length LIM) (NodeT.keys a0))
 (f39L0 N n (fun (uI : Int) (uJ : Bool) (uG : List NodeT) =>
 (k [.d .node (⟨(NodeT.kind a0), (NodeT.n a0), (NodeT.s a0), (NodeT.keys a0), uG⟩ : NodeT)])) (NodeT.kids a0) ((NodeT.kids a0).length : Int) (NodeT.kind a0) (NodeT.n a0) (NodeT.s a0) (NodeT.kids a0) (NodeT.keys a0) n (0 : Int) ([] : List NodeT))
 none) := by
 refine Eq.trans (b := (cond ((fun (x : List BA) => Nat.ble x.length LIM) (NodeT.keys a0))
 (iter (fun st k => ev (f39e N) f39k n (cAt [1,1,1,0,1,0,0] f39c) st k) n (f39S0 (NodeT.kids a0) ((NodeT.kids a0).length : Int) (0 : Int) (NodeT.kind a0) (NodeT.n a0) (NodeT.s a0) (NodeT.kids a0) (NodeT.keys a0) ([] : List NodeT)) (f39K0 N n (exitK (f39e N) [.ro] [false] true [.cell 2 27] [27] [.d .node a0] k)))
 none)) (by kernel_rfl) ?_
 simp only [f39L0_eq, f39K0_x0]
theorem f39_spec (N : Nat) (a0 : NodeT) (hg : sm_node a0 = true) (hm : mu39 [.d .node a0] = N) : ∃ keep rounds, ∀ {R : Type} (k : Kt R), evFn (f39e N) keep rounds f39c [.ro] [false] true [.cell 2 27] [27] [.d .node a0] k = k [.d .node a0] := by
 have hm : nd_node a0 = N := hm
 subst hm
 have hg0 := hg
 rw [sm_node_def] at hg
 simp only [Bool.and_eq_true] at hg
 obtain ⟨_, _, _, hke, hki⟩ := hg
 have nke := smL_len hke
 have nki := smL_len hki
 refine ⟨f39k, a0.kids.length + 1, fun {R} k => ?_⟩
 rw [f39_run]
 simp only [Nat.zero_add, limLe nke, cond_true, List.nil_append]
 refine Eq.trans (loop_acc (xs := a0.kids) (F := fun m j out => f39L0 (nd_node a0) (a0.kids.length + 1) _ a0.kids (a0.kids.length : Int) a0.kind a0.n a0.s a0.kids a0.keys m (j : Int) out) (f := fun out x => out ++ [x]) (good := fun out => k [.d .node ⟨a0.kind, a0.n, a0.s, a0.keys, out⟩]) (fun j out => out.length ≤ j)
  (fun j out x hx hi => by simp only [List.length_append, List.length_cons, List.length_nil]; omega) (fun m j out x hx hi => ?_) (fun m out hi => by simp only [f39L0, idxE, cond_false]) a0.kids.length 0 (a0.kids.length + 1) [] (by omega) (by omega) (by simp)) ?_
 ·obtain ⟨h1, h0, hw, ht⟩ := idx (lt_of_get hx) (by omega)
  have hj := lt_of_get hx
  have hs := List.all_eq_true.1 (smL_all hki) x (List.mem_of_getElem? hx)
  have hlim : Nat.ble (out.length + 1) LIM = true := Nat.ble_eq_true_of_le (by have : (LIM : Nat) = 4294967296 := rfl; omega)
  have hb : Nat.blt (nd_node x) (nd_node a0) = true := by
   have := nd_node_kid (x := a0) (List.mem_of_getElem? hx)
   rw [Nat.blt_eq]; exact this
  simp only [f39L0, h1, h0, hw, ht, atI_of (t := .node) hx, Bool.and_self, cond_true, hlim, eta_node, eN_eq, hs, hb]
 ·rw [List.drop_zero, foldl_snoc, List.nil_append, eta_node]
noncomputable def s39 : Gm.Spec := Gm.Spec.of [.ro] [false] true q39
theorem good39 : Gm.Good Try.prog (39, s39) := by
 refine ⟨⟨spec_rec mu39 fun N hr => ?_, _, Try.func39, by kernel_rfl, of_decide_eq_true (by kernel_rfl)⟩, Gm.Spec.of_natl _ _ _ _⟩
 have hl : ∀ x ∈ [(39, s39r N), (84, s84)], Gm.Good Try.prog x := fcJ.2 ⟨⟨⟨hr, _, Try.func39, by kernel_rfl, of_decide_eq_true (by kernel_rfl)⟩, Gm.Spec.of_natl _ _ _ _⟩, fcJ.2 ⟨good84, fcN⟩⟩
 intro R
 refine spec_ok (E := f39e N) (tab_ok.env hl) (tab.natl hl) Try.func39 (by kernel_rfl : Try.f39.body = some f39c) [27] (by kernel_rfl) ?_
 intro ds outs h
 obtain ⟨h, hm⟩ := qeq_some h
 unfold q39 at h
 split at h
 ·simp only [Option.some.injEq, Prod.mk.injEq] at h; obtain ⟨hg, h⟩ := h; cases h; exact f39_spec N _ hg hm
 ·cases h
noncomputable def q41 : Qt
 | [.d .node a0] => some ((sm_node a0), [.d .node a0])
 | _ => none
noncomputable def mu41 : List Dt → Nat
 | [.d .node a0] => nd_node a0
 | _ => 0
noncomputable def s41r (N : Nat) : Gm.Spec := Gm.Spec.of [.ro] [false] true (qlt mu41 N q41)
noncomputable def f41S0 (y0 : Int) (y1 : Int) (y2 : Int) (y3 : BA) (y4 : List BA) (y5 : List NodeT) (y9 : Int) (y10 : Int) (y11 : BA) (y12 : List NodeT) (y13 : List BA) : St := ⟨[(1, .c (.one (.pt 1 0))), (2, .c (.one (.pt 2 0))), (3, .c (.one (.pt 3 0))), (4, .c (.one (.v (.int .i64 y0))))], [(1, ⟨.node, [.v (.int .i64 y1), .v (.int .i64 y2), .v (.string y3), .ro .str y4, .ro .node y5]⟩), (2, ⟨.node, [.v (.int .i64 (0 : Int)), .v (.int .i64 (0 : Int)), .v (.string ByteArray.empty), .nl, .nl]⟩), (3, ⟨.node, [.v (.int .i64 y9), .v (.int .i64 y10), .v (.string y11), .h 704 0 0 [], .h 196 0 0 []]⟩)], [(196, .live ⟨.node, .deep, 0, [], y12⟩), (704, .live ⟨.str, .deep, 0, [], y13⟩)]⟩
noncomputable def f41S1 (y0 : Int) (y1 : Bool) (y2 : Int) (y3 : Int) (y4 : BA) (y5 : List BA) (y6 : List NodeT) (y10 : Int) (y11 : Int) (y12 : BA) (y13 : List NodeT) (y14 : List BA) : St := ⟨[(1, .c (.one (.pt 1 0))), (2, .c (.one (.pt 2 0))), (3, .c (.one (.pt 3 0))), (4, .c (.one (.v (.int .i64 y0)))), (20, .c (.one (.v (.bool y1))))], [(1, ⟨.node, [.v (.int .i64 y2), .v (.int .i64 y3), .v (.string y4), .ro .str y5, .ro .node y6]⟩), (2, ⟨.node, [.v (.int .i64 (0 : Int)), .v (.int .i64 (0 : Int)), .v (.string ByteArray.empty), .nl, .nl]⟩), (3, ⟨.node, [.v (.int .i64 y10), .v (.int .i64 y11), .v (.string y12), .h 704 0 0 [], .h 196 0 0 []]⟩)], [(196, .live ⟨.node, .deep, 0, [], y13⟩), (704, .live ⟨.str, .deep, 0, [], y14⟩)]⟩
noncomputable def f41c : Code := (Try.f41.body).getD .skip
def f41k : Nat → Kp := kat [⟨[1, 2], [], [], []⟩, ⟨[1, 2, 3], [], [], []⟩, ⟨[1, 2, 3, 4], [⟨true, false, 3, 4, .node⟩], [], []⟩, ⟨[1, 2, 3, 4, 20], [], [], []⟩, ⟨[1, 2, 3, 4], [], [], []⟩, ⟨[1, 2, 3, 4], [], [], []⟩, ⟨[2], [], [], []⟩]
noncomputable def f41e (N : Nat) : Env := tab.env [(41, s41r N)]
noncomputable def f41L0 {R : Type} (N : Nat) (n : Nat) (x0 : Int → Bool → (List NodeT) → Option R) (wK : Int) (wL : Int) (wM : BA) (uE : List BA) (wI : List NodeT) (wZ : Int) (uA : Int) (uB : BA) (uC : List BA) : Nat → Int → (List NodeT) → Option R
  | 0, _, _ => none
  | m + 1, wO, uD =>
    (cond (decide (wO < (wI.length : Int)))
   (cond ((decide ((0 : Int) ≤ wO)) && (decide (wO < (wI.length : Int))))
    (cond ((sm_node (eN (atI (t := .node) wI (Int.toNat wO)))) && (Nat.blt (nd_node (eN (atI (t := .node) wI (Int.toNat wO)))) N))
     (cond (Nat.ble (uD.length + 1) LIM)
      (f41L0 N n x0 wK wL wM uE wI wZ uA uB uC m (IntKind.wrap .i64 (wO + (1 : Int))) (uD ++ ([(eN (atI (t := .node) wI (Int.toNat wO)))] : List NodeT)))
      none)
     none)
    none)
   (x0 wO (decide (wO < (wI.length : Int))) uD))
theorem f41L0_b {R : Type} (N : Nat) (n : Nat) (k' : Kx R) (wO : Int) (wK : Int) (wL : Int) (wM : BA) (uE : List BA) (wI : List NodeT) (wZ : Int) (uA : Int) (uB : BA) (uD : List NodeT) (uC : List BA) : ev (f41e N) f41k n (cAt [1,1,0,1,0,0] f41c) (f41S0 wO wK wL wM uE wI wZ uA uB uD uC) k' =
 (cond (decide (wO < (wI.length : Int)))
 (cond ((decide ((0 : Int) ≤ wO)) && (decide (wO < (wI.length : Int))))
 (cond ((sm_node (eN (atI (t := .node) wI (Int.toNat wO)))) && (Nat.blt (nd_node (eN (atI (t := .node) wI (Int.toNat wO)))) N))
 (cond (Nat.ble (uD.length + 1) LIM)
 (k' .normal (f41S0 (IntKind.wrap .i64 (wO + (1 : Int))) wK wL wM uE wI wZ uA uB (uD ++ ([(eN (atI (t := .node) wI (Int.toNat wO)))] : List NodeT)) uC))
 none)
 none)
 none)
 (k' (.exit 0) (f41S1 wO (decide (wO < (wI.length : Int))) wK wL wM uE wI wZ uA uB uD uC))) := by kernel_rfl
theorem f41L0_eq {R : Type} (N : Nat) (n : Nat) (k' : Kx R) (wK : Int) (wL : Int) (wM : BA) (uE : List BA) (wI : List NodeT) (wZ : Int) (uA : Int) (uB : BA) (uC : List BA) : ∀ (m : Nat) (wO : Int) (uD : List NodeT), iter (fun st k => ev (f41e N) f41k n (cAt [1,1,0,1,0,0] f41c) st k) m (f41S0 wO wK wL wM uE wI wZ uA uB uD uC) k' = f41L0 N n (fun (uK : Int) (uL : Bool) (uH : List NodeT) => k' (.exit 0) (f41S1 uK uL wK wL wM uE wI wZ uA uB uH uC)) wK wL wM uE wI wZ uA uB uC m wO uD := by
 intro m; induction m with
 | zero => intros; rfl
 | succ m ih =>
  intro wO uD
  simp only [iter]
  rw [f41L0_b]
  simp only [ih, f41L0]
noncomputable def f41K0 {R : Type} (N : Nat) (n : Nat) (k' : Kx R) : Kx R := (blockK 0 (seqK (f41e N) f41k n (cAt [1,1,1] f41c) k'))
theorem f41K0_x0 {R : Type} (N : Nat) (n : Nat) (k : Kt R) (a0 : NodeT) (wK : Int) (wL : Int) (wM : BA) (uE : List BA) (wI : List NodeT) (wZ : Int) (uA : Int) (uB : BA) (uC : List BA) (uK : Int) (uL : Bool) (uH : List NodeT) : f41K0 N n (exitK (f41e N) [.ro] [false] true [.cell 2 27] [27] [.d .node a0] k) (.exit 0) (f41S1 uK uL wK wL wM uE wI wZ uA uB uH uC) =
 (k [.d .node (⟨wZ, uA, uB, uC, uH⟩ : NodeT)]) := by kernel_rfl
theorem f41_run {R : Type} (N : Nat) (n : Nat) (k : Kt R) (a0 : NodeT) : evFn (f41e N) f41k n f41c [.ro] [false] true [.cell 2 27] [27] [.d .node a0] k =
 (cond (Nat.ble (0 + (NodeT.keys a0).length) LIM)
 (f41L0 N n (fun (uK : Int) (uL : Bool) (uH : List NodeT) =>
 (k [.d .node (⟨(NodeT.kind a0), (NodeT.n a0), (NodeT.s a0), (([] : List BA) ++ (NodeT.keys a0)), uH⟩ : NodeT)])) (NodeT.kind a0) (NodeT.n a0) (NodeT.s a0) (NodeT.keys a0) (NodeT.kids a0) (NodeT.kind a0) (NodeT.n a0) (NodeT.s a0) (([] : List BA) ++ (NodeT.keys a0)) n (0 : Int) ([] : List NodeT))
 none) := by
 refine Eq.trans (b := (cond (Nat.ble (0 + (NodeT.keys a0).length) LIM)
 (iter (fun st k => ev (f41e N) f41k n (cAt [1,1,0,1,0,0] f41c) st k) n (f41S0 (0 : Int) (NodeT.kind a0) (NodeT.n a0) (NodeT.s a0) (NodeT.keys a0) (NodeT.kids a0) (NodeT.kind a0) (NodeT.n a0) (NodeT.s a0) ([] : List NodeT) (([] : List BA) ++ (NodeT.keys a0))) (f41K0 N n (exitK (f41e N) [.ro] [false] true [.cell 2 27] [27] [.d .node a0] k)))
 none)) (by kernel_rfl) ?_
 simp only [f41L0_eq, f41K0_x0]
theorem f41_spec (N : Nat) (a0 : NodeT) (hg : sm_node a0 = true) (hm : mu41 [.d .node a0] = N) : ∃ keep rounds, ∀ {R : Type} (k : Kt R), evFn (f41e N) keep rounds f41c [.ro] [false] true [.cell 2 27] [27] [.d .node a0] k = k [.d .node a0] := by
 have hm : nd_node a0 = N := hm
 subst hm
 have hg0 := hg
 rw [sm_node_def] at hg
 simp only [Bool.and_eq_true] at hg
 obtain ⟨_, _, _, hke, hki⟩ := hg
 have nke := smL_len hke
 have nki := smL_len hki
 refine ⟨f41k, a0.kids.length + 1, fun {R} k => ?_⟩
 rw [f41_run]
 simp only [Nat.zero_add, limLe nke, cond_true, List.nil_append]
 refine Eq.trans (loop_acc (xs := a0.kids) (F := fun m j out => f41L0 (nd_node a0) (a0.kids.length + 1) _ a0.kind a0.n a0.s a0.keys a0.kids a0.kind a0.n a0.s a0.keys m (j : Int) out) (f := fun out x => out ++ [x]) (good := fun out => k [.d .node ⟨a0.kind, a0.n, a0.s, a0.keys, out⟩]) (fun j out => out.length ≤ j)
  (fun j out x hx hi => by simp only [List.length_append, List.length_cons, List.length_nil]; omega) (fun m j out x hx hi => ?_) (fun m out hi => by simp only [f41L0, idxE, cond_false]) a0.kids.length 0 (a0.kids.length + 1) [] (by omega) (by omega) (by simp)) ?_
 ·obtain ⟨h1, h0, hw, ht⟩ := idx (lt_of_get hx) (by omega)
  have hj := lt_of_get hx
  have hs := List.all_eq_true.1 (smL_all hki) x (List.mem_of_getElem? hx)
  have hlim : Nat.ble (out.length + 1) LIM = true := Nat.ble_eq_true_of_le (by have : (LIM : Nat) = 4294967296 := rfl; omega)
  have hb : Nat.blt (nd_node x) (nd_node a0) = true := by
   have := nd_node_kid (x := a0) (List.mem_of_getElem? hx)
   rw [Nat.blt_eq]; exact this
  simp only [f41L0, h1, h0, hw, ht, atI_of (t := .node) hx, Bool.and_self, cond_true, hlim, eta_node, eN_eq, hs, hb]
 ·rw [List.drop_zero, foldl_snoc, List.nil_append, eta_node]
noncomputable def s41 : Gm.Spec := Gm.Spec.of [.ro] [false] true q41
theorem good41 : Gm.Good Try.prog (41, s41) := by
 refine ⟨⟨spec_rec mu41 fun N hr => ?_, _, Try.func41, by kernel_rfl, of_decide_eq_true (by kernel_rfl)⟩, Gm.Spec.of_natl _ _ _ _⟩
 have hl : ∀ x ∈ [(41, s41r N)], Gm.Good Try.prog x := fcJ.2 ⟨⟨⟨hr, _, Try.func41, by kernel_rfl, of_decide_eq_true (by kernel_rfl)⟩, Gm.Spec.of_natl _ _ _ _⟩, fcN⟩
 intro R
 refine spec_ok (E := f41e N) (tab_ok.env hl) (tab.natl hl) Try.func41 (by kernel_rfl : Try.f41.body = some f41c) [27] (by kernel_rfl) ?_
 intro ds outs h
 obtain ⟨h, hm⟩ := qeq_some h
 unfold q41 at h
 split at h
 ·simp only [Option.some.injEq, Prod.mk.injEq] at h; obtain ⟨hg, h⟩ := h; cases h; exact f41_spec N _ hg hm
 ·cases h
noncomputable def f11S0 (y0 : List BA) (y1 : Int) (y2 : Int) (y3 : Int) (y4 : BA) (y5 : List BA) (y6 : List NodeT) : St := ⟨[(1, .c (.one (.ro .str y0))), (2, .c (.one (.pt 2 0))), (4, .c (.one (.pt 4 0))), (6, .c (.one (.v (.int .i64 y1))))], [(2, ⟨.node, [.v (.int .i64 y2), .v (.int .i64 y3), .v (.string y4), .ro .str y5, .ro .node y6]⟩), (4, ⟨.node, [.v (.int .i64 (0 : Int)), .v (.int .i64 (0 : Int)), .v (.string ByteArray.empty), .nl, .nl]⟩)], []⟩
noncomputable def f11S1 : St := ⟨[(4, .c (.one (.pt 4 0))), (5, .c (.one (.v (.bool false))))], [(4, ⟨.node, [.v (.int .i64 (0 : Int)), .v (.int .i64 (0 : Int)), .v (.string ByteArray.empty), .nl, .nl]⟩)], []⟩
noncomputable def f11S2 (y0 : List BA) (y1 : Int) (y2 : Bool) (y3 : Int) (y4 : Int) (y5 : BA) (y6 : List BA) (y7 : List NodeT) : St := ⟨[(1, .c (.one (.ro .str y0))), (2, .c (.one (.pt 2 0))), (4, .c (.one (.pt 4 0))), (6, .c (.one (.v (.int .i64 y1)))), (11, .c (.one (.v (.bool y2))))], [(2, ⟨.node, [.v (.int .i64 y3), .v (.int .i64 y4), .v (.string y5), .ro .str y6, .ro .node y7]⟩), (4, ⟨.node, [.v (.int .i64 (0 : Int)), .v (.int .i64 (0 : Int)), .v (.string ByteArray.empty), .nl, .nl]⟩)], []⟩
noncomputable def f11c : Code := (Try.f11.body).getD .skip
def f11k : Nat → Kp := kat [⟨[1, 2, 4], [], [], []⟩, ⟨[1, 2, 4, 6], [], [], []⟩, ⟨[1, 2, 4, 6, 11], [], [], []⟩, ⟨[1, 2, 4, 6], [], [], []⟩, ⟨[1, 2, 4, 6, 7], [], [], []⟩, ⟨[1, 2, 4, 6, 7, 28], [], [], []⟩, ⟨[4, 5], [], [], []⟩, ⟨[1, 2, 4, 6], [], [], []⟩, ⟨[4, 5], [], [], []⟩]
noncomputable def f11e : Env := tab.env [(40, s40), (41, s41)]
noncomputable def f11L0 {R : Type} (n : Nat) (x0 : Option R) (x1 : Int → Bool → Int → Int → BA → (List BA) → (List NodeT) → Option R) (wG : List BA) : Nat → Int → Int → Int → BA → (List BA) → (List NodeT) → Option R
  | 0, _, _, _, _, _, _ => none
  | m + 1, wF, wB, wC, wD, wE, wA =>
    (cond (decide (wF < (wG.length : Int)))
   (cond ((decide ((0 : Int) ≤ wF)) && (decide (wF < (wG.length : Int))))
    (cond ((fun (x : NodeT) (_ : BA) => sm_node x) (⟨wB, wC, wD, wE, wA⟩ : NodeT) (atI (t := .str) wG (Int.toNat wF)))
     (cond (decide ((kidAt (⟨wB, wC, wD, wE, wA⟩ : NodeT) (atI (t := .str) wG (Int.toNat wF))) < (0 : Int)))
      (x0)
      (cond (decide ((kidAt (⟨wB, wC, wD, wE, wA⟩ : NodeT) (atI (t := .str) wG (Int.toNat wF))) ≥ (wA.length : Int)))
       (x0)
       (cond ((decide ((0 : Int) ≤ (kidAt (⟨wB, wC, wD, wE, wA⟩ : NodeT) (atI (t := .str) wG (Int.toNat wF))))) && (decide ((kidAt (⟨wB, wC, wD, wE, wA⟩ : NodeT) (atI (t := .str) wG (Int.toNat wF))) < (wA.length : Int))))
        (f11L0 n x0 x1 wG m (IntKind.wrap .i64 (wF + (1 : Int))) (NodeT.kind (atI (t := .node) wA (Int.toNat (kidAt (⟨wB, wC, wD, wE, wA⟩ : NodeT) (atI (t := .str) wG (Int.toNat wF)))))) (NodeT.n (atI (t := .node) wA (Int.toNat (kidAt (⟨wB, wC, wD, wE, wA⟩ : NodeT) (atI (t := .str) wG (Int.toNat wF)))))) (NodeT.s (atI (t := .node) wA (Int.toNat (kidAt (⟨wB, wC, wD, wE, wA⟩ : NodeT) (atI (t := .str) wG (Int.toNat wF)))))) (NodeT.keys (atI (t := .node) wA (Int.toNat (kidAt (⟨wB, wC, wD, wE, wA⟩ : NodeT) (atI (t := .str) wG (Int.toNat wF)))))) (NodeT.kids (atI (t := .node) wA (Int.toNat (kidAt (⟨wB, wC, wD, wE, wA⟩ : NodeT) (atI (t := .str) wG (Int.toNat wF)))))))
        none)))
     none)
    none)
   (x1 wF (decide (wF < (wG.length : Int))) wB wC wD wE wA))
theorem f11L0_b {R : Type} (n : Nat) (k' : Kx R) (wG : List BA) (wF : Int) (wB : Int) (wC : Int) (wD : BA) (wE : List BA) (wA : List NodeT) : ev f11e f11k n (cAt [1,0,1,0,0] f11c) (f11S0 wG wF wB wC wD wE wA) k' =
 (cond (decide (wF < (wG.length : Int)))
 (cond ((decide ((0 : Int) ≤ wF)) && (decide (wF < (wG.length : Int))))
 (cond ((fun (x : NodeT) (_ : BA) => sm_node x) (⟨wB, wC, wD, wE, wA⟩ : NodeT) (atI (t := .str) wG (Int.toNat wF)))
 (cond (decide ((kidAt (⟨wB, wC, wD, wE, wA⟩ : NodeT) (atI (t := .str) wG (Int.toNat wF))) < (0 : Int)))
 (k' .ret f11S1)
 (cond (decide ((kidAt (⟨wB, wC, wD, wE, wA⟩ : NodeT) (atI (t := .str) wG (Int.toNat wF))) ≥ (wA.length : Int)))
 (k' .ret f11S1)
 (cond ((decide ((0 : Int) ≤ (kidAt (⟨wB, wC, wD, wE, wA⟩ : NodeT) (atI (t := .str) wG (Int.toNat wF))))) && (decide ((kidAt (⟨wB, wC, wD, wE, wA⟩ : NodeT) (atI (t := .str) wG (Int.toNat wF))) < (wA.length : Int))))
 (k' .normal (f11S0 wG (IntKind.wrap .i64 (wF + (1 : Int))) (NodeT.kind (atI (t := .node) wA (Int.toNat (kidAt (⟨wB, wC, wD, wE, wA⟩ : NodeT) (atI (t := .str) wG (Int.toNat wF)))))) (NodeT.n (atI (t := .node) wA (Int.toNat (kidAt (⟨wB, wC, wD, wE, wA⟩ : NodeT) (atI (t := .str) wG (Int.toNat wF)))))) (NodeT.s (atI (t := .node) wA (Int.toNat (kidAt (⟨wB, wC, wD, wE, wA⟩ : NodeT) (atI (t := .str) wG (Int.toNat wF)))))) (NodeT.keys (atI (t := .node) wA (Int.toNat (kidAt (⟨wB, wC, wD, wE, wA⟩ : NodeT) (atI (t := .str) wG (Int.toNat wF)))))) (NodeT.kids (atI (t := .node) wA (Int.toNat (kidAt (⟨wB, wC, wD, wE, wA⟩ : NodeT) (atI (t := .str) wG (Int.toNat wF))))))))
 none)))
 none)
 none)
 (k' (.exit 0) (f11S2 wG wF (decide (wF < (wG.length : Int))) wB wC wD wE wA))) := by kernel_rfl
theorem f11L0_eq {R : Type} (n : Nat) (k' : Kx R) (wG : List BA) : ∀ (m : Nat) (wF : Int) (wB : Int) (wC : Int) (wD : BA) (wE : List BA) (wA : List NodeT), iter (fun st k => ev f11e f11k n (cAt [1,0,1,0,0] f11c) st k) m (f11S0 wG wF wB wC wD wE wA) k' = f11L0 n (k' .ret f11S1) (fun (uM : Int) (uF : Bool) (wQ : Int) (wR : Int) (wS : BA) (wT : List BA) (wU : List NodeT) => k' (.exit 0) (f11S2 wG uM uF wQ wR wS wT wU)) wG m wF wB wC wD wE wA := by
 intro m; induction m with
 | zero => intros; rfl
 | succ m ih =>
  intro wF wB wC wD wE wA
  simp only [iter]
  rw [f11L0_b]
  simp only [ih, f11L0]
noncomputable def f11K0 {R : Type} (n : Nat) (k' : Kx R) : Kx R := (blockK 0 (seqK f11e f11k n (cAt [1,1] f11c) k'))
theorem f11K0_x0 {R : Type} (n : Nat) (k : Kt R) (a0 : NodeT) (a1 : List BA)  : f11K0 n (exitK f11e [.ro, .ro] [false, false] true [.cell 4 27, .tmp 5] [27, 4] [.d .node a0, .d (.sl .str) a1] k) .ret f11S1 =
 (k [.d .node (⟨(0 : Int), (0 : Int), ByteArray.empty, ([] : List BA), ([] : List NodeT)⟩ : NodeT), .d .bool false]) := by kernel_rfl
theorem f11K0_x1 {R : Type} (n : Nat) (k : Kt R) (a0 : NodeT) (a1 : List BA) (wG : List BA) (uM : Int) (uF : Bool) (wQ : Int) (wR : Int) (wS : BA) (wT : List BA) (wU : List NodeT) : f11K0 n (exitK f11e [.ro, .ro] [false, false] true [.cell 4 27, .tmp 5] [27, 4] [.d .node a0, .d (.sl .str) a1] k) (.exit 0) (f11S2 wG uM uF wQ wR wS wT wU) =
 (cond (sm_node (⟨wQ, wR, wS, wT, wU⟩ : NodeT))
 (k [.d .node (⟨wQ, wR, wS, wT, wU⟩ : NodeT), .d .bool true])
 none) := by kernel_rfl
theorem f11_run {R : Type} (n : Nat) (k : Kt R) (a0 : NodeT) (a1 : List BA) : evFn f11e f11k n f11c [.ro, .ro] [false, false] true [.cell 4 27, .tmp 5] [27, 4] [.d .node a0, .d (.sl .str) a1] k =
 (f11L0 n (k [.d .node (⟨(0 : Int), (0 : Int), ByteArray.empty, ([] : List BA), ([] : List NodeT)⟩ : NodeT), .d .bool false]) (fun (uM : Int) (uF : Bool) (wQ : Int) (wR : Int) (wS : BA) (wT : List BA) (wU : List NodeT) =>
 (cond (sm_node (⟨wQ, wR, wS, wT, wU⟩ : NodeT))
 (k [.d .node (⟨wQ, wR, wS, wT, wU⟩ : NodeT), .d .bool true])
 none)) a1 n (0 : Int) (NodeT.kind a0) (NodeT.n a0) (NodeT.s a0) (NodeT.keys a0) (NodeT.kids a0)) := by
 refine Eq.trans (b := (iter (fun st k => ev f11e f11k n (cAt [1,0,1,0,0] f11c) st k) n (f11S0 a1 (0 : Int) (NodeT.kind a0) (NodeT.n a0) (NodeT.s a0) (NodeT.keys a0) (NodeT.kids a0)) (f11K0 n (exitK f11e [.ro, .ro] [false, false] true [.cell 4 27, .tmp 5] [27, 4] [.d .node a0, .d (.sl .str) a1] k)))) (by kernel_rfl) ?_
 simp only [f11L0_eq, f11K0_x0, f11K0_x1]
theorem f11_spec (a0 : NodeT) (a1 : List BA) (hg : (sm_node a0 && smL smStr a1) = true) : ∃ keep rounds, ∀ {R : Type} (k : Kt R), evFn f11e keep rounds f11c [.ro, .ro] [false, false] true [.cell 4 27, .tmp 5] [27, 4] [.d .node a0, .d (.sl .str) a1] k = k [.d .node ((atPtr a0 a1).1), .d .bool ((atPtr a0 a1).2)] := by
 simp only [Bool.and_eq_true] at hg
 obtain ⟨hg, hpa⟩ := hg
 have nl := smL_len hpa
 refine ⟨f11k, a1.length + 1, fun {R} k => ?_⟩
 rw [f11_run]
 show _ = k [.d .node (atPtr a0 a1).1, .d .bool (atPtr a0 a1).2]
 unfold atPtr
 refine Eq.trans (loop_fold (xs := a1) (F := fun m j (t : NodeT) => f11L0 (a1.length + 1) _ _ a1 m (j : Int) t.kind t.n t.s t.keys t.kids) (step := atStep) (out := fun _ => k [.d .node noNode, .d .bool false]) (good := fun t => k [.d .node t, .d .bool true]) (fun t => sm_node t = true)
  (fun x t t' _ ht e => sm_kid ht (atStep_in e)) (fun m j t x hx hst => ?_) (fun m t hst => by simp only [f11L0, idxE, cond_false, eta_node, eN_eq, hst, cond_true]) a1.length 0 (a1.length + 1) a0 (by omega) (by omega) hg) ?_
 ·obtain ⟨h1, h0, hw, ht⟩ := idx (lt_of_get hx) (by omega)
  unfold atStep
  by_cases hk : kidAt t x < 0
  ·simp only [f11L0, h1, h0, hw, ht, atI_of (t := .str) hx, Bool.and_self, cond_true, eta_node, eN_eq, hst, decide_eq_true hk]
   rfl
  ·have hlt := kidAt_lt hk
   simp only [f11L0, h1, h0, hw, ht, atI_of (t := .str) hx, Bool.and_self, cond_true, cond_false, eta_node, eN_eq, hst, decide_eq_false hk, decide_eq_true (show (0 : Int) ≤ kidAt t x by omega), decide_eq_true hlt, decide_eq_false (show ¬ (kidAt t x ≥ (t.kids.length : Int)) by omega)]
   rfl
 ·rw [List.drop_zero]
  cases foldE atStep a1 a0 <;> rfl
noncomputable def q11 : Qt
 | [.d .node a0, .d (.sl .str) a1] => some (((fun (x : NodeT) (y : List BA) => sm_node x && smL smStr y) a0 a1), [.d .node ((atPtr a0 a1).1), .d .bool ((atPtr a0 a1).2)])
 | _ => none
noncomputable def s11 : Gm.Spec := Gm.Spec.of [.ro, .ro] [false, false] true q11
theorem good11 : Gm.Good Try.prog (11, s11) := by
 have hl : ∀ x ∈ [(40, s40), (41, s41)], Gm.Good Try.prog x := fcJ.2 ⟨good40, fcJ.2 ⟨good41, fcN⟩⟩
 refine ⟨⟨spec_ok (tab_ok.env hl) (tab.natl hl) Try.func11 (by kernel_rfl : Try.f11.body = some f11c) [27, 4] (by kernel_rfl) ?_, _, Try.func11, by kernel_rfl, of_decide_eq_true (by kernel_rfl)⟩, Gm.Spec.of_natl _ _ _ _⟩
 intro ds outs h
 unfold q11 at h
 split at h
 ·simp only [Option.some.injEq, Prod.mk.injEq] at h; obtain ⟨hg, h⟩ := h; cases h; exact f11_spec _ _ hg
 ·cases h
noncomputable def f10S0 (y0 : List BA) (y1 : Int) (y2 : Int) (y3 : Int) (y4 : Int) (y5 : BA) (y6 : List BA) (y7 : List NodeT) : St := ⟨[(2, .c (.one (.pt 2 0))), (4, .c (.one (.pt 4 0))), (9, .c (.one (.ro .str y0))), (10, .c (.one (.v (.int .i64 y1)))), (11, .c (.one (.v (.int .i64 y2))))], [(2, ⟨.node, [.v (.int .i64 y3), .v (.int .i64 y4), .v (.string y5), .ro .str y6, .ro .node y7]⟩), (4, ⟨.node, [.v (.int .i64 (0 : Int)), .v (.int .i64 (0 : Int)), .v (.string ByteArray.empty), .nl, .nl]⟩)], []⟩
noncomputable def f10S1 : St := ⟨[(4, .c (.one (.pt 4 0))), (5, .c (.one (.v (.bool false))))], [(4, ⟨.node, [.v (.int .i64 (0 : Int)), .v (.int .i64 (0 : Int)), .v (.string ByteArray.empty), .nl, .nl]⟩)], []⟩
noncomputable def f10S2 (y0 : List BA) (y1 : Int) (y2 : Int) (y3 : Bool) (y4 : Int) (y5 : Int) (y6 : BA) (y7 : List BA) (y8 : List NodeT) : St := ⟨[(2, .c (.one (.pt 2 0))), (4, .c (.one (.pt 4 0))), (9, .c (.one (.ro .str y0))), (10, .c (.one (.v (.int .i64 y1)))), (11, .c (.one (.v (.int .i64 y2)))), (12, .c (.one (.v (.bool y3))))], [(2, ⟨.node, [.v (.int .i64 y4), .v (.int .i64 y5), .v (.string y6), .ro .str y7, .ro .node y8]⟩), (4, ⟨.node, [.v (.int .i64 (0 : Int)), .v (.int .i64 (0 : Int)), .v (.string ByteArray.empty), .nl, .nl]⟩)], []⟩
noncomputable def f10c : Code := (Try.f10.body).getD .skip
def f10k : Nat → Kp := kat [⟨[1, 2, 4], [], [], []⟩, ⟨[2, 4, 9, 10, 11], [], [], []⟩, ⟨[2, 4, 9, 10, 11, 12], [], [], []⟩, ⟨[2, 4, 7, 9, 10, 11], [], [], []⟩, ⟨[2, 4, 8, 9, 10, 11], [], [], []⟩, ⟨[2, 4, 8, 9, 10, 11, 19], [], [], []⟩, ⟨[4, 5], [], [], []⟩, ⟨[2, 4, 9, 10, 11], [], [], []⟩, ⟨[2, 4, 9, 10, 11], [], [], []⟩, ⟨[4, 5], [], [], []⟩]
noncomputable def f10e : Env := tab.env [(38, s38), (39, s39)]
noncomputable def f10L0 {R : Type} (n : Nat) (x0 : Option R) (x1 : Int → Bool → Int → Int → BA → (List BA) → (List NodeT) → Option R) (wJ : List BA) (wW : Int) : Nat → Int → Int → Int → BA → (List BA) → (List NodeT) → Option R
  | 0, _, _, _, _, _, _ => none
  | m + 1, wH, wB, wC, wD, wE, wA =>
    (cond (decide (wH < wW))
   (cond ((decide ((0 : Int) ≤ wH)) && (decide (wH < (wJ.length : Int))))
    (cond ((fun (x : NodeT) (_ : BA) => sm_node x) (⟨wB, wC, wD, wE, wA⟩ : NodeT) (atI (t := .str) wJ (Int.toNat wH)))
     (cond (decide ((kidAt (⟨wB, wC, wD, wE, wA⟩ : NodeT) (atI (t := .str) wJ (Int.toNat wH))) < (0 : Int)))
      (x0)
      (cond ((decide ((0 : Int) ≤ (kidAt (⟨wB, wC, wD, wE, wA⟩ : NodeT) (atI (t := .str) wJ (Int.toNat wH))))) && (decide ((kidAt (⟨wB, wC, wD, wE, wA⟩ : NodeT) (atI (t := .str) wJ (Int.toNat wH))) < (wA.length : Int))))
       (f10L0 n x0 x1 wJ wW m (IntKind.wrap .i64 (wH + (1 : Int))) (NodeT.kind (atI (t := .node) wA (Int.toNat (kidAt (⟨wB, wC, wD, wE, wA⟩ : NodeT) (atI (t := .str) wJ (Int.toNat wH)))))) (NodeT.n (atI (t := .node) wA (Int.toNat (kidAt (⟨wB, wC, wD, wE, wA⟩ : NodeT) (atI (t := .str) wJ (Int.toNat wH)))))) (NodeT.s (atI (t := .node) wA (Int.toNat (kidAt (⟨wB, wC, wD, wE, wA⟩ : NodeT) (atI (t := .str) wJ (Int.toNat wH)))))) (NodeT.keys (atI (t := .node) wA (Int.toNat (kidAt (⟨wB, wC, wD, wE, wA⟩ : NodeT) (atI (t := .str) wJ (Int.toNat wH)))))) (NodeT.kids (atI (t := .node) wA (Int.toNat (kidAt (⟨wB, wC, wD, wE, wA⟩ : NodeT) (atI (t := .str) wJ (Int.toNat wH)))))))
       none))
     none)
    none)
   (x1 wH (decide (wH < wW)) wB wC wD wE wA))
theorem f10L0_b {R : Type} (n : Nat) (k' : Kx R) (wJ : List BA) (wW : Int) (wH : Int) (wB : Int) (wC : Int) (wD : BA) (wE : List BA) (wA : List NodeT) : ev f10e f10k n (cAt [1,0,1,0,0] f10c) (f10S0 wJ wW wH wB wC wD wE wA) k' =
 (cond (decide (wH < wW))
 (cond ((decide ((0 : Int) ≤ wH)) && (decide (wH < (wJ.length : Int))))
 (cond ((fun (x : NodeT) (_ : BA) => sm_node x) (⟨wB, wC, wD, wE, wA⟩ : NodeT) (atI (t := .str) wJ (Int.toNat wH)))
 (cond (decide ((kidAt (⟨wB, wC, wD, wE, wA⟩ : NodeT) (atI (t := .str) wJ (Int.toNat wH))) < (0 : Int)))
 (k' .ret f10S1)
 (cond ((decide ((0 : Int) ≤ (kidAt (⟨wB, wC, wD, wE, wA⟩ : NodeT) (atI (t := .str) wJ (Int.toNat wH))))) && (decide ((kidAt (⟨wB, wC, wD, wE, wA⟩ : NodeT) (atI (t := .str) wJ (Int.toNat wH))) < (wA.length : Int))))
 (k' .normal (f10S0 wJ wW (IntKind.wrap .i64 (wH + (1 : Int))) (NodeT.kind (atI (t := .node) wA (Int.toNat (kidAt (⟨wB, wC, wD, wE, wA⟩ : NodeT) (atI (t := .str) wJ (Int.toNat wH)))))) (NodeT.n (atI (t := .node) wA (Int.toNat (kidAt (⟨wB, wC, wD, wE, wA⟩ : NodeT) (atI (t := .str) wJ (Int.toNat wH)))))) (NodeT.s (atI (t := .node) wA (Int.toNat (kidAt (⟨wB, wC, wD, wE, wA⟩ : NodeT) (atI (t := .str) wJ (Int.toNat wH)))))) (NodeT.keys (atI (t := .node) wA (Int.toNat (kidAt (⟨wB, wC, wD, wE, wA⟩ : NodeT) (atI (t := .str) wJ (Int.toNat wH)))))) (NodeT.kids (atI (t := .node) wA (Int.toNat (kidAt (⟨wB, wC, wD, wE, wA⟩ : NodeT) (atI (t := .str) wJ (Int.toNat wH))))))))
 none))
 none)
 none)
 (k' (.exit 0) (f10S2 wJ wW wH (decide (wH < wW)) wB wC wD wE wA))) := by kernel_rfl
theorem f10L0_eq {R : Type} (n : Nat) (k' : Kx R) (wJ : List BA) (wW : Int) : ∀ (m : Nat) (wH : Int) (wB : Int) (wC : Int) (wD : BA) (wE : List BA) (wA : List NodeT), iter (fun st k => ev f10e f10k n (cAt [1,0,1,0,0] f10c) st k) m (f10S0 wJ wW wH wB wC wD wE wA) k' = f10L0 n (k' .ret f10S1) (fun (uF : Int) (uN : Bool) (wQ : Int) (wR : Int) (wS : BA) (wT : List BA) (wU : List NodeT) => k' (.exit 0) (f10S2 wJ wW uF uN wQ wR wS wT wU)) wJ wW m wH wB wC wD wE wA := by
 intro m; induction m with
 | zero => intros; rfl
 | succ m ih =>
  intro wH wB wC wD wE wA
  simp only [iter]
  rw [f10L0_b]
  simp only [ih, f10L0]
noncomputable def f10K0 {R : Type} (n : Nat) (k' : Kx R) : Kx R := (blockK 0 (seqK f10e f10k n (cAt [1,1] f10c) k'))
theorem f10K0_x0 {R : Type} (n : Nat) (k : Kt R) (a0 : NodeT) (a1 : List BA)  : f10K0 n (exitK f10e [.ro, .ro] [false, false] true [.cell 4 27, .tmp 5] [27, 4] [.d .node a0, .d (.sl .str) a1] k) .ret f10S1 =
 (k [.d .node (⟨(0 : Int), (0 : Int), ByteArray.empty, ([] : List BA), ([] : List NodeT)⟩ : NodeT), .d .bool false]) := by kernel_rfl
theorem f10K0_x1 {R : Type} (n : Nat) (k : Kt R) (a0 : NodeT) (a1 : List BA) (wJ : List BA) (wW : Int) (uF : Int) (uN : Bool) (wQ : Int) (wR : Int) (wS : BA) (wT : List BA) (wU : List NodeT) : f10K0 n (exitK f10e [.ro, .ro] [false, false] true [.cell 4 27, .tmp 5] [27, 4] [.d .node a0, .d (.sl .str) a1] k) (.exit 0) (f10S2 wJ wW uF uN wQ wR wS wT wU) =
 (cond (sm_node (⟨wQ, wR, wS, wT, wU⟩ : NodeT))
 (k [.d .node (⟨wQ, wR, wS, wT, wU⟩ : NodeT), .d .bool true])
 none) := by kernel_rfl
theorem f10_run {R : Type} (n : Nat) (k : Kt R) (a0 : NodeT) (a1 : List BA) : evFn f10e f10k n f10c [.ro, .ro] [false, false] true [.cell 4 27, .tmp 5] [27, 4] [.d .node a0, .d (.sl .str) a1] k =
 (f10L0 n (k [.d .node (⟨(0 : Int), (0 : Int), ByteArray.empty, ([] : List BA), ([] : List NodeT)⟩ : NodeT), .d .bool false]) (fun (uF : Int) (uN : Bool) (wQ : Int) (wR : Int) (wS : BA) (wT : List BA) (wU : List NodeT) =>
 (cond (sm_node (⟨wQ, wR, wS, wT, wU⟩ : NodeT))
 (k [.d .node (⟨wQ, wR, wS, wT, wU⟩ : NodeT), .d .bool true])
 none)) a1 (a1.length : Int) n (0 : Int) (NodeT.kind a0) (NodeT.n a0) (NodeT.s a0) (NodeT.keys a0) (NodeT.kids a0)) := by
 refine Eq.trans (b := (iter (fun st k => ev f10e f10k n (cAt [1,0,1,0,0] f10c) st k) n (f10S0 a1 (a1.length : Int) (0 : Int) (NodeT.kind a0) (NodeT.n a0) (NodeT.s a0) (NodeT.keys a0) (NodeT.kids a0)) (f10K0 n (exitK f10e [.ro, .ro] [false, false] true [.cell 4 27, .tmp 5] [27, 4] [.d .node a0, .d (.sl .str) a1] k)))) (by kernel_rfl) ?_
 simp only [f10L0_eq, f10K0_x0, f10K0_x1]
theorem f10_spec (a0 : NodeT) (a1 : List BA) (hg : (sm_node a0 && smL smStr a1) = true) : ∃ keep rounds, ∀ {R : Type} (k : Kt R), evFn f10e keep rounds f10c [.ro, .ro] [false, false] true [.cell 4 27, .tmp 5] [27, 4] [.d .node a0, .d (.sl .str) a1] k = k [.d .node ((atPtr a0 a1).1), .d .bool ((atPtr a0 a1).2)] := by
 simp only [Bool.and_eq_true] at hg
 obtain ⟨hg, hpa⟩ := hg
 have nl := smL_len hpa
 refine ⟨f10k, a1.length + 1, fun {R} k => ?_⟩
 rw [f10_run]
 show _ = k [.d .node (atPtr a0 a1).1, .d .bool (atPtr a0 a1).2]
 unfold atPtr
 refine Eq.trans (loop_fold (xs := a1) (F := fun m j (t : NodeT) => f10L0 (a1.length + 1) _ _ a1 (a1.length : Int) m (j : Int) t.kind t.n t.s t.keys t.kids) (step := atStep) (out := fun _ => k [.d .node noNode, .d .bool false]) (good := fun t => k [.d .node t, .d .bool true]) (fun t => sm_node t = true)
  (fun x t t' _ ht e => sm_kid ht (atStep_in e)) (fun m j t x hx hst => ?_) (fun m t hst => by simp only [f10L0, idxE, cond_false, eta_node, eN_eq, hst, cond_true]) a1.length 0 (a1.length + 1) a0 (by omega) (by omega) hg) ?_
 ·obtain ⟨h1, h0, hw, ht⟩ := idx (lt_of_get hx) (by omega)
  unfold atStep
  by_cases hk : kidAt t x < 0
  ·simp only [f10L0, h1, h0, hw, ht, atI_of (t := .str) hx, Bool.and_self, cond_true, eta_node, eN_eq, hst, decide_eq_true hk]
   rfl
  ·have hlt := kidAt_lt hk
   simp only [f10L0, h1, h0, hw, ht, atI_of (t := .str) hx, Bool.and_self, cond_true, cond_false, eta_node, eN_eq, hst, decide_eq_false hk, decide_eq_true (show (0 : Int) ≤ kidAt t x by omega), decide_eq_true hlt, Bool.and_self]
   rfl
 ·rw [List.drop_zero]
  cases foldE atStep a1 a0 <;> rfl
noncomputable def q10 : Qt
 | [.d .node a0, .d (.sl .str) a1] => some (((fun (x : NodeT) (y : List BA) => sm_node x && smL smStr y) a0 a1), [.d .node ((atPtr a0 a1).1), .d .bool ((atPtr a0 a1).2)])
 | _ => none
noncomputable def s10 : Gm.Spec := Gm.Spec.of [.ro, .ro] [false, false] true q10
theorem good10 : Gm.Good Try.prog (10, s10) := by
 have hl : ∀ x ∈ [(38, s38), (39, s39)], Gm.Good Try.prog x := fcJ.2 ⟨good38, fcJ.2 ⟨good39, fcN⟩⟩
 refine ⟨⟨spec_ok (tab_ok.env hl) (tab.natl hl) Try.func10 (by kernel_rfl : Try.f10.body = some f10c) [27, 4] (by kernel_rfl) ?_, _, Try.func10, by kernel_rfl, of_decide_eq_true (by kernel_rfl)⟩, Gm.Spec.of_natl _ _ _ _⟩
 intro ds outs h
 unfold q10 at h
 split at h
 ·simp only [Option.some.injEq, Prod.mk.injEq] at h; obtain ⟨hg, h⟩ := h; cases h; exact f10_spec _ _ hg
 ·cases h
open Go.RowKit in
set_option maxHeartbeats 4000000 in
set_option maxRecDepth 1000000 in
theorem delE114 : DelE Try.prog 114 1 := by
 refine ⟨fun a n cap i w hi hn => ?_, fun b o n cap i j cs el w hij hj hn hb hs h1 => ?_⟩
 ·have hic : i ≤ cap := by omega
  go_enter Try.func114, Try.ntmps114
  go_wp2
  all_goals (go_ret; exact ⟨rfl, rfl⟩)
 ·obtain ⟨eT, ii, news, W1, W2, hu, hi, hsz, hlen, hone, hsrc, hfit, hW1, hclr, hend⟩ := del_pack (E := tab.env []) (tab_ok.env (fun _ h => by simp at h)) (T := 24) (e := .str) rfl (sz := 1) rfl hij hj hn hb hs h1
  obtain ⟨A, hA, hsrc2⟩ : ∃ A : Addr, (if cap = j then (some ⟨b, o, none⟩ : Option Addr) else some ⟨b, o + j, none⟩) = some A ∧ Hid (∀ t u, news[t]? = some u → w.drew.cell? (A.add t) = some u) := by
   by_cases h : cap = j
   ·exact ⟨⟨b, o, none⟩, by simp [h], hsrc _ (.inr (by omega))⟩
   ·exact ⟨⟨b, o + j, none⟩, by simp [h], hsrc _ (.inl (by simp))⟩
  have hcl : ∀ ty, (Builtin.clear_ #[24] ty #[.slice (some ⟨b, o + (i + (n - j)), none⟩) (n - (i + (n - j))) (cap - (i + (n - j)))]).run Try.prog W1 = .ok (.tuple #[]) W2 := fun ty => by have := hclr ty; simpa only [Nat.mul_one] using this
  have s5 : Hid (Try.prog.underlying 24 = some (.slice eT)) := hu
  have s6 : Hid (Try.prog.info? eT = some ii) := hi
  have s1 : Hid (news.length = (n - j) * 1) := hlen
  have s2 : Hid (∀ u ∈ news, u.oneCell' = true) := hone
  have s3 : Hid (o + i * 1 + news.length ≤ cs.size) := hfit
  have s4 : Hid (w.heap[b]? = some (.cells cs el (0, 0))) := hb
  have hW : Hid (W1 = w.drew.setRow b (putAt cs (o + i * 1) news.toArray)) := hW1
  have hE : Hid (DelEnd w W2 b o n i j 1 cs el) := hend
  have mixed : Try.prog.follows .mixedOrders = true := tab_ok.ord
  have hic : i ≤ cap := by omega
  have hjc : j ≤ cap := by omega
  have hne : i ≠ j := by omega
  clear hu hi hlen hone hsrc hfit hW1 hclr hend hb h1 hs
  go_enter Try.func114, Try.ntmps114
  go_wp2_with fail
  go_region_law_o (refine step_append_at rfl (.tmp 22) (.tmp 25) 24 rfl eT ii 1 s5 s6 hsz b o i cap (by simp [Act.eval, Act.put]) A (n - j) (cap - j) news (by simp [Act.eval, Act.put]) s1 hsrc2 s2 (by omega) cs el s4 s3 ?_; rw [← show W1 = _ from hW])
  go_wp2
  go_ret
  exact ⟨by rw [show n - (j - i) = i + (n - j) by omega]; rfl, hE⟩
noncomputable def q114 : Qt
 | [.d (.sl .str) a0, .d (.i .i64) a1, .d (.i .i64) a2] => some (gDel a0 a1 a2, [.d (.sl .str) (delL a0 a1 a2)])
 | _ => none
noncomputable def s114 : Gm.Spec := Gm.Spec.of [.mov, .ro, .ro] [false] true q114
theorem good114 : Gm.Good Try.prog (114, s114) := by
 refine ⟨⟨spec_del (t := .str) (sz := 1) rfl delE114 fun ds outs h => ?_, _, Try.func114, by kernel_rfl, of_decide_eq_true (by kernel_rfl)⟩, Gm.Spec.of_natl _ _ _ _⟩
 unfold q114 at h
 split at h
 ·rename_i a0 a1 a2
  simp only [Option.some.injEq, Prod.mk.injEq] at h
  obtain ⟨hg, rfl⟩ := h
  simp only [gDel, Bool.and_eq_true, decide_eq_true_eq] at hg
  exact ⟨a0, a1.toNat, a2.toNat, by rw [Int.toNat_of_nonneg (by omega), Int.toNat_of_nonneg (by omega)], by omega, by omega, rfl⟩
 ·cases h
open Go.RowKit in
set_option maxHeartbeats 4000000 in
set_option maxRecDepth 1000000 in
theorem delE103 : DelE Try.prog 103 5 := by
 refine ⟨fun a n cap i w hi hn => ?_, fun b o n cap i j cs el w hij hj hn hb hs h1 => ?_⟩
 ·have hic : i ≤ cap := by omega
  go_enter Try.func103, Try.ntmps103
  go_wp2
  all_goals (go_ret; exact ⟨rfl, rfl⟩)
 ·obtain ⟨eT, ii, news, W1, W2, hu, hi, hsz, hlen, hone, hsrc, hfit, hW1, hclr, hend⟩ := del_pack (E := tab.env []) (tab_ok.env (fun _ h => by simp at h)) (T := 25) (e := .node) rfl (sz := 5) rfl hij hj hn hb hs h1
  obtain ⟨A, hA, hsrc2⟩ : ∃ A : Addr, (if cap = j then (some ⟨b, o, none⟩ : Option Addr) else some ⟨b, o + j * 5, none⟩) = some A ∧ Hid (∀ t u, news[t]? = some u → w.drew.cell? (A.add t) = some u) := by
   by_cases h : cap = j
   ·exact ⟨⟨b, o, none⟩, by simp [h], hsrc _ (.inr (by omega))⟩
   ·exact ⟨⟨b, o + j * 5, none⟩, by simp [h], hsrc _ (.inl (by simp))⟩
  have hcl : ∀ ty, (Builtin.clear_ #[25] ty #[.slice (some ⟨b, o + (i + (n - j)) * 5, none⟩) (n - (i + (n - j))) (cap - (i + (n - j)))]).run Try.prog W1 = .ok (.tuple #[]) W2 := fun ty => hclr ty
  have s5 : Hid (Try.prog.underlying 25 = some (.slice eT)) := hu
  have s6 : Hid (Try.prog.info? eT = some ii) := hi
  have s1 : Hid (news.length = (n - j) * 5) := hlen
  have s2 : Hid (∀ u ∈ news, u.oneCell' = true) := hone
  have s3 : Hid (o + i * 5 + news.length ≤ cs.size) := hfit
  have s4 : Hid (w.heap[b]? = some (.cells cs el (0, 0))) := hb
  have hW : Hid (W1 = w.drew.setRow b (putAt cs (o + i * 5) news.toArray)) := hW1
  have hE : Hid (DelEnd w W2 b o n i j 5 cs el) := hend
  have mixed : Try.prog.follows .mixedOrders = true := tab_ok.ord
  have hic : i ≤ cap := by omega
  have hjc : j ≤ cap := by omega
  have hne : i ≠ j := by omega
  clear hu hi hlen hone hsrc hfit hW1 hclr hend hb h1 hs
  go_enter Try.func103, Try.ntmps103
  go_wp2_with fail
  go_region_law_o (refine step_append_at rfl (.tmp 22) (.tmp 25) 25 rfl eT ii 5 s5 s6 hsz b o i cap (by simp [Act.eval, Act.put]) A (n - j) (cap - j) news (by simp [Act.eval, Act.put]) s1 hsrc2 s2 (by omega) cs el s4 s3 ?_; rw [← show W1 = _ from hW])
  go_wp2
  go_ret
  exact ⟨by rw [show n - (j - i) = i + (n - j) by omega]; rfl, hE⟩
noncomputable def q103 : Qt
 | [.d (.sl .node) a0, .d (.i .i64) a1, .d (.i .i64) a2] => some (gDel a0 a1 a2, [.d (.sl .node) (delL a0 a1 a2)])
 | _ => none
noncomputable def s103 : Gm.Spec := Gm.Spec.of [.mov, .ro, .ro] [false] true q103
theorem good103 : Gm.Good Try.prog (103, s103) := by
 refine ⟨⟨spec_del (t := .node) (sz := 5) rfl delE103 fun ds outs h => ?_, _, Try.func103, by kernel_rfl, of_decide_eq_true (by kernel_rfl)⟩, Gm.Spec.of_natl _ _ _ _⟩
 unfold q103 at h
 split at h
 ·rename_i a0 a1 a2
  simp only [Option.some.injEq, Prod.mk.injEq] at h
  obtain ⟨hg, rfl⟩ := h
  simp only [gDel, Bool.and_eq_true, decide_eq_true_eq] at hg
  exact ⟨a0, a1.toNat, a2.toNat, by rw [Int.toNat_of_nonneg (by omega), Int.toNat_of_nonneg (by omega)], by omega, by omega, rfl⟩
 ·cases h
noncomputable def f102c : Code := (Try.f102.body).getD .skip
def f102k : Nat → Kp := kat [⟨[1, 2, 4], [], [], []⟩, ⟨[1, 2, 4], [], [], []⟩, ⟨[2, 4, 5], [], [], []⟩, ⟨[2, 4, 5, 18], [], [], []⟩, ⟨[4], [], [], []⟩, ⟨[2, 4, 5], [], [], []⟩, ⟨[2, 4], [], [], []⟩, ⟨[4], [], [], []⟩]
noncomputable def f102e : Env := tab.env [(39, s39), (82, s82), (98, s98), (103, s103), (114, s114)]
theorem f102_run {R : Type} (n : Nat) (k : Kt R) (a0 : NodeT) (a1 : BA) : evFn f102e f102k n f102c [.ro, .ro] [false] true [.cell 4 27] [27] [.d .node a0, .d .str a1] k =
 (cond (sm_node (eN a0))
 (cond ((fun (x : List BA) (_ : BA) => gLenW x) (NodeT.keys a0) a1)
 (cond (!(isMapN (eN a0)))
 (k [.d .node (eN a0)])
 (cond (decide ((idxS (NodeT.keys a0) a1) < (0 : Int)))
 (k [.d .node (eN a0)])
 (cond (gDel (NodeT.keys a0) (idxS (NodeT.keys a0) a1) (IntKind.wrap .i64 ((idxS (NodeT.keys a0) a1) + (1 : Int))))
 (cond (gDel (NodeT.kids a0) (idxS (NodeT.keys a0) a1) (IntKind.wrap .i64 ((idxS (NodeT.keys a0) a1) + (1 : Int))))
 (k [.d .node (⟨(NodeT.kind a0), (NodeT.n a0), (NodeT.s a0), (delL (NodeT.keys a0) (idxS (NodeT.keys a0) a1) (IntKind.wrap .i64 ((idxS (NodeT.keys a0) a1) + (1 : Int)))), (delL (NodeT.kids a0) (idxS (NodeT.keys a0) a1) (IntKind.wrap .i64 ((idxS (NodeT.keys a0) a1) + (1 : Int))))⟩ : NodeT)])
 none)
 none)))
 none)
 none) := by kernel_rfl
theorem f102_spec (a0 : NodeT) (a1 : BA) (hg : sm_node a0 = true) : ∃ keep rounds, ∀ {R : Type} (k : Kt R), evFn f102e keep rounds f102c [.ro, .ro] [false] true [.cell 4 27] [27] [.d .node a0, .d .str a1] k = k [.d .node (unset a0 a1)] := by
 have hg0 := hg
 rw [sm_node_def] at hg
 simp only [Bool.and_eq_true] at hg
 obtain ⟨_, _, _, hke, hki⟩ := hg
 have nke := smL_len hke
 have nki := smL_len hki
 refine ⟨f102k, 0, fun k => ?_⟩
 rw [f102_run]
 simp only [eta_node, eN_eq, hg0, gLenW_sm hke, cond_true]
 cases hm : isMapN a0
 ·unfold unset; rw [hm]; rfl
 simp only [idxS_map hm a1, Bool.not_true, cond_false]
 by_cases hk : keyAt a0 a1 < 0
 ·rw [unset_neg hk, decide_eq_true hk]; rfl
 ·have hb := keyAt_bd a0 a1 hk
  have e0 : unset a0 a1 = cutKey a0 (keyAt a0 a1) := by unfold unset; rw [hm, decide_eq_false hk]; rfl
  obtain ⟨i, e, h1, h2⟩ := hb
  obtain ⟨_, _, hw, _⟩ := idx h1 (by omega)
  rw [e0, decide_eq_false hk, e, hw, gDel_one h1, gDel_one h2]
  rfl
noncomputable def q102 : Qt
 | [.d .node a0, .d .str a1] => some (((fun (x : NodeT) (_ : BA) => sm_node x) a0 a1), [.d .node (unset a0 a1)])
 | _ => none
noncomputable def s102 : Gm.Spec := Gm.Spec.of [.ro, .ro] [false] true q102
theorem good102 : Gm.Good Try.prog (102, s102) := by
 have hl : ∀ x ∈ [(39, s39), (82, s82), (98, s98), (103, s103), (114, s114)], Gm.Good Try.prog x := fcJ.2 ⟨good39, fcJ.2 ⟨good82, fcJ.2 ⟨good98, fcJ.2 ⟨good103, fcJ.2 ⟨good114, fcN⟩⟩⟩⟩⟩
 refine ⟨⟨spec_ok (tab_ok.env hl) (tab.natl hl) Try.func102 (by kernel_rfl : Try.f102.body = some f102c) [27] (by kernel_rfl) ?_, _, Try.func102, by kernel_rfl, of_decide_eq_true (by kernel_rfl)⟩, Gm.Spec.of_natl _ _ _ _⟩
 intro ds outs h
 unfold q102 at h
 split at h
 ·simp only [Option.some.injEq, Prod.mk.injEq] at h; obtain ⟨hg, h⟩ := h; cases h; exact f102_spec _ _ hg
 ·cases h
noncomputable def f89c : Code := (Try.f89.body).getD .skip
def f89k : Nat → Kp := kat [⟨[1, 2, 4], [], [], []⟩, ⟨[1, 2, 4, 5], [], [], []⟩, ⟨[2, 4, 5, 6], [], [], []⟩, ⟨[4, 5, 6, 22], [], [], []⟩, ⟨[4], [], [], []⟩, ⟨[4, 5, 6], [], [513], []⟩, ⟨[4, 5], [], [], []⟩, ⟨[4], [], [], []⟩]
noncomputable def f89e : Env := tab.env [(41, s41), (85, s85)]
theorem f89_run {R : Type} (n : Nat) (k : Kt R) (a0 : NodeT) (a1 : BA) : evFn f89e f89k n f89c [.ro, .ro] [false] false [.cell 4 27] [27] [.d .node a0, .d .str a1] k =
 (cond (sm_node (eN a0))
 (cond ((fun (x : NodeT) (_ : BA) => sm_node x) (eN a0) a1)
 (cond (decide ((keyAt (eN a0) a1) < (0 : Int)))
 (k [.d .node (eN a0)])
 (cond (((NodeT.keys a0).length : Int) != ((NodeT.kids a0).length : Int))
 (k [.d .node (eN a0)])
 (cond ((decide ((0 : Int) ≤ (keyAt (eN a0) a1))) && (decide ((keyAt (eN a0) a1) ≤ ((NodeT.keys a0).length : Int))))
 (cond (Nat.ble (0 + (((NodeT.keys a0).take (Int.toNat (keyAt (eN a0) a1))).drop 0).length) LIM)
 (cond ((decide ((0 : Int) ≤ (IntKind.wrap .i64 ((keyAt (eN a0) a1) + (1 : Int))))) && ((decide ((IntKind.wrap .i64 ((keyAt (eN a0) a1) + (1 : Int))) ≤ ((NodeT.keys a0).length : Int))) && (decide (((NodeT.keys a0).length : Int) ≤ ((NodeT.keys a0).length : Int)))))
 (cond (Nat.ble ((([] : List BA) ++ (((NodeT.keys a0).take (Int.toNat (keyAt (eN a0) a1))).drop 0)).length + (((NodeT.keys a0).take (Int.toNat ((NodeT.keys a0).length : Int))).drop (Int.toNat (IntKind.wrap .i64 ((keyAt (eN a0) a1) + (1 : Int))))).length) LIM)
 (cond ((decide ((0 : Int) ≤ (keyAt (eN a0) a1))) && (decide ((keyAt (eN a0) a1) ≤ ((NodeT.kids a0).length : Int))))
 (cond (Nat.ble (0 + (((NodeT.kids a0).take (Int.toNat (keyAt (eN a0) a1))).drop 0).length) LIM)
 (cond ((decide ((0 : Int) ≤ (IntKind.wrap .i64 ((keyAt (eN a0) a1) + (1 : Int))))) && ((decide ((IntKind.wrap .i64 ((keyAt (eN a0) a1) + (1 : Int))) ≤ ((NodeT.kids a0).length : Int))) && (decide (((NodeT.kids a0).length : Int) ≤ ((NodeT.kids a0).length : Int)))))
 (cond (Nat.ble ((([] : List NodeT) ++ (((NodeT.kids a0).take (Int.toNat (keyAt (eN a0) a1))).drop 0)).length + (((NodeT.kids a0).take (Int.toNat ((NodeT.kids a0).length : Int))).drop (Int.toNat (IntKind.wrap .i64 ((keyAt (eN a0) a1) + (1 : Int))))).length) LIM)
 (k [.d .node (⟨(NodeT.kind a0), (NodeT.n a0), (NodeT.s a0), ((([] : List BA) ++ (((NodeT.keys a0).take (Int.toNat (keyAt (eN a0) a1))).drop 0)) ++ (((NodeT.keys a0).take (Int.toNat ((NodeT.keys a0).length : Int))).drop (Int.toNat (IntKind.wrap .i64 ((keyAt (eN a0) a1) + (1 : Int)))))), ((([] : List NodeT) ++ (((NodeT.kids a0).take (Int.toNat (keyAt (eN a0) a1))).drop 0)) ++ (((NodeT.kids a0).take (Int.toNat ((NodeT.kids a0).length : Int))).drop (Int.toNat (IntKind.wrap .i64 ((keyAt (eN a0) a1) + (1 : Int))))))⟩ : NodeT)])
 none)
 none)
 none)
 none)
 none)
 none)
 none)
 none)))
 none)
 none) := by kernel_rfl
theorem f89_spec (a0 : NodeT) (a1 : BA) (hg : sm_node a0 = true) : ∃ keep rounds, ∀ {R : Type} (k : Kt R), evFn f89e keep rounds f89c [.ro, .ro] [false] false [.cell 4 27] [27] [.d .node a0, .d .str a1] k = k [.d .node (unset a0 a1)] := by
 have hg0 := hg
 rw [sm_node_def] at hg
 simp only [Bool.and_eq_true] at hg
 obtain ⟨_, _, _, hke, hki⟩ := hg
 have nke := smL_len hke
 have nki := smL_len hki
 refine ⟨f89k, 0, fun k => ?_⟩
 rw [f89_run]
 simp only [eta_node, eN_eq, hg0, cond_true]
 by_cases hk : keyAt a0 a1 < 0
 ·rw [unset_neg hk, decide_eq_true hk]; rfl
 cases hl : ((a0.keys.length : Int) != (a0.kids.length : Int))
 rotate_left
 ·rw [unset_ne hl, decide_eq_false hk]; rfl
 rw [unset_eq hk hl, decide_eq_false hk]
 obtain ⟨i, e, h1, h2⟩ := keyAt_bd a0 a1 hk
 obtain ⟨_, _, hw, _⟩ := idx h1 (by omega)
 have d0 : decide ((0 : Int) ≤ (i : Int)) = true := decide_eq_true (by omega)
 have d1 : decide ((i : Int) ≤ (a0.keys.length : Int)) = true := decide_eq_true (by omega)
 have d2 : decide ((i : Int) ≤ (a0.kids.length : Int)) = true := decide_eq_true (by omega)
 have d3 : decide ((0 : Int) ≤ ((i + 1 : Nat) : Int)) = true := decide_eq_true (by omega)
 have d4 : decide (((i + 1 : Nat) : Int) ≤ (a0.keys.length : Int)) = true := decide_eq_true (by omega)
 have d5 : decide (((i + 1 : Nat) : Int) ≤ (a0.kids.length : Int)) = true := decide_eq_true (by omega)
 have d6 : decide ((a0.keys.length : Int) ≤ (a0.keys.length : Int)) = true := decide_eq_true (Int.le_refl _)
 have d7 : decide ((a0.kids.length : Int) ≤ (a0.kids.length : Int)) = true := decide_eq_true (Int.le_refl _)
 simp only [e, hw, d0, d1, d2, d3, d4, d5, d6, d7, Int.toNat_natCast, List.drop_zero, List.take_length, List.nil_append, limT nke, limT nki, limTD nke, limTD nki, Bool.and_self, cond_true, cond_false]
 rfl
noncomputable def q89 : Qt
 | [.d .node a0, .d .str a1] => some (((fun (x : NodeT) (_ : BA) => sm_node x) a0 a1), [.d .node (unset a0 a1)])
 | _ => none
noncomputable def s89 : Gm.Spec := Gm.Spec.of [.ro, .ro] [false] false q89
theorem good89 : Gm.Good Try.prog (89, s89) := by
 have hl : ∀ x ∈ [(41, s41), (85, s85)], Gm.Good Try.prog x := fcJ.2 ⟨good41, fcJ.2 ⟨good85, fcN⟩⟩
 refine ⟨⟨spec_ok (tab_ok.env hl) (tab.natl hl) Try.func89 (by kernel_rfl : Try.f89.body = some f89c) [27] (by kernel_rfl) ?_, _, Try.func89, by kernel_rfl, of_decide_eq_true (by kernel_rfl)⟩, Gm.Spec.of_natl _ _ _ _⟩
 intro ds outs h
 unfold q89 at h
 split at h
 ·simp only [Option.some.injEq, Prod.mk.injEq] at h; obtain ⟨hg, h⟩ := h; cases h; exact f89_spec _ _ hg
 ·cases h
noncomputable def f101c : Code := (Try.f101.body).getD .skip
def f101k : Nat → Kp := kat [⟨[1, 2, 4], [], [], []⟩, ⟨[1, 2, 4, 6], [], [], []⟩, ⟨[1, 2, 4, 6, 11], [], [], []⟩, ⟨[4, 5], [], [], []⟩, ⟨[1, 2, 4, 6, 15], [], [], []⟩, ⟨[4, 5], [], [], []⟩, ⟨[2, 4, 6], [], [], []⟩, ⟨[2, 4], [], [], []⟩, ⟨[4, 5], [], [], []⟩]
noncomputable def f101e : Env := tab.env [(38, s38), (39, s39), (102, s102), (103, s103)]
theorem f101_run {R : Type} (n : Nat) (k : Kt R) (a0 : NodeT) (a1 : BA) : evFn f101e f101k n f101c [.ro, .ro] [false, false] true [.cell 4 27, .tmp 5] [27, 4] [.d .node a0, .d .str a1] k =
 (cond ((fun (x : NodeT) (_ : BA) => sm_node x) (eN a0) a1)
 (cond (decide ((kidAt (eN a0) a1) < (0 : Int)))
 (k [.d .node (⟨(0 : Int), (0 : Int), ByteArray.empty, ([] : List BA), ([] : List NodeT)⟩ : NodeT), .d .bool false])
 (cond ((NodeT.kind a0) == (5 : Int))
 (cond ((fun (x : NodeT) (_ : BA) => sm_node x) (eN a0) a1)
 (k [.d .node (eN (unset (eN a0) a1)), .d .bool true])
 none)
 (cond (sm_node (eN a0))
 (cond (gDel (NodeT.kids a0) (kidAt (eN a0) a1) (IntKind.wrap .i64 ((kidAt (eN a0) a1) + (1 : Int))))
 (k [.d .node (⟨(NodeT.kind a0), (NodeT.n a0), (NodeT.s a0), (NodeT.keys a0), (delL (NodeT.kids a0) (kidAt (eN a0) a1) (IntKind.wrap .i64 ((kidAt (eN a0) a1) + (1 : Int))))⟩ : NodeT), .d .bool true])
 none)
 none)))
 none) := by kernel_rfl
theorem f101_spec (a0 : NodeT) (a1 : BA) (hg : sm_node a0 = true) : ∃ keep rounds, ∀ {R : Type} (k : Kt R), evFn f101e keep rounds f101c [.ro, .ro] [false, false] true [.cell 4 27, .tmp 5] [27, 4] [.d .node a0, .d .str a1] k = k [.d .node ((cutLast a0 a1).1), .d .bool ((cutLast a0 a1).2)] := by
 have hg0 := hg
 rw [sm_node_def] at hg
 simp only [Bool.and_eq_true] at hg
 obtain ⟨_, _, _, hke, hki⟩ := hg
 have nke := smL_len hke
 have nki := smL_len hki
 refine ⟨f101k, 0, fun k => ?_⟩
 rw [f101_run]
 simp only [eta_node, eN_eq, hg0, cond_true]
 show _ = k [.d .node (cutLast a0 a1).1, .d .bool (cutLast a0 a1).2]
 unfold cutLast
 by_cases hk : kidAt a0 a1 < 0
 ·rw [decide_eq_true hk]; rfl
 obtain ⟨i, e, h1⟩ := kidAt_bd hk
 obtain ⟨_, _, hw, _⟩ := idx h1 (by omega)
 rw [decide_eq_false hk, e, hw, gDel_one h1]
 cases a0.kind == (5 : Int) <;> rfl
noncomputable def q101 : Qt
 | [.d .node a0, .d .str a1] => some (((fun (x : NodeT) (_ : BA) => sm_node x) a0 a1), [.d .node ((cutLast a0 a1).1), .d .bool ((cutLast a0 a1).2)])
 | _ => none
noncomputable def s101 : Gm.Spec := Gm.Spec.of [.ro, .ro] [false, false] true q101
theorem good101 : Gm.Good Try.prog (101, s101) := by
 have hl : ∀ x ∈ [(38, s38), (39, s39), (102, s102), (103, s103)], Gm.Good Try.prog x := fcJ.2 ⟨good38, fcJ.2 ⟨good39, fcJ.2 ⟨good102, fcJ.2 ⟨good103, fcN⟩⟩⟩⟩
 refine ⟨⟨spec_ok (tab_ok.env hl) (tab.natl hl) Try.func101 (by kernel_rfl : Try.f101.body = some f101c) [27, 4] (by kernel_rfl) ?_, _, Try.func101, by kernel_rfl, of_decide_eq_true (by kernel_rfl)⟩, Gm.Spec.of_natl _ _ _ _⟩
 intro ds outs h
 unfold q101 at h
 split at h
 ·simp only [Option.some.injEq, Prod.mk.injEq] at h; obtain ⟨hg, h⟩ := h; cases h; exact f101_spec _ _ hg
 ·cases h
open Go.RowKit in
set_option maxHeartbeats 4000000 in
set_option maxRecDepth 1000000 in
theorem insE111 : InsE Try.prog 111 1 := by
  intro base n cap i vb vo m vc olds news w h
  have hE : (tab.env []).Ok Try.prog := tab_ok.env (fun _ h => by simp at h)
  have hm := h.hm
  have hin := h.hi
  have hnc := h.hn
  have hlim : n + m ≤ 4294967296 := h.lim
  have hz1 : ¬ ((m : Int) = 0) := by omega
  have mixed : Try.prog.follows .mixedOrders = true := tab_ok.ord
  have hw1 : IntKind.i64.wrap ((i : Int) + (m : Int)) = (i : Int) + (m : Int) := by rw [IntKind.wrap_i64]; omega
  have hb1 : (0 : Int) ≤ (i : Int) + (m : Int) := by omega
  have htn : ((i : Int) + (m : Int)).toNat = i + m := by omega
  by_cases hi : i = n
  · subst hi
    obtain ⟨b', o', cap', W, hrun, hend⟩ := ins_end hE (T := 24) (e := .str) rfl (sz := 1) rfl h vc
    have hend : Hid (InsEnd w W base b' o' (i + m) cap' 1 (olds.take (i * 1) ++ news ++ olds.drop (i * 1))) := hend
    cases base with
    | none =>
      obtain ⟨rfl, rfl⟩ := h.nil rfl
      clear h
      go_enter Try.func111, Try.ntmps111
      go_wp2_with (at_builtin; refine Lib.wpList_append_run _ rfl _ _ _ _ rfl _ _ rfl rfl _ _ (hrun _) ?_)
      go_ret
      exact ⟨b', o', cap', by rw [Nat.zero_add]; rfl, hend⟩
    | some a =>
      obtain ⟨b, o, cs, el, rfl, _⟩ := h.is _ rfl
      clear h
      go_enter Try.func111, Try.ntmps111
      go_wp2_with (at_builtin; refine Lib.wpList_append_run _ rfl _ _ _ _ rfl _ _ rfl rfl _ _ (hrun _) ?_)
      all_goals (go_ret; exact ⟨_, _, _, rfl, hend⟩)
  · have hlt : i < n := by omega
    have hz2 : ¬ ((i : Int) = (n : Int)) := by omega
    cases base with
    | none => have := (h.nil rfl).1; omega
    | some a =>
      obtain ⟨b, o, cs, el, rfl, _⟩ := h.is _ rfl
      have hb4 : ¬ (cap = i) := by omega
      by_cases hroom : n + m ≤ cap
      · obtain ⟨W1, cs1, hov, hcp1, hcp2, hend, e1, e2, e3⟩ := ins_room hE (T := 24) (e := .str) rfl (sz := 1) rfl h hlt hroom
        have hovc : ∀ lb cb, (callFunc 126 #[.slice (some ⟨vb, vo, none⟩) m vc, .slice (some ⟨b, o + (i + m), none⟩) lb cb]).run Try.prog w = .ok (.value (.bool false)) w := fun lb cb => by
          rw [run_callFunc_extern Try.func126 (by kernel_rfl) (by kernel_rfl) (by kernel_rfl) (e := Extern.SlicesOverlaps.overlaps #[24, 24] #[4]) (by kernel_rfl), hov 4 _ lb cb vc (by simp)]
          rfl
        have hcp1' : ∀ ty dc sc, (Builtin.copy_ #[24, 24] ty #[.slice (some ⟨b, o + (i + m), none⟩) (n + m - (i + m)) dc, .slice (some ⟨b, o + i, none⟩) (n + m - i) sc]).run Try.prog w.drew = .ok (goInt (n - i : Nat)) W1 := fun ty dc sc => by simpa only [Nat.mul_one] using hcp1 ty dc sc
        have hcp2' : ∀ W : World, W.heap = W1.heap → ∀ ty dc vc, (Builtin.copy_ #[24, 24] ty #[.slice (some ⟨b, o + i, none⟩) (n + m - i) dc, .slice (some ⟨vb, vo, none⟩) m vc]).run Try.prog W = .ok (goInt m) (W.setRow b (putAt cs1 (o + i) news.toArray)) := fun W hW ty dc vc => by simpa only [Nat.mul_one] using hcp2 W hW ty dc vc
        have hend' : Hid (∀ W : World, W.heap = W1.heap → W.os = w.os → W.tape = w.tape → W.output = w.output → InsEnd w (W.setRow b (putAt cs1 (o + i) news.toArray)) (some ⟨b, o, none⟩) b o (n + m) cap 1 (olds.take (i * 1) ++ news ++ olds.drop (i * 1))) := fun W a1 a2 a3 a4 => by simpa only [Nat.mul_one] using hend W a1 a2 a3 a4
        have hb2 : ¬ (cap = i + m) := by omega
        have hb3 : (i : Int) ≤ (n : Int) + (m : Int) := by omega
        have hin2 : i ≤ n := by omega
        clear h hov hcp1 hcp2 hend
        go_enter Try.func111, Try.ntmps111
        go_wp2_with (simp only [hovc])
        go_region_law_o (refine step_copy_by rfl _ _ 24 24 rfl _ _ (by simp [Act.eval, Act.put]) (by simp [Act.eval, Act.put]) (hcp1' _ _ _) ?_)
        go_wp2_with (at_builtin; refine wpList_copy_by rfl _ _ 24 24 rfl _ _ rfl rfl (hcp2' _ rfl _ _ _) ?_)
        go_ret
        exact ⟨_, _, _, rfl, hend' _ rfl e1 e2 e3⟩
      · have hgr : cap < n + m := by omega
        obtain ⟨W1, G, row, hrz, hG, hcpA, hcpB, hend, e1, e2, e3⟩ := ins_grow hE (T := 24) (Ti := 3) (e := .str) rfl (by kernel_rfl) (sz := 1) rfl h hlt hgr
        have hend' : Hid (∀ W0 W : World, W0.heap = W1.heap → W.heap = (W0.setRow w.heap.size (putAt row (i) news.toArray)).heap → W.os = w.os → W.tape = w.tape → W.output = w.output →
          InsEnd w (W.setRow w.heap.size (putAt (putAt row (i) news.toArray) ((i + m)) (olds.drop (i * 1)).toArray)) (some ⟨b, o, none⟩) w.heap.size 0 (n + m) G 1 (olds.take (i * 1) ++ news ++ olds.drop (i * 1))) := fun W0 W a1 a2 a3 a4 a5 => by simpa only [Nat.mul_one] using hend W0 W a1 (by simpa only [Nat.mul_one] using a2) a3 a4 a5
        have hcpA' : ∀ W : World, W.heap = W1.heap → ∀ ty dc vc, (Builtin.copy_ #[24, 24] ty #[.slice (some ⟨w.heap.size, i, none⟩) (n + m - i) dc, .slice (some ⟨vb, vo, none⟩) m vc]).run Try.prog W = .ok (goInt m) (W.setRow w.heap.size (putAt row (i) news.toArray)) := fun W hW ty dc vc => by simpa only [Nat.mul_one] using hcpA W hW ty dc vc
        have hcpB' : ∀ W0 W : World, W0.heap = W1.heap → W.heap = (W0.setRow w.heap.size (putAt row (i) news.toArray)).heap → ∀ ty dc sc, (Builtin.copy_ #[24, 24] ty #[.slice (some ⟨w.heap.size, (i + m), none⟩) (n + m - (i + m)) dc, .slice (some ⟨b, o + i, none⟩) (n - i) sc]).run Try.prog W =
          .ok (goInt (n - i : Nat)) (W.setRow w.heap.size (putAt (putAt row (i) news.toArray) ((i + m)) (olds.drop (i * 1)).toArray)) := fun W0 W a1 a2 ty dc sc => by simpa only [Nat.mul_one] using hcpB W0 W a1 (by simpa only [Nat.mul_one] using a2) ty dc sc
        have hz3 : (cap : Int) < (n : Int) + (m : Int) := by omega
        have hGi : ¬ (G = i) := by omega
        have hGim : ¬ (G = i + m) := by omega
        have hb3 : (i : Int) ≤ (n : Int) := by omega
        have hin2 : i ≤ n := by omega
        clear h hcpA hcpB hend
        go_enter Try.func111, Try.ntmps111
        go_wp2_with (first
          | (at_builtin; refine Lib.wpList_append_run _ rfl _ _ _ _ rfl _ _ rfl rfl _ _ (hrz _) ?_)
          | (at_builtin; refine wpList_copy_by rfl _ _ 24 24 rfl _ _ rfl rfl (hcpA' _ rfl _ _ _) ?_)
          | (at_builtin; refine wpList_copy_by rfl _ _ 24 24 rfl _ _ rfl rfl (hcpB' _ _ rfl rfl _ _ _) ?_))
        go_region_law_o (refine step_copy_by rfl _ _ 24 24 rfl (.slice (some ⟨w.heap.size, (i + m), none⟩) (n + m - (i + m)) (G - (i + m))) (.slice (some ⟨b, o + i, none⟩) (n - i) (cap - i)) (by simp [Act.eval, Act.put]) (by simp [Act.eval, Act.put]) (hcpB' W1 ((W1.setRow w.heap.size (putAt row (i) news.toArray)).drew) rfl rfl 3 (G - (i + m)) (cap - i)) ?_)
        go_wp2
        go_ret
        have hfin := hend' W1 ((W1.setRow w.heap.size (putAt row (i) news.toArray)).drew) rfl rfl e1 e2 e3
        first
          | exact ⟨_, _, _, rfl, hfin⟩
          | (simp only [Nat.mul_one] at hfin; exact ⟨_, _, _, rfl, by simpa only [Nat.mul_one] using hfin⟩)
noncomputable def q111 : Qt
 | [.d (.sl .str) a0, .d (.i .i64) a1, .d (.sl .str) a2] => some (gIns a0 a1 a2, [.d (.sl .str) (insL a0 a1 a2)])
 | _ => none
noncomputable def s111 : Gm.Spec := Gm.Spec.of [.mov, .ro, .mov] [false] true q111
theorem good111 : Gm.Good Try.prog (111, s111) := by
 refine ⟨⟨spec_ins (t := .str) (sz := 1) rfl insE111 fun ds outs h => ?_, _, Try.func111, by kernel_rfl, of_decide_eq_true (by kernel_rfl)⟩, Gm.Spec.of_natl _ _ _ _⟩
 unfold q111 at h
 split at h
 ·rename_i a0 a1 a2
  simp only [Option.some.injEq, Prod.mk.injEq] at h
  obtain ⟨hg, rfl⟩ := h
  obtain ⟨h1, h2, h3, h4⟩ := gIns_iff.1 hg
  exact ⟨a0, a2, a1.toNat, by rw [Int.toNat_of_nonneg h1], by omega, h3, h4, rfl⟩
 ·cases h
open Go.RowKit in
set_option maxHeartbeats 4000000 in
set_option maxRecDepth 1000000 in
theorem insE100 : InsE Try.prog 100 5 := by
  intro base n cap i vb vo m vc olds news w h
  have hE : (tab.env []).Ok Try.prog := tab_ok.env (fun _ h => by simp at h)
  have hm := h.hm
  have hin := h.hi
  have hnc := h.hn
  have hlim : n + m ≤ 4294967296 := h.lim
  have hz1 : ¬ ((m : Int) = 0) := by omega
  have mixed : Try.prog.follows .mixedOrders = true := tab_ok.ord
  have hw1 : IntKind.i64.wrap ((i : Int) + (m : Int)) = (i : Int) + (m : Int) := by rw [IntKind.wrap_i64]; omega
  have hb1 : (0 : Int) ≤ (i : Int) + (m : Int) := by omega
  have htn : ((i : Int) + (m : Int)).toNat = i + m := by omega
  by_cases hi : i = n
  · subst hi
    obtain ⟨b', o', cap', W, hrun, hend⟩ := ins_end hE (T := 25) (e := .node) rfl (sz := 5) rfl h vc
    have hend : Hid (InsEnd w W base b' o' (i + m) cap' 5 (olds.take (i * 5) ++ news ++ olds.drop (i * 5))) := hend
    cases base with
    | none =>
      obtain ⟨rfl, rfl⟩ := h.nil rfl
      clear h
      go_enter Try.func100, Try.ntmps100
      go_wp2_with (at_builtin; refine Lib.wpList_append_run _ rfl _ _ _ _ rfl _ _ rfl rfl _ _ (hrun _) ?_)
      go_ret
      exact ⟨b', o', cap', by rw [Nat.zero_add]; rfl, hend⟩
    | some a =>
      obtain ⟨b, o, cs, el, rfl, _⟩ := h.is _ rfl
      clear h
      go_enter Try.func100, Try.ntmps100
      go_wp2_with (at_builtin; refine Lib.wpList_append_run _ rfl _ _ _ _ rfl _ _ rfl rfl _ _ (hrun _) ?_)
      all_goals (go_ret; exact ⟨_, _, _, rfl, hend⟩)
  · have hlt : i < n := by omega
    have hz2 : ¬ ((i : Int) = (n : Int)) := by omega
    cases base with
    | none => have := (h.nil rfl).1; omega
    | some a =>
      obtain ⟨b, o, cs, el, rfl, _⟩ := h.is _ rfl
      have hb4 : ¬ (cap = i) := by omega
      by_cases hroom : n + m ≤ cap
      · obtain ⟨W1, cs1, hov, hcp1, hcp2, hend, e1, e2, e3⟩ := ins_room hE (T := 25) (e := .node) rfl (sz := 5) rfl h hlt hroom
        have hovc : ∀ lb cb, (callFunc 112 #[.slice (some ⟨vb, vo, none⟩) m vc, .slice (some ⟨b, o + (i + m) * 5, none⟩) lb cb]).run Try.prog w = .ok (.value (.bool false)) w := fun lb cb => by
          rw [run_callFunc_extern Try.func112 (by kernel_rfl) (by kernel_rfl) (by kernel_rfl) (e := Extern.SlicesOverlaps.overlaps #[25, 25] #[4]) (by kernel_rfl), hov 4 _ lb cb vc (by simp)]
          rfl
        have hcp1' : ∀ ty dc sc, (Builtin.copy_ #[25, 25] ty #[.slice (some ⟨b, o + (i + m) * 5, none⟩) (n + m - (i + m)) dc, .slice (some ⟨b, o + i * 5, none⟩) (n + m - i) sc]).run Try.prog w.drew = .ok (goInt (n - i : Nat)) W1 := fun ty dc sc => by simpa only [Nat.mul_one] using hcp1 ty dc sc
        have hcp2' : ∀ W : World, W.heap = W1.heap → ∀ ty dc vc, (Builtin.copy_ #[25, 25] ty #[.slice (some ⟨b, o + i * 5, none⟩) (n + m - i) dc, .slice (some ⟨vb, vo, none⟩) m vc]).run Try.prog W = .ok (goInt m) (W.setRow b (putAt cs1 (o + i * 5) news.toArray)) := fun W hW ty dc vc => by simpa only [Nat.mul_one] using hcp2 W hW ty dc vc
        have hend' : Hid (∀ W : World, W.heap = W1.heap → W.os = w.os → W.tape = w.tape → W.output = w.output → InsEnd w (W.setRow b (putAt cs1 (o + i * 5) news.toArray)) (some ⟨b, o, none⟩) b o (n + m) cap 5 (olds.take (i * 5) ++ news ++ olds.drop (i * 5))) := fun W a1 a2 a3 a4 => by simpa only [Nat.mul_one] using hend W a1 a2 a3 a4
        have hb2 : ¬ (cap = i + m) := by omega
        have hb3 : (i : Int) ≤ (n : Int) + (m : Int) := by omega
        have hin2 : i ≤ n := by omega
        clear h hov hcp1 hcp2 hend
        go_enter Try.func100, Try.ntmps100
        go_wp2_with (simp only [hovc])
        go_region_law_o (refine step_copy_by rfl _ _ 25 25 rfl _ _ (by simp [Act.eval, Act.put]) (by simp [Act.eval, Act.put]) (hcp1' _ _ _) ?_)
        go_wp2_with (at_builtin; refine wpList_copy_by rfl _ _ 25 25 rfl _ _ rfl rfl (hcp2' _ rfl _ _ _) ?_)
        go_ret
        exact ⟨_, _, _, rfl, hend' _ rfl e1 e2 e3⟩
      · have hgr : cap < n + m := by omega
        obtain ⟨W1, G, row, hrz, hG, hcpA, hcpB, hend, e1, e2, e3⟩ := ins_grow hE (T := 25) (Ti := 3) (e := .node) rfl (by kernel_rfl) (sz := 5) rfl h hlt hgr
        have hend' : Hid (∀ W0 W : World, W0.heap = W1.heap → W.heap = (W0.setRow w.heap.size (putAt row (i * 5) news.toArray)).heap → W.os = w.os → W.tape = w.tape → W.output = w.output →
          InsEnd w (W.setRow w.heap.size (putAt (putAt row (i * 5) news.toArray) ((i + m) * 5) (olds.drop (i * 5)).toArray)) (some ⟨b, o, none⟩) w.heap.size 0 (n + m) G 5 (olds.take (i * 5) ++ news ++ olds.drop (i * 5))) := fun W0 W a1 a2 a3 a4 a5 => by simpa only [Nat.mul_one] using hend W0 W a1 (by simpa only [Nat.mul_one] using a2) a3 a4 a5
        have hcpA' : ∀ W : World, W.heap = W1.heap → ∀ ty dc vc, (Builtin.copy_ #[25, 25] ty #[.slice (some ⟨w.heap.size, i * 5, none⟩) (n + m - i) dc, .slice (some ⟨vb, vo, none⟩) m vc]).run Try.prog W = .ok (goInt m) (W.setRow w.heap.size (putAt row (i * 5) news.toArray)) := fun W hW ty dc vc => by simpa only [Nat.mul_one] using hcpA W hW ty dc vc
        have hcpB' : ∀ W0 W : World, W0.heap = W1.heap → W.heap = (W0.setRow w.heap.size (putAt row (i * 5) news.toArray)).heap → ∀ ty dc sc, (Builtin.copy_ #[25, 25] ty #[.slice (some ⟨w.heap.size, (i + m) * 5, none⟩) (n + m - (i + m)) dc, .slice (some ⟨b, o + i * 5, none⟩) (n - i) sc]).run Try.prog W =
          .ok (goInt (n - i : Nat)) (W.setRow w.heap.size (putAt (putAt row (i * 5) news.toArray) ((i + m) * 5) (olds.drop (i * 5)).toArray)) := fun W0 W a1 a2 ty dc sc => by simpa only [Nat.mul_one] using hcpB W0 W a1 (by simpa only [Nat.mul_one] using a2) ty dc sc
        have hz3 : (cap : Int) < (n : Int) + (m : Int) := by omega
        have hGi : ¬ (G = i) := by omega
        have hGim : ¬ (G = i + m) := by omega
        have hb3 : (i : Int) ≤ (n : Int) := by omega
        have hin2 : i ≤ n := by omega
        clear h hcpA hcpB hend
        go_enter Try.func100, Try.ntmps100
        go_wp2_with (first
          | (at_builtin; refine Lib.wpList_append_run _ rfl _ _ _ _ rfl _ _ rfl rfl _ _ (hrz _) ?_)
          | (at_builtin; refine wpList_copy_by rfl _ _ 25 25 rfl _ _ rfl rfl (hcpA' _ rfl _ _ _) ?_)
          | (at_builtin; refine wpList_copy_by rfl _ _ 25 25 rfl _ _ rfl rfl (hcpB' _ _ rfl rfl _ _ _) ?_))
        go_region_law_o (refine step_copy_by rfl _ _ 25 25 rfl (.slice (some ⟨w.heap.size, (i + m) * 5, none⟩) (n + m - (i + m)) (G - (i + m))) (.slice (some ⟨b, o + i * 5, none⟩) (n - i) (cap - i)) (by simp [Act.eval, Act.put]) (by simp [Act.eval, Act.put]) (hcpB' W1 ((W1.setRow w.heap.size (putAt row (i * 5) news.toArray)).drew) rfl rfl 3 (G - (i + m)) (cap - i)) ?_)
        go_wp2
        go_ret
        have hfin := hend' W1 ((W1.setRow w.heap.size (putAt row (i * 5) news.toArray)).drew) rfl rfl e1 e2 e3
        first
          | exact ⟨_, _, _, rfl, hfin⟩
          | (simp only [Nat.mul_one] at hfin; exact ⟨_, _, _, rfl, by simpa only [Nat.mul_one] using hfin⟩)
noncomputable def q100 : Qt
 | [.d (.sl .node) a0, .d (.i .i64) a1, .d (.sl .node) a2] => some (gIns a0 a1 a2, [.d (.sl .node) (insL a0 a1 a2)])
 | _ => none
noncomputable def s100 : Gm.Spec := Gm.Spec.of [.mov, .ro, .mov] [false] true q100
theorem good100 : Gm.Good Try.prog (100, s100) := by
 refine ⟨⟨spec_ins (t := .node) (sz := 5) rfl insE100 fun ds outs h => ?_, _, Try.func100, by kernel_rfl, of_decide_eq_true (by kernel_rfl)⟩, Gm.Spec.of_natl _ _ _ _⟩
 unfold q100 at h
 split at h
 ·rename_i a0 a1 a2
  simp only [Option.some.injEq, Prod.mk.injEq] at h
  obtain ⟨hg, rfl⟩ := h
  obtain ⟨h1, h2, h3, h4⟩ := gIns_iff.1 hg
  exact ⟨a0, a2, a1.toNat, by rw [Int.toNat_of_nonneg h1], by omega, h3, h4, rfl⟩
 ·cases h
noncomputable def f110c : Code := (Try.f110.body).getD .skip
def f110k : Nat → Kp := kat [⟨[0, 1], [], [], []⟩, ⟨[3], [], [], []⟩]
noncomputable def f110e : Env := tab.env []
theorem f110_run {R : Type} (n : Nat) (k : Kt R) (a0 : BA) (a1 : BA) : evFn f110e f110k n f110c [.ro, .pro] [false] true [.tmp 3] [4] [.d .str a0, .d .str a1] k =
 (k [.d .bool (!((sLt a0 a1) || (sEq a0 a1)))]) := by kernel_rfl
theorem f110_spec (a0 : BA) (a1 : BA) : ∃ keep rounds, ∀ {R : Type} (k : Kt R), evFn f110e keep rounds f110c [.ro, .pro] [false] true [.tmp 3] [4] [.d .str a0, .d .str a1] k = k [.d .bool (gtKey a0 a1)] := by
 exact ⟨f110k, 0, fun k => f110_run 0 k a0 a1⟩
noncomputable def q110 : Qt
 | [.d .str a0, .d .str a1] => some (true, [.d .bool (gtKey a0 a1)])
 | _ => none
noncomputable def s110 : Gm.Spec := Gm.Spec.of [.ro, .pro] [false] true q110
theorem good110 : Gm.Good Try.prog (110, s110) := by
 have hl : ∀ x ∈ ([] : List (Nat × Gm.Spec)), Gm.Good Try.prog x := fun _ h => by cases h
 refine ⟨⟨spec_ok (tab_ok.env hl) (tab.natl hl) Try.func110 (by kernel_rfl : Try.f110.body = some f110c) [4] (by kernel_rfl) ?_, _, Try.func110, by kernel_rfl, of_decide_eq_true (by kernel_rfl)⟩, Gm.Spec.of_natl _ _ _ _⟩
 intro ds outs h
 unfold q110 at h
 split at h
 ·cases h; exact f110_spec _ _
 ·cases h
noncomputable def f109S0 (y0 : List BA) (y1 : BA) (y2 : Int) (y3 : Int) : St := ⟨[(0, .c (.one (.ro .str y0))), (1, .c (.one (.cloR 110 [⟨.str, y1⟩]))), (7, .c (.one (.v (.int .i64 y2)))), (8, .c (.one (.v (.int .i64 y3))))], [], []⟩
noncomputable def f109S1 (y0 : Int) : St := ⟨[(4, .c (.one (.v (.int .i64 y0))))], [], []⟩
noncomputable def f109S2 (y0 : List BA) (y1 : BA) (y2 : Int) (y3 : Int) (y4 : Bool) : St := ⟨[(0, .c (.one (.ro .str y0))), (1, .c (.one (.cloR 110 [⟨.str, y1⟩]))), (7, .c (.one (.v (.int .i64 y2)))), (8, .c (.one (.v (.int .i64 y3)))), (9, .c (.one (.v (.bool y4))))], [], []⟩
noncomputable def f109c : Code := (Try.f109.body).getD .skip
def f109k : Nat → Kp := kat [⟨[0, 1], [], [], []⟩, ⟨[0, 1, 7, 8], [], [], []⟩, ⟨[0, 1, 7, 8, 9], [], [], []⟩, ⟨[0, 1, 5, 7, 8], [], [], []⟩, ⟨[0, 1, 5, 7, 8, 16], [], [], []⟩, ⟨[4], [], [], []⟩, ⟨[0, 1, 7, 8], [], [], []⟩, ⟨[4], [], [], []⟩]
noncomputable def f109e : Env := tab.env [(110, s110)]
noncomputable def f109L0 {R : Type} (n : Nat) (x0 : Int → Option R) (x1 : Int → Bool → Option R) (wB : List BA) (vs1c0 : BA) (wC : Int) : Nat → Int → Option R
  | 0, _ => none
  | m + 1, wA =>
    (cond (decide (wA < wC))
   (cond ((decide ((0 : Int) ≤ wA)) && (decide (wA < (wB.length : Int))))
    (cond (gtKey (atI (t := .str) wB (Int.toNat wA)) vs1c0)
     (x0 wA)
     (f109L0 n x0 x1 wB vs1c0 wC m (IntKind.wrap .i64 (wA + (1 : Int)))))
    none)
   (x1 wA (decide (wA < wC))))
theorem f109L0_b {R : Type} (n : Nat) (k' : Kx R) (wB : List BA) (vs1c0 : BA) (wC : Int) (wA : Int) : ev f109e f109k n (cAt [1,0,1,0,0] f109c) (f109S0 wB vs1c0 wC wA) k' =
 (cond (decide (wA < wC))
 (cond ((decide ((0 : Int) ≤ wA)) && (decide (wA < (wB.length : Int))))
 (cond (gtKey (atI (t := .str) wB (Int.toNat wA)) vs1c0)
 (k' .ret (f109S1 wA))
 (k' .normal (f109S0 wB vs1c0 wC (IntKind.wrap .i64 (wA + (1 : Int))))))
 none)
 (k' (.exit 0) (f109S2 wB vs1c0 wC wA (decide (wA < wC))))) := by kernel_rfl
theorem f109L0_eq {R : Type} (n : Nat) (k' : Kx R) (wB : List BA) (vs1c0 : BA) (wC : Int) : ∀ (m : Nat) (wA : Int), iter (fun st k => ev f109e f109k n (cAt [1,0,1,0,0] f109c) st k) m (f109S0 wB vs1c0 wC wA) k' = f109L0 n (fun (wD : Int) => k' .ret (f109S1 wD)) (fun (wE : Int) (wF : Bool) => k' (.exit 0) (f109S2 wB vs1c0 wC wE wF)) wB vs1c0 wC m wA := by
 intro m; induction m with
 | zero => intros; rfl
 | succ m ih =>
  intro wA
  simp only [iter]
  rw [f109L0_b]
  simp only [ih, f109L0]
noncomputable def f109K0 {R : Type} (n : Nat) (k' : Kx R) : Kx R := (blockK 0 (seqK f109e f109k n (cAt [1,1] f109c) k'))
theorem f109K0_x0 {R : Type} (n : Nat) (k : Kt R) (a0 : List BA) (a1 : BA) (wD : Int) : f109K0 n (exitK f109e [.ro, .fn] [false] true [.tmp 4] [3] [.d (.sl .str) a0, .clo 110 [⟨.str, a1⟩]] k) .ret (f109S1 wD) =
 (k [.d (.i .i64) wD]) := by kernel_rfl
theorem f109K0_x1 {R : Type} (n : Nat) (k : Kt R) (a0 : List BA) (a1 : BA) (wB : List BA) (vs1c0 : BA) (wC : Int) (wE : Int) (wF : Bool) : f109K0 n (exitK f109e [.ro, .fn] [false] true [.tmp 4] [3] [.d (.sl .str) a0, .clo 110 [⟨.str, a1⟩]] k) (.exit 0) (f109S2 wB vs1c0 wC wE wF) =
 (k [.d (.i .i64) (-1 : Int)]) := by kernel_rfl
theorem f109_run {R : Type} (n : Nat) (k : Kt R) (a0 : List BA) (a1 : BA) : evFn f109e f109k n f109c [.ro, .fn] [false] true [.tmp 4] [3] [.d (.sl .str) a0, .clo 110 [⟨.str, a1⟩]] k =
 (f109L0 n (fun (wD : Int) =>
 (k [.d (.i .i64) wD])) (fun (wE : Int) (wF : Bool) =>
 (k [.d (.i .i64) (-1 : Int)])) a0 a1 (a0.length : Int) n (0 : Int)) := by
 refine Eq.trans (b := (iter (fun st k => ev f109e f109k n (cAt [1,0,1,0,0] f109c) st k) n (f109S0 a0 a1 (a0.length : Int) (0 : Int)) (f109K0 n (exitK f109e [.ro, .fn] [false] true [.tmp 4] [3] [.d (.sl .str) a0, .clo 110 [⟨.str, a1⟩]] k)))) (by kernel_rfl) ?_
 simp only [f109L0_eq, f109K0_x0, f109K0_x1]
theorem f109_spec (a0 : List BA) (a1 : BA) (hg : gLenW a0 = true) : ∃ keep rounds, ∀ {R : Type} (k : Kt R), evFn f109e keep rounds f109c [.ro, .fn] [false] true [.tmp 4] [3] [.d (.sl .str) a0, .clo 110 [⟨.str, a1⟩]] k = k [.d (.i .i64) (gtAt a0 a1)] := by
 have hl := gLenW_le hg
 refine ⟨f109k, a0.length + 1, fun k => ?_⟩
 rw [f109_run]
 refine Eq.trans (loop_find (n := a0.length) (F := fun m i => f109L0 (a0.length + 1) _ _ a0 a1 (a0.length : Int) m i) (p := fun j => gtKey (atI (t := .str) a0 j) a1) (hit := fun i => k [.d (.i .i64) i]) (miss := k [.d (.i .i64) (-1 : Int)])
  (fun m j hj => ?_) (fun m => by simp only [f109L0, idxE, cond_false]) a0.length 0 (a0.length + 1) (by omega) (by omega)) ?_
 ·obtain ⟨h1, h0, hw, ht⟩ := idx hj (by omega)
  simp only [f109L0, h1, h0, hw, ht, Bool.and_self, cond_true]
 ·show _ = k [.d (.i .i64) (plc _)]
  cases firstN (fun j => gtKey (atI (t := .str) a0 j) a1) 0 a0.length <;> rfl
noncomputable def q109 : Qt
 | [.d (.sl .str) a0, .clo 110 [⟨.str, a1⟩]] => some (((fun (x : List BA) (_ : BA) => gLenW x) a0 a1), [.d (.i .i64) (gtAt a0 a1)])
 | _ => none
noncomputable def s109 : Gm.Spec := Gm.Spec.of [.ro, .fn] [false] true q109
theorem good109 : Gm.Good Try.prog (109, s109) := by
 have hl : ∀ x ∈ [(110, s110)], Gm.Good Try.prog x := fcJ.2 ⟨good110, fcN⟩
 refine ⟨⟨spec_ok (tab_ok.env hl) (tab.natl hl) Try.func109 (by kernel_rfl : Try.f109.body = some f109c) [3] (by kernel_rfl) ?_, _, Try.func109, by kernel_rfl, of_decide_eq_true (by kernel_rfl)⟩, Gm.Spec.of_natl _ _ _ _⟩
 intro ds outs h
 unfold q109 at h
 split at h
 ·simp only [Option.some.injEq, Prod.mk.injEq] at h; obtain ⟨hg, h⟩ := h; cases h; exact f109_spec _ _ hg
 ·cases h
noncomputable def f99c : Code := (Try.f99.body).getD .skip
def f99k : Nat → Kp := kat [⟨[3, 4, 5, 6], [], [], []⟩, ⟨[3, 4, 5, 6], [], [], []⟩, ⟨[3, 4, 5, 6, 13], [], [], []⟩, ⟨[6], [], [], []⟩, ⟨[3, 4, 5, 6, 7], [], [], []⟩, ⟨[3, 4, 5, 6, 7, 20], [], [], []⟩, ⟨[3, 6], [], [], []⟩, ⟨[6], [], [], []⟩, ⟨[3, 4, 5, 6, 8], [], [], []⟩, ⟨[3, 4, 5, 6, 8, 33], [], [], []⟩, ⟨[3, 4, 5, 6, 8], [], [], []⟩, ⟨[3, 5, 6, 8], [], [], []⟩, ⟨[3, 6], [], [], []⟩, ⟨[6], [], [], []⟩]
noncomputable def f99e : Env := tab.env [(39, s39), (82, s82), (98, s98), (100, s100), (109, s109), (110, s110), (111, s111)]
theorem f99_run {R : Type} (n : Nat) (k : Kt R) (a0 : NodeT) (a1 : BA) (a2 : NodeT) : evFn f99e f99k n f99c [.ro, .ro, .ro] [false] true [.cell 6 27] [27] [.d .node a0, .d .str a1, .d .node a2] k =
 (cond (sm_node (eN a0))
 (cond (!(isMapN (eN a0)))
 (k [.d .node (eN a0)])
 (cond ((fun (x : List BA) (_ : BA) => gLenW x) (NodeT.keys a0) a1)
 (cond (decide ((idxS (NodeT.keys a0) a1) ≥ (0 : Int)))
 (cond (sm_node (eN a2))
 (cond ((decide ((0 : Int) ≤ (idxS (NodeT.keys a0) a1))) && (decide ((idxS (NodeT.keys a0) a1) < ((NodeT.kids a0).length : Int))))
 (k [.d .node (⟨(NodeT.kind a0), (NodeT.n a0), (NodeT.s a0), (NodeT.keys a0), ((NodeT.kids a0).set (Int.toNat (idxS (NodeT.keys a0) a1)) (eN a2))⟩ : NodeT)])
 none)
 none)
 (cond ((fun (x : List BA) (_ : BA) => gLenW x) (NodeT.keys a0) a1)
 (cond (decide ((gtAt (NodeT.keys a0) a1) < (0 : Int)))
 (cond (gIns (NodeT.keys a0) ((NodeT.keys a0).length : Int) ([a1] : List BA))
 (cond (sm_node (eN a2))
 (cond (gIns (NodeT.kids a0) ((NodeT.keys a0).length : Int) ([(eN a2)] : List NodeT))
 (k [.d .node (⟨(NodeT.kind a0), (NodeT.n a0), (NodeT.s a0), (insL (NodeT.keys a0) ((NodeT.keys a0).length : Int) ([a1] : List BA)), (insL (NodeT.kids a0) ((NodeT.keys a0).length : Int) ([(eN a2)] : List NodeT))⟩ : NodeT)])
 none)
 none)
 none)
 (cond (gIns (NodeT.keys a0) (gtAt (NodeT.keys a0) a1) ([a1] : List BA))
 (cond (sm_node (eN a2))
 (cond (gIns (NodeT.kids a0) (gtAt (NodeT.keys a0) a1) ([(eN a2)] : List NodeT))
 (k [.d .node (⟨(NodeT.kind a0), (NodeT.n a0), (NodeT.s a0), (insL (NodeT.keys a0) (gtAt (NodeT.keys a0) a1) ([a1] : List BA)), (insL (NodeT.kids a0) (gtAt (NodeT.keys a0) a1) ([(eN a2)] : List NodeT))⟩ : NodeT)])
 none)
 none)
 none))
 none))
 none))
 none) := by kernel_rfl
theorem f99_spec (a0 : NodeT) (a1 : BA) (a2 : NodeT) (hg : gS3 a0 a1 a2 = true) : ∃ keep rounds, ∀ {R : Type} (k : Kt R), evFn f99e keep rounds f99c [.ro, .ro, .ro] [false] true [.cell 6 27] [27] [.d .node a0, .d .str a1, .d .node a2] k = k [.d .node (setK a0 a1 a2)] := by
 have hg3 := hg
 simp only [gS3, Bool.and_eq_true] at hg
 obtain ⟨hg, hs1, hx2⟩ := hg
 have hg0 := hg
 rw [sm_node_def] at hg
 simp only [Bool.and_eq_true] at hg
 obtain ⟨_, _, _, hke, hki⟩ := hg
 have nke := smL_len hke
 have nki := smL_len hki
 refine ⟨f99k, 0, fun {R} k => ?_⟩
 rw [f99_run]
 simp only [eta_node, eN_eq, hg0, hx2, gLenW_sm hke, cond_true]
 show _ = k [.d .node (setK a0 a1 a2)]
 cases hm : isMapN a0
 ·unfold setK; rw [hm]; rfl
 obtain ⟨h5, hl⟩ := isMapN_eq hm
 simp only [idxS_map hm a1, Bool.not_true, cond_false, cond_true]
 by_cases hk : keyAt a0 a1 < 0
 ·rw [setK_neg hm hk, decide_eq_false (show ¬ (keyAt a0 a1 ≥ 0) by omega)]
  simp only [cond_false]
  have ha := gtAt_comes hm hk
  obtain ⟨i, e, hi⟩ := comesAt_bd a0.keys a1
  have g1 : gIns a0.keys (comesAt a0.keys a1) [a1] = true := gIns_one e hi nke
  have g2 : gIns a0.kids (comesAt a0.keys a1) [a2] = true := gIns_one e (by omega) nki
  cases hc : decide (gtAt a0.keys a1 < (0 : Int))
  ·rw [hc] at ha; simp only [cond_false] at ha
   simp only [cond_false, ha, g1, g2, cond_true]; rfl
  ·rw [hc] at ha; simp only [cond_true] at ha
   simp only [cond_true, ha, g1, g2]; rfl
 ·rw [setK_pos hm hk, decide_eq_true (show keyAt a0 a1 ≥ 0 by omega)]
  obtain ⟨i, e, h1, h2⟩ := keyAt_bd a0 a1 hk
  obtain ⟨i1, i0, _, _⟩ := idx h2 (by omega)
  simp only [eta_node, eN_eq, idxS_map hm a1, e, i0, i1, Bool.and_self, cond_true]
  rfl
noncomputable def q99 : Qt
 | [.d .node a0, .d .str a1, .d .node a2] => some ((gS3 a0 a1 a2), [.d .node (setK a0 a1 a2)])
 | _ => none
noncomputable def s99 : Gm.Spec := Gm.Spec.of [.ro, .ro, .ro] [false] true q99
theorem good99 : Gm.Good Try.prog (99, s99) := by
 have hl : ∀ x ∈ [(39, s39), (82, s82), (98, s98), (100, s100), (109, s109), (110, s110), (111, s111)], Gm.Good Try.prog x := fcJ.2 ⟨good39, fcJ.2 ⟨good82, fcJ.2 ⟨good98, fcJ.2 ⟨good100, fcJ.2 ⟨good109, fcJ.2 ⟨good110, fcJ.2 ⟨good111, fcN⟩⟩⟩⟩⟩⟩⟩
 refine ⟨⟨spec_ok (tab_ok.env hl) (tab.natl hl) Try.func99 (by kernel_rfl : Try.f99.body = some f99c) [27] (by kernel_rfl) ?_, _, Try.func99, by kernel_rfl, of_decide_eq_true (by kernel_rfl)⟩, Gm.Spec.of_natl _ _ _ _⟩
 intro ds outs h
 unfold q99 at h
 split at h
 ·simp only [Option.some.injEq, Prod.mk.injEq] at h; obtain ⟨hg, h⟩ := h; cases h; exact f99_spec _ _ _ hg
 ·cases h
noncomputable def f97c : Code := (Try.f97.body).getD .skip
def f97k : Nat → Kp := kat [⟨[1, 2, 3, 5], [], [], []⟩, ⟨[1, 2, 3, 5, 10], [], [], []⟩, ⟨[5, 6], [], [], []⟩, ⟨[1, 2, 3, 5, 7, 8], [], [], []⟩, ⟨[2, 3, 5, 7, 8, 21], [], [], []⟩, ⟨[2, 3, 5, 7, 8], [], [], []⟩, ⟨[2, 3, 5, 7, 38], [], [], []⟩, ⟨[5, 6], [], [], []⟩, ⟨[2, 3, 5, 7], [], [], []⟩, ⟨[3, 5], [], [], []⟩, ⟨[5, 6], [], [], []⟩]
noncomputable def f97e : Env := tab.env [(39, s39), (83, s83), (98, s98), (99, s99), (100, s100)]
theorem f97_run {R : Type} (n : Nat) (k : Kt R) (a0 : NodeT) (a1 : BA) (a2 : NodeT) : evFn f97e f97k n f97c [.ro, .ro, .pro] [false, false] true [.cell 5 27, .tmp 6] [27, 4] [.d .node a0, .d .str a1, .d .node a2] k =
 (cond (isMapN (eN a0))
 (cond (gS3 (eN a0) a1 (eN a2))
 (k [.d .node (eN (setK (eN a0) a1 (eN a2))), .d .bool true])
 none)
 (cond (sEq a1 (bs [45]))
 (cond ((NodeT.kind a0) != (4 : Int))
 (k [.d .node (⟨(0 : Int), (0 : Int), ByteArray.empty, ([] : List BA), ([] : List NodeT)⟩ : NodeT), .d .bool false])
 (cond (decide (((NodeT.kids a0).length : Int) > ((NodeT.kids a0).length : Int)))
 (k [.d .node (⟨(0 : Int), (0 : Int), ByteArray.empty, ([] : List BA), ([] : List NodeT)⟩ : NodeT), .d .bool false])
 (cond (sm_node (eN a0))
 (cond (sm_node (eN a2))
 (cond (gIns (NodeT.kids a0) ((NodeT.kids a0).length : Int) ([(eN a2)] : List NodeT))
 (k [.d .node (⟨(NodeT.kind a0), (NodeT.n a0), (NodeT.s a0), (NodeT.keys a0), (insL (NodeT.kids a0) ((NodeT.kids a0).length : Int) ([(eN a2)] : List NodeT))⟩ : NodeT), .d .bool true])
 none)
 none)
 none)))
 (cond ((NodeT.kind a0) != (4 : Int))
 (k [.d .node (⟨(0 : Int), (0 : Int), ByteArray.empty, ([] : List BA), ([] : List NodeT)⟩ : NodeT), .d .bool false])
 (cond (!((natS a1).2))
 (k [.d .node (⟨(0 : Int), (0 : Int), ByteArray.empty, ([] : List BA), ([] : List NodeT)⟩ : NodeT), .d .bool false])
 (cond (decide (((natS a1).1) > ((NodeT.kids a0).length : Int)))
 (k [.d .node (⟨(0 : Int), (0 : Int), ByteArray.empty, ([] : List BA), ([] : List NodeT)⟩ : NodeT), .d .bool false])
 (cond (sm_node (eN a0))
 (cond (sm_node (eN a2))
 (cond (gIns (NodeT.kids a0) ((natS a1).1) ([(eN a2)] : List NodeT))
 (k [.d .node (⟨(NodeT.kind a0), (NodeT.n a0), (NodeT.s a0), (NodeT.keys a0), (insL (NodeT.kids a0) ((natS a1).1) ([(eN a2)] : List NodeT))⟩ : NodeT), .d .bool true])
 none)
 none)
 none)))))) := by kernel_rfl
theorem f97_spec (a0 : NodeT) (a1 : BA) (a2 : NodeT) (hg : gS3 a0 a1 a2 = true) : ∃ keep rounds, ∀ {R : Type} (k : Kt R), evFn f97e keep rounds f97c [.ro, .ro, .pro] [false, false] true [.cell 5 27, .tmp 6] [27, 4] [.d .node a0, .d .str a1, .d .node a2] k = k [.d .node ((putLast a0 a1 a2).1), .d .bool ((putLast a0 a1 a2).2)] := by
 have hg3 := hg
 simp only [gS3, Bool.and_eq_true] at hg
 obtain ⟨hg, hs1, hx2⟩ := hg
 have hg0 := hg
 rw [sm_node_def] at hg
 simp only [Bool.and_eq_true] at hg
 obtain ⟨_, _, _, hke, hki⟩ := hg
 have nke := smL_len hke
 have nki := smL_len hki
 refine ⟨f97k, 0, fun {R} k => ?_⟩
 rw [f97_run]
 simp only [eta_node, eN_eq, hg0, hx2, hg3, cond_true]
 show _ = k [.d .node (putLast a0 a1 a2).1, .d .bool (putLast a0 a1 a2).2]
 unfold putLast
 cases hm : isMapN a0
 rotate_left
 ·rfl
 simp only [cond_false]
 cases h4 : a0.kind == (4 : Int)
 ·rw [show (a0.kind != (4 : Int)) = true by simp only [bne, h4]; rfl]
  simp only [cond_true, cond_false]
  cases sEq a1 (bs [45]) <;> rfl
 rw [show (a0.kind != (4 : Int)) = false by simp only [bne, h4]; rfl]
 simp only [cond_true, cond_false]
 cases hd : sEq a1 dash
 ·have hs := slot_impl (t := a0) (p := a1) nki hd
  rw [show sEq a1 (bs [45]) = false from hd]
  simp only [cond_false]
  cases h1 : (natS a1).2
  ·rw [h1] at hs; simp only [Bool.not_false, cond_true] at hs ⊢
   rw [← hs]; rfl
  ·rw [h1] at hs; simp only [Bool.not_true, cond_false] at hs ⊢
   by_cases h2 : (natS a1).1 > (a0.kids.length : Int)
   ·rw [decide_eq_true h2] at hs ⊢; simp only [cond_true] at hs ⊢
    rw [← hs]; rfl
   ·rw [decide_eq_false h2] at hs ⊢; simp only [cond_false] at hs ⊢
    have h0 := natS_nonneg h1
    obtain ⟨i, ei⟩ := Int.eq_ofNat_of_zero_le h0
    have g : gIns a0.kids (natS a1).1 [a2] = true := gIns_one ei (by omega) nki
    rw [← hs, decide_eq_false (show ¬ (natS a1).1 < 0 by omega)]
    simp only [g, cond_true, cond_false]; rfl
 ·rw [show sEq a1 (bs [45]) = true from hd]
  have hs : slotAt a0 a1 = (a0.kids.length : Int) := by unfold slotAt; rw [slot_dash hd]; rfl
  have g : gIns a0.kids (a0.kids.length : Int) [a2] = true := gIns_one rfl (Nat.le_refl _) nki
  rw [hs, decide_eq_false (show ¬ ((a0.kids.length : Int) > (a0.kids.length : Int)) by omega), decide_eq_false (show ¬ ((a0.kids.length : Int) < 0) by omega)]
  simp only [g, cond_true, cond_false]; rfl
noncomputable def q97 : Qt
 | [.d .node a0, .d .str a1, .d .node a2] => some ((gS3 a0 a1 a2), [.d .node ((putLast a0 a1 a2).1), .d .bool ((putLast a0 a1 a2).2)])
 | _ => none
noncomputable def s97 : Gm.Spec := Gm.Spec.of [.ro, .ro, .pro] [false, false] true q97
theorem good97 : Gm.Good Try.prog (97, s97) := by
 have hl : ∀ x ∈ [(39, s39), (83, s83), (98, s98), (99, s99), (100, s100)], Gm.Good Try.prog x := fcJ.2 ⟨good39, fcJ.2 ⟨good83, fcJ.2 ⟨good98, fcJ.2 ⟨good99, fcJ.2 ⟨good100, fcN⟩⟩⟩⟩⟩
 refine ⟨⟨spec_ok (tab_ok.env hl) (tab.natl hl) Try.func97 (by kernel_rfl : Try.f97.body = some f97c) [27, 4] (by kernel_rfl) ?_, _, Try.func97, by kernel_rfl, of_decide_eq_true (by kernel_rfl)⟩, Gm.Spec.of_natl _ _ _ _⟩
 intro ds outs h
 unfold q97 at h
 split at h
 ·simp only [Option.some.injEq, Prod.mk.injEq] at h; obtain ⟨hg, h⟩ := h; cases h; exact f97_spec _ _ _ hg
 ·cases h
noncomputable def q108a : Qt
 | [.d .node a0, .d (.sl .str) a1, .clo 101 []] => some ((gW a0 a1), [.d .node ((cutIn a0 a1).1), .d .bool ((cutIn a0 a1).2)])
 | _ => none
noncomputable def mu108a : List Dt → Nat
 | [.d .node a0, .d (.sl .str) a1, .clo 101 []] => (fun (_ : NodeT) (p : List BA) => p.length) a0 a1
 | _ => 0
noncomputable def s108ar (N : Nat) : Gm.Spec := Gm.Spec.of [.ro, .ro, .fn] [false, false] true (qlt mu108a N q108a)
noncomputable def f108ac : Code := (Try.f108.body).getD .skip
def f108ak : Nat → Kp := kat [⟨[1, 2, 3, 6], [], [], []⟩, ⟨[1, 2, 3, 6, 13], [], [], []⟩, ⟨[6, 7], [], [], []⟩, ⟨[1, 2, 3, 6, 8], [], [], []⟩, ⟨[1, 2, 3, 6, 8, 28], [], [], []⟩, ⟨[6, 7], [], [], []⟩, ⟨[3, 6, 8, 9, 10], [], [], []⟩, ⟨[3, 6, 8, 9, 43], [], [], []⟩, ⟨[6, 7], [], [], []⟩, ⟨[3, 6, 8, 9], [], [], []⟩, ⟨[3, 6], [], [], []⟩, ⟨[6, 7], [], [], []⟩]
noncomputable def f108ae (N : Nat) : Env := tab.env [(38, s38), (39, s39), (101, s101), (108, s108ar N)]
noncomputable def f108av0 (a0 : NodeT) (a1 : List BA) : List NodeT :=
 ((NodeT.kids a0).set (Int.toNat (kidAt (eN a0) (atI (t := .str) a1 0))) (eN ((cutIn (eN (atI (t := .node) (NodeT.kids a0) (Int.toNat (kidAt (eN a0) (atI (t := .str) a1 0))))) ((a1.take (Int.toNat (a1.length : Int))).drop 1)).1)))
theorem f108a_run {R : Type} (N : Nat) (n : Nat) (k : Kt R) (a0 : NodeT) (a1 : List BA) : evFn (f108ae N) f108ak n f108ac [.ro, .ro, .fn] [false, false] true [.cell 6 27, .tmp 7] [27, 4] [.d .node a0, .d (.sl .str) a1, .clo 101 []] k =
 (cond ((a1.length : Int) == (1 : Int))
 (cond (decide ((0 : Int) < (a1.length : Int)))
 (cond ((fun (x : NodeT) (_ : BA) => sm_node x) (eN a0) (atI (t := .str) a1 0))
 (k [.d .node (eN ((cutLast (eN a0) (atI (t := .str) a1 0)).1)), .d .bool ((cutLast (eN a0) (atI (t := .str) a1 0)).2)])
 none)
 none)
 (cond (decide ((0 : Int) < (a1.length : Int)))
 (cond ((fun (x : NodeT) (_ : BA) => sm_node x) (eN a0) (atI (t := .str) a1 0))
 (cond (decide ((kidAt (eN a0) (atI (t := .str) a1 0)) < (0 : Int)))
 (k [.d .node (⟨(0 : Int), (0 : Int), ByteArray.empty, ([] : List BA), ([] : List NodeT)⟩ : NodeT), .d .bool false])
 (cond ((decide ((0 : Int) ≤ (kidAt (eN a0) (atI (t := .str) a1 0)))) && (decide ((kidAt (eN a0) (atI (t := .str) a1 0)) < ((NodeT.kids a0).length : Int))))
 (cond ((decide ((1 : Int) ≤ (a1.length : Int))) && (decide ((a1.length : Int) ≤ (a1.length : Int))))
 (cond ((gW (eN (atI (t := .node) (NodeT.kids a0) (Int.toNat (kidAt (eN a0) (atI (t := .str) a1 0))))) ((a1.take (Int.toNat (a1.length : Int))).drop 1)) && (Nat.blt ((fun (_ : NodeT) (p : List BA) => p.length) (eN (atI (t := .node) (NodeT.kids a0) (Int.toNat (kidAt (eN a0) (atI (t := .str) a1 0))))) ((a1.take (Int.toNat (a1.length : Int))).drop 1)) N))
 (cond (!((cutIn (eN (atI (t := .node) (NodeT.kids a0) (Int.toNat (kidAt (eN a0) (atI (t := .str) a1 0))))) ((a1.take (Int.toNat (a1.length : Int))).drop 1)).2))
 (k [.d .node (⟨(0 : Int), (0 : Int), ByteArray.empty, ([] : List BA), ([] : List NodeT)⟩ : NodeT), .d .bool false])
 (cond (sm_node (eN a0))
 (cond ((decide ((0 : Int) ≤ (kidAt (eN a0) (atI (t := .str) a1 0)))) && (decide ((kidAt (eN a0) (atI (t := .str) a1 0)) < ((NodeT.kids a0).length : Int))))
 (k [.d .node (⟨(NodeT.kind a0), (NodeT.n a0), (NodeT.s a0), (NodeT.keys a0), (f108av0 a0 a1)⟩ : NodeT), .d .bool true])
 none)
 none))
 none)
 none)
 none))
 none)
 none)) := by kernel_rfl
theorem f108a_spec (N : Nat) (a0 : NodeT) (a1 : List BA) (hg : gW a0 a1 = true) (hm : mu108a [.d .node a0, .d (.sl .str) a1, .clo 101 []] = N) : ∃ keep rounds, ∀ {R : Type} (k : Kt R), evFn (f108ae N) keep rounds f108ac [.ro, .ro, .fn] [false, false] true [.cell 6 27, .tmp 7] [27, 4] [.d .node a0, .d (.sl .str) a1, .clo 101 []] k = k [.d .node ((cutIn a0 a1).1), .d .bool ((cutIn a0 a1).2)] := by
 have hm : a1.length = N := hm
 subst hm
 simp only [gW, Bool.and_eq_true] at hg
 obtain ⟨hg, hpa, hne⟩ := hg
 have hg0 := hg
 rw [sm_node_def] at hg
 simp only [Bool.and_eq_true] at hg
 obtain ⟨_, _, _, hke, hki⟩ := hg
 have nke := smL_len hke
 have nki := smL_len hki
 refine ⟨f108ak, 0, fun {R} k => ?_⟩
 rw [f108a_run]
 show _ = k [.d .node (cutIn a0 a1).1, .d .bool (cutIn a0 a1).2]
 match a1, hpa, hne with
 | [], _, hne => cases hne
 | [p], _, _ =>
  simp only [eta_node, eN_eq, hg0, cutIn]
  rfl
 | p :: q :: r, hpa, _ =>
  have l0 : decide ((0 : Int) < ((p :: q :: r).length : Int)) = true := decide_eq_true (by simp only [List.length_cons]; omega)
  have l1 : (((p :: q :: r).length : Int) == (1 : Int)) = false := by rw [beq_eq_false_iff_ne]; simp only [List.length_cons]; omega
  have l2 : decide ((1 : Int) ≤ ((p :: q :: r).length : Int)) = true := decide_eq_true (by simp only [List.length_cons]; omega)
  have l3 : decide (((p :: q :: r).length : Int) ≤ ((p :: q :: r).length : Int)) = true := decide_eq_true (Int.le_refl _)
  have l4 : ((p :: q :: r).take (Int.toNat ((p :: q :: r).length : Int))).drop 1 = q :: r := by rw [Int.toNat_natCast, List.take_length]; rfl
  have l5 : atI (t := .str) (p :: q :: r) 0 = p := rfl
  have l6 : Nat.blt (q :: r).length (p :: q :: r).length = true := by rw [Nat.blt_eq]; simp only [List.length_cons]; omega
  have l7 : (((p :: q :: r).length : Int) == (0 : Int)) = false := by rw [beq_eq_false_iff_ne]; simp only [List.length_cons]; omega
  have l8 : decide (((p :: q :: r).length : Int) > (1 : Int)) = true := decide_eq_true (by simp only [List.length_cons]; omega)
  have hqr : smL smStr (q :: r) = true := smL_tail hpa
  simp only [eta_node, eN_eq, hg0, l0, l1, l5, cond_true, cond_false]
  rw [cutIn]
  by_cases hk : kidAt a0 p < 0
  ·rw [decide_eq_true hk]; rfl
  obtain ⟨i, e, h1⟩ := kidAt_bd hk
  obtain ⟨i1, i0, _, it⟩ := idx h1 (by omega)
  have hx := atI_lt (t := .node) h1
  have hgk : gW (atI (t := .node) a0.kids i) (q :: r) = true := by
   simp only [gW, Bool.and_eq_true]
   exact ⟨sm_kid hg0 (List.mem_of_getElem? hx), hqr, rfl⟩
  simp only [decide_eq_false hk, f108av0, eta_node, eN_eq, l2, l3, l4, l5, l6, hgk, e, i1, i0, it, Bool.and_self, cond_true, cond_false]
  cases (cutIn (atI (t := .node) a0.kids i) (q :: r)).2 <;> rfl
noncomputable def s108a : Gm.Spec := Gm.Spec.of [.ro, .ro, .fn] [false, false] true q108a
theorem good108a : Gm.Good Try.prog (108, s108a) := by
 refine ⟨⟨spec_rec mu108a fun N hr => ?_, _, Try.func108, by kernel_rfl, of_decide_eq_true (by kernel_rfl)⟩, Gm.Spec.of_natl _ _ _ _⟩
 have hl : ∀ x ∈ [(38, s38), (39, s39), (101, s101), (108, s108ar N)], Gm.Good Try.prog x := fcJ.2 ⟨good38, fcJ.2 ⟨good39, fcJ.2 ⟨good101, fcJ.2 ⟨⟨⟨hr, _, Try.func108, by kernel_rfl, of_decide_eq_true (by kernel_rfl)⟩, Gm.Spec.of_natl _ _ _ _⟩, fcN⟩⟩⟩⟩
 intro R
 refine spec_ok (E := f108ae N) (tab_ok.env hl) (tab.natl hl) Try.func108 (by kernel_rfl : Try.f108.body = some f108ac) [27, 4] (by kernel_rfl) ?_
 intro ds outs h
 obtain ⟨h, hm⟩ := qeq_some h
 unfold q108a at h
 split at h
 ·simp only [Option.some.injEq, Prod.mk.injEq] at h; obtain ⟨hg, h⟩ := h; cases h; exact f108a_spec N _ _ hg hm
 ·cases h
noncomputable def q108b : Qt
 | [.d .node a0, .d (.sl .str) a1, .clo 97 [⟨.node, a2⟩]] => some ((gPW a0 a1 a2), [.d .node ((putIn a0 a1 a2).1), .d .bool ((putIn a0 a1 a2).2)])
 | _ => none
noncomputable def mu108b : List Dt → Nat
 | [.d .node a0, .d (.sl .str) a1, .clo 97 [⟨.node, a2⟩]] => (fun (_ : NodeT) (p : List BA) (_ : NodeT) => p.length) a0 a1 a2
 | _ => 0
noncomputable def s108br (N : Nat) : Gm.Spec := Gm.Spec.of [.ro, .ro, .fn] [false, false] true (qlt mu108b N q108b)
noncomputable def f108bc : Code := (Try.f108.body).getD .skip
def f108bk : Nat → Kp := kat [⟨[1, 2, 3, 6], [], [], []⟩, ⟨[1, 2, 3, 6, 13], [], [], []⟩, ⟨[6, 7], [], [], []⟩, ⟨[1, 2, 3, 6, 8], [], [], []⟩, ⟨[1, 2, 3, 6, 8, 28], [], [], []⟩, ⟨[6, 7], [], [], []⟩, ⟨[3, 6, 8, 9, 10], [], [], []⟩, ⟨[3, 6, 8, 9, 43], [], [], []⟩, ⟨[6, 7], [], [], []⟩, ⟨[3, 6, 8, 9], [], [], []⟩, ⟨[3, 6], [], [], []⟩, ⟨[6, 7], [], [], []⟩]
noncomputable def f108be (N : Nat) : Env := tab.env [(38, s38), (39, s39), (97, s97), (108, s108br N)]
noncomputable def f108bv0 (a0 : NodeT) (a1 : List BA) (a2 : NodeT) : List NodeT :=
 ((NodeT.kids a0).set (Int.toNat (kidAt (eN a0) (atI (t := .str) a1 0))) (eN ((putIn (eN (atI (t := .node) (NodeT.kids a0) (Int.toNat (kidAt (eN a0) (atI (t := .str) a1 0))))) ((a1.take (Int.toNat (a1.length : Int))).drop 1) a2).1)))
theorem f108b_run {R : Type} (N : Nat) (n : Nat) (k : Kt R) (a0 : NodeT) (a1 : List BA) (a2 : NodeT) : evFn (f108be N) f108bk n f108bc [.ro, .ro, .fn] [false, false] true [.cell 6 27, .tmp 7] [27, 4] [.d .node a0, .d (.sl .str) a1, .clo 97 [⟨.node, a2⟩]] k =
 (cond ((a1.length : Int) == (1 : Int))
 (cond (decide ((0 : Int) < (a1.length : Int)))
 (cond (gS3 (eN a0) (atI (t := .str) a1 0) a2)
 (k [.d .node (eN ((putLast (eN a0) (atI (t := .str) a1 0) a2).1)), .d .bool ((putLast (eN a0) (atI (t := .str) a1 0) a2).2)])
 none)
 none)
 (cond (decide ((0 : Int) < (a1.length : Int)))
 (cond ((fun (x : NodeT) (_ : BA) => sm_node x) (eN a0) (atI (t := .str) a1 0))
 (cond (decide ((kidAt (eN a0) (atI (t := .str) a1 0)) < (0 : Int)))
 (k [.d .node (⟨(0 : Int), (0 : Int), ByteArray.empty, ([] : List BA), ([] : List NodeT)⟩ : NodeT), .d .bool false])
 (cond ((decide ((0 : Int) ≤ (kidAt (eN a0) (atI (t := .str) a1 0)))) && (decide ((kidAt (eN a0) (atI (t := .str) a1 0)) < ((NodeT.kids a0).length : Int))))
 (cond ((decide ((1 : Int) ≤ (a1.length : Int))) && (decide ((a1.length : Int) ≤ (a1.length : Int))))
 (cond ((gPW (eN (atI (t := .node) (NodeT.kids a0) (Int.toNat (kidAt (eN a0) (atI (t := .str) a1 0))))) ((a1.take (Int.toNat (a1.length : Int))).drop 1) a2) && (Nat.blt ((fun (_ : NodeT) (p : List BA) (_ : NodeT) => p.length) (eN (atI (t := .node) (NodeT.kids a0) (Int.toNat (kidAt (eN a0) (atI (t := .str) a1 0))))) ((a1.take (Int.toNat (a1.length : Int))).drop 1) a2) N))
 (cond (!((putIn (eN (atI (t := .node) (NodeT.kids a0) (Int.toNat (kidAt (eN a0) (atI (t := .str) a1 0))))) ((a1.take (Int.toNat (a1.length : Int))).drop 1) a2).2))
 (k [.d .node (⟨(0 : Int), (0 : Int), ByteArray.empty, ([] : List BA), ([] : List NodeT)⟩ : NodeT), .d .bool false])
 (cond (sm_node (eN a0))
 (cond ((decide ((0 : Int) ≤ (kidAt (eN a0) (atI (t := .str) a1 0)))) && (decide ((kidAt (eN a0) (atI (t := .str) a1 0)) < ((NodeT.kids a0).length : Int))))
 (k [.d .node (⟨(NodeT.kind a0), (NodeT.n a0), (NodeT.s a0), (NodeT.keys a0), (f108bv0 a0 a1 a2)⟩ : NodeT), .d .bool true])
 none)
 none))
 none)
 none)
 none))
 none)
 none)) := by kernel_rfl
theorem f108b_spec (N : Nat) (a0 : NodeT) (a1 : List BA) (a2 : NodeT) (hg : gPW a0 a1 a2 = true) (hm : mu108b [.d .node a0, .d (.sl .str) a1, .clo 97 [⟨.node, a2⟩]] = N) : ∃ keep rounds, ∀ {R : Type} (k : Kt R), evFn (f108be N) keep rounds f108bc [.ro, .ro, .fn] [false, false] true [.cell 6 27, .tmp 7] [27, 4] [.d .node a0, .d (.sl .str) a1, .clo 97 [⟨.node, a2⟩]] k = k [.d .node ((putIn a0 a1 a2).1), .d .bool ((putIn a0 a1 a2).2)] := by
 have hm : a1.length = N := hm
 subst hm
 simp only [gPW, gP, Bool.and_eq_true] at hg
 obtain ⟨⟨hg, hpa, hx2⟩, hne⟩ := hg
 have hg0 := hg
 rw [sm_node_def] at hg
 simp only [Bool.and_eq_true] at hg
 obtain ⟨_, _, _, hke, hki⟩ := hg
 have nke := smL_len hke
 have nki := smL_len hki
 refine ⟨f108bk, 0, fun {R} k => ?_⟩
 rw [f108b_run]
 show _ = k [.d .node (putIn a0 a1 a2).1, .d .bool (putIn a0 a1 a2).2]
 match a1, hpa, hne with
 | [], _, hne => cases hne
 | [p], hpa, _ =>
  have hg3 : gS3 a0 p a2 = true := by simp only [gS3, Bool.and_eq_true]; exact ⟨hg0, smL_head hpa, hx2⟩
  have e5 : atI (t := .str) [p] 0 = p := rfl
  simp only [eta_node, eN_eq, e5, hg3, putIn]
  rfl
 | p :: q :: r, hpa, _ =>
  have l0 : decide ((0 : Int) < ((p :: q :: r).length : Int)) = true := decide_eq_true (by simp only [List.length_cons]; omega)
  have l1 : (((p :: q :: r).length : Int) == (1 : Int)) = false := by rw [beq_eq_false_iff_ne]; simp only [List.length_cons]; omega
  have l2 : decide ((1 : Int) ≤ ((p :: q :: r).length : Int)) = true := decide_eq_true (by simp only [List.length_cons]; omega)
  have l3 : decide (((p :: q :: r).length : Int) ≤ ((p :: q :: r).length : Int)) = true := decide_eq_true (Int.le_refl _)
  have l4 : ((p :: q :: r).take (Int.toNat ((p :: q :: r).length : Int))).drop 1 = q :: r := by rw [Int.toNat_natCast, List.take_length]; rfl
  have l5 : atI (t := .str) (p :: q :: r) 0 = p := rfl
  have l6 : Nat.blt (q :: r).length (p :: q :: r).length = true := by rw [Nat.blt_eq]; simp only [List.length_cons]; omega
  have l7 : (((p :: q :: r).length : Int) == (0 : Int)) = false := by rw [beq_eq_false_iff_ne]; simp only [List.length_cons]; omega
  have l8 : decide (((p :: q :: r).length : Int) > (1 : Int)) = true := decide_eq_true (by simp only [List.length_cons]; omega)
  have hqr : smL smStr (q :: r) = true := smL_tail hpa
  simp only [eta_node, eN_eq, hg0, l0, l1, l5, cond_true, cond_false]
  rw [putIn]
  by_cases hk : kidAt a0 p < 0
  ·rw [decide_eq_true hk]; rfl
  obtain ⟨i, e, h1⟩ := kidAt_bd hk
  obtain ⟨i1, i0, _, it⟩ := idx h1 (by omega)
  have hx := atI_lt (t := .node) h1
  have hgk : gPW (atI (t := .node) a0.kids i) (q :: r) a2 = true := by
   simp only [gPW, gP, Bool.and_eq_true]
   exact ⟨⟨sm_kid hg0 (List.mem_of_getElem? hx), hqr, hx2⟩, rfl⟩
  simp only [decide_eq_false hk, f108bv0, eta_node, eN_eq, l2, l3, l4, l5, l6, hgk, e, i1, i0, it, Bool.and_self, cond_true, cond_false]
  cases (putIn (atI (t := .node) a0.kids i) (q :: r) a2).2 <;> rfl
noncomputable def s108b : Gm.Spec := Gm.Spec.of [.ro, .ro, .fn] [false, false] true q108b
theorem good108b : Gm.Good Try.prog (108, s108b) := by
 refine ⟨⟨spec_rec mu108b fun N hr => ?_, _, Try.func108, by kernel_rfl, of_decide_eq_true (by kernel_rfl)⟩, Gm.Spec.of_natl _ _ _ _⟩
 have hl : ∀ x ∈ [(38, s38), (39, s39), (97, s97), (108, s108br N)], Gm.Good Try.prog x := fcJ.2 ⟨good38, fcJ.2 ⟨good39, fcJ.2 ⟨good97, fcJ.2 ⟨⟨⟨hr, _, Try.func108, by kernel_rfl, of_decide_eq_true (by kernel_rfl)⟩, Gm.Spec.of_natl _ _ _ _⟩, fcN⟩⟩⟩⟩
 intro R
 refine spec_ok (E := f108be N) (tab_ok.env hl) (tab.natl hl) Try.func108 (by kernel_rfl : Try.f108.body = some f108bc) [27, 4] (by kernel_rfl) ?_
 intro ds outs h
 obtain ⟨h, hm⟩ := qeq_some h
 unfold q108b at h
 split at h
 ·simp only [Option.some.injEq, Prod.mk.injEq] at h; obtain ⟨hg, h⟩ := h; cases h; exact f108b_spec N _ _ _ hg hm
 ·cases h
noncomputable def q108 : Qt := fun ds => (match q108a ds with | some r => some r | none => (match q108b ds with | some r => some r | none => none))
noncomputable def s108 : Gm.Spec := Gm.Spec.of [.ro, .ro, .fn] [false, false] true q108
theorem good108 : Gm.Good Try.prog (108, s108) := by
 refine ⟨⟨spec_part (q := q108) ?_, good108a.1.2⟩, Gm.Spec.of_natl _ _ _ _⟩
 intro ds outs h
 unfold q108 at h
 cases ha : q108a ds with
 | some r =>
  simp only [ha] at h
  exact ⟨q108a, good108a.1.1, by rw [ha]; exact h⟩
 | none =>
 simp only [ha] at h
 cases hb : q108b ds with
 | some r =>
  simp only [hb] at h
  exact ⟨q108b, good108b.1.1, by rw [hb]; exact h⟩
 | none =>
 simp only [hb] at h
 cases h
noncomputable def f96ac : Code := (Try.f96.body).getD .skip
def f96ak : Nat → Kp := kat [⟨[1, 2, 3, 6], [], [], []⟩, ⟨[3, 6, 8, 9], [], [], []⟩, ⟨[3, 6, 8, 18], [], [], []⟩, ⟨[6, 7], [], [], []⟩, ⟨[6, 7], [], [], []⟩]
noncomputable def f96ae : Env := tab.env [(39, s39), (101, s101), (108, s108)]
theorem f96a_run {R : Type} (n : Nat) (k : Kt R) (a0 : NodeT) (a1 : List BA) : evFn f96ae f96ak n f96ac [.ro, .ro, .fn] [false, false] true [.cell 6 27, .tmp 7] [27, 4] [.d .node a0, .d (.sl .str) a1, .clo 101 []] k =
 (cond (gW (eN a0) a1)
 (cond (!((cutIn (eN a0) a1).2))
 (cond (sm_node (eN a0))
 (k [.d .node (eN a0), .d .bool false])
 none)
 (k [.d .node (eN ((cutIn (eN a0) a1).1)), .d .bool true]))
 none) := by kernel_rfl
theorem f96a_spec (a0 : NodeT) (a1 : List BA) (hg : gW a0 a1 = true) : ∃ keep rounds, ∀ {R : Type} (k : Kt R), evFn f96ae keep rounds f96ac [.ro, .ro, .fn] [false, false] true [.cell 6 27, .tmp 7] [27, 4] [.d .node a0, .d (.sl .str) a1, .clo 101 []] k = k [.d .node ((cutAt a0 a1).1), .d .bool ((cutAt a0 a1).2)] := by
 refine ⟨f96ak, 0, fun {R} k => ?_⟩
 rw [f96a_run]
 have hs : sm_node a0 = true := by simp only [gW, Bool.and_eq_true] at hg; exact hg.1
 simp only [eta_node, eN_eq, hg, hs, cond_true]
 show _ = k [.d .node (cutAt a0 a1).1, .d .bool (cutAt a0 a1).2]
 unfold cutAt
 cases (cutIn a0 a1).2 <;> rfl
noncomputable def q96a : Qt
 | [.d .node a0, .d (.sl .str) a1, .clo 101 []] => some ((gW a0 a1), [.d .node ((cutAt a0 a1).1), .d .bool ((cutAt a0 a1).2)])
 | _ => none
noncomputable def s96a : Gm.Spec := Gm.Spec.of [.ro, .ro, .fn] [false, false] true q96a
theorem good96a : Gm.Good Try.prog (96, s96a) := by
 have hl : ∀ x ∈ [(39, s39), (101, s101), (108, s108)], Gm.Good Try.prog x := fcJ.2 ⟨good39, fcJ.2 ⟨good101, fcJ.2 ⟨good108, fcN⟩⟩⟩
 refine ⟨⟨spec_ok (tab_ok.env hl) (tab.natl hl) Try.func96 (by kernel_rfl : Try.f96.body = some f96ac) [27, 4] (by kernel_rfl) ?_, _, Try.func96, by kernel_rfl, of_decide_eq_true (by kernel_rfl)⟩, Gm.Spec.of_natl _ _ _ _⟩
 intro ds outs h
 unfold q96a at h
 split at h
 ·simp only [Option.some.injEq, Prod.mk.injEq] at h; obtain ⟨hg, h⟩ := h; cases h; exact f96a_spec _ _ hg
 ·cases h
noncomputable def f96bc : Code := (Try.f96.body).getD .skip
def f96bk : Nat → Kp := kat [⟨[1, 2, 3, 6], [], [], []⟩, ⟨[3, 6, 8, 9], [], [], []⟩, ⟨[3, 6, 8, 18], [], [], []⟩, ⟨[6, 7], [], [], []⟩, ⟨[6, 7], [], [], []⟩]
noncomputable def f96be : Env := tab.env [(39, s39), (97, s97), (108, s108)]
theorem f96b_run {R : Type} (n : Nat) (k : Kt R) (a0 : NodeT) (a1 : List BA) (a2 : NodeT) : evFn f96be f96bk n f96bc [.ro, .ro, .fn] [false, false] true [.cell 6 27, .tmp 7] [27, 4] [.d .node a0, .d (.sl .str) a1, .clo 97 [⟨.node, a2⟩]] k =
 (cond (gPW (eN a0) a1 a2)
 (cond (!((putIn (eN a0) a1 a2).2))
 (cond (sm_node (eN a0))
 (k [.d .node (eN a0), .d .bool false])
 none)
 (k [.d .node (eN ((putIn (eN a0) a1 a2).1)), .d .bool true]))
 none) := by kernel_rfl
theorem f96b_spec (a0 : NodeT) (a1 : List BA) (a2 : NodeT) (hg : gPW a0 a1 a2 = true) : ∃ keep rounds, ∀ {R : Type} (k : Kt R), evFn f96be keep rounds f96bc [.ro, .ro, .fn] [false, false] true [.cell 6 27, .tmp 7] [27, 4] [.d .node a0, .d (.sl .str) a1, .clo 97 [⟨.node, a2⟩]] k = k [.d .node ((putAtW a0 a1 a2).1), .d .bool ((putAtW a0 a1 a2).2)] := by
 refine ⟨f96bk, 0, fun {R} k => ?_⟩
 rw [f96b_run]
 have hs : sm_node a0 = true := by simp only [gPW, gP, Bool.and_eq_true] at hg; exact hg.1.1
 simp only [eta_node, eN_eq, hg, hs, cond_true]
 show _ = k [.d .node (putAtW a0 a1 a2).1, .d .bool (putAtW a0 a1 a2).2]
 unfold putAtW
 cases (putIn a0 a1 a2).2 <;> rfl
noncomputable def q96b : Qt
 | [.d .node a0, .d (.sl .str) a1, .clo 97 [⟨.node, a2⟩]] => some ((gPW a0 a1 a2), [.d .node ((putAtW a0 a1 a2).1), .d .bool ((putAtW a0 a1 a2).2)])
 | _ => none
noncomputable def s96b : Gm.Spec := Gm.Spec.of [.ro, .ro, .fn] [false, false] true q96b
theorem good96b : Gm.Good Try.prog (96, s96b) := by
 have hl : ∀ x ∈ [(39, s39), (97, s97), (108, s108)], Gm.Good Try.prog x := fcJ.2 ⟨good39, fcJ.2 ⟨good97, fcJ.2 ⟨good108, fcN⟩⟩⟩
 refine ⟨⟨spec_ok (tab_ok.env hl) (tab.natl hl) Try.func96 (by kernel_rfl : Try.f96.body = some f96bc) [27, 4] (by kernel_rfl) ?_, _, Try.func96, by kernel_rfl, of_decide_eq_true (by kernel_rfl)⟩, Gm.Spec.of_natl _ _ _ _⟩
 intro ds outs h
 unfold q96b at h
 split at h
 ·simp only [Option.some.injEq, Prod.mk.injEq] at h; obtain ⟨hg, h⟩ := h; cases h; exact f96b_spec _ _ _ hg
 ·cases h
noncomputable def q96 : Qt := fun ds => (match q96a ds with | some r => some r | none => (match q96b ds with | some r => some r | none => none))
noncomputable def s96 : Gm.Spec := Gm.Spec.of [.ro, .ro, .fn] [false, false] true q96
theorem good96 : Gm.Good Try.prog (96, s96) := by
 refine ⟨⟨spec_part (q := q96) ?_, good96a.1.2⟩, Gm.Spec.of_natl _ _ _ _⟩
 intro ds outs h
 unfold q96 at h
 cases ha : q96a ds with
 | some r =>
  simp only [ha] at h
  exact ⟨q96a, good96a.1.1, by rw [ha]; exact h⟩
 | none =>
 simp only [ha] at h
 cases hb : q96b ds with
 | some r =>
  simp only [hb] at h
  exact ⟨q96b, good96b.1.1, by rw [hb]; exact h⟩
 | none =>
 simp only [hb] at h
 cases h
end Go.Proofs.Ytalnkjjnohgjkaa

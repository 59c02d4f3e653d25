/- What the functions compute, part 1. No conditions. -/
import Derived.Test.YtmeeoilfnahihaaGm4
import Derived.Test.YtmeeoilfnahihaaRows
import Derived.Lib.Strings
import Derived.Lib.Slices
import Derived.Lib.SliceRun
import Derived.Lib.Walk
import Derived.WalkKit
/- The table of types of the program, and that it is the program's. Printed by gev.py of this session. -/
namespace Go.Proofs.Ytmeeoilfnahihaa
open Go Go.Gm
def tab : Tab := { code := [(2, (.i .i64)), (3, (.i .i64)), (4, .bool), (5, (.i .u8)), (6, (.i .u8)), (9, .str), (10, .str), (11, .str), (12, (.i .u64)), (21, (.i .i32)), (22, (.sl .str)), (23, (.sl .fail)), (25, .work), (28, (.sl .fail)), (30, .work), (34, (.sl (.i .u8))), (57, .fail), (78, .fail), (90, .cur), (92, (.sl (.i .i64))), (94, (.i .u64)), (102, (.i .u32)), (103, (.i .u8)), (104, (.i .u8)), (107, (.i .i32)), (108, (.i .i32))], eqs := [(57, [.str, (.i .i64)])], fld := [(25, [(0, 22), (1, 22), (2, 22), (3, 23)]), (30, [(0, 22), (1, 22), (2, 22), (3, 28)]), (57, [(0, 9), (1, 3)]), (78, [(0, 9), (1, 3)]), (90, [(0, 34), (1, 3), (2, 3)])] }
theorem und2 : UndOk (tab.env []) Try.prog 2 (.i .i64) := (by kernel_rfl : Try.prog.underlying 2 = some (.int .i64))
theorem und3 : UndOk (tab.env []) Try.prog 3 (.i .i64) := (by kernel_rfl : Try.prog.underlying 3 = some (.int .i64))
theorem und4 : UndOk (tab.env []) Try.prog 4 .bool := (by kernel_rfl : Try.prog.underlying 4 = some .bool)
theorem und5 : UndOk (tab.env []) Try.prog 5 (.i .u8) := (by kernel_rfl : Try.prog.underlying 5 = some (.int .u8))
theorem und6 : UndOk (tab.env []) Try.prog 6 (.i .u8) := (by kernel_rfl : Try.prog.underlying 6 = some (.int .u8))
theorem und9 : UndOk (tab.env []) Try.prog 9 .str := (by kernel_rfl : Try.prog.underlying 9 = some .string)
theorem und10 : UndOk (tab.env []) Try.prog 10 .str := (by kernel_rfl : Try.prog.underlying 10 = some .string)
theorem und11 : UndOk (tab.env []) Try.prog 11 .str := (by kernel_rfl : Try.prog.underlying 11 = some .string)
theorem und12 : UndOk (tab.env []) Try.prog 12 (.i .u64) := (by kernel_rfl : Try.prog.underlying 12 = some (.int .u64))
theorem und21 : UndOk (tab.env []) Try.prog 21 (.i .i32) := (by kernel_rfl : Try.prog.underlying 21 = some (.int .i32))
theorem und22 : UndOk (tab.env []) Try.prog 22 (.sl .str) := ⟨9, by kernel_rfl, by kernel_rfl⟩
theorem und23 : UndOk (tab.env []) Try.prog 23 (.sl .fail) := ⟨78, by kernel_rfl, by kernel_rfl⟩
theorem und25 : UndOk (tab.env []) Try.prog 25 .work := ⟨_, Try.underlying25⟩
theorem und28 : UndOk (tab.env []) Try.prog 28 (.sl .fail) := ⟨57, by kernel_rfl, by kernel_rfl⟩
theorem und30 : UndOk (tab.env []) Try.prog 30 .work := ⟨_, Try.underlying30⟩
theorem und34 : UndOk (tab.env []) Try.prog 34 (.sl (.i .u8)) := ⟨5, by kernel_rfl, by kernel_rfl⟩
theorem und57 : UndOk (tab.env []) Try.prog 57 .fail := ⟨_, Try.underlying57⟩
theorem und78 : UndOk (tab.env []) Try.prog 78 .fail := ⟨_, Try.underlying78⟩
theorem und90 : UndOk (tab.env []) Try.prog 90 .cur := ⟨_, Try.underlying90⟩
theorem und92 : UndOk (tab.env []) Try.prog 92 (.sl (.i .i64)) := ⟨3, by kernel_rfl, by kernel_rfl⟩
theorem und94 : UndOk (tab.env []) Try.prog 94 (.i .u64) := (by kernel_rfl : Try.prog.underlying 94 = some (.int .u64))
theorem und102 : UndOk (tab.env []) Try.prog 102 (.i .u32) := (by kernel_rfl : Try.prog.underlying 102 = some (.int .u32))
theorem und103 : UndOk (tab.env []) Try.prog 103 (.i .u8) := (by kernel_rfl : Try.prog.underlying 103 = some (.int .u8))
theorem und104 : UndOk (tab.env []) Try.prog 104 (.i .u8) := (by kernel_rfl : Try.prog.underlying 104 = some (.int .u8))
theorem und107 : UndOk (tab.env []) Try.prog 107 (.i .i32) := (by kernel_rfl : Try.prog.underlying 107 = some (.int .i32))
theorem und108 : UndOk (tab.env []) Try.prog 108 (.i .i32) := (by kernel_rfl : Try.prog.underlying 108 = some (.int .i32))
theorem fld25 : ∃ fs : Array Field, Try.prog.underlying 25 = some (.struct fs) ∧ [(0, 22), (1, 22), (2, 22), (3, 23)] = fs.toList.map (fun f => (f.offset, f.type)) ∧ (∀ y ∈ ([(0, 22), (1, 22), (2, 22), (3, 23)] : List (Nat × Nat)), (aget tab.code y.2).isSome) ∧ (fs.toList.mapM (fun f => (Try.prog.info? f.type).map fun i => (f.offset, i.size))).isSome :=
  ⟨_, Try.underlying25, by kernel_rfl, List.all_eq_true.1 (by kernel_rfl), by kernel_rfl⟩
theorem fld30 : ∃ fs : Array Field, Try.prog.underlying 30 = some (.struct fs) ∧ [(0, 22), (1, 22), (2, 22), (3, 28)] = fs.toList.map (fun f => (f.offset, f.type)) ∧ (∀ y ∈ ([(0, 22), (1, 22), (2, 22), (3, 28)] : List (Nat × Nat)), (aget tab.code y.2).isSome) ∧ (fs.toList.mapM (fun f => (Try.prog.info? f.type).map fun i => (f.offset, i.size))).isSome :=
  ⟨_, Try.underlying30, by kernel_rfl, List.all_eq_true.1 (by kernel_rfl), by kernel_rfl⟩
theorem fld57 : ∃ fs : Array Field, Try.prog.underlying 57 = some (.struct fs) ∧ [(0, 9), (1, 3)] = fs.toList.map (fun f => (f.offset, f.type)) ∧ (∀ y ∈ ([(0, 9), (1, 3)] : List (Nat × Nat)), (aget tab.code y.2).isSome) ∧ (fs.toList.mapM (fun f => (Try.prog.info? f.type).map fun i => (f.offset, i.size))).isSome :=
  ⟨_, Try.underlying57, by kernel_rfl, List.all_eq_true.1 (by kernel_rfl), by kernel_rfl⟩
theorem fld78 : ∃ fs : Array Field, Try.prog.underlying 78 = some (.struct fs) ∧ [(0, 9), (1, 3)] = fs.toList.map (fun f => (f.offset, f.type)) ∧ (∀ y ∈ ([(0, 9), (1, 3)] : List (Nat × Nat)), (aget tab.code y.2).isSome) ∧ (fs.toList.mapM (fun f => (Try.prog.info? f.type).map fun i => (f.offset, i.size))).isSome :=
  ⟨_, Try.underlying78, by kernel_rfl, List.all_eq_true.1 (by kernel_rfl), by kernel_rfl⟩
theorem fld90 : ∃ fs : Array Field, Try.prog.underlying 90 = some (.struct fs) ∧ [(0, 34), (1, 3), (2, 3)] = fs.toList.map (fun f => (f.offset, f.type)) ∧ (∀ y ∈ ([(0, 34), (1, 3), (2, 3)] : List (Nat × Nat)), (aget tab.code y.2).isSome) ∧ (fs.toList.mapM (fun f => (Try.prog.info? f.type).map fun i => (f.offset, i.size))).isSome :=
  ⟨_, Try.underlying90, by kernel_rfl, List.all_eq_true.1 (by kernel_rfl), by kernel_rfl⟩
theorem tab_ok : tab.Ok Try.prog := {
  info := infoChk_ok (by kernel_rfl)
  und := List.forall_mem_cons.2 ⟨und2, List.forall_mem_cons.2 ⟨und3, List.forall_mem_cons.2 ⟨und4, List.forall_mem_cons.2 ⟨und5, List.forall_mem_cons.2 ⟨und6, List.forall_mem_cons.2 ⟨und9, List.forall_mem_cons.2 ⟨und10, List.forall_mem_cons.2 ⟨und11, List.forall_mem_cons.2 ⟨und12, List.forall_mem_cons.2 ⟨und21, List.forall_mem_cons.2 ⟨und22, List.forall_mem_cons.2 ⟨und23, List.forall_mem_cons.2 ⟨und25, List.forall_mem_cons.2 ⟨und28, List.forall_mem_cons.2 ⟨und30, List.forall_mem_cons.2 ⟨und34, List.forall_mem_cons.2 ⟨und57, List.forall_mem_cons.2 ⟨und78, List.forall_mem_cons.2 ⟨und90, List.forall_mem_cons.2 ⟨und92, List.forall_mem_cons.2 ⟨und94, List.forall_mem_cons.2 ⟨und102, List.forall_mem_cons.2 ⟨und103, List.forall_mem_cons.2 ⟨und104, List.forall_mem_cons.2 ⟨und107, List.forall_mem_cons.2 ⟨und108, List.forall_mem_nil _⟩⟩⟩⟩⟩⟩⟩⟩⟩⟩⟩⟩⟩⟩⟩⟩⟩⟩⟩⟩⟩⟩⟩⟩⟩⟩
  fld := List.forall_mem_cons.2 ⟨fld25, List.forall_mem_cons.2 ⟨fld30, List.forall_mem_cons.2 ⟨fld57, List.forall_mem_cons.2 ⟨fld78, List.forall_mem_cons.2 ⟨fld90, List.forall_mem_nil _⟩⟩⟩⟩⟩
  sts := List.forall_mem_cons.2 ⟨fun h => by first | (cases h; done) | (simp; done), List.forall_mem_cons.2 ⟨fun h => by first | (cases h; done) | (simp; done), List.forall_mem_cons.2 ⟨fun h => by first | (cases h; done) | (simp; done), List.forall_mem_cons.2 ⟨fun h => by first | (cases h; done) | (simp; done), List.forall_mem_cons.2 ⟨fun h => by first | (cases h; done) | (simp; done), List.forall_mem_cons.2 ⟨fun h => by first | (cases h; done) | (simp; done), List.forall_mem_cons.2 ⟨fun h => by first | (cases h; done) | (simp; done), List.forall_mem_cons.2 ⟨fun h => by first | (cases h; done) | (simp; done), List.forall_mem_cons.2 ⟨fun h => by first | (cases h; done) | (simp; done), List.forall_mem_cons.2 ⟨fun h => by first | (cases h; done) | (simp; done), List.forall_mem_cons.2 ⟨fun h => by first | (cases h; done) | (simp; done), List.forall_mem_cons.2 ⟨fun h => by first | (cases h; done) | (simp; done), List.forall_mem_cons.2 ⟨fun _ => by simp [tab], List.forall_mem_cons.2 ⟨fun h => by first | (cases h; done) | (simp; done), List.forall_mem_cons.2 ⟨fun _ => by simp [tab], List.forall_mem_cons.2 ⟨fun h => by first | (cases h; done) | (simp; done), List.forall_mem_cons.2 ⟨fun _ => by simp [tab], List.forall_mem_cons.2 ⟨fun _ => by simp [tab], List.forall_mem_cons.2 ⟨fun _ => by simp [tab], List.forall_mem_cons.2 ⟨fun h => by first | (cases h; done) | (simp; done), List.forall_mem_cons.2 ⟨fun h => by first | (cases h; done) | (simp; done), List.forall_mem_cons.2 ⟨fun h => by first | (cases h; done) | (simp; done), List.forall_mem_cons.2 ⟨fun h => by first | (cases h; done) | (simp; done), List.forall_mem_cons.2 ⟨fun h => by first | (cases h; done) | (simp; done), List.forall_mem_cons.2 ⟨fun h => by first | (cases h; done) | (simp; done), List.forall_mem_cons.2 ⟨fun h => by first | (cases h; done) | (simp; done), List.forall_mem_nil _⟩⟩⟩⟩⟩⟩⟩⟩⟩⟩⟩⟩⟩⟩⟩⟩⟩⟩⟩⟩⟩⟩⟩⟩⟩⟩
  eqs := List.forall_mem_cons.2 ⟨eqs_struct (by kernel_rfl) (by kernel_rfl) (by kernel_rfl) (by kernel_rfl), List.forall_mem_nil _⟩
  ord := by kernel_rfl }
end Go.Proofs.Ytmeeoilfnahihaa

/- x -/
namespace Go.Proofs.Ytmeeoilfnahihaa
open Go Go.Gm
/-! ### loop.example/g00465/spec.l1New -/
noncomputable def f64c : Code := (Try.f64.body).getD .skip
def f64k : Nat → Kp := kat [⟨[0], [], [], []⟩, ⟨[0, 3], [], [], []⟩, ⟨[0, 3, 4], [], [], []⟩, ⟨[0, 3, 4, 15], [], [], []⟩, ⟨[0, 3, 4], [], [], []⟩, ⟨[0, 3, 4], [], [], []⟩, ⟨[2], [], [], []⟩]
noncomputable def f64e : Env := tab.env []
noncomputable def f64L0 {R : Type} (n : Nat) (x0 : Int → Int → Bool → Option R) (x1 : Int → Int → Option R) (vs0 : List Int) : Nat → Int → Int → Option R
  | 0, _, _ => none
  | m + 1, vs3, vs4 =>
    (cond (decide (vs4 < (vs0.length : Int)))
      (cond (decide (vs4 < (4000 : Int)))
        (cond ((decide ((0 : Int) ≤ vs4)) && (decide (vs4 < (vs0.length : Int))))
          (f64L0 n x0 x1 vs0 m (IntKind.wrap .i64 ((BitVec.toNat (BitVec.ofInt (IntKind.bits .i64) (IntKind.wrap .i64 ((IntKind.wrap .i64 ((IntKind.wrap .i64 (vs3 * (131 : Int))) + (IntKind.wrap .i64 (atI (t := (.i .u8)) vs0 (Int.toNat vs4))))) + (7 : Int))) &&& BitVec.ofInt (IntKind.bits .i64) (1073741823 : Int)) : Nat) : Int)) (IntKind.wrap .i64 (vs4 + (1 : Int))))
          none)
        (x0 vs3 vs4 (decide (vs4 < (4000 : Int)))))
      (x1 vs3 vs4))
theorem f64L0_b {R : Type} (n : Nat) (k' : Ex → St → Option R) (vs0 : List Int) (vs3 : Int) (vs4 : Int) : ev f64e f64k n (cAt [1,1,0,1,0,0] f64c) ⟨[(0, .c (.one (.rk (.i .u8) vs0))), (3, .c (.one (.v (.int .i64 vs3)))), (4, .c (.one (.v (.int .i64 vs4))))], [], []⟩ k' =
    (cond (decide (vs4 < (vs0.length : Int)))
    (cond (decide (vs4 < (4000 : Int)))
      (cond ((decide ((0 : Int) ≤ vs4)) && (decide (vs4 < (vs0.length : Int))))
        (k' .normal ⟨[(0, .c (.one (.rk (.i .u8) vs0))), (3, .c (.one (.v (.int .i64 (IntKind.wrap .i64 ((BitVec.toNat (BitVec.ofInt (IntKind.bits .i64) (IntKind.wrap .i64 ((IntKind.wrap .i64 ((IntKind.wrap .i64 (vs3 * (131 : Int))) + (IntKind.wrap .i64 (atI (t := (.i .u8)) vs0 (Int.toNat vs4))))) + (7 : Int))) &&& BitVec.ofInt (IntKind.bits .i64) (1073741823 : Int)) : Nat) : Int)))))), (4, .c (.one (.v (.int .i64 (IntKind.wrap .i64 (vs4 + (1 : Int)))))))], [], []⟩)
        none)
      (k' (.exit 0) ⟨[(0, .c (.one (.rk (.i .u8) vs0))), (3, .c (.one (.v (.int .i64 vs3)))), (4, .c (.one (.v (.int .i64 vs4)))), (15, .c (.one (.v (.bool (decide (vs4 < (4000 : Int)))))))], [], []⟩))
    (k' (.exit 0) ⟨[(0, .c (.one (.rk (.i .u8) vs0))), (3, .c (.one (.v (.int .i64 vs3)))), (4, .c (.one (.v (.int .i64 vs4)))), (15, .c (.one (.v (.bool false))))], [], []⟩)) := by kernel_rfl
theorem f64L0_eq {R : Type} (n : Nat) (k' : Ex → St → Option R) (vs0 : List Int) : ∀ (m : Nat) (vs3 : Int) (vs4 : Int), iter (fun st k => ev f64e f64k n (cAt [1,1,0,1,0,0] f64c) st k) m ⟨[(0, .c (.one (.rk (.i .u8) vs0))), (3, .c (.one (.v (.int .i64 vs3)))), (4, .c (.one (.v (.int .i64 vs4))))], [], []⟩ k' = f64L0 n (fun (xvs3 : Int) (xvs4 : Int) (xvs15 : Bool) => k' (.exit 0) ⟨[(0, .c (.one (.rk (.i .u8) vs0))), (3, .c (.one (.v (.int .i64 xvs3)))), (4, .c (.one (.v (.int .i64 xvs4)))), (15, .c (.one (.v (.bool xvs15))))], [], []⟩) (fun (xvs3 : Int) (xvs4 : Int) => k' (.exit 0) ⟨[(0, .c (.one (.rk (.i .u8) vs0))), (3, .c (.one (.v (.int .i64 xvs3)))), (4, .c (.one (.v (.int .i64 xvs4)))), (15, .c (.one (.v (.bool false))))], [], []⟩) vs0 m vs3 vs4 := by
  intro m; induction m with
  | zero => intros; rfl
  | succ m ih =>
    intro vs3 vs4
    simp only [iter]
    rw [f64L0_b]
    simp only [ih, f64L0]

noncomputable def f64K0 {R : Type} (n : Nat) (k' : Ex → St → Option R) : Ex → St → Option R := (blockK 0 (seqK f64e f64k n (cAt [1,1,1] f64c) k'))
theorem f64K0_x0 {R : Type} (n : Nat) (k : List Dt → Option R) (a0 : List Int) (vs0 : List Int) (xvs3 : Int) (xvs4 : Int) (xvs15 : Bool) : f64K0 n (exitK f64e [.kp] [true] true [.tmp 2] [69] [.d (.sl (.i .u8)) a0] k) (.exit 0) ⟨[(0, .c (.one (.rk (.i .u8) vs0))), (3, .c (.one (.v (.int .i64 xvs3)))), (4, .c (.one (.v (.int .i64 xvs4)))), (15, .c (.one (.v (.bool xvs15))))], [], []⟩ =
    (k [.d .cur (⟨vs0, (0 : Int), xvs3⟩ : CurT)]) := by kernel_rfl
theorem f64K0_x1 {R : Type} (n : Nat) (k : List Dt → Option R) (a0 : List Int) (vs0 : List Int) (xvs3 : Int) (xvs4 : Int) : f64K0 n (exitK f64e [.kp] [true] true [.tmp 2] [69] [.d (.sl (.i .u8)) a0] k) (.exit 0) ⟨[(0, .c (.one (.rk (.i .u8) vs0))), (3, .c (.one (.v (.int .i64 xvs3)))), (4, .c (.one (.v (.int .i64 xvs4)))), (15, .c (.one (.v (.bool false))))], [], []⟩ =
    (k [.d .cur (⟨vs0, (0 : Int), xvs3⟩ : CurT)]) := by kernel_rfl

theorem f64_run {R : Type} (n : Nat) (k : List Dt → Option R) (a0 : List Int) : evFn f64e f64k n f64c [.kp] [true] true [.tmp 2] [69] [.d (.sl (.i .u8)) a0] k =
    (f64L0 n (fun (xvs3 : Int) (xvs4 : Int) (xvs15 : Bool) =>
    (k [.d .cur (⟨a0, (0 : Int), xvs3⟩ : CurT)])) (fun (xvs3 : Int) (xvs4 : Int) =>
    (k [.d .cur (⟨a0, (0 : Int), xvs3⟩ : CurT)])) a0 n (IntKind.wrap .i64 ((27212 : Int) + (a0.length : Int))) (0 : Int)) := by
  refine Eq.trans (b := (iter (fun st k => ev f64e f64k n (cAt [1,1,0,1,0,0] f64c) st k) n ⟨[(0, .c (.one (.rk (.i .u8) a0))), (3, .c (.one (.v (.int .i64 (IntKind.wrap .i64 ((27212 : Int) + (a0.length : Int))))))), (4, .c (.one (.v (.int .i64 (0 : Int)))))], [], []⟩ (f64K0 n (exitK f64e [.kp] [true] true [.tmp 2] [69] [.d (.sl (.i .u8)) a0] k)))) (by kernel_rfl) ?_
  simp only [f64L0_eq, f64K0_x0, f64K0_x1]
def f64_P (a0 : List Int) (o : CurT) : Prop := (fun _ o => gCur o = true) a0 o ∧ ∃ n : Nat, ∀ {R : Type} (k : List Dt → Option R), evFn f64e f64k n f64c [.kp] [true] true [.tmp 2] [69] [.d (.sl (.i .u8)) a0] k = k [.d .cur o]
theorem f64_ex (a0 : List Int) (hg : gCode a0 = true) : ∃ o : CurT, (fun _ o => gCur o = true) a0 o ∧ ∃ n : Nat, ∀ {R : Type} (k : List Dt → Option R), evFn f64e f64k n f64c [.kp] [true] true [.tmp 2] [69] [.d (.sl (.i .u8)) a0] k = k [.d .cur o] := by
  have hl : a0.length ≤ 1048576 := bleN hg
  have key : ∀ (d : Nat) (m : Nat) (h : Int) (i : Nat), i + d = 4000 → d < m → ∃ h' : Int, ∀ {R : Type} (X : Int → Int → Bool → Option R) (Y : Int → Int → Option R) (Z : Int → Option R), (∀ x y z, X x y z = Z x) → (∀ x y, Y x y = Z x) → f64L0 4001 X Y a0 m h (i : Int) = Z h' := by
    intro d
    induction d with
    | zero =>
      intro m h i hi hm
      obtain ⟨m, rfl⟩ : ∃ m', m = m' + 1 := ⟨m - 1, by omega⟩
      refine ⟨h, fun {R} X Y Z hX hY => ?_⟩
      simp only [f64L0, decide_eq_false (show ¬ ((i : Int) < 4000) by omega), cond_false]
      cases decide ((i : Int) < (a0.length : Int)) <;> simp only [cond_true, cond_false, hX, hY]
    | succ d ih =>
      intro m h i hi hm
      obtain ⟨m, rfl⟩ : ∃ m', m = m' + 1 := ⟨m - 1, by omega⟩
      cases hd : decide ((i : Int) < (a0.length : Int))
      · refine ⟨h, fun {R} X Y Z hX hY => ?_⟩
        simp only [f64L0, hd, cond_false, hY]
      · obtain ⟨h', hh⟩ := ih m _ (i + 1) (by omega) (by omega)
        refine ⟨h', fun {R} X Y Z hX hY => ?_⟩
        simp only [f64L0, hd, decide_eq_true (show (i : Int) < 4000 by omega), decide_eq_true (show (0 : Int) ≤ (i : Int) by omega), Bool.and_self, cond_true, wrap_id (x := (i : Int) + 1) (by omega) (by omega)]
        exact hh X Y Z hX hY
  obtain ⟨h', hh⟩ := key 4000 4001 (IntKind.wrap .i64 ((27212 : Int) + (a0.length : Int))) 0 rfl (by omega)
  refine ⟨⟨a0, 0, h'⟩, gCur_iff.2 ⟨Int.le_refl _, hl⟩, 4001, fun {R} k => ?_⟩
  rw [f64_run]
  exact hh _ _ (fun x => k [.d .cur ⟨a0, 0, x⟩]) (fun _ _ _ => rfl) (fun _ _ => rfl)

theorem f64_ne (a0 : List Int) : Nonempty {o : CurT // gCode a0 = true → f64_P a0 o} := by
  by_cases hg : gCode a0 = true
  · obtain ⟨o, ho⟩ := f64_ex a0 hg
    exact ⟨⟨o, fun _ => ho⟩⟩
  · exact ⟨⟨((zero .cur)), fun h => absurd h hg⟩⟩
noncomputable def curNew (a0 : List Int) : CurT := (Classical.choice (f64_ne a0)).val
theorem f64_sp (a0 : List Int) (hg : gCode a0 = true) : f64_P a0 (curNew a0) := (Classical.choice (f64_ne a0)).property hg
theorem curNew_ok (a0 : List Int) (hg : gCode a0 = true) : (fun _ o => gCur o = true) a0 (curNew a0) := (f64_sp a0 hg).1
theorem f64_spec (a0 : List Int) (hg : gCode a0 = true) : ∃ keep rounds, ∀ {R : Type} (k : List Dt → Option R), evFn f64e keep rounds f64c [.kp] [true] true [.tmp 2] [69] [.d (.sl (.i .u8)) a0] k = k [.d .cur (curNew a0)] := by
  obtain ⟨n, hn⟩ := (f64_sp a0 hg).2
  exact ⟨f64k, n, hn⟩

noncomputable def q64 : List Dt → Option (Bool × List Dt)
  | [.d (.sl (.i .u8)) a0] => some ((gCode a0), [.d .cur (curNew a0)])
  | _ => none
noncomputable def s64 : Gm.Spec := Gm.Spec.of [.kp] [true] true q64
theorem good64 : Gm.Good Try.prog (64, s64) := by
  have hl : ∀ x ∈ ([] : List (Nat × Gm.Spec)), Gm.Good Try.prog x := fun _ h => by cases h
  refine ⟨⟨spec_ok (tab_ok.env hl) (tab.natl hl) Try.func64 (by kernel_rfl : Try.f64.body = some f64c) [69] (by kernel_rfl) ?_, _, Try.func64, by kernel_rfl, of_decide_eq_true (by kernel_rfl)⟩, Gm.Spec.of_natl _ _ _ _⟩
  intro ds outs h
  unfold q64 at h
  split at h
  · simp only [Option.some.injEq, Prod.mk.injEq] at h; obtain ⟨hg, h⟩ := h; cases h; exact f64_spec _ hg
  · cases h
/-! ### loop.example/g00465/spec.l1Byte -/
noncomputable def f88c : Code := (Try.f88.body).getD .skip
def f88k : Nat → Kp := kat [⟨[0], [], [], []⟩, ⟨[0], [], [], []⟩, ⟨[0, 3], [], [], []⟩, ⟨[0, 3, 34], [], [], []⟩, ⟨[0, 3], [], [], []⟩, ⟨[0, 3], [], [], []⟩, ⟨[0, 2], [], [], []⟩]
noncomputable def f88e : Env := tab.env []
theorem f88_run {R : Type} (n : Nat) (k : List Dt → Option R) (a0 : CurT) : evFn f88e f88k n f88c [.pmut] [false] true [.tmp 2] [3] [.d .cur a0] k =
    (cond (decide ((CurT.i a0) < ((CurT.b a0).length : Int)))
    (cond ((decide ((0 : Int) ≤ (CurT.i a0))) && (decide ((CurT.i a0) < ((CurT.b a0).length : Int))))
      (k [.d (.i .i64) (IntKind.wrap .i64 ((BitVec.toNat (BitVec.ofInt (IntKind.bits .i64) (IntKind.wrap .i64 ((IntKind.wrap .i64 ((BitVec.toNat (BitVec.ofInt (IntKind.bits .i64) (IntKind.wrap .i64 ((BitVec.toNat (BitVec.ofInt (IntKind.bits .i64) (Int.fdiv (IntKind.wrap .i64 ((IntKind.wrap .i64 ((CurT.h a0) * (6364136223846793005 : Int))) + (1442695040888963407 : Int))) (2 ^ (min (Int.toNat (33 : Int)) (IntKind.bits .i64)))) ^^^ BitVec.ofInt (IntKind.bits .i64) (Int.fdiv (IntKind.wrap .i64 ((IntKind.wrap .i64 ((CurT.h a0) * (6364136223846793005 : Int))) + (1442695040888963407 : Int))) (2 ^ (min (Int.toNat (45 : Int)) (IntKind.bits .i64))))) : Nat) : Int)) &&& BitVec.ofInt (IntKind.bits .i64) (255 : Int)) : Nat) : Int)) + (IntKind.wrap .i64 (atI (t := (.i .u8)) (CurT.b a0) (Int.toNat (CurT.i a0)))))) &&& BitVec.ofInt (IntKind.bits .i64) (255 : Int)) : Nat) : Int)), .d .cur (⟨(CurT.b a0), (IntKind.wrap .i64 ((CurT.i a0) + (1 : Int))), (IntKind.wrap .i64 ((IntKind.wrap .i64 ((CurT.h a0) * (6364136223846793005 : Int))) + (1442695040888963407 : Int)))⟩ : CurT)])
      none)
    (k [.d (.i .i64) (IntKind.wrap .i64 ((BitVec.toNat (BitVec.ofInt (IntKind.bits .i64) (IntKind.wrap .i64 ((BitVec.toNat (BitVec.ofInt (IntKind.bits .i64) (Int.fdiv (IntKind.wrap .i64 ((IntKind.wrap .i64 ((CurT.h a0) * (6364136223846793005 : Int))) + (1442695040888963407 : Int))) (2 ^ (min (Int.toNat (33 : Int)) (IntKind.bits .i64)))) ^^^ BitVec.ofInt (IntKind.bits .i64) (Int.fdiv (IntKind.wrap .i64 ((IntKind.wrap .i64 ((CurT.h a0) * (6364136223846793005 : Int))) + (1442695040888963407 : Int))) (2 ^ (min (Int.toNat (45 : Int)) (IntKind.bits .i64))))) : Nat) : Int)) &&& BitVec.ofInt (IntKind.bits .i64) (255 : Int)) : Nat) : Int)), .d .cur (⟨(CurT.b a0), (CurT.i a0), (IntKind.wrap .i64 ((IntKind.wrap .i64 ((CurT.h a0) * (6364136223846793005 : Int))) + (1442695040888963407 : Int)))⟩ : CurT)])) := by kernel_rfl
def f88_P (a0 : CurT) (o : Int × CurT) : Prop := (fun _ o => (0 ≤ o.1 ∧ o.1 ≤ 255) ∧ gCur o.2 = true) a0 o ∧ ∃ n : Nat, ∀ {R : Type} (k : List Dt → Option R), evFn f88e f88k n f88c [.pmut] [false] true [.tmp 2] [3] [.d .cur a0] k = k [.d (.i .i64) o.1, .d .cur o.2]
theorem f88_ex (a0 : CurT) (hg : gCur a0 = true) : ∃ o : Int × CurT, (fun _ o => (0 ≤ o.1 ∧ o.1 ≤ 255) ∧ gCur o.2 = true) a0 o ∧ ∃ n : Nat, ∀ {R : Type} (k : List Dt → Option R), evFn f88e f88k n f88c [.pmut] [false] true [.tmp 2] [3] [.d .cur a0] k = k [.d (.i .i64) o.1, .d .cur o.2] := by
  obtain ⟨h0, hl⟩ := gCur_iff.1 hg
  cases hd : decide (CurT.i a0 < ((CurT.b a0).length : Int))
  · refine ⟨(?az0, ?bz0), ?gz0, 0, ?rz0⟩
    case rz0 =>
      intro R k
      rw [f88_run]
      simp only [hd, Bool.and_self, cond_true, cond_false]
      exact rfl
    case gz0 => exact ⟨and255w _, gCur_iff.2 ⟨h0, hl⟩⟩
  · have hlt := of_decide_eq_true hd
    refine ⟨(?az1, ?bz1), ?gz1, 0, ?rz1⟩
    case rz1 =>
      intro R k
      rw [f88_run]
      simp only [hd, decide_eq_true h0, Bool.and_self, cond_true, cond_false]
      exact rfl
    case gz1 =>
      refine ⟨and255w _, gCur_iff.2 ⟨?_, hl⟩⟩
      show 0 ≤ IntKind.wrap .i64 (CurT.i a0 + 1)
      rw [wrap_id (by omega) (by omega)]; omega

theorem f88_ne (a0 : CurT) : Nonempty {o : Int × CurT // gCur a0 = true → f88_P a0 o} := by
  by_cases hg : gCur a0 = true
  · obtain ⟨o, ho⟩ := f88_ex a0 hg
    exact ⟨⟨o, fun _ => ho⟩⟩
  · exact ⟨⟨((zero (.i .i64)), (zero .cur)), fun h => absurd h hg⟩⟩
noncomputable def curByte (a0 : CurT) : Int × CurT := (Classical.choice (f88_ne a0)).val
theorem f88_sp (a0 : CurT) (hg : gCur a0 = true) : f88_P a0 (curByte a0) := (Classical.choice (f88_ne a0)).property hg
theorem curByte_ok (a0 : CurT) (hg : gCur a0 = true) : (fun _ o => (0 ≤ o.1 ∧ o.1 ≤ 255) ∧ gCur o.2 = true) a0 (curByte a0) := (f88_sp a0 hg).1
theorem f88_spec (a0 : CurT) (hg : gCur a0 = true) : ∃ keep rounds, ∀ {R : Type} (k : List Dt → Option R), evFn f88e keep rounds f88c [.pmut] [false] true [.tmp 2] [3] [.d .cur a0] k = k [.d (.i .i64) ((curByte a0).1), .d .cur ((curByte a0).2)] := by
  obtain ⟨n, hn⟩ := (f88_sp a0 hg).2
  exact ⟨f88k, n, hn⟩

noncomputable def q88 : List Dt → Option (Bool × List Dt)
  | [.d .cur a0] => some ((gCur a0), [.d (.i .i64) ((curByte a0).1), .d .cur ((curByte a0).2)])
  | _ => none
noncomputable def s88 : Gm.Spec := Gm.Spec.of [.pmut] [false] true q88
theorem good88 : Gm.Good Try.prog (88, s88) := by
  have hl : ∀ x ∈ ([] : List (Nat × Gm.Spec)), Gm.Good Try.prog x := fun _ h => by cases h
  refine ⟨⟨spec_ok (tab_ok.env hl) (tab.natl hl) Try.func88 (by kernel_rfl : Try.f88.body = some f88c) [3] (by kernel_rfl) ?_, _, Try.func88, by kernel_rfl, of_decide_eq_true (by kernel_rfl)⟩, Gm.Spec.of_natl _ _ _ _⟩
  intro ds outs h
  unfold q88 at h
  split at h
  · simp only [Option.some.injEq, Prod.mk.injEq] at h; obtain ⟨hg, h⟩ := h; cases h; exact f88_spec _ hg
  · cases h
/-! ### loop.example/g00465/spec.l1Below -/
noncomputable def f69c : Code := (Try.f69.body).getD .skip
def f69k : Nat → Kp := kat [⟨[0, 1], [], [], []⟩, ⟨[0, 1, 10], [], [], []⟩, ⟨[0, 4], [], [], []⟩, ⟨[0, 1, 12], [], [], []⟩, ⟨[0, 4], [], [], []⟩, ⟨[0, 1, 5], [], [], []⟩, ⟨[0, 1, 5, 6], [], [], []⟩, ⟨[0, 1, 5, 6, 7], [], [], []⟩, ⟨[0, 1, 5, 6, 7, 8], [], [], []⟩, ⟨[0, 4], [], [], []⟩]
noncomputable def f69e : Env := tab.env [(88, s88)]
theorem f69_run {R : Type} (n : Nat) (k : List Dt → Option R) (a0 : CurT) (a1 : Int) : evFn f69e f69k n f69c [.pmut, .ro] [false] true [.tmp 4] [3] [.d .cur a0, .d (.i .i64) a1] k =
    (cond (decide (a1 ≤ (0 : Int)))
    (k [.d (.i .i64) (0 : Int), .d .cur a0])
    (cond (decide (a1 ≤ (256 : Int)))
      (cond (gCur a0)
        (cond (decide (a1 = 0))
          none
          (k [.d (.i .i64) (Int.tmod ((curByte a0).1) a1), .d .cur ((curByte a0).2)]))
        none)
      (cond (gCur a0)
        (cond (gCur ((curByte a0).2))
          (cond (gCur ((curByte ((curByte a0).2)).2))
            (cond (gCur ((curByte ((curByte ((curByte a0).2)).2)).2))
              (cond (decide (a1 = 0))
                none
                (k [.d (.i .i64) (Int.tmod (IntKind.wrap .i64 ((IntKind.wrap .i64 ((IntKind.wrap .i64 ((IntKind.wrap .i64 (((curByte a0).1) * (16777216 : Int))) + (IntKind.wrap .i64 (((curByte ((curByte a0).2)).1) * (65536 : Int))))) + (IntKind.wrap .i64 (((curByte ((curByte ((curByte a0).2)).2)).1) * (256 : Int))))) + ((curByte ((curByte ((curByte ((curByte a0).2)).2)).2)).1))) a1), .d .cur ((curByte ((curByte ((curByte ((curByte a0).2)).2)).2)).2)]))
              none)
            none)
          none)
        none))) := by kernel_rfl
def f69_P (a0 : CurT) (a1 : Int) (o : Int × CurT) : Prop := (fun _ n o => 0 ≤ o.1 ∧ (0 < n → o.1 < n) ∧ gCur o.2 = true) a0 a1 o ∧ ∃ n : Nat, ∀ {R : Type} (k : List Dt → Option R), evFn f69e f69k n f69c [.pmut, .ro] [false] true [.tmp 4] [3] [.d .cur a0, .d (.i .i64) a1] k = k [.d (.i .i64) o.1, .d .cur o.2]
theorem f69_ex (a0 : CurT) (a1 : Int) (hg : (fun c _ => gCur c) a0 a1 = true) : ∃ o : Int × CurT, (fun _ n o => 0 ≤ o.1 ∧ (0 < n → o.1 < n) ∧ gCur o.2 = true) a0 a1 o ∧ ∃ n : Nat, ∀ {R : Type} (k : List Dt → Option R), evFn f69e f69k n f69c [.pmut, .ro] [false] true [.tmp 4] [3] [.d .cur a0, .d (.i .i64) a1] k = k [.d (.i .i64) o.1, .d .cur o.2] := by
  have hg : gCur a0 = true := hg
  cases h1 : decide (a1 ≤ (0 : Int))
  · have hn := of_decide_eq_false h1
    have hz : decide (a1 = 0) = false := decide_eq_false (by omega)
    obtain ⟨b1, g1⟩ := curByte_ok a0 hg
    cases h2 : decide (a1 ≤ (256 : Int))
    · obtain ⟨b2, g2⟩ := curByte_ok _ g1
      obtain ⟨b3, g3⟩ := curByte_ok _ g2
      obtain ⟨b4, g4⟩ := curByte_ok _ g3
      refine ⟨(?az0, ?bz0), ?gz0, 0, ?rz0⟩
      case rz0 =>
        intro R k
        rw [f69_run]
        simp only [h1, h2, hz, hg, g1, g2, g3, Bool.and_self, cond_true, cond_false]
        exact rfl
      case gz0 =>
        have := tmod_bd (below4 b1 b2 b3 b4) (show 0 < a1 by omega)
        exact ⟨this.1, fun _ => this.2, g4⟩
    · refine ⟨(?az1, ?bz1), ?gz1, 0, ?rz1⟩
      case rz1 =>
        intro R k
        rw [f69_run]
        simp only [h1, h2, hz, hg, Bool.and_self, cond_true, cond_false]
        exact rfl
      case gz1 =>
        have := tmod_bd b1.1 (show 0 < a1 by omega)
        exact ⟨this.1, fun _ => this.2, g1⟩
  · have hn := of_decide_eq_true h1
    refine ⟨(?az2, ?bz2), ?gz2, 0, ?rz2⟩
    case rz2 =>
      intro R k
      rw [f69_run]
      simp only [h1, Bool.and_self, cond_true, cond_false]
      exact rfl
    case gz2 => exact ⟨Int.le_refl _, fun h => by omega, hg⟩

theorem f69_ne (a0 : CurT) (a1 : Int) : Nonempty {o : Int × CurT // (fun c _ => gCur c) a0 a1 = true → f69_P a0 a1 o} := by
  by_cases hg : (fun c _ => gCur c) a0 a1 = true
  · obtain ⟨o, ho⟩ := f69_ex a0 a1 hg
    exact ⟨⟨o, fun _ => ho⟩⟩
  · exact ⟨⟨((zero (.i .i64)), (zero .cur)), fun h => absurd h hg⟩⟩
noncomputable def curBelow (a0 : CurT) (a1 : Int) : Int × CurT := (Classical.choice (f69_ne a0 a1)).val
theorem f69_sp (a0 : CurT) (a1 : Int) (hg : (fun c _ => gCur c) a0 a1 = true) : f69_P a0 a1 (curBelow a0 a1) := (Classical.choice (f69_ne a0 a1)).property hg
theorem curBelow_ok (a0 : CurT) (a1 : Int) (hg : (fun c _ => gCur c) a0 a1 = true) : (fun _ n o => 0 ≤ o.1 ∧ (0 < n → o.1 < n) ∧ gCur o.2 = true) a0 a1 (curBelow a0 a1) := (f69_sp a0 a1 hg).1
theorem f69_spec (a0 : CurT) (a1 : Int) (hg : (fun c _ => gCur c) a0 a1 = true) : ∃ keep rounds, ∀ {R : Type} (k : List Dt → Option R), evFn f69e keep rounds f69c [.pmut, .ro] [false] true [.tmp 4] [3] [.d .cur a0, .d (.i .i64) a1] k = k [.d (.i .i64) ((curBelow a0 a1).1), .d .cur ((curBelow a0 a1).2)] := by
  obtain ⟨n, hn⟩ := (f69_sp a0 a1 hg).2
  exact ⟨f69k, n, hn⟩

noncomputable def q69 : List Dt → Option (Bool × List Dt)
  | [.d .cur a0, .d (.i .i64) a1] => some (((fun c _ => gCur c) a0 a1), [.d (.i .i64) ((curBelow a0 a1).1), .d .cur ((curBelow a0 a1).2)])
  | _ => none
noncomputable def s69 : Gm.Spec := Gm.Spec.of [.pmut, .ro] [false] true q69
theorem good69 : Gm.Good Try.prog (69, s69) := by
  have hl : ∀ x ∈ [(88, s88)], Gm.Good Try.prog x := List.forall_mem_cons.2 ⟨good88, List.forall_mem_nil _⟩
  refine ⟨⟨spec_ok (tab_ok.env hl) (tab.natl hl) Try.func69 (by kernel_rfl : Try.f69.body = some f69c) [3] (by kernel_rfl) ?_, _, Try.func69, by kernel_rfl, of_decide_eq_true (by kernel_rfl)⟩, Gm.Spec.of_natl _ _ _ _⟩
  intro ds outs h
  unfold q69 at h
  split at h
  · simp only [Option.some.injEq, Prod.mk.injEq] at h; obtain ⟨hg, h⟩ := h; cases h; exact f69_spec _ _ hg
  · cases h
/-! ### loop.example/g00465/spec.l1Once -/
noncomputable def f66c : Code := (Try.f66.body).getD .skip
def f66k : Nat → Kp := kat [⟨[0, 1], [], [], []⟩, ⟨[0, 4], [], [], []⟩]
noncomputable def f66e : Env := tab.env [(69, s69)]
theorem f66_run {R : Type} (n : Nat) (k : List Dt → Option R) (a0 : CurT) (a1 : Int) : evFn f66e f66k n f66c [.pmut, .ro] [false] true [.tmp 4] [4] [.d .cur a0, .d (.i .i64) a1] k =
    (cond ((fun c _ => gCur c) a0 a1)
    (k [.d .bool (((curBelow a0 a1).1) == (0 : Int)), .d .cur ((curBelow a0 a1).2)])
    none) := by kernel_rfl
def f66_P (a0 : CurT) (a1 : Int) (o : Bool × CurT) : Prop := (fun _ _ o => gCur o.2 = true) a0 a1 o ∧ ∃ n : Nat, ∀ {R : Type} (k : List Dt → Option R), evFn f66e f66k n f66c [.pmut, .ro] [false] true [.tmp 4] [4] [.d .cur a0, .d (.i .i64) a1] k = k [.d .bool o.1, .d .cur o.2]
theorem f66_ex (a0 : CurT) (a1 : Int) (hg : (fun c _ => gCur c) a0 a1 = true) : ∃ o : Bool × CurT, (fun _ _ o => gCur o.2 = true) a0 a1 o ∧ ∃ n : Nat, ∀ {R : Type} (k : List Dt → Option R), evFn f66e f66k n f66c [.pmut, .ro] [false] true [.tmp 4] [4] [.d .cur a0, .d (.i .i64) a1] k = k [.d .bool o.1, .d .cur o.2] := by
  have hg : gCur a0 = true := hg
  obtain ⟨_, _, g1⟩ := curBelow_ok a0 a1 hg
  refine ⟨(?az0, ?bz0), ?gz0, 0, ?rz0⟩
  case rz0 =>
    intro R k
    rw [f66_run]
    simp only [hg, cond_true]
    exact rfl
  case gz0 => exact g1

theorem f66_ne (a0 : CurT) (a1 : Int) : Nonempty {o : Bool × CurT // (fun c _ => gCur c) a0 a1 = true → f66_P a0 a1 o} := by
  by_cases hg : (fun c _ => gCur c) a0 a1 = true
  · obtain ⟨o, ho⟩ := f66_ex a0 a1 hg
    exact ⟨⟨o, fun _ => ho⟩⟩
  · exact ⟨⟨((zero .bool), (zero .cur)), fun h => absurd h hg⟩⟩
noncomputable def curOnce (a0 : CurT) (a1 : Int) : Bool × CurT := (Classical.choice (f66_ne a0 a1)).val
theorem f66_sp (a0 : CurT) (a1 : Int) (hg : (fun c _ => gCur c) a0 a1 = true) : f66_P a0 a1 (curOnce a0 a1) := (Classical.choice (f66_ne a0 a1)).property hg
theorem curOnce_ok (a0 : CurT) (a1 : Int) (hg : (fun c _ => gCur c) a0 a1 = true) : (fun _ _ o => gCur o.2 = true) a0 a1 (curOnce a0 a1) := (f66_sp a0 a1 hg).1
theorem f66_spec (a0 : CurT) (a1 : Int) (hg : (fun c _ => gCur c) a0 a1 = true) : ∃ keep rounds, ∀ {R : Type} (k : List Dt → Option R), evFn f66e keep rounds f66c [.pmut, .ro] [false] true [.tmp 4] [4] [.d .cur a0, .d (.i .i64) a1] k = k [.d .bool ((curOnce a0 a1).1), .d .cur ((curOnce a0 a1).2)] := by
  obtain ⟨n, hn⟩ := (f66_sp a0 a1 hg).2
  exact ⟨f66k, n, hn⟩

noncomputable def q66 : List Dt → Option (Bool × List Dt)
  | [.d .cur a0, .d (.i .i64) a1] => some (((fun c _ => gCur c) a0 a1), [.d .bool ((curOnce a0 a1).1), .d .cur ((curOnce a0 a1).2)])
  | _ => none
noncomputable def s66 : Gm.Spec := Gm.Spec.of [.pmut, .ro] [false] true q66
theorem good66 : Gm.Good Try.prog (66, s66) := by
  have hl : ∀ x ∈ [(69, s69)], Gm.Good Try.prog x := List.forall_mem_cons.2 ⟨good69, List.forall_mem_nil _⟩
  refine ⟨⟨spec_ok (tab_ok.env hl) (tab.natl hl) Try.func66 (by kernel_rfl : Try.f66.body = some f66c) [4] (by kernel_rfl) ?_, _, Try.func66, by kernel_rfl, of_decide_eq_true (by kernel_rfl)⟩, Gm.Spec.of_natl _ _ _ _⟩
  intro ds outs h
  unfold q66 at h
  split at h
  · simp only [Option.some.injEq, Prod.mk.injEq] at h; obtain ⟨hg, h⟩ := h; cases h; exact f66_spec _ _ hg
  · cases h
/-! ### loop.example/g00465/spec.l1Pick -/
noncomputable def f67c : Code := (Try.f67.body).getD .skip
def f67k : Nat → Kp := kat [⟨[0, 1], [], [], []⟩, ⟨[0, 4], [], [], []⟩]
noncomputable def f67e : Env := tab.env [(69, s69)]
theorem f67_run {R : Type} (n : Nat) (k : List Dt → Option R) (a0 : CurT) (a1 : List ByteArray) : evFn f67e f67k n f67c [.pmut, .ro] [false] true [.tmp 4] [9] [.d .cur a0, .d (.sl .str) a1] k =
    (cond ((fun c _ => gCur c) a0 (a1.length : Int))
    (cond ((decide ((0 : Int) ≤ ((curBelow a0 (a1.length : Int)).1))) && (decide (((curBelow a0 (a1.length : Int)).1) < (a1.length : Int))))
      (k [.d .str (atI (t := .str) a1 (Int.toNat ((curBelow a0 (a1.length : Int)).1))), .d .cur ((curBelow a0 (a1.length : Int)).2)])
      none)
    none) := by kernel_rfl
def f67_P (a0 : CurT) (a1 : List ByteArray) (o : ByteArray × CurT) : Prop := (fun _ l o => o.1 ∈ l ∧ gCur o.2 = true) a0 a1 o ∧ ∃ n : Nat, ∀ {R : Type} (k : List Dt → Option R), evFn f67e f67k n f67c [.pmut, .ro] [false] true [.tmp 4] [9] [.d .cur a0, .d (.sl .str) a1] k = k [.d .str o.1, .d .cur o.2]
theorem f67_ex (a0 : CurT) (a1 : List ByteArray) (hg : gPickS a0 a1 = true) : ∃ o : ByteArray × CurT, (fun _ l o => o.1 ∈ l ∧ gCur o.2 = true) a0 a1 o ∧ ∃ n : Nat, ∀ {R : Type} (k : List Dt → Option R), evFn f67e f67k n f67c [.pmut, .ro] [false] true [.tmp 4] [9] [.d .cur a0, .d (.sl .str) a1] k = k [.d .str o.1, .d .cur o.2] := by
  obtain ⟨hg, hne⟩ := Bool.and_eq_true_iff.1 hg
  obtain ⟨hne, hl⟩ := Bool.and_eq_true_iff.1 hne
  obtain ⟨h0, h1, g1⟩ := curBelow_ok a0 (a1.length : Int) hg
  have h1 := h1 (lenPos hne)
  refine ⟨(?az0, ?bz0), ?gz0, 0, ?rz0⟩
  case rz0 =>
    intro R k
    rw [f67_run]
    simp only [hg, idxOk h0 h1, cond_true]
    exact rfl
  case gz0 => exact ⟨mem_atI (t := .str) h0 h1, g1⟩

theorem f67_ne (a0 : CurT) (a1 : List ByteArray) : Nonempty {o : ByteArray × CurT // gPickS a0 a1 = true → f67_P a0 a1 o} := by
  by_cases hg : gPickS a0 a1 = true
  · obtain ⟨o, ho⟩ := f67_ex a0 a1 hg
    exact ⟨⟨o, fun _ => ho⟩⟩
  · exact ⟨⟨((zero .str), (zero .cur)), fun h => absurd h hg⟩⟩
noncomputable def curPick (a0 : CurT) (a1 : List ByteArray) : ByteArray × CurT := (Classical.choice (f67_ne a0 a1)).val
theorem f67_sp (a0 : CurT) (a1 : List ByteArray) (hg : gPickS a0 a1 = true) : f67_P a0 a1 (curPick a0 a1) := (Classical.choice (f67_ne a0 a1)).property hg
theorem curPick_ok (a0 : CurT) (a1 : List ByteArray) (hg : gPickS a0 a1 = true) : (fun _ l o => o.1 ∈ l ∧ gCur o.2 = true) a0 a1 (curPick a0 a1) := (f67_sp a0 a1 hg).1
theorem f67_spec (a0 : CurT) (a1 : List ByteArray) (hg : gPickS a0 a1 = true) : ∃ keep rounds, ∀ {R : Type} (k : List Dt → Option R), evFn f67e keep rounds f67c [.pmut, .ro] [false] true [.tmp 4] [9] [.d .cur a0, .d (.sl .str) a1] k = k [.d .str ((curPick a0 a1).1), .d .cur ((curPick a0 a1).2)] := by
  obtain ⟨n, hn⟩ := (f67_sp a0 a1 hg).2
  exact ⟨f67k, n, hn⟩

noncomputable def q67 : List Dt → Option (Bool × List Dt)
  | [.d .cur a0, .d (.sl .str) a1] => some ((gPickS a0 a1), [.d .str ((curPick a0 a1).1), .d .cur ((curPick a0 a1).2)])
  | _ => none
noncomputable def s67 : Gm.Spec := Gm.Spec.of [.pmut, .ro] [false] true q67
theorem good67 : Gm.Good Try.prog (67, s67) := by
  have hl : ∀ x ∈ [(69, s69)], Gm.Good Try.prog x := List.forall_mem_cons.2 ⟨good69, List.forall_mem_nil _⟩
  refine ⟨⟨spec_ok (tab_ok.env hl) (tab.natl hl) Try.func67 (by kernel_rfl : Try.f67.body = some f67c) [9] (by kernel_rfl) ?_, _, Try.func67, by kernel_rfl, of_decide_eq_true (by kernel_rfl)⟩, Gm.Spec.of_natl _ _ _ _⟩
  intro ds outs h
  unfold q67 at h
  split at h
  · simp only [Option.some.injEq, Prod.mk.injEq] at h; obtain ⟨hg, h⟩ := h; cases h; exact f67_spec _ _ hg
  · cases h
/-! ### loop.example/g00465/spec.l1PickInt -/
noncomputable def f87c : Code := (Try.f87.body).getD .skip
def f87k : Nat → Kp := kat [⟨[0, 1], [], [], []⟩, ⟨[0, 4], [], [], []⟩]
noncomputable def f87e : Env := tab.env [(69, s69)]
theorem f87_run {R : Type} (n : Nat) (k : List Dt → Option R) (a0 : CurT) (a1 : List Int) : evFn f87e f87k n f87c [.pmut, .ro] [false] true [.tmp 4] [3] [.d .cur a0, .d (.sl (.i .i64)) a1] k =
    (cond ((fun c _ => gCur c) a0 (a1.length : Int))
    (cond ((decide ((0 : Int) ≤ ((curBelow a0 (a1.length : Int)).1))) && (decide (((curBelow a0 (a1.length : Int)).1) < (a1.length : Int))))
      (k [.d (.i .i64) (atI (t := (.i .i64)) a1 (Int.toNat ((curBelow a0 (a1.length : Int)).1))), .d .cur ((curBelow a0 (a1.length : Int)).2)])
      none)
    none) := by kernel_rfl
def f87_P (a0 : CurT) (a1 : List Int) (o : Int × CurT) : Prop := (fun _ l o => o.1 ∈ l ∧ gCur o.2 = true) a0 a1 o ∧ ∃ n : Nat, ∀ {R : Type} (k : List Dt → Option R), evFn f87e f87k n f87c [.pmut, .ro] [false] true [.tmp 4] [3] [.d .cur a0, .d (.sl (.i .i64)) a1] k = k [.d (.i .i64) o.1, .d .cur o.2]
theorem f87_ex (a0 : CurT) (a1 : List Int) (hg : gPickI a0 a1 = true) : ∃ o : Int × CurT, (fun _ l o => o.1 ∈ l ∧ gCur o.2 = true) a0 a1 o ∧ ∃ n : Nat, ∀ {R : Type} (k : List Dt → Option R), evFn f87e f87k n f87c [.pmut, .ro] [false] true [.tmp 4] [3] [.d .cur a0, .d (.sl (.i .i64)) a1] k = k [.d (.i .i64) o.1, .d .cur o.2] := by
  obtain ⟨hg, hne⟩ := Bool.and_eq_true_iff.1 hg
  obtain ⟨hne, hl⟩ := Bool.and_eq_true_iff.1 hne
  obtain ⟨h0, h1, g1⟩ := curBelow_ok a0 (a1.length : Int) hg
  have h1 := h1 (lenPos hne)
  refine ⟨(?az0, ?bz0), ?gz0, 0, ?rz0⟩
  case rz0 =>
    intro R k
    rw [f87_run]
    simp only [hg, idxOk h0 h1, cond_true]
    exact rfl
  case gz0 => exact ⟨mem_atI (t := (.i .i64)) h0 h1, g1⟩

theorem f87_ne (a0 : CurT) (a1 : List Int) : Nonempty {o : Int × CurT // gPickI a0 a1 = true → f87_P a0 a1 o} := by
  by_cases hg : gPickI a0 a1 = true
  · obtain ⟨o, ho⟩ := f87_ex a0 a1 hg
    exact ⟨⟨o, fun _ => ho⟩⟩
  · exact ⟨⟨((zero (.i .i64)), (zero .cur)), fun h => absurd h hg⟩⟩
noncomputable def curPickI (a0 : CurT) (a1 : List Int) : Int × CurT := (Classical.choice (f87_ne a0 a1)).val
theorem f87_sp (a0 : CurT) (a1 : List Int) (hg : gPickI a0 a1 = true) : f87_P a0 a1 (curPickI a0 a1) := (Classical.choice (f87_ne a0 a1)).property hg
theorem curPickI_ok (a0 : CurT) (a1 : List Int) (hg : gPickI a0 a1 = true) : (fun _ l o => o.1 ∈ l ∧ gCur o.2 = true) a0 a1 (curPickI a0 a1) := (f87_sp a0 a1 hg).1
theorem f87_spec (a0 : CurT) (a1 : List Int) (hg : gPickI a0 a1 = true) : ∃ keep rounds, ∀ {R : Type} (k : List Dt → Option R), evFn f87e keep rounds f87c [.pmut, .ro] [false] true [.tmp 4] [3] [.d .cur a0, .d (.sl (.i .i64)) a1] k = k [.d (.i .i64) ((curPickI a0 a1).1), .d .cur ((curPickI a0 a1).2)] := by
  obtain ⟨n, hn⟩ := (f87_sp a0 a1 hg).2
  exact ⟨f87k, n, hn⟩

noncomputable def q87 : List Dt → Option (Bool × List Dt)
  | [.d .cur a0, .d (.sl (.i .i64)) a1] => some ((gPickI a0 a1), [.d (.i .i64) ((curPickI a0 a1).1), .d .cur ((curPickI a0 a1).2)])
  | _ => none
noncomputable def s87 : Gm.Spec := Gm.Spec.of [.pmut, .ro] [false] true q87
theorem good87 : Gm.Good Try.prog (87, s87) := by
  have hl : ∀ x ∈ [(69, s69)], Gm.Good Try.prog x := List.forall_mem_cons.2 ⟨good69, List.forall_mem_nil _⟩
  refine ⟨⟨spec_ok (tab_ok.env hl) (tab.natl hl) Try.func87 (by kernel_rfl : Try.f87.body = some f87c) [3] (by kernel_rfl) ?_, _, Try.func87, by kernel_rfl, of_decide_eq_true (by kernel_rfl)⟩, Gm.Spec.of_natl _ _ _ _⟩
  intro ds outs h
  unfold q87 at h
  split at h
  · simp only [Option.some.injEq, Prod.mk.injEq] at h; obtain ⟨hg, h⟩ := h; cases h; exact f87_spec _ _ hg
  · cases h
end Go.Proofs.Ytmeeoilfnahihaa

/- x -/
namespace Go.Proofs.Ytmeeoilfnahihaa
open Go Go.Gm
/-! ### loop.example/g00465/spec.l1In -/
noncomputable def f58c : Code := (Try.f58.body).getD .skip
def f58k : Nat → Kp := kat [⟨[0, 1, 2], [], [], []⟩, ⟨[6], [], [], []⟩]
noncomputable def f58e : Env := tab.env []
theorem f58_run {R : Type} (n : Nat) (k : List Dt → Option R) (a0 : Int) (a1 : Int) (a2 : Int) : evFn f58e f58k n f58c [.ro, .ro, .ro] [false] true [.tmp 6] [4] [.d (.i .i64) a0, .d (.i .i64) a1, .d (.i .i64) a2] k =
    (cond (decide (a0 ≥ a1))
    (k [.d .bool (decide (a0 ≤ a2))])
    (k [.d .bool false])) := by kernel_rfl
theorem f58_spec (a0 : Int) (a1 : Int) (a2 : Int) : ∃ keep rounds, ∀ {R : Type} (k : List Dt → Option R), evFn f58e keep rounds f58c [.ro, .ro, .ro] [false] true [.tmp 6] [4] [.d (.i .i64) a0, .d (.i .i64) a1, .d (.i .i64) a2] k = k [.d .bool (inR a0 a1 a2)] := by
  refine ⟨f58k, 0, fun k => ?_⟩
  rw [f58_run]; unfold inR
  cases decide (a0 ≥ a1) <;> rfl

noncomputable def q58 : List Dt → Option (Bool × List Dt)
  | [.d (.i .i64) a0, .d (.i .i64) a1, .d (.i .i64) a2] => some (true, [.d .bool (inR a0 a1 a2)])
  | _ => none
noncomputable def s58 : Gm.Spec := Gm.Spec.of [.ro, .ro, .ro] [false] true q58
theorem good58 : Gm.Good Try.prog (58, s58) := by
  have hl : ∀ x ∈ ([] : List (Nat × Gm.Spec)), Gm.Good Try.prog x := fun _ h => by cases h
  refine ⟨⟨spec_ok (tab_ok.env hl) (tab.natl hl) Try.func58 (by kernel_rfl : Try.f58.body = some f58c) [4] (by kernel_rfl) ?_, _, Try.func58, by kernel_rfl, of_decide_eq_true (by kernel_rfl)⟩, Gm.Spec.of_natl _ _ _ _⟩
  intro ds outs h
  unfold q58 at h
  split at h
  · cases h; exact f58_spec _ _ _
  · cases h
/-! ### loop.example/g00465/impl.from -/
noncomputable def f54c : Code := (Try.f54.body).getD .skip
def f54k : Nat → Kp := kat [⟨[0, 1, 2], [], [], []⟩, ⟨[6], [], [], []⟩]
noncomputable def f54e : Env := tab.env []
theorem f54_run {R : Type} (n : Nat) (k : List Dt → Option R) (a0 : Int) (a1 : Int) (a2 : Int) : evFn f54e f54k n f54c [.ro, .ro, .ro] [false] true [.tmp 6] [4] [.d (.i .i64) a0, .d (.i .i64) a1, .d (.i .i64) a2] k =
    (cond (decide (a0 ≥ a1))
    (k [.d .bool (decide (a0 ≤ a2))])
    (k [.d .bool false])) := by kernel_rfl
theorem f54_spec (a0 : Int) (a1 : Int) (a2 : Int) : ∃ keep rounds, ∀ {R : Type} (k : List Dt → Option R), evFn f54e keep rounds f54c [.ro, .ro, .ro] [false] true [.tmp 6] [4] [.d (.i .i64) a0, .d (.i .i64) a1, .d (.i .i64) a2] k = k [.d .bool (inR a0 a1 a2)] := by
  refine ⟨f54k, 0, fun k => ?_⟩
  rw [f54_run]; unfold inR
  cases decide (a0 ≥ a1) <;> rfl

noncomputable def q54 : List Dt → Option (Bool × List Dt)
  | [.d (.i .i64) a0, .d (.i .i64) a1, .d (.i .i64) a2] => some (true, [.d .bool (inR a0 a1 a2)])
  | _ => none
noncomputable def s54 : Gm.Spec := Gm.Spec.of [.ro, .ro, .ro] [false] true q54
theorem good54 : Gm.Good Try.prog (54, s54) := by
  have hl : ∀ x ∈ ([] : List (Nat × Gm.Spec)), Gm.Good Try.prog x := fun _ h => by cases h
  refine ⟨⟨spec_ok (tab_ok.env hl) (tab.natl hl) Try.func54 (by kernel_rfl : Try.f54.body = some f54c) [4] (by kernel_rfl) ?_, _, Try.func54, by kernel_rfl, of_decide_eq_true (by kernel_rfl)⟩, Gm.Spec.of_natl _ _ _ _⟩
  intro ds outs h
  unfold q54 at h
  split at h
  · cases h; exact f54_spec _ _ _
  · cases h
/-! ### loop.example/g00465/impl.isDigit -/
noncomputable def f84c : Code := (Try.f84.body).getD .skip
def f84k : Nat → Kp := kat [⟨[0], [], [], []⟩, ⟨[2], [], [], []⟩]
noncomputable def f84e : Env := tab.env []
theorem f84_run {R : Type} (n : Nat) (k : List Dt → Option R) (a0 : Int) : evFn f84e f84k n f84c [.ro] [false] true [.tmp 2] [4] [.d (.i .u8) a0] k =
    (cond (decide (a0 ≥ (48 : Int)))
    (k [.d .bool (decide (a0 ≤ (57 : Int)))])
    (k [.d .bool false])) := by kernel_rfl
theorem f84_spec (a0 : Int) : ∃ keep rounds, ∀ {R : Type} (k : List Dt → Option R), evFn f84e keep rounds f84c [.ro] [false] true [.tmp 2] [4] [.d (.i .u8) a0] k = k [.d .bool (digit a0)] := by
  refine ⟨f84k, 0, fun k => ?_⟩
  rw [f84_run]; unfold digit
  cases decide (a0 ≥ (48 : Int)) <;> rfl

noncomputable def q84 : List Dt → Option (Bool × List Dt)
  | [.d (.i .u8) a0] => some (true, [.d .bool (digit a0)])
  | _ => none
noncomputable def s84 : Gm.Spec := Gm.Spec.of [.ro] [false] true q84
theorem good84 : Gm.Good Try.prog (84, s84) := by
  have hl : ∀ x ∈ ([] : List (Nat × Gm.Spec)), Gm.Good Try.prog x := fun _ h => by cases h
  refine ⟨⟨spec_ok (tab_ok.env hl) (tab.natl hl) Try.func84 (by kernel_rfl : Try.f84.body = some f84c) [4] (by kernel_rfl) ?_, _, Try.func84, by kernel_rfl, of_decide_eq_true (by kernel_rfl)⟩, Gm.Spec.of_natl _ _ _ _⟩
  intro ds outs h
  unfold q84 at h
  split at h
  · cases h; exact f84_spec _
  · cases h
/-! ### loop.example/g00465/spec.NameOk -/
noncomputable def f57c : Code := (Try.f57.body).getD .skip
def f57k : Nat → Kp := kat [⟨[0], [], [], []⟩, ⟨[0, 3], [], [], []⟩, ⟨[0, 3, 8], [], [], []⟩, ⟨[0, 3], [], [], []⟩, ⟨[0, 3, 4], [], [], []⟩, ⟨[0, 3, 36], [], [], []⟩, ⟨[2], [], [], []⟩, ⟨[2], [], [], []⟩]
noncomputable def f57e : Env := tab.env [(58, s58)]
noncomputable def f57L0 {R : Type} (n : Nat) (x0 : Option R) (x1 : Int → Bool → Option R) (vs0 : ByteArray) : Nat → Int → Option R
  | 0, _ => none
  | m + 1, vs3 =>
    (cond (decide (vs3 < (ByteArray.size vs0 : Int)))
      (cond ((decide ((0 : Int) ≤ vs3)) && (decide (vs3 < (ByteArray.size vs0 : Int))))
        (cond (decide ((((ByteArray.data vs0).getD (Int.toNat vs3) 0).toNat : Int) ≥ (97 : Int)))
          (cond (decide ((((ByteArray.data vs0).getD (Int.toNat vs3) 0).toNat : Int) ≤ (122 : Int)))
            (f57L0 n x0 x1 vs0 m (IntKind.wrap .i64 (vs3 + (1 : Int))))
            (cond (decide (vs3 > (0 : Int)))
              (cond (decide ((((ByteArray.data vs0).getD (Int.toNat vs3) 0).toNat : Int) ≥ (48 : Int)))
                (cond (decide ((((ByteArray.data vs0).getD (Int.toNat vs3) 0).toNat : Int) ≤ (57 : Int)))
                  (f57L0 n x0 x1 vs0 m (IntKind.wrap .i64 (vs3 + (1 : Int))))
                  (cond (!((((ByteArray.data vs0).getD (Int.toNat vs3) 0).toNat : Int) == (45 : Int)))
                    (x0)
                    (f57L0 n x0 x1 vs0 m (IntKind.wrap .i64 (vs3 + (1 : Int))))))
                (cond (!((((ByteArray.data vs0).getD (Int.toNat vs3) 0).toNat : Int) == (45 : Int)))
                  (x0)
                  (f57L0 n x0 x1 vs0 m (IntKind.wrap .i64 (vs3 + (1 : Int))))))
              (x0)))
          (cond (decide (vs3 > (0 : Int)))
            (cond (decide ((((ByteArray.data vs0).getD (Int.toNat vs3) 0).toNat : Int) ≥ (48 : Int)))
              (cond (decide ((((ByteArray.data vs0).getD (Int.toNat vs3) 0).toNat : Int) ≤ (57 : Int)))
                (f57L0 n x0 x1 vs0 m (IntKind.wrap .i64 (vs3 + (1 : Int))))
                (cond (!((((ByteArray.data vs0).getD (Int.toNat vs3) 0).toNat : Int) == (45 : Int)))
                  (x0)
                  (f57L0 n x0 x1 vs0 m (IntKind.wrap .i64 (vs3 + (1 : Int))))))
              (cond (!((((ByteArray.data vs0).getD (Int.toNat vs3) 0).toNat : Int) == (45 : Int)))
                (x0)
                (f57L0 n x0 x1 vs0 m (IntKind.wrap .i64 (vs3 + (1 : Int))))))
            (x0)))
        none)
      (x1 vs3 (decide (vs3 < (ByteArray.size vs0 : Int)))))
theorem f57L0_b {R : Type} (n : Nat) (k' : Ex → St → Option R) (vs0 : ByteArray) (vs3 : Int) : ev f57e f57k n (cAt [1,0,1,0,0] f57c) ⟨[(0, .c (.one (.v (.string vs0)))), (3, .c (.one (.v (.int .i64 vs3))))], [], []⟩ k' =
    (cond (decide (vs3 < (ByteArray.size vs0 : Int)))
    (cond ((decide ((0 : Int) ≤ vs3)) && (decide (vs3 < (ByteArray.size vs0 : Int))))
      (cond (decide ((((ByteArray.data vs0).getD (Int.toNat vs3) 0).toNat : Int) ≥ (97 : Int)))
        (cond (decide ((((ByteArray.data vs0).getD (Int.toNat vs3) 0).toNat : Int) ≤ (122 : Int)))
          (k' .normal ⟨[(0, .c (.one (.v (.string vs0)))), (3, .c (.one (.v (.int .i64 (IntKind.wrap .i64 (vs3 + (1 : Int)))))))], [], []⟩)
          (cond (decide (vs3 > (0 : Int)))
            (cond (decide ((((ByteArray.data vs0).getD (Int.toNat vs3) 0).toNat : Int) ≥ (48 : Int)))
              (cond (decide ((((ByteArray.data vs0).getD (Int.toNat vs3) 0).toNat : Int) ≤ (57 : Int)))
                (k' .normal ⟨[(0, .c (.one (.v (.string vs0)))), (3, .c (.one (.v (.int .i64 (IntKind.wrap .i64 (vs3 + (1 : Int)))))))], [], []⟩)
                (cond (!((((ByteArray.data vs0).getD (Int.toNat vs3) 0).toNat : Int) == (45 : Int)))
                  (k' .ret ⟨[(2, .c (.one (.v (.bool false))))], [], []⟩)
                  (k' .normal ⟨[(0, .c (.one (.v (.string vs0)))), (3, .c (.one (.v (.int .i64 (IntKind.wrap .i64 (vs3 + (1 : Int)))))))], [], []⟩)))
              (cond (!((((ByteArray.data vs0).getD (Int.toNat vs3) 0).toNat : Int) == (45 : Int)))
                (k' .ret ⟨[(2, .c (.one (.v (.bool false))))], [], []⟩)
                (k' .normal ⟨[(0, .c (.one (.v (.string vs0)))), (3, .c (.one (.v (.int .i64 (IntKind.wrap .i64 (vs3 + (1 : Int)))))))], [], []⟩)))
            (k' .ret ⟨[(2, .c (.one (.v (.bool false))))], [], []⟩)))
        (cond (decide (vs3 > (0 : Int)))
          (cond (decide ((((ByteArray.data vs0).getD (Int.toNat vs3) 0).toNat : Int) ≥ (48 : Int)))
            (cond (decide ((((ByteArray.data vs0).getD (Int.toNat vs3) 0).toNat : Int) ≤ (57 : Int)))
              (k' .normal ⟨[(0, .c (.one (.v (.string vs0)))), (3, .c (.one (.v (.int .i64 (IntKind.wrap .i64 (vs3 + (1 : Int)))))))], [], []⟩)
              (cond (!((((ByteArray.data vs0).getD (Int.toNat vs3) 0).toNat : Int) == (45 : Int)))
                (k' .ret ⟨[(2, .c (.one (.v (.bool false))))], [], []⟩)
                (k' .normal ⟨[(0, .c (.one (.v (.string vs0)))), (3, .c (.one (.v (.int .i64 (IntKind.wrap .i64 (vs3 + (1 : Int)))))))], [], []⟩)))
            (cond (!((((ByteArray.data vs0).getD (Int.toNat vs3) 0).toNat : Int) == (45 : Int)))
              (k' .ret ⟨[(2, .c (.one (.v (.bool false))))], [], []⟩)
              (k' .normal ⟨[(0, .c (.one (.v (.string vs0)))), (3, .c (.one (.v (.int .i64 (IntKind.wrap .i64 (vs3 + (1 : Int)))))))], [], []⟩)))
          (k' .ret ⟨[(2, .c (.one (.v (.bool false))))], [], []⟩)))
      none)
    (k' (.exit 0) ⟨[(0, .c (.one (.v (.string vs0)))), (3, .c (.one (.v (.int .i64 vs3)))), (8, .c (.one (.v (.bool (decide (vs3 < (ByteArray.size vs0 : Int)))))))], [], []⟩)) := by kernel_rfl
theorem f57L0_eq {R : Type} (n : Nat) (k' : Ex → St → Option R) (vs0 : ByteArray) : ∀ (m : Nat) (vs3 : Int), iter (fun st k => ev f57e f57k n (cAt [1,0,1,0,0] f57c) st k) m ⟨[(0, .c (.one (.v (.string vs0)))), (3, .c (.one (.v (.int .i64 vs3))))], [], []⟩ k' = f57L0 n (k' .ret ⟨[(2, .c (.one (.v (.bool false))))], [], []⟩) (fun (xvs3 : Int) (xvs8 : Bool) => k' (.exit 0) ⟨[(0, .c (.one (.v (.string vs0)))), (3, .c (.one (.v (.int .i64 xvs3)))), (8, .c (.one (.v (.bool xvs8))))], [], []⟩) vs0 m vs3 := by
  intro m; induction m with
  | zero => intros; rfl
  | succ m ih =>
    intro vs3
    simp only [iter]
    rw [f57L0_b]
    simp only [ih, f57L0]

noncomputable def f57K0 {R : Type} (n : Nat) (k' : Ex → St → Option R) : Ex → St → Option R := (blockK 0 (seqK f57e f57k n (cAt [1,1] f57c) k'))
theorem f57K0_x0 {R : Type} (n : Nat) (k : List Dt → Option R) (a0 : ByteArray)  : f57K0 n (exitK f57e [.ro] [false] true [.tmp 2] [4] [.d .str a0] k) .ret ⟨[(2, .c (.one (.v (.bool false))))], [], []⟩ =
    (k [.d .bool false]) := by kernel_rfl
theorem f57K0_x1 {R : Type} (n : Nat) (k : List Dt → Option R) (a0 : ByteArray) (vs0 : ByteArray) (xvs3 : Int) (xvs8 : Bool) : f57K0 n (exitK f57e [.ro] [false] true [.tmp 2] [4] [.d .str a0] k) (.exit 0) ⟨[(0, .c (.one (.v (.string vs0)))), (3, .c (.one (.v (.int .i64 xvs3)))), (8, .c (.one (.v (.bool xvs8))))], [], []⟩ =
    (k [.d .bool (inR (ByteArray.size vs0 : Int) (1 : Int) (20 : Int))]) := by kernel_rfl

theorem f57_run {R : Type} (n : Nat) (k : List Dt → Option R) (a0 : ByteArray) : evFn f57e f57k n f57c [.ro] [false] true [.tmp 2] [4] [.d .str a0] k =
    (f57L0 n (k [.d .bool false]) (fun (xvs3 : Int) (xvs8 : Bool) =>
    (k [.d .bool (inR (ByteArray.size a0 : Int) (1 : Int) (20 : Int))])) a0 n (0 : Int)) := by
  refine Eq.trans (b := (iter (fun st k => ev f57e f57k n (cAt [1,0,1,0,0] f57c) st k) n ⟨[(0, .c (.one (.v (.string a0)))), (3, .c (.one (.v (.int .i64 (0 : Int)))))], [], []⟩ (f57K0 n (exitK f57e [.ro] [false] true [.tmp 2] [4] [.d .str a0] k)))) (by kernel_rfl) ?_
  simp only [f57L0_eq, f57K0_x0, f57K0_x1]
theorem f57_spec (a0 : ByteArray) (hg : okStr a0 = true) : ∃ keep rounds, ∀ {R : Type} (k : List Dt → Option R), evFn f57e keep rounds f57c [.ro] [false] true [.tmp 2] [4] [.d .str a0] k = k [.d .bool (nameOk a0)] := by
  have hl : a0.size ≤ 9223372036854775807 := bleN hg
  refine ⟨f57k, a0.size + 1, fun {R} k => ?_⟩
  rw [f57_run]
  refine Eq.trans (loop_idx (n := a0.size) (F := fun m i => f57L0 (a0.size + 1) _ _ a0 m i) (p := fun j => nameC (j : Int) (byteAt a0 j)) (good := _) (bad := k [.d .bool false])
    (fun m j hj => ?_) (fun m => by simp only [f57L0, idxE, cond_false]; rfl) a0.size 0 (a0.size + 1) (by omega) (by omega)) ?_
  · obtain ⟨h1, h0, hw, ht⟩ := idx hj (by omega)
    simp only [f57L0, h1, h0, hw, ht, Bool.and_self, cond_true]
    show _ = cond (nameC (j : Int) (((ByteArray.data a0).getD j 0).toNat : Int)) _ _
    generalize (((ByteArray.data a0).getD j 0).toNat : Int) = c
    unfold nameC
    rw [show decide ((j : Int) > (0 : Int)) = !((j : Int) == (0 : Int)) by rw [Bool.eq_iff_iff]; simp; omega]
    unfold digit
    cases decide (c ≥ (97 : Int)) <;> cases decide (c ≤ (122 : Int)) <;> cases ((j : Int) == (0 : Int)) <;> cases decide (c ≥ (48 : Int)) <;> cases decide (c ≤ (57 : Int)) <;> cases (c == (45 : Int)) <;> rfl
  · unfold nameOk
    cases allN (fun j => nameC (j : Int) (byteAt a0 j)) 0 a0.size <;> rfl

noncomputable def q57 : List Dt → Option (Bool × List Dt)
  | [.d .str a0] => some ((okStr a0), [.d .bool (nameOk a0)])
  | _ => none
noncomputable def s57 : Gm.Spec := Gm.Spec.of [.ro] [false] true q57
theorem good57 : Gm.Good Try.prog (57, s57) := by
  have hl : ∀ x ∈ [(58, s58)], Gm.Good Try.prog x := List.forall_mem_cons.2 ⟨good58, List.forall_mem_nil _⟩
  refine ⟨⟨spec_ok (tab_ok.env hl) (tab.natl hl) Try.func57 (by kernel_rfl : Try.f57.body = some f57c) [4] (by kernel_rfl) ?_, _, Try.func57, by kernel_rfl, of_decide_eq_true (by kernel_rfl)⟩, Gm.Spec.of_natl _ _ _ _⟩
  intro ds outs h
  unfold q57 at h
  split at h
  · simp only [Option.some.injEq, Prod.mk.injEq] at h; obtain ⟨hg, h⟩ := h; cases h; exact f57_spec _ hg
  · cases h
/-! ### loop.example/g00465/impl.NameOk -/
noncomputable def f53c : Code := (Try.f53.body).getD .skip
def f53k : Nat → Kp := kat [⟨[0], [], [], []⟩, ⟨[0, 6, 7], [], [], []⟩, ⟨[0, 6, 7, 8], [], [], []⟩, ⟨[0, 3, 6, 7], [], [], []⟩, ⟨[0, 3, 4, 6, 7], [], [], []⟩, ⟨[0, 6, 7, 38], [], [], []⟩, ⟨[2], [], [], []⟩, ⟨[0, 6, 7], [], [], []⟩, ⟨[2], [], [], []⟩]
noncomputable def f53e : Env := tab.env [(54, s54), (84, s84)]
noncomputable def f53L0 {R : Type} (n : Nat) (x0 : Option R) (x1 : Int → Bool → Option R) (vs0 : ByteArray) (vs6 : Int) : Nat → Int → Option R
  | 0, _ => none
  | m + 1, vs7 =>
    (cond (decide (vs7 < vs6))
      (cond ((decide ((0 : Int) ≤ vs7)) && (decide (vs7 < (ByteArray.size vs0 : Int))))
        (cond (decide ((((ByteArray.data vs0).getD (Int.toNat vs7) 0).toNat : Int) ≥ (97 : Int)))
          (cond ((decide ((0 : Int) ≤ vs7)) && (decide (vs7 < (ByteArray.size vs0 : Int))))
            (cond (!(decide ((((ByteArray.data vs0).getD (Int.toNat vs7) 0).toNat : Int) ≤ (122 : Int))))
              (cond (vs7 == (0 : Int))
                (x0)
                (cond ((decide ((0 : Int) ≤ vs7)) && (decide (vs7 < (ByteArray.size vs0 : Int))))
                  (cond (!(digit (((ByteArray.data vs0).getD (Int.toNat vs7) 0).toNat : Int)))
                    (cond ((decide ((0 : Int) ≤ vs7)) && (decide (vs7 < (ByteArray.size vs0 : Int))))
                      (cond ((((ByteArray.data vs0).getD (Int.toNat vs7) 0).toNat : Int) != (45 : Int))
                        (x0)
                        (f53L0 n x0 x1 vs0 vs6 m (IntKind.wrap .i64 (vs7 + (1 : Int)))))
                      none)
                    (f53L0 n x0 x1 vs0 vs6 m (IntKind.wrap .i64 (vs7 + (1 : Int)))))
                  none))
              (f53L0 n x0 x1 vs0 vs6 m (IntKind.wrap .i64 (vs7 + (1 : Int)))))
            none)
          (cond (vs7 == (0 : Int))
            (x0)
            (cond ((decide ((0 : Int) ≤ vs7)) && (decide (vs7 < (ByteArray.size vs0 : Int))))
              (cond (!(digit (((ByteArray.data vs0).getD (Int.toNat vs7) 0).toNat : Int)))
                (cond ((decide ((0 : Int) ≤ vs7)) && (decide (vs7 < (ByteArray.size vs0 : Int))))
                  (cond ((((ByteArray.data vs0).getD (Int.toNat vs7) 0).toNat : Int) != (45 : Int))
                    (x0)
                    (f53L0 n x0 x1 vs0 vs6 m (IntKind.wrap .i64 (vs7 + (1 : Int)))))
                  none)
                (f53L0 n x0 x1 vs0 vs6 m (IntKind.wrap .i64 (vs7 + (1 : Int)))))
              none)))
        none)
      (x1 vs7 (decide (vs7 < vs6))))
theorem f53L0_b {R : Type} (n : Nat) (k' : Ex → St → Option R) (vs0 : ByteArray) (vs6 : Int) (vs7 : Int) : ev f53e f53k n (cAt [1,0,1,0,0] f53c) ⟨[(0, .c (.one (.v (.string vs0)))), (6, .c (.one (.v (.int .i64 vs6)))), (7, .c (.one (.v (.int .i64 vs7))))], [], []⟩ k' =
    (cond (decide (vs7 < vs6))
    (cond ((decide ((0 : Int) ≤ vs7)) && (decide (vs7 < (ByteArray.size vs0 : Int))))
      (cond (decide ((((ByteArray.data vs0).getD (Int.toNat vs7) 0).toNat : Int) ≥ (97 : Int)))
        (cond ((decide ((0 : Int) ≤ vs7)) && (decide (vs7 < (ByteArray.size vs0 : Int))))
          (cond (!(decide ((((ByteArray.data vs0).getD (Int.toNat vs7) 0).toNat : Int) ≤ (122 : Int))))
            (cond (vs7 == (0 : Int))
              (k' .ret ⟨[(2, .c (.one (.v (.bool false))))], [], []⟩)
              (cond ((decide ((0 : Int) ≤ vs7)) && (decide (vs7 < (ByteArray.size vs0 : Int))))
                (cond (!(digit (((ByteArray.data vs0).getD (Int.toNat vs7) 0).toNat : Int)))
                  (cond ((decide ((0 : Int) ≤ vs7)) && (decide (vs7 < (ByteArray.size vs0 : Int))))
                    (cond ((((ByteArray.data vs0).getD (Int.toNat vs7) 0).toNat : Int) != (45 : Int))
                      (k' .ret ⟨[(2, .c (.one (.v (.bool false))))], [], []⟩)
                      (k' .normal ⟨[(0, .c (.one (.v (.string vs0)))), (6, .c (.one (.v (.int .i64 vs6)))), (7, .c (.one (.v (.int .i64 (IntKind.wrap .i64 (vs7 + (1 : Int)))))))], [], []⟩))
                    none)
                  (k' .normal ⟨[(0, .c (.one (.v (.string vs0)))), (6, .c (.one (.v (.int .i64 vs6)))), (7, .c (.one (.v (.int .i64 (IntKind.wrap .i64 (vs7 + (1 : Int)))))))], [], []⟩))
                none))
            (k' .normal ⟨[(0, .c (.one (.v (.string vs0)))), (6, .c (.one (.v (.int .i64 vs6)))), (7, .c (.one (.v (.int .i64 (IntKind.wrap .i64 (vs7 + (1 : Int)))))))], [], []⟩))
          none)
        (cond (vs7 == (0 : Int))
          (k' .ret ⟨[(2, .c (.one (.v (.bool false))))], [], []⟩)
          (cond ((decide ((0 : Int) ≤ vs7)) && (decide (vs7 < (ByteArray.size vs0 : Int))))
            (cond (!(digit (((ByteArray.data vs0).getD (Int.toNat vs7) 0).toNat : Int)))
              (cond ((decide ((0 : Int) ≤ vs7)) && (decide (vs7 < (ByteArray.size vs0 : Int))))
                (cond ((((ByteArray.data vs0).getD (Int.toNat vs7) 0).toNat : Int) != (45 : Int))
                  (k' .ret ⟨[(2, .c (.one (.v (.bool false))))], [], []⟩)
                  (k' .normal ⟨[(0, .c (.one (.v (.string vs0)))), (6, .c (.one (.v (.int .i64 vs6)))), (7, .c (.one (.v (.int .i64 (IntKind.wrap .i64 (vs7 + (1 : Int)))))))], [], []⟩))
                none)
              (k' .normal ⟨[(0, .c (.one (.v (.string vs0)))), (6, .c (.one (.v (.int .i64 vs6)))), (7, .c (.one (.v (.int .i64 (IntKind.wrap .i64 (vs7 + (1 : Int)))))))], [], []⟩))
            none)))
      none)
    (k' (.exit 0) ⟨[(0, .c (.one (.v (.string vs0)))), (6, .c (.one (.v (.int .i64 vs6)))), (7, .c (.one (.v (.int .i64 vs7)))), (8, .c (.one (.v (.bool (decide (vs7 < vs6))))))], [], []⟩)) := by kernel_rfl
theorem f53L0_eq {R : Type} (n : Nat) (k' : Ex → St → Option R) (vs0 : ByteArray) (vs6 : Int) : ∀ (m : Nat) (vs7 : Int), iter (fun st k => ev f53e f53k n (cAt [1,0,1,0,0] f53c) st k) m ⟨[(0, .c (.one (.v (.string vs0)))), (6, .c (.one (.v (.int .i64 vs6)))), (7, .c (.one (.v (.int .i64 vs7))))], [], []⟩ k' = f53L0 n (k' .ret ⟨[(2, .c (.one (.v (.bool false))))], [], []⟩) (fun (xvs7 : Int) (xvs8 : Bool) => k' (.exit 0) ⟨[(0, .c (.one (.v (.string vs0)))), (6, .c (.one (.v (.int .i64 vs6)))), (7, .c (.one (.v (.int .i64 xvs7)))), (8, .c (.one (.v (.bool xvs8))))], [], []⟩) vs0 vs6 m vs7 := by
  intro m; induction m with
  | zero => intros; rfl
  | succ m ih =>
    intro vs7
    simp only [iter]
    rw [f53L0_b]
    simp only [ih, f53L0]

noncomputable def f53K0 {R : Type} (n : Nat) (k' : Ex → St → Option R) : Ex → St → Option R := (blockK 0 (seqK f53e f53k n (cAt [1,1] f53c) k'))
theorem f53K0_x0 {R : Type} (n : Nat) (k : List Dt → Option R) (a0 : ByteArray)  : f53K0 n (exitK f53e [.ro] [false] true [.tmp 2] [4] [.d .str a0] k) .ret ⟨[(2, .c (.one (.v (.bool false))))], [], []⟩ =
    (k [.d .bool false]) := by kernel_rfl
theorem f53K0_x1 {R : Type} (n : Nat) (k : List Dt → Option R) (a0 : ByteArray) (vs0 : ByteArray) (vs6 : Int) (xvs7 : Int) (xvs8 : Bool) : f53K0 n (exitK f53e [.ro] [false] true [.tmp 2] [4] [.d .str a0] k) (.exit 0) ⟨[(0, .c (.one (.v (.string vs0)))), (6, .c (.one (.v (.int .i64 vs6)))), (7, .c (.one (.v (.int .i64 xvs7)))), (8, .c (.one (.v (.bool xvs8))))], [], []⟩ =
    (k [.d .bool (inR (ByteArray.size vs0 : Int) (1 : Int) (20 : Int))]) := by kernel_rfl

theorem f53_run {R : Type} (n : Nat) (k : List Dt → Option R) (a0 : ByteArray) : evFn f53e f53k n f53c [.ro] [false] true [.tmp 2] [4] [.d .str a0] k =
    (f53L0 n (k [.d .bool false]) (fun (xvs7 : Int) (xvs8 : Bool) =>
    (k [.d .bool (inR (ByteArray.size a0 : Int) (1 : Int) (20 : Int))])) a0 (ByteArray.size a0 : Int) n (0 : Int)) := by
  refine Eq.trans (b := (iter (fun st k => ev f53e f53k n (cAt [1,0,1,0,0] f53c) st k) n ⟨[(0, .c (.one (.v (.string a0)))), (6, .c (.one (.v (.int .i64 (ByteArray.size a0 : Int))))), (7, .c (.one (.v (.int .i64 (0 : Int)))))], [], []⟩ (f53K0 n (exitK f53e [.ro] [false] true [.tmp 2] [4] [.d .str a0] k)))) (by kernel_rfl) ?_
  simp only [f53L0_eq, f53K0_x0, f53K0_x1]
theorem f53_spec (a0 : ByteArray) (hg : okStr a0 = true) : ∃ keep rounds, ∀ {R : Type} (k : List Dt → Option R), evFn f53e keep rounds f53c [.ro] [false] true [.tmp 2] [4] [.d .str a0] k = k [.d .bool (nameOk a0)] := by
  have hl : a0.size ≤ 9223372036854775807 := bleN hg
  refine ⟨f53k, a0.size + 1, fun {R} k => ?_⟩
  rw [f53_run]
  refine Eq.trans (loop_idx (n := a0.size) (F := fun m i => f53L0 (a0.size + 1) _ _ a0 (a0.size : Int) m i) (p := fun j => nameC (j : Int) (byteAt a0 j)) (good := _) (bad := k [.d .bool false])
    (fun m j hj => ?_) (fun m => by simp only [f53L0, idxE, cond_false]; rfl) a0.size 0 (a0.size + 1) (by omega) (by omega)) ?_
  · obtain ⟨h1, h0, hw, ht⟩ := idx hj (by omega)
    simp only [f53L0, h1, h0, hw, ht, Bool.and_self, cond_true]
    show _ = cond (nameC (j : Int) (((ByteArray.data a0).getD j 0).toNat : Int)) _ _
    generalize (((ByteArray.data a0).getD j 0).toNat : Int) = c
    unfold nameC
    simp only [bne]
    cases decide (c ≥ (97 : Int)) <;> cases decide (c ≤ (122 : Int)) <;> cases ((j : Int) == (0 : Int)) <;> cases digit c <;> cases (c == (45 : Int)) <;> rfl
  · unfold nameOk
    cases allN (fun j => nameC (j : Int) (byteAt a0 j)) 0 a0.size <;> rfl

noncomputable def q53 : List Dt → Option (Bool × List Dt)
  | [.d .str a0] => some ((okStr a0), [.d .bool (nameOk a0)])
  | _ => none
noncomputable def s53 : Gm.Spec := Gm.Spec.of [.ro] [false] true q53
theorem good53 : Gm.Good Try.prog (53, s53) := by
  have hl : ∀ x ∈ [(54, s54), (84, s84)], Gm.Good Try.prog x := List.forall_mem_cons.2 ⟨good54, List.forall_mem_cons.2 ⟨good84, List.forall_mem_nil _⟩⟩
  refine ⟨⟨spec_ok (tab_ok.env hl) (tab.natl hl) Try.func53 (by kernel_rfl : Try.f53.body = some f53c) [4] (by kernel_rfl) ?_, _, Try.func53, by kernel_rfl, of_decide_eq_true (by kernel_rfl)⟩, Gm.Spec.of_natl _ _ _ _⟩
  intro ds outs h
  unfold q53 at h
  split at h
  · simp only [Option.some.injEq, Prod.mk.injEq] at h; obtain ⟨hg, h⟩ := h; cases h; exact f53_spec _ hg
  · cases h
/-! ### slices.Index[[]string,string] -/
noncomputable def f80c : Code := (Try.f80.body).getD .skip
def f80k : Nat → Kp := kat [⟨[0, 1], [], [], []⟩, ⟨[0, 1, 7, 8], [], [], []⟩, ⟨[0, 1, 7, 8, 9], [], [], []⟩, ⟨[0, 1, 5, 7, 8], [], [], []⟩, ⟨[0, 1, 5, 7, 8, 16], [], [], []⟩, ⟨[4], [], [], []⟩, ⟨[0, 1, 7, 8], [], [], []⟩, ⟨[4], [], [], []⟩]
noncomputable def f80e : Env := tab.env []
noncomputable def f80L0 {R : Type} (n : Nat) (x0 : Int → Option R) (x1 : Int → Bool → Option R) (vs0 : List ByteArray) (vs1 : ByteArray) (vs7 : Int) : Nat → Int → Option R
  | 0, _ => none
  | m + 1, vs8 =>
    (cond (decide (vs8 < vs7))
      (cond ((decide ((0 : Int) ≤ vs8)) && (decide (vs8 < (vs0.length : Int))))
        (cond (sEq vs1 (atI (t := .str) vs0 (Int.toNat vs8)))
          (x0 vs8)
          (f80L0 n x0 x1 vs0 vs1 vs7 m (IntKind.wrap .i64 (vs8 + (1 : Int)))))
        none)
      (x1 vs8 (decide (vs8 < vs7))))
theorem f80L0_b {R : Type} (n : Nat) (k' : Ex → St → Option R) (vs0 : List ByteArray) (vs1 : ByteArray) (vs7 : Int) (vs8 : Int) : ev f80e f80k n (cAt [1,0,1,0,0] f80c) ⟨[(0, .c (.one (.ro .str vs0))), (1, .c (.one (.v (.string vs1)))), (7, .c (.one (.v (.int .i64 vs7)))), (8, .c (.one (.v (.int .i64 vs8))))], [], []⟩ k' =
    (cond (decide (vs8 < vs7))
    (cond ((decide ((0 : Int) ≤ vs8)) && (decide (vs8 < (vs0.length : Int))))
      (cond (sEq vs1 (atI (t := .str) vs0 (Int.toNat vs8)))
        (k' .ret ⟨[(4, .c (.one (.v (.int .i64 vs8))))], [], []⟩)
        (k' .normal ⟨[(0, .c (.one (.ro .str vs0))), (1, .c (.one (.v (.string vs1)))), (7, .c (.one (.v (.int .i64 vs7)))), (8, .c (.one (.v (.int .i64 (IntKind.wrap .i64 (vs8 + (1 : Int)))))))], [], []⟩))
      none)
    (k' (.exit 0) ⟨[(0, .c (.one (.ro .str vs0))), (1, .c (.one (.v (.string vs1)))), (7, .c (.one (.v (.int .i64 vs7)))), (8, .c (.one (.v (.int .i64 vs8)))), (9, .c (.one (.v (.bool (decide (vs8 < vs7))))))], [], []⟩)) := by kernel_rfl
theorem f80L0_eq {R : Type} (n : Nat) (k' : Ex → St → Option R) (vs0 : List ByteArray) (vs1 : ByteArray) (vs7 : Int) : ∀ (m : Nat) (vs8 : Int), iter (fun st k => ev f80e f80k n (cAt [1,0,1,0,0] f80c) st k) m ⟨[(0, .c (.one (.ro .str vs0))), (1, .c (.one (.v (.string vs1)))), (7, .c (.one (.v (.int .i64 vs7)))), (8, .c (.one (.v (.int .i64 vs8))))], [], []⟩ k' = f80L0 n (fun (xvs4 : Int) => k' .ret ⟨[(4, .c (.one (.v (.int .i64 xvs4))))], [], []⟩) (fun (xvs8 : Int) (xvs9 : Bool) => k' (.exit 0) ⟨[(0, .c (.one (.ro .str vs0))), (1, .c (.one (.v (.string vs1)))), (7, .c (.one (.v (.int .i64 vs7)))), (8, .c (.one (.v (.int .i64 xvs8)))), (9, .c (.one (.v (.bool xvs9))))], [], []⟩) vs0 vs1 vs7 m vs8 := by
  intro m; induction m with
  | zero => intros; rfl
  | succ m ih =>
    intro vs8
    simp only [iter]
    rw [f80L0_b]
    simp only [ih, f80L0]

noncomputable def f80K0 {R : Type} (n : Nat) (k' : Ex → St → Option R) : Ex → St → Option R := (blockK 0 (seqK f80e f80k n (cAt [1,1] f80c) k'))
theorem f80K0_x0 {R : Type} (n : Nat) (k : List Dt → Option R) (a0 : List ByteArray) (a1 : ByteArray) (xvs4 : Int) : f80K0 n (exitK f80e [.ro, .ro] [false] true [.tmp 4] [3] [.d (.sl .str) a0, .d .str a1] k) .ret ⟨[(4, .c (.one (.v (.int .i64 xvs4))))], [], []⟩ =
    (k [.d (.i .i64) xvs4]) := by kernel_rfl
theorem f80K0_x1 {R : Type} (n : Nat) (k : List Dt → Option R) (a0 : List ByteArray) (a1 : ByteArray) (vs0 : List ByteArray) (vs1 : ByteArray) (vs7 : Int) (xvs8 : Int) (xvs9 : Bool) : f80K0 n (exitK f80e [.ro, .ro] [false] true [.tmp 4] [3] [.d (.sl .str) a0, .d .str a1] k) (.exit 0) ⟨[(0, .c (.one (.ro .str vs0))), (1, .c (.one (.v (.string vs1)))), (7, .c (.one (.v (.int .i64 vs7)))), (8, .c (.one (.v (.int .i64 xvs8)))), (9, .c (.one (.v (.bool xvs9))))], [], []⟩ =
    (k [.d (.i .i64) (-1 : Int)]) := by kernel_rfl

theorem f80_run {R : Type} (n : Nat) (k : List Dt → Option R) (a0 : List ByteArray) (a1 : ByteArray) : evFn f80e f80k n f80c [.ro, .ro] [false] true [.tmp 4] [3] [.d (.sl .str) a0, .d .str a1] k =
    (f80L0 n (fun (xvs4 : Int) =>
    (k [.d (.i .i64) xvs4])) (fun (xvs8 : Int) (xvs9 : Bool) =>
    (k [.d (.i .i64) (-1 : Int)])) a0 a1 (a0.length : Int) n (0 : Int)) := by
  refine Eq.trans (b := (iter (fun st k => ev f80e f80k n (cAt [1,0,1,0,0] f80c) st k) n ⟨[(0, .c (.one (.ro .str a0))), (1, .c (.one (.v (.string a1)))), (7, .c (.one (.v (.int .i64 (a0.length : Int))))), (8, .c (.one (.v (.int .i64 (0 : Int)))))], [], []⟩ (f80K0 n (exitK f80e [.ro, .ro] [false] true [.tmp 4] [3] [.d (.sl .str) a0, .d .str a1] k)))) (by kernel_rfl) ?_
  simp only [f80L0_eq, f80K0_x0, f80K0_x1]
theorem f80_spec (a0 : List ByteArray) (a1 : ByteArray) (hg : gLenW a0 = true) : ∃ keep rounds, ∀ {R : Type} (k : List Dt → Option R), evFn f80e keep rounds f80c [.ro, .ro] [false] true [.tmp 4] [3] [.d (.sl .str) a0, .d .str a1] k = k [.d (.i .i64) (idxS a0 a1)] := by
  have hl := gLenW_le hg
  refine ⟨f80k, a0.length + 1, fun k => ?_⟩
  rw [f80_run]
  refine Eq.trans (loop_find (n := a0.length) (F := fun m i => f80L0 (a0.length + 1) _ _ a0 a1 (a0.length : Int) m i) (p := fun j => sEq a1 (atI (t := .str) a0 j)) (hit := fun i => k [.d (.i .i64) i]) (miss := k [.d (.i .i64) (-1 : Int)])
    (fun m j hj => ?_) (fun m => by simp only [f80L0, idxE, cond_false]) a0.length 0 (a0.length + 1) (by omega) (by omega)) ?_
  · obtain ⟨h1, h0, hw, ht⟩ := idx hj (by omega)
    simp only [f80L0, h1, h0, hw, ht, Bool.and_self, cond_true]
  · show _ = k [.d (.i .i64) (plc _)]
    cases firstN (fun j => sEq a1 (atI (t := .str) a0 j)) 0 a0.length <;> rfl

noncomputable def q80 : List Dt → Option (Bool × List Dt)
  | [.d (.sl .str) a0, .d .str a1] => some (((fun (x : List ByteArray) (_ : ByteArray) => gLenW x) a0 a1), [.d (.i .i64) (idxS a0 a1)])
  | _ => none
noncomputable def s80 : Gm.Spec := Gm.Spec.of [.ro, .ro] [false] true q80
theorem good80 : Gm.Good Try.prog (80, s80) := by
  have hl : ∀ x ∈ ([] : List (Nat × Gm.Spec)), Gm.Good Try.prog x := fun _ h => by cases h
  refine ⟨⟨spec_ok (tab_ok.env hl) (tab.natl hl) Try.func80 (by kernel_rfl : Try.f80.body = some f80c) [3] (by kernel_rfl) ?_, _, Try.func80, by kernel_rfl, of_decide_eq_true (by kernel_rfl)⟩, Gm.Spec.of_natl _ _ _ _⟩
  intro ds outs h
  unfold q80 at h
  split at h
  · simp only [Option.some.injEq, Prod.mk.injEq] at h; obtain ⟨hg, h⟩ := h; cases h; exact f80_spec _ _ hg
  · cases h
/-! ### slices.Contains[[]string,string] -/
noncomputable def f46c : Code := (Try.f46.body).getD .skip
def f46k : Nat → Kp := kat [⟨[0, 1], [], [], []⟩, ⟨[4], [], [], []⟩]
noncomputable def f46e : Env := tab.env [(80, s80)]
theorem f46_run {R : Type} (n : Nat) (k : List Dt → Option R) (a0 : List ByteArray) (a1 : ByteArray) : evFn f46e f46k n f46c [.ro, .ro] [false] true [.tmp 4] [4] [.d (.sl .str) a0, .d .str a1] k =
    (cond ((fun (x : List ByteArray) (_ : ByteArray) => gLenW x) a0 a1)
    (k [.d .bool (decide ((idxS a0 a1) ≥ (0 : Int)))])
    none) := by kernel_rfl
theorem f46_spec (a0 : List ByteArray) (a1 : ByteArray) (hg : gLenW a0 = true) : ∃ keep rounds, ∀ {R : Type} (k : List Dt → Option R), evFn f46e keep rounds f46c [.ro, .ro] [false] true [.tmp 4] [4] [.d (.sl .str) a0, .d .str a1] k = k [.d .bool (isIn a0 a1)] := by
  refine ⟨f46k, 0, fun k => ?_⟩
  rw [f46_run]; simp only [hg, cond_true, idxS_isIn]

noncomputable def q46 : List Dt → Option (Bool × List Dt)
  | [.d (.sl .str) a0, .d .str a1] => some (((fun (x : List ByteArray) (_ : ByteArray) => gLenW x) a0 a1), [.d .bool (isIn a0 a1)])
  | _ => none
noncomputable def s46 : Gm.Spec := Gm.Spec.of [.ro, .ro] [false] true q46
theorem good46 : Gm.Good Try.prog (46, s46) := by
  have hl : ∀ x ∈ [(80, s80)], Gm.Good Try.prog x := List.forall_mem_cons.2 ⟨good80, List.forall_mem_nil _⟩
  refine ⟨⟨spec_ok (tab_ok.env hl) (tab.natl hl) Try.func46 (by kernel_rfl : Try.f46.body = some f46c) [4] (by kernel_rfl) ?_, _, Try.func46, by kernel_rfl, of_decide_eq_true (by kernel_rfl)⟩, Gm.Spec.of_natl _ _ _ _⟩
  intro ds outs h
  unfold q46 at h
  split at h
  · simp only [Option.some.injEq, Prod.mk.injEq] at h; obtain ⟨hg, h⟩ := h; cases h; exact f46_spec _ _ hg
  · cases h
/-! ### loop.example/g00465/spec.l25In -/
noncomputable def f56c : Code := (Try.f56.body).getD .skip
def f56k : Nat → Kp := kat [⟨[0, 1], [], [], []⟩, ⟨[0, 1, 5], [], [], []⟩, ⟨[0, 1, 5, 9], [], [], []⟩, ⟨[0, 1, 5], [], [], []⟩, ⟨[0, 1, 5, 17], [], [], []⟩, ⟨[4], [], [], []⟩, ⟨[4], [], [], []⟩]
noncomputable def f56e : Env := tab.env []
noncomputable def f56L0 {R : Type} (n : Nat) (x0 : Option R) (x1 : Int → Bool → Option R) (vs0 : List ByteArray) (vs1 : ByteArray) : Nat → Int → Option R
  | 0, _ => none
  | m + 1, vs5 =>
    (cond (decide (vs5 < (vs0.length : Int)))
      (cond ((decide ((0 : Int) ≤ vs5)) && (decide (vs5 < (vs0.length : Int))))
        (cond (sEq (atI (t := .str) vs0 (Int.toNat vs5)) vs1)
          (x0)
          (f56L0 n x0 x1 vs0 vs1 m (IntKind.wrap .i64 (vs5 + (1 : Int)))))
        none)
      (x1 vs5 (decide (vs5 < (vs0.length : Int)))))
theorem f56L0_b {R : Type} (n : Nat) (k' : Ex → St → Option R) (vs0 : List ByteArray) (vs1 : ByteArray) (vs5 : Int) : ev f56e f56k n (cAt [1,0,1,0,0] f56c) ⟨[(0, .c (.one (.ro .str vs0))), (1, .c (.one (.v (.string vs1)))), (5, .c (.one (.v (.int .i64 vs5))))], [], []⟩ k' =
    (cond (decide (vs5 < (vs0.length : Int)))
    (cond ((decide ((0 : Int) ≤ vs5)) && (decide (vs5 < (vs0.length : Int))))
      (cond (sEq (atI (t := .str) vs0 (Int.toNat vs5)) vs1)
        (k' .ret ⟨[(4, .c (.one (.v (.bool true))))], [], []⟩)
        (k' .normal ⟨[(0, .c (.one (.ro .str vs0))), (1, .c (.one (.v (.string vs1)))), (5, .c (.one (.v (.int .i64 (IntKind.wrap .i64 (vs5 + (1 : Int)))))))], [], []⟩))
      none)
    (k' (.exit 0) ⟨[(0, .c (.one (.ro .str vs0))), (1, .c (.one (.v (.string vs1)))), (5, .c (.one (.v (.int .i64 vs5)))), (9, .c (.one (.v (.bool (decide (vs5 < (vs0.length : Int)))))))], [], []⟩)) := by kernel_rfl
theorem f56L0_eq {R : Type} (n : Nat) (k' : Ex → St → Option R) (vs0 : List ByteArray) (vs1 : ByteArray) : ∀ (m : Nat) (vs5 : Int), iter (fun st k => ev f56e f56k n (cAt [1,0,1,0,0] f56c) st k) m ⟨[(0, .c (.one (.ro .str vs0))), (1, .c (.one (.v (.string vs1)))), (5, .c (.one (.v (.int .i64 vs5))))], [], []⟩ k' = f56L0 n (k' .ret ⟨[(4, .c (.one (.v (.bool true))))], [], []⟩) (fun (xvs5 : Int) (xvs9 : Bool) => k' (.exit 0) ⟨[(0, .c (.one (.ro .str vs0))), (1, .c (.one (.v (.string vs1)))), (5, .c (.one (.v (.int .i64 xvs5)))), (9, .c (.one (.v (.bool xvs9))))], [], []⟩) vs0 vs1 m vs5 := by
  intro m; induction m with
  | zero => intros; rfl
  | succ m ih =>
    intro vs5
    simp only [iter]
    rw [f56L0_b]
    simp only [ih, f56L0]

noncomputable def f56K0 {R : Type} (n : Nat) (k' : Ex → St → Option R) : Ex → St → Option R := (blockK 0 (seqK f56e f56k n (cAt [1,1] f56c) k'))
theorem f56K0_x0 {R : Type} (n : Nat) (k : List Dt → Option R) (a0 : List ByteArray) (a1 : ByteArray)  : f56K0 n (exitK f56e [.ro, .ro] [false] true [.tmp 4] [4] [.d (.sl .str) a0, .d .str a1] k) .ret ⟨[(4, .c (.one (.v (.bool true))))], [], []⟩ =
    (k [.d .bool true]) := by kernel_rfl
theorem f56K0_x1 {R : Type} (n : Nat) (k : List Dt → Option R) (a0 : List ByteArray) (a1 : ByteArray) (vs0 : List ByteArray) (vs1 : ByteArray) (xvs5 : Int) (xvs9 : Bool) : f56K0 n (exitK f56e [.ro, .ro] [false] true [.tmp 4] [4] [.d (.sl .str) a0, .d .str a1] k) (.exit 0) ⟨[(0, .c (.one (.ro .str vs0))), (1, .c (.one (.v (.string vs1)))), (5, .c (.one (.v (.int .i64 xvs5)))), (9, .c (.one (.v (.bool xvs9))))], [], []⟩ =
    (k [.d .bool false]) := by kernel_rfl

theorem f56_run {R : Type} (n : Nat) (k : List Dt → Option R) (a0 : List ByteArray) (a1 : ByteArray) : evFn f56e f56k n f56c [.ro, .ro] [false] true [.tmp 4] [4] [.d (.sl .str) a0, .d .str a1] k =
    (f56L0 n (k [.d .bool true]) (fun (xvs5 : Int) (xvs9 : Bool) =>
    (k [.d .bool false])) a0 a1 n (0 : Int)) := by
  refine Eq.trans (b := (iter (fun st k => ev f56e f56k n (cAt [1,0,1,0,0] f56c) st k) n ⟨[(0, .c (.one (.ro .str a0))), (1, .c (.one (.v (.string a1)))), (5, .c (.one (.v (.int .i64 (0 : Int)))))], [], []⟩ (f56K0 n (exitK f56e [.ro, .ro] [false] true [.tmp 4] [4] [.d (.sl .str) a0, .d .str a1] k)))) (by kernel_rfl) ?_
  simp only [f56L0_eq, f56K0_x0, f56K0_x1]
theorem f56_spec (a0 : List ByteArray) (a1 : ByteArray) (hg : gLenW a0 = true) : ∃ keep rounds, ∀ {R : Type} (k : List Dt → Option R), evFn f56e keep rounds f56c [.ro, .ro] [false] true [.tmp 4] [4] [.d (.sl .str) a0, .d .str a1] k = k [.d .bool (isIn a0 a1)] := by
  have hl := gLenW_le hg
  refine ⟨f56k, a0.length + 1, fun k => ?_⟩
  rw [f56_run]
  refine Eq.trans (loop_find (n := a0.length) (F := fun m i => f56L0 (a0.length + 1) _ _ a0 a1 m i) (p := fun j => sEq (atI (t := .str) a0 j) a1) (hit := fun i => k [.d .bool true]) (miss := k [.d .bool false])
    (fun m j hj => ?_) (fun m => by simp only [f56L0, idxE, cond_false]) a0.length 0 (a0.length + 1) (by omega) (by omega)) ?_
  · obtain ⟨h1, h0, hw, ht⟩ := idx hj (by omega)
    simp only [f56L0, h1, h0, hw, ht, Bool.and_self, cond_true]
  · show _ = k [.d .bool (isIn a0 a1)]
    unfold isIn
    rw [← firstN_any (t := .str)]
    cases firstN (fun j => sEq (atI (t := .str) a0 j) a1) 0 a0.length <;> rfl

noncomputable def q56 : List Dt → Option (Bool × List Dt)
  | [.d (.sl .str) a0, .d .str a1] => some (((fun (x : List ByteArray) (_ : ByteArray) => gLenW x) a0 a1), [.d .bool (isIn a0 a1)])
  | _ => none
noncomputable def s56 : Gm.Spec := Gm.Spec.of [.ro, .ro] [false] true q56
theorem good56 : Gm.Good Try.prog (56, s56) := by
  have hl : ∀ x ∈ ([] : List (Nat × Gm.Spec)), Gm.Good Try.prog x := fun _ h => by cases h
  refine ⟨⟨spec_ok (tab_ok.env hl) (tab.natl hl) Try.func56 (by kernel_rfl : Try.f56.body = some f56c) [4] (by kernel_rfl) ?_, _, Try.func56, by kernel_rfl, of_decide_eq_true (by kernel_rfl)⟩, Gm.Spec.of_natl _ _ _ _⟩
  intro ds outs h
  unfold q56 at h
  split at h
  · simp only [Option.some.injEq, Prod.mk.injEq] at h; obtain ⟨hg, h⟩ := h; cases h; exact f56_spec _ _ hg
  · cases h
/-! ### loop.example/g00465/spec.l27Names -/
noncomputable def f55c : Code := (Try.f55.body).getD .skip
def f55k : Nat → Kp := kat [⟨[0], [], [], []⟩, ⟨[0, 3], [], [], []⟩, ⟨[0, 3, 7], [], [], []⟩, ⟨[0, 3], [], [], []⟩, ⟨[0, 3, 25], [], [], []⟩, ⟨[2], [], [], []⟩, ⟨[2], [], [], []⟩]
noncomputable def f55e : Env := tab.env [(56, s56), (57, s57)]
noncomputable def f55L0 {R : Type} (n : Nat) (x0 : Option R) (x1 : Int → Bool → Option R) (vs0 : List ByteArray) : Nat → Int → Option R
  | 0, _ => none
  | m + 1, vs3 =>
    (cond (decide (vs3 < (vs0.length : Int)))
      (cond ((decide ((0 : Int) ≤ vs3)) && (decide (vs3 < (vs0.length : Int))))
        (cond (okStr (atI (t := .str) vs0 (Int.toNat vs3)))
          (cond (!(nameOk (atI (t := .str) vs0 (Int.toNat vs3))))
            (x0)
            (cond ((decide ((0 : Int) ≤ vs3)) && (decide (vs3 ≤ (vs0.length : Int))))
              (cond ((decide ((0 : Int) ≤ vs3)) && (decide (vs3 < (vs0.length : Int))))
                (cond ((fun (x : List ByteArray) (_ : ByteArray) => gLenW x) ((vs0.take (Int.toNat vs3)).drop 0) (atI (t := .str) vs0 (Int.toNat vs3)))
                  (cond (isIn ((vs0.take (Int.toNat vs3)).drop 0) (atI (t := .str) vs0 (Int.toNat vs3)))
                    (x0)
                    (f55L0 n x0 x1 vs0 m (IntKind.wrap .i64 (vs3 + (1 : Int)))))
                  none)
                none)
              none))
          none)
        none)
      (x1 vs3 (decide (vs3 < (vs0.length : Int)))))
theorem f55L0_b {R : Type} (n : Nat) (k' : Ex → St → Option R) (vs0 : List ByteArray) (vs3 : Int) : ev f55e f55k n (cAt [1,0,1,0,0] f55c) ⟨[(0, .c (.one (.ro .str vs0))), (3, .c (.one (.v (.int .i64 vs3))))], [], []⟩ k' =
    (cond (decide (vs3 < (vs0.length : Int)))
    (cond ((decide ((0 : Int) ≤ vs3)) && (decide (vs3 < (vs0.length : Int))))
      (cond (okStr (atI (t := .str) vs0 (Int.toNat vs3)))
        (cond (!(nameOk (atI (t := .str) vs0 (Int.toNat vs3))))
          (k' .ret ⟨[(2, .c (.one (.v (.bool false))))], [], []⟩)
          (cond ((decide ((0 : Int) ≤ vs3)) && (decide (vs3 ≤ (vs0.length : Int))))
            (cond ((decide ((0 : Int) ≤ vs3)) && (decide (vs3 < (vs0.length : Int))))
              (cond ((fun (x : List ByteArray) (_ : ByteArray) => gLenW x) ((vs0.take (Int.toNat vs3)).drop 0) (atI (t := .str) vs0 (Int.toNat vs3)))
                (cond (isIn ((vs0.take (Int.toNat vs3)).drop 0) (atI (t := .str) vs0 (Int.toNat vs3)))
                  (k' .ret ⟨[(2, .c (.one (.v (.bool false))))], [], []⟩)
                  (k' .normal ⟨[(0, .c (.one (.ro .str vs0))), (3, .c (.one (.v (.int .i64 (IntKind.wrap .i64 (vs3 + (1 : Int)))))))], [], []⟩))
                none)
              none)
            none))
        none)
      none)
    (k' (.exit 0) ⟨[(0, .c (.one (.ro .str vs0))), (3, .c (.one (.v (.int .i64 vs3)))), (7, .c (.one (.v (.bool (decide (vs3 < (vs0.length : Int)))))))], [], []⟩)) := by kernel_rfl
theorem f55L0_eq {R : Type} (n : Nat) (k' : Ex → St → Option R) (vs0 : List ByteArray) : ∀ (m : Nat) (vs3 : Int), iter (fun st k => ev f55e f55k n (cAt [1,0,1,0,0] f55c) st k) m ⟨[(0, .c (.one (.ro .str vs0))), (3, .c (.one (.v (.int .i64 vs3))))], [], []⟩ k' = f55L0 n (k' .ret ⟨[(2, .c (.one (.v (.bool false))))], [], []⟩) (fun (xvs3 : Int) (xvs7 : Bool) => k' (.exit 0) ⟨[(0, .c (.one (.ro .str vs0))), (3, .c (.one (.v (.int .i64 xvs3)))), (7, .c (.one (.v (.bool xvs7))))], [], []⟩) vs0 m vs3 := by
  intro m; induction m with
  | zero => intros; rfl
  | succ m ih =>
    intro vs3
    simp only [iter]
    rw [f55L0_b]
    simp only [ih, f55L0]

noncomputable def f55K0 {R : Type} (n : Nat) (k' : Ex → St → Option R) : Ex → St → Option R := (blockK 0 (seqK f55e f55k n (cAt [1,1] f55c) k'))
theorem f55K0_x0 {R : Type} (n : Nat) (k : List Dt → Option R) (a0 : List ByteArray)  : f55K0 n (exitK f55e [.ro] [false] true [.tmp 2] [4] [.d (.sl .str) a0] k) .ret ⟨[(2, .c (.one (.v (.bool false))))], [], []⟩ =
    (k [.d .bool false]) := by kernel_rfl
theorem f55K0_x1 {R : Type} (n : Nat) (k : List Dt → Option R) (a0 : List ByteArray) (vs0 : List ByteArray) (xvs3 : Int) (xvs7 : Bool) : f55K0 n (exitK f55e [.ro] [false] true [.tmp 2] [4] [.d (.sl .str) a0] k) (.exit 0) ⟨[(0, .c (.one (.ro .str vs0))), (3, .c (.one (.v (.int .i64 xvs3)))), (7, .c (.one (.v (.bool xvs7))))], [], []⟩ =
    (k [.d .bool (decide ((vs0.length : Int) ≤ (6 : Int)))]) := by kernel_rfl

theorem f55_run {R : Type} (n : Nat) (k : List Dt → Option R) (a0 : List ByteArray) : evFn f55e f55k n f55c [.ro] [false] true [.tmp 2] [4] [.d (.sl .str) a0] k =
    (f55L0 n (k [.d .bool false]) (fun (xvs3 : Int) (xvs7 : Bool) =>
    (k [.d .bool (decide ((a0.length : Int) ≤ (6 : Int)))])) a0 n (0 : Int)) := by
  refine Eq.trans (b := (iter (fun st k => ev f55e f55k n (cAt [1,0,1,0,0] f55c) st k) n ⟨[(0, .c (.one (.ro .str a0))), (3, .c (.one (.v (.int .i64 (0 : Int)))))], [], []⟩ (f55K0 n (exitK f55e [.ro] [false] true [.tmp 2] [4] [.d (.sl .str) a0] k)))) (by kernel_rfl) ?_
  simp only [f55L0_eq, f55K0_x0, f55K0_x1]
theorem f55_spec (a0 : List ByteArray) (hg : gNames a0 = true) : ∃ keep rounds, ∀ {R : Type} (k : List Dt → Option R), evFn f55e keep rounds f55c [.ro] [false] true [.tmp 2] [4] [.d (.sl .str) a0] k = k [.d .bool (namesOk a0)] := by
  simp only [gNames, okL, Bool.and_eq_true] at hg
  obtain ⟨hl, hs⟩ := hg
  have hl : a0.length ≤ 9223372036854775807 := bleN hl
  refine ⟨f55k, a0.length + 1, fun {R} k => ?_⟩
  rw [f55_run]
  refine Eq.trans (loop_idx (n := a0.length) (F := fun m i => f55L0 (a0.length + 1) _ _ a0 m i) (p := nameAt a0) (good := _) (bad := k [.d .bool false])
    (fun m j hj => ?_) (fun m => by simp only [f55L0, idxE, cond_false]; rfl) a0.length 0 (a0.length + 1) (by omega) (by omega)) ?_
  · obtain ⟨h1, h0, hw, ht⟩ := idx hj (by omega)
    have h3 : decide ((j : Int) ≤ (a0.length : Int)) = true := decide_eq_true (by omega)
    have h4 : gLenW (a0.take j) = true := gLenW_of (by rw [List.length_take]; omega)
    simp only [f55L0, h1, h0, hw, ht, h3, h4, List.drop_zero, okStr_at hs hj, Bool.and_self, cond_true]
    unfold nameAt
    cases nameOk (atI (t := .str) a0 j) <;> cases isIn (a0.take j) (atI (t := .str) a0 j) <;> rfl
  · unfold namesOk
    cases allN (nameAt a0) 0 a0.length <;> rfl

noncomputable def q55 : List Dt → Option (Bool × List Dt)
  | [.d (.sl .str) a0] => some ((gNames a0), [.d .bool (namesOk a0)])
  | _ => none
noncomputable def s55 : Gm.Spec := Gm.Spec.of [.ro] [false] true q55
theorem good55 : Gm.Good Try.prog (55, s55) := by
  have hl : ∀ x ∈ [(56, s56), (57, s57)], Gm.Good Try.prog x := List.forall_mem_cons.2 ⟨good56, List.forall_mem_cons.2 ⟨good57, List.forall_mem_nil _⟩⟩
  refine ⟨⟨spec_ok (tab_ok.env hl) (tab.natl hl) Try.func55 (by kernel_rfl : Try.f55.body = some f55c) [4] (by kernel_rfl) ?_, _, Try.func55, by kernel_rfl, of_decide_eq_true (by kernel_rfl)⟩, Gm.Spec.of_natl _ _ _ _⟩
  intro ds outs h
  unfold q55 at h
  split at h
  · simp only [Option.some.injEq, Prod.mk.injEq] at h; obtain ⟨hg, h⟩ := h; cases h; exact f55_spec _ hg
  · cases h
/-! ### loop.example/g00465/impl.namesOk -/
noncomputable def f49c : Code := (Try.f49.body).getD .skip
def f49k : Nat → Kp := kat [⟨[0], [], [], []⟩, ⟨[0, 5, 6, 7], [], [], []⟩, ⟨[0, 5, 6, 7, 8], [], [], []⟩, ⟨[0, 3, 4, 5, 6, 7], [], [], []⟩, ⟨[0, 5, 6, 7, 21], [], [], []⟩, ⟨[2], [], [], []⟩, ⟨[0, 5, 6, 7], [], [], []⟩, ⟨[2], [], [], []⟩]
noncomputable def f49e : Env := tab.env [(46, s46), (53, s53)]
noncomputable def f49L0 {R : Type} (n : Nat) (x0 : Option R) (x1 : Int → Bool → Option R) (vs0 : List ByteArray) (vs5 : List ByteArray) (vs6 : Int) : Nat → Int → Option R
  | 0, _ => none
  | m + 1, vs7 =>
    (cond (decide (vs7 < vs6))
      (cond ((decide ((0 : Int) ≤ vs7)) && (decide (vs7 < (vs5.length : Int))))
        (cond (okStr (atI (t := .str) vs5 (Int.toNat vs7)))
          (cond (!(nameOk (atI (t := .str) vs5 (Int.toNat vs7))))
            (x0)
            (cond ((decide ((0 : Int) ≤ vs7)) && (decide (vs7 ≤ (vs0.length : Int))))
              (cond ((fun (x : List ByteArray) (_ : ByteArray) => gLenW x) ((vs0.take (Int.toNat vs7)).drop 0) (atI (t := .str) vs5 (Int.toNat vs7)))
                (cond (isIn ((vs0.take (Int.toNat vs7)).drop 0) (atI (t := .str) vs5 (Int.toNat vs7)))
                  (x0)
                  (f49L0 n x0 x1 vs0 vs5 vs6 m (IntKind.wrap .i64 (vs7 + (1 : Int)))))
                none)
              none))
          none)
        none)
      (x1 vs7 (decide (vs7 < vs6))))
theorem f49L0_b {R : Type} (n : Nat) (k' : Ex → St → Option R) (vs0 : List ByteArray) (vs5 : List ByteArray) (vs6 : Int) (vs7 : Int) : ev f49e f49k n (cAt [1,0,1,0,0] f49c) ⟨[(0, .c (.one (.ro .str vs0))), (5, .c (.one (.ro .str vs5))), (6, .c (.one (.v (.int .i64 vs6)))), (7, .c (.one (.v (.int .i64 vs7))))], [], []⟩ k' =
    (cond (decide (vs7 < vs6))
    (cond ((decide ((0 : Int) ≤ vs7)) && (decide (vs7 < (vs5.length : Int))))
      (cond (okStr (atI (t := .str) vs5 (Int.toNat vs7)))
        (cond (!(nameOk (atI (t := .str) vs5 (Int.toNat vs7))))
          (k' .ret ⟨[(2, .c (.one (.v (.bool false))))], [], []⟩)
          (cond ((decide ((0 : Int) ≤ vs7)) && (decide (vs7 ≤ (vs0.length : Int))))
            (cond ((fun (x : List ByteArray) (_ : ByteArray) => gLenW x) ((vs0.take (Int.toNat vs7)).drop 0) (atI (t := .str) vs5 (Int.toNat vs7)))
              (cond (isIn ((vs0.take (Int.toNat vs7)).drop 0) (atI (t := .str) vs5 (Int.toNat vs7)))
                (k' .ret ⟨[(2, .c (.one (.v (.bool false))))], [], []⟩)
                (k' .normal ⟨[(0, .c (.one (.ro .str vs0))), (5, .c (.one (.ro .str vs5))), (6, .c (.one (.v (.int .i64 vs6)))), (7, .c (.one (.v (.int .i64 (IntKind.wrap .i64 (vs7 + (1 : Int)))))))], [], []⟩))
              none)
            none))
        none)
      none)
    (k' (.exit 0) ⟨[(0, .c (.one (.ro .str vs0))), (5, .c (.one (.ro .str vs5))), (6, .c (.one (.v (.int .i64 vs6)))), (7, .c (.one (.v (.int .i64 vs7)))), (8, .c (.one (.v (.bool (decide (vs7 < vs6))))))], [], []⟩)) := by kernel_rfl
theorem f49L0_eq {R : Type} (n : Nat) (k' : Ex → St → Option R) (vs0 : List ByteArray) (vs5 : List ByteArray) (vs6 : Int) : ∀ (m : Nat) (vs7 : Int), iter (fun st k => ev f49e f49k n (cAt [1,0,1,0,0] f49c) st k) m ⟨[(0, .c (.one (.ro .str vs0))), (5, .c (.one (.ro .str vs5))), (6, .c (.one (.v (.int .i64 vs6)))), (7, .c (.one (.v (.int .i64 vs7))))], [], []⟩ k' = f49L0 n (k' .ret ⟨[(2, .c (.one (.v (.bool false))))], [], []⟩) (fun (xvs7 : Int) (xvs8 : Bool) => k' (.exit 0) ⟨[(0, .c (.one (.ro .str vs0))), (5, .c (.one (.ro .str vs5))), (6, .c (.one (.v (.int .i64 vs6)))), (7, .c (.one (.v (.int .i64 xvs7)))), (8, .c (.one (.v (.bool xvs8))))], [], []⟩) vs0 vs5 vs6 m vs7 := by
  intro m; induction m with
  | zero => intros; rfl
  | succ m ih =>
    intro vs7
    simp only [iter]
    rw [f49L0_b]
    simp only [ih, f49L0]

noncomputable def f49K0 {R : Type} (n : Nat) (k' : Ex → St → Option R) : Ex → St → Option R := (blockK 0 (seqK f49e f49k n (cAt [1,1] f49c) k'))
theorem f49K0_x0 {R : Type} (n : Nat) (k : List Dt → Option R) (a0 : List ByteArray)  : f49K0 n (exitK f49e [.ro] [false] true [.tmp 2] [4] [.d (.sl .str) a0] k) .ret ⟨[(2, .c (.one (.v (.bool false))))], [], []⟩ =
    (k [.d .bool false]) := by kernel_rfl
theorem f49K0_x1 {R : Type} (n : Nat) (k : List Dt → Option R) (a0 : List ByteArray) (vs0 : List ByteArray) (vs5 : List ByteArray) (vs6 : Int) (xvs7 : Int) (xvs8 : Bool) : f49K0 n (exitK f49e [.ro] [false] true [.tmp 2] [4] [.d (.sl .str) a0] k) (.exit 0) ⟨[(0, .c (.one (.ro .str vs0))), (5, .c (.one (.ro .str vs5))), (6, .c (.one (.v (.int .i64 vs6)))), (7, .c (.one (.v (.int .i64 xvs7)))), (8, .c (.one (.v (.bool xvs8))))], [], []⟩ =
    (k [.d .bool (decide ((vs0.length : Int) ≤ (6 : Int)))]) := by kernel_rfl

theorem f49_run {R : Type} (n : Nat) (k : List Dt → Option R) (a0 : List ByteArray) : evFn f49e f49k n f49c [.ro] [false] true [.tmp 2] [4] [.d (.sl .str) a0] k =
    (f49L0 n (k [.d .bool false]) (fun (xvs7 : Int) (xvs8 : Bool) =>
    (k [.d .bool (decide ((a0.length : Int) ≤ (6 : Int)))])) a0 a0 (a0.length : Int) n (0 : Int)) := by
  refine Eq.trans (b := (iter (fun st k => ev f49e f49k n (cAt [1,0,1,0,0] f49c) st k) n ⟨[(0, .c (.one (.ro .str a0))), (5, .c (.one (.ro .str a0))), (6, .c (.one (.v (.int .i64 (a0.length : Int))))), (7, .c (.one (.v (.int .i64 (0 : Int)))))], [], []⟩ (f49K0 n (exitK f49e [.ro] [false] true [.tmp 2] [4] [.d (.sl .str) a0] k)))) (by kernel_rfl) ?_
  simp only [f49L0_eq, f49K0_x0, f49K0_x1]
theorem f49_spec (a0 : List ByteArray) (hg : gNames a0 = true) : ∃ keep rounds, ∀ {R : Type} (k : List Dt → Option R), evFn f49e keep rounds f49c [.ro] [false] true [.tmp 2] [4] [.d (.sl .str) a0] k = k [.d .bool (namesOk a0)] := by
  simp only [gNames, okL, Bool.and_eq_true] at hg
  obtain ⟨hl, hs⟩ := hg
  have hl : a0.length ≤ 9223372036854775807 := bleN hl
  refine ⟨f49k, a0.length + 1, fun {R} k => ?_⟩
  rw [f49_run]
  refine Eq.trans (loop_idx (n := a0.length) (F := fun m i => f49L0 (a0.length + 1) _ _ a0 a0 (a0.length : Int) m i) (p := nameAt a0) (good := _) (bad := k [.d .bool false])
    (fun m j hj => ?_) (fun m => by simp only [f49L0, idxE, cond_false]; rfl) a0.length 0 (a0.length + 1) (by omega) (by omega)) ?_
  · obtain ⟨h1, h0, hw, ht⟩ := idx hj (by omega)
    have h3 : decide ((j : Int) ≤ (a0.length : Int)) = true := decide_eq_true (by omega)
    have h4 : gLenW (a0.take j) = true := gLenW_of (by rw [List.length_take]; omega)
    simp only [f49L0, h1, h0, hw, ht, h3, h4, List.drop_zero, okStr_at hs hj, Bool.and_self, cond_true]
    unfold nameAt
    cases nameOk (atI (t := .str) a0 j) <;> cases isIn (a0.take j) (atI (t := .str) a0 j) <;> rfl
  · unfold namesOk
    cases allN (nameAt a0) 0 a0.length <;> rfl

noncomputable def q49 : List Dt → Option (Bool × List Dt)
  | [.d (.sl .str) a0] => some ((gNames a0), [.d .bool (namesOk a0)])
  | _ => none
noncomputable def s49 : Gm.Spec := Gm.Spec.of [.ro] [false] true q49
theorem good49 : Gm.Good Try.prog (49, s49) := by
  have hl : ∀ x ∈ [(46, s46), (53, s53)], Gm.Good Try.prog x := List.forall_mem_cons.2 ⟨good46, List.forall_mem_cons.2 ⟨good53, List.forall_mem_nil _⟩⟩
  refine ⟨⟨spec_ok (tab_ok.env hl) (tab.natl hl) Try.func49 (by kernel_rfl : Try.f49.body = some f49c) [4] (by kernel_rfl) ?_, _, Try.func49, by kernel_rfl, of_decide_eq_true (by kernel_rfl)⟩, Gm.Spec.of_natl _ _ _ _⟩
  intro ds outs h
  unfold q49 at h
  split at h
  · simp only [Option.some.injEq, Prod.mk.injEq] at h; obtain ⟨hg, h⟩ := h; cases h; exact f49_spec _ hg
  · cases h
end Go.Proofs.Ytmeeoilfnahihaa

/- x -/
namespace Go.Proofs.Ytmeeoilfnahihaa
open Go Go.Gm
/-! ### loop.example/g00465/spec.l27Fail -/
noncomputable def f38c : Code := (Try.f38.body).getD .skip
def f38k : Nat → Kp := kat [⟨[0, 1], [], [], []⟩, ⟨[0, 1, 5], [], [], []⟩, ⟨[0, 1, 5, 9], [], [], []⟩, ⟨[0, 1, 5], [], [], []⟩, ⟨[0, 1, 5, 18], [], [], []⟩, ⟨[4], [], [], []⟩, ⟨[4], [], [], []⟩]
noncomputable def f38e : Env := tab.env []
noncomputable def f38L0 {R : Type} (n : Nat) (x0 : Int → Option R) (x1 : Int → Bool → Option R) (vs0 : List FailT) (vs1 : ByteArray) : Nat → Int → Option R
  | 0, _ => none
  | m + 1, vs5 =>
    (cond (decide (vs5 < (vs0.length : Int)))
      (cond ((decide ((0 : Int) ≤ vs5)) && (decide (vs5 < (vs0.length : Int))))
        (cond (sEq (FailT.name (atI (t := .fail) vs0 (Int.toNat vs5))) vs1)
          (x0 vs5)
          (f38L0 n x0 x1 vs0 vs1 m (IntKind.wrap .i64 (vs5 + (1 : Int)))))
        none)
      (x1 vs5 (decide (vs5 < (vs0.length : Int)))))
theorem f38L0_b {R : Type} (n : Nat) (k' : Ex → St → Option R) (vs0 : List FailT) (vs1 : ByteArray) (vs5 : Int) : ev f38e f38k n (cAt [1,0,1,0,0] f38c) ⟨[(0, .c (.one (.ro .fail vs0))), (1, .c (.one (.v (.string vs1)))), (5, .c (.one (.v (.int .i64 vs5))))], [], []⟩ k' =
    (cond (decide (vs5 < (vs0.length : Int)))
    (cond ((decide ((0 : Int) ≤ vs5)) && (decide (vs5 < (vs0.length : Int))))
      (cond (sEq (FailT.name (atI (t := .fail) vs0 (Int.toNat vs5))) vs1)
        (k' .ret ⟨[(4, .c (.one (.v (.int .i64 vs5))))], [], []⟩)
        (k' .normal ⟨[(0, .c (.one (.ro .fail vs0))), (1, .c (.one (.v (.string vs1)))), (5, .c (.one (.v (.int .i64 (IntKind.wrap .i64 (vs5 + (1 : Int)))))))], [], []⟩))
      none)
    (k' (.exit 0) ⟨[(0, .c (.one (.ro .fail vs0))), (1, .c (.one (.v (.string vs1)))), (5, .c (.one (.v (.int .i64 vs5)))), (9, .c (.one (.v (.bool (decide (vs5 < (vs0.length : Int)))))))], [], []⟩)) := by kernel_rfl
theorem f38L0_eq {R : Type} (n : Nat) (k' : Ex → St → Option R) (vs0 : List FailT) (vs1 : ByteArray) : ∀ (m : Nat) (vs5 : Int), iter (fun st k => ev f38e f38k n (cAt [1,0,1,0,0] f38c) st k) m ⟨[(0, .c (.one (.ro .fail vs0))), (1, .c (.one (.v (.string vs1)))), (5, .c (.one (.v (.int .i64 vs5))))], [], []⟩ k' = f38L0 n (fun (xvs4 : Int) => k' .ret ⟨[(4, .c (.one (.v (.int .i64 xvs4))))], [], []⟩) (fun (xvs5 : Int) (xvs9 : Bool) => k' (.exit 0) ⟨[(0, .c (.one (.ro .fail vs0))), (1, .c (.one (.v (.string vs1)))), (5, .c (.one (.v (.int .i64 xvs5)))), (9, .c (.one (.v (.bool xvs9))))], [], []⟩) vs0 vs1 m vs5 := by
  intro m; induction m with
  | zero => intros; rfl
  | succ m ih =>
    intro vs5
    simp only [iter]
    rw [f38L0_b]
    simp only [ih, f38L0]

noncomputable def f38K0 {R : Type} (n : Nat) (k' : Ex → St → Option R) : Ex → St → Option R := (blockK 0 (seqK f38e f38k n (cAt [1,1] f38c) k'))
theorem f38K0_x0 {R : Type} (n : Nat) (k : List Dt → Option R) (a0 : List FailT) (a1 : ByteArray) (xvs4 : Int) : f38K0 n (exitK f38e [.ro, .ro] [false] true [.tmp 4] [3] [.d (.sl .fail) a0, .d .str a1] k) .ret ⟨[(4, .c (.one (.v (.int .i64 xvs4))))], [], []⟩ =
    (k [.d (.i .i64) xvs4]) := by kernel_rfl
theorem f38K0_x1 {R : Type} (n : Nat) (k : List Dt → Option R) (a0 : List FailT) (a1 : ByteArray) (vs0 : List FailT) (vs1 : ByteArray) (xvs5 : Int) (xvs9 : Bool) : f38K0 n (exitK f38e [.ro, .ro] [false] true [.tmp 4] [3] [.d (.sl .fail) a0, .d .str a1] k) (.exit 0) ⟨[(0, .c (.one (.ro .fail vs0))), (1, .c (.one (.v (.string vs1)))), (5, .c (.one (.v (.int .i64 xvs5)))), (9, .c (.one (.v (.bool xvs9))))], [], []⟩ =
    (k [.d (.i .i64) (-1 : Int)]) := by kernel_rfl

theorem f38_run {R : Type} (n : Nat) (k : List Dt → Option R) (a0 : List FailT) (a1 : ByteArray) : evFn f38e f38k n f38c [.ro, .ro] [false] true [.tmp 4] [3] [.d (.sl .fail) a0, .d .str a1] k =
    (f38L0 n (fun (xvs4 : Int) =>
    (k [.d (.i .i64) xvs4])) (fun (xvs5 : Int) (xvs9 : Bool) =>
    (k [.d (.i .i64) (-1 : Int)])) a0 a1 n (0 : Int)) := by
  refine Eq.trans (b := (iter (fun st k => ev f38e f38k n (cAt [1,0,1,0,0] f38c) st k) n ⟨[(0, .c (.one (.ro .fail a0))), (1, .c (.one (.v (.string a1)))), (5, .c (.one (.v (.int .i64 (0 : Int)))))], [], []⟩ (f38K0 n (exitK f38e [.ro, .ro] [false] true [.tmp 4] [3] [.d (.sl .fail) a0, .d .str a1] k)))) (by kernel_rfl) ?_
  simp only [f38L0_eq, f38K0_x0, f38K0_x1]
theorem f38_spec (a0 : List FailT) (a1 : ByteArray) (hg : smL sm_fail a0 = true) : ∃ keep rounds, ∀ {R : Type} (k : List Dt → Option R), evFn f38e keep rounds f38c [.ro, .ro] [false] true [.tmp 4] [3] [.d (.sl .fail) a0, .d .str a1] k = k [.d (.i .i64) (failAt a0 a1)] := by
  have hl : a0.length ≤ 1048576 := smL_len hg
  refine ⟨f38k, a0.length + 1, fun k => ?_⟩
  rw [f38_run]
  refine Eq.trans (loop_find (n := a0.length) (F := fun m i => f38L0 (a0.length + 1) _ _ a0 a1 m i) (p := fun j => failEq (atI (t := .fail) a0 j) a1) (hit := fun i => k [.d (.i .i64) i]) (miss := k [.d (.i .i64) (-1 : Int)])
    (fun m j hj => ?_) (fun m => by simp only [f38L0, idxE, cond_false]) a0.length 0 (a0.length + 1) (by omega) (by omega)) ?_
  · obtain ⟨h1, h0, hw, ht⟩ := idx hj (by omega)
    simp only [f38L0, h1, h0, hw, ht, Bool.and_self, cond_true]
    rfl
  · show _ = k [.d (.i .i64) (plc _)]
    unfold failO
    cases firstN (fun j => failEq (atI (t := .fail) a0 j) a1) 0 a0.length <;> rfl

noncomputable def q38 : List Dt → Option (Bool × List Dt)
  | [.d (.sl .fail) a0, .d .str a1] => some (((fun (x : List FailT) (_ : ByteArray) => smL sm_fail x) a0 a1), [.d (.i .i64) (failAt a0 a1)])
  | _ => none
noncomputable def s38 : Gm.Spec := Gm.Spec.of [.ro, .ro] [false] true q38
theorem good38 : Gm.Good Try.prog (38, s38) := by
  have hl : ∀ x ∈ ([] : List (Nat × Gm.Spec)), Gm.Good Try.prog x := fun _ h => by cases h
  refine ⟨⟨spec_ok (tab_ok.env hl) (tab.natl hl) Try.func38 (by kernel_rfl : Try.f38.body = some f38c) [3] (by kernel_rfl) ?_, _, Try.func38, by kernel_rfl, of_decide_eq_true (by kernel_rfl)⟩, Gm.Spec.of_natl _ _ _ _⟩
  intro ds outs h
  unfold q38 at h
  split at h
  · simp only [Option.some.injEq, Prod.mk.injEq] at h; obtain ⟨hg, h⟩ := h; cases h; exact f38_spec _ _ hg
  · cases h
/-! ### loop.example/g00465/impl.failAt$1 -/
noncomputable def f76c : Code := (Try.f76.body).getD .skip
def f76k : Nat → Kp := kat [⟨[1, 2], [], [], []⟩, ⟨[3], [], [], []⟩]
noncomputable def f76e : Env := tab.env []
theorem f76_run {R : Type} (n : Nat) (k : List Dt → Option R) (a0 : FailT) (a1 : ByteArray) : evFn f76e f76k n f76c [.ro, .pro] [false] true [.tmp 3] [4] [.d .fail a0, .d .str a1] k =
    (k [.d .bool (sEq (FailT.name a0) a1)]) := by kernel_rfl
theorem f76_spec (a0 : FailT) (a1 : ByteArray) : ∃ keep rounds, ∀ {R : Type} (k : List Dt → Option R), evFn f76e keep rounds f76c [.ro, .pro] [false] true [.tmp 3] [4] [.d .fail a0, .d .str a1] k = k [.d .bool (failEq a0 a1)] := by
  exact ⟨f76k, 0, fun k => f76_run 0 k a0 a1⟩

noncomputable def q76 : List Dt → Option (Bool × List Dt)
  | [.d .fail a0, .d .str a1] => some (true, [.d .bool (failEq a0 a1)])
  | _ => none
noncomputable def s76 : Gm.Spec := Gm.Spec.of [.ro, .pro] [false] true q76
theorem good76 : Gm.Good Try.prog (76, s76) := by
  have hl : ∀ x ∈ ([] : List (Nat × Gm.Spec)), Gm.Good Try.prog x := fun _ h => by cases h
  refine ⟨⟨spec_ok (tab_ok.env hl) (tab.natl hl) Try.func76 (by kernel_rfl : Try.f76.body = some f76c) [4] (by kernel_rfl) ?_, _, Try.func76, by kernel_rfl, of_decide_eq_true (by kernel_rfl)⟩, Gm.Spec.of_natl _ _ _ _⟩
  intro ds outs h
  unfold q76 at h
  split at h
  · cases h; exact f76_spec _ _
  · cases h
/-! ### slices.IndexFunc[[]loop.example/g00465/impl.Fail,loop.example/g00465/impl.Fail] -/
noncomputable def f75c : Code := (Try.f75.body).getD .skip
def f75k : Nat → Kp := kat [⟨[0, 1], [], [], []⟩, ⟨[0, 1, 7, 8], [], [], []⟩, ⟨[0, 1, 7, 8, 9], [], [], []⟩, ⟨[0, 1, 5, 7, 8], [], [], []⟩, ⟨[0, 1, 5, 7, 8, 16], [], [], []⟩, ⟨[4], [], [], []⟩, ⟨[0, 1, 7, 8], [], [], []⟩, ⟨[4], [], [], []⟩]
noncomputable def f75e : Env := tab.env [(76, s76)]
noncomputable def f75L0 {R : Type} (n : Nat) (x0 : Int → Option R) (x1 : Int → Bool → Option R) (vs0 : List FailT) (vs1c0 : ByteArray) (vs7 : Int) : Nat → Int → Option R
  | 0, _ => none
  | m + 1, vs8 =>
    (cond (decide (vs8 < vs7))
      (cond ((decide ((0 : Int) ≤ vs8)) && (decide (vs8 < (vs0.length : Int))))
        (cond (failEq (atI (t := .fail) vs0 (Int.toNat vs8)) vs1c0)
          (x0 vs8)
          (f75L0 n x0 x1 vs0 vs1c0 vs7 m (IntKind.wrap .i64 (vs8 + (1 : Int)))))
        none)
      (x1 vs8 (decide (vs8 < vs7))))
theorem f75L0_b {R : Type} (n : Nat) (k' : Ex → St → Option R) (vs0 : List FailT) (vs1c0 : ByteArray) (vs7 : Int) (vs8 : Int) : ev f75e f75k n (cAt [1,0,1,0,0] f75c) ⟨[(0, .c (.one (.ro .fail vs0))), (1, .c (.one (.cloR 76 [⟨.str, vs1c0⟩]))), (7, .c (.one (.v (.int .i64 vs7)))), (8, .c (.one (.v (.int .i64 vs8))))], [], []⟩ k' =
    (cond (decide (vs8 < vs7))
    (cond ((decide ((0 : Int) ≤ vs8)) && (decide (vs8 < (vs0.length : Int))))
      (cond (failEq (atI (t := .fail) vs0 (Int.toNat vs8)) vs1c0)
        (k' .ret ⟨[(4, .c (.one (.v (.int .i64 vs8))))], [], []⟩)
        (k' .normal ⟨[(0, .c (.one (.ro .fail vs0))), (1, .c (.one (.cloR 76 [⟨.str, vs1c0⟩]))), (7, .c (.one (.v (.int .i64 vs7)))), (8, .c (.one (.v (.int .i64 (IntKind.wrap .i64 (vs8 + (1 : Int)))))))], [], []⟩))
      none)
    (k' (.exit 0) ⟨[(0, .c (.one (.ro .fail vs0))), (1, .c (.one (.cloR 76 [⟨.str, vs1c0⟩]))), (7, .c (.one (.v (.int .i64 vs7)))), (8, .c (.one (.v (.int .i64 vs8)))), (9, .c (.one (.v (.bool (decide (vs8 < vs7))))))], [], []⟩)) := by kernel_rfl
theorem f75L0_eq {R : Type} (n : Nat) (k' : Ex → St → Option R) (vs0 : List FailT) (vs1c0 : ByteArray) (vs7 : Int) : ∀ (m : Nat) (vs8 : Int), iter (fun st k => ev f75e f75k n (cAt [1,0,1,0,0] f75c) st k) m ⟨[(0, .c (.one (.ro .fail vs0))), (1, .c (.one (.cloR 76 [⟨.str, vs1c0⟩]))), (7, .c (.one (.v (.int .i64 vs7)))), (8, .c (.one (.v (.int .i64 vs8))))], [], []⟩ k' = f75L0 n (fun (xvs4 : Int) => k' .ret ⟨[(4, .c (.one (.v (.int .i64 xvs4))))], [], []⟩) (fun (xvs8 : Int) (xvs9 : Bool) => k' (.exit 0) ⟨[(0, .c (.one (.ro .fail vs0))), (1, .c (.one (.cloR 76 [⟨.str, vs1c0⟩]))), (7, .c (.one (.v (.int .i64 vs7)))), (8, .c (.one (.v (.int .i64 xvs8)))), (9, .c (.one (.v (.bool xvs9))))], [], []⟩) vs0 vs1c0 vs7 m vs8 := by
  intro m; induction m with
  | zero => intros; rfl
  | succ m ih =>
    intro vs8
    simp only [iter]
    rw [f75L0_b]
    simp only [ih, f75L0]

noncomputable def f75K0 {R : Type} (n : Nat) (k' : Ex → St → Option R) : Ex → St → Option R := (blockK 0 (seqK f75e f75k n (cAt [1,1] f75c) k'))
theorem f75K0_x0 {R : Type} (n : Nat) (k : List Dt → Option R) (a0 : List FailT) (a1 : ByteArray) (xvs4 : Int) : f75K0 n (exitK f75e [.ro, .fn] [false] true [.tmp 4] [3] [.d (.sl .fail) a0, .clo 76 [⟨.str, a1⟩]] k) .ret ⟨[(4, .c (.one (.v (.int .i64 xvs4))))], [], []⟩ =
    (k [.d (.i .i64) xvs4]) := by kernel_rfl
theorem f75K0_x1 {R : Type} (n : Nat) (k : List Dt → Option R) (a0 : List FailT) (a1 : ByteArray) (vs0 : List FailT) (vs1c0 : ByteArray) (vs7 : Int) (xvs8 : Int) (xvs9 : Bool) : f75K0 n (exitK f75e [.ro, .fn] [false] true [.tmp 4] [3] [.d (.sl .fail) a0, .clo 76 [⟨.str, a1⟩]] k) (.exit 0) ⟨[(0, .c (.one (.ro .fail vs0))), (1, .c (.one (.cloR 76 [⟨.str, vs1c0⟩]))), (7, .c (.one (.v (.int .i64 vs7)))), (8, .c (.one (.v (.int .i64 xvs8)))), (9, .c (.one (.v (.bool xvs9))))], [], []⟩ =
    (k [.d (.i .i64) (-1 : Int)]) := by kernel_rfl

theorem f75_run {R : Type} (n : Nat) (k : List Dt → Option R) (a0 : List FailT) (a1 : ByteArray) : evFn f75e f75k n f75c [.ro, .fn] [false] true [.tmp 4] [3] [.d (.sl .fail) a0, .clo 76 [⟨.str, a1⟩]] k =
    (f75L0 n (fun (xvs4 : Int) =>
    (k [.d (.i .i64) xvs4])) (fun (xvs8 : Int) (xvs9 : Bool) =>
    (k [.d (.i .i64) (-1 : Int)])) a0 a1 (a0.length : Int) n (0 : Int)) := by
  refine Eq.trans (b := (iter (fun st k => ev f75e f75k n (cAt [1,0,1,0,0] f75c) st k) n ⟨[(0, .c (.one (.ro .fail a0))), (1, .c (.one (.cloR 76 [⟨.str, a1⟩]))), (7, .c (.one (.v (.int .i64 (a0.length : Int))))), (8, .c (.one (.v (.int .i64 (0 : Int)))))], [], []⟩ (f75K0 n (exitK f75e [.ro, .fn] [false] true [.tmp 4] [3] [.d (.sl .fail) a0, .clo 76 [⟨.str, a1⟩]] k)))) (by kernel_rfl) ?_
  simp only [f75L0_eq, f75K0_x0, f75K0_x1]
theorem f75_spec (a0 : List FailT) (a1 : ByteArray) (hg : smL sm_fail a0 = true) : ∃ keep rounds, ∀ {R : Type} (k : List Dt → Option R), evFn f75e keep rounds f75c [.ro, .fn] [false] true [.tmp 4] [3] [.d (.sl .fail) a0, .clo 76 [⟨.str, a1⟩]] k = k [.d (.i .i64) (failAt a0 a1)] := by
  have hl : a0.length ≤ 1048576 := smL_len hg
  refine ⟨f75k, a0.length + 1, fun k => ?_⟩
  rw [f75_run]
  refine Eq.trans (loop_find (n := a0.length) (F := fun m i => f75L0 (a0.length + 1) _ _ a0 a1 (a0.length : Int) m i) (p := fun j => failEq (atI (t := .fail) a0 j) a1) (hit := fun i => k [.d (.i .i64) i]) (miss := k [.d (.i .i64) (-1 : Int)])
    (fun m j hj => ?_) (fun m => by simp only [f75L0, idxE, cond_false]) a0.length 0 (a0.length + 1) (by omega) (by omega)) ?_
  · obtain ⟨h1, h0, hw, ht⟩ := idx hj (by omega)
    simp only [f75L0, h1, h0, hw, ht, Bool.and_self, cond_true]
  · show _ = k [.d (.i .i64) (plc _)]
    unfold failO
    cases firstN (fun j => failEq (atI (t := .fail) a0 j) a1) 0 a0.length <;> rfl

noncomputable def q75 : List Dt → Option (Bool × List Dt)
  | [.d (.sl .fail) a0, .clo 76 [⟨.str, a1⟩]] => some (((fun (x : List FailT) (_ : ByteArray) => smL sm_fail x) a0 a1), [.d (.i .i64) (failAt a0 a1)])
  | _ => none
noncomputable def s75 : Gm.Spec := Gm.Spec.of [.ro, .fn] [false] true q75
theorem good75 : Gm.Good Try.prog (75, s75) := by
  have hl : ∀ x ∈ [(76, s76)], Gm.Good Try.prog x := List.forall_mem_cons.2 ⟨good76, List.forall_mem_nil _⟩
  refine ⟨⟨spec_ok (tab_ok.env hl) (tab.natl hl) Try.func75 (by kernel_rfl : Try.f75.body = some f75c) [3] (by kernel_rfl) ?_, _, Try.func75, by kernel_rfl, of_decide_eq_true (by kernel_rfl)⟩, Gm.Spec.of_natl _ _ _ _⟩
  intro ds outs h
  unfold q75 at h
  split at h
  · simp only [Option.some.injEq, Prod.mk.injEq] at h; obtain ⟨hg, h⟩ := h; cases h; exact f75_spec _ _ hg
  · cases h
/-! ### loop.example/g00465/impl.failAt -/
noncomputable def f42c : Code := (Try.f42.body).getD .skip
def f42k : Nat → Kp := kat [⟨[0, 3], [], [], []⟩, ⟨[4], [], [], []⟩]
noncomputable def f42e : Env := tab.env [(75, s75), (76, s76)]
theorem f42_run {R : Type} (n : Nat) (k : List Dt → Option R) (a0 : List FailT) (a1 : ByteArray) : evFn f42e f42k n f42c [.ro, .ro] [false] true [.tmp 4] [3] [.d (.sl .fail) a0, .d .str a1] k =
    (cond ((fun (x : List FailT) (_ : ByteArray) => smL sm_fail x) a0 a1)
    (k [.d (.i .i64) (failAt a0 a1)])
    none) := by kernel_rfl
theorem f42_spec (a0 : List FailT) (a1 : ByteArray) (hg : smL sm_fail a0 = true) : ∃ keep rounds, ∀ {R : Type} (k : List Dt → Option R), evFn f42e keep rounds f42c [.ro, .ro] [false] true [.tmp 4] [3] [.d (.sl .fail) a0, .d .str a1] k = k [.d (.i .i64) (failAt a0 a1)] := by
  refine ⟨f42k, 0, fun k => ?_⟩
  rw [f42_run]; simp only [hg, cond_true]

noncomputable def q42 : List Dt → Option (Bool × List Dt)
  | [.d (.sl .fail) a0, .d .str a1] => some (((fun (x : List FailT) (_ : ByteArray) => smL sm_fail x) a0 a1), [.d (.i .i64) (failAt a0 a1)])
  | _ => none
noncomputable def s42 : Gm.Spec := Gm.Spec.of [.ro, .ro] [false] true q42
theorem good42 : Gm.Good Try.prog (42, s42) := by
  have hl : ∀ x ∈ [(75, s75), (76, s76)], Gm.Good Try.prog x := List.forall_mem_cons.2 ⟨good75, List.forall_mem_cons.2 ⟨good76, List.forall_mem_nil _⟩⟩
  refine ⟨⟨spec_ok (tab_ok.env hl) (tab.natl hl) Try.func42 (by kernel_rfl : Try.f42.body = some f42c) [3] (by kernel_rfl) ?_, _, Try.func42, by kernel_rfl, of_decide_eq_true (by kernel_rfl)⟩, Gm.Spec.of_natl _ _ _ _⟩
  intro ds outs h
  unfold q42 at h
  split at h
  · simp only [Option.some.injEq, Prod.mk.injEq] at h; obtain ⟨hg, h⟩ := h; cases h; exact f42_spec _ _ hg
  · cases h
/-! ### loop.example/g00465/spec.l1Min -/
noncomputable def f39c : Code := (Try.f39.body).getD .skip
def f39k : Nat → Kp := kat [⟨[0, 1], [], [], []⟩, ⟨[0, 1, 7], [], [], []⟩, ⟨[4], [], [], []⟩, ⟨[4], [], [], []⟩]
noncomputable def f39e : Env := tab.env []
theorem f39_run {R : Type} (n : Nat) (k : List Dt → Option R) (a0 : Int) (a1 : Int) : evFn f39e f39k n f39c [.ro, .ro] [false] true [.tmp 4] [3] [.d (.i .i64) a0, .d (.i .i64) a1] k =
    (cond (decide (a0 < a1))
    (k [.d (.i .i64) a0])
    (k [.d (.i .i64) a1])) := by kernel_rfl
theorem f39_spec (a0 : Int) (a1 : Int) : ∃ keep rounds, ∀ {R : Type} (k : List Dt → Option R), evFn f39e keep rounds f39c [.ro, .ro] [false] true [.tmp 4] [3] [.d (.i .i64) a0, .d (.i .i64) a1] k = k [.d (.i .i64) (minI a0 a1)] := by
  refine ⟨f39k, 0, fun k => ?_⟩
  rw [f39_run]; unfold minI
  by_cases h : a0 < a1
  · rw [if_pos h]; simp only [h, decide_true, cond_true]
  · rw [if_neg h]; simp only [h, decide_false, cond_false]

noncomputable def q39 : List Dt → Option (Bool × List Dt)
  | [.d (.i .i64) a0, .d (.i .i64) a1] => some (true, [.d (.i .i64) (minI a0 a1)])
  | _ => none
noncomputable def s39 : Gm.Spec := Gm.Spec.of [.ro, .ro] [false] true q39
theorem good39 : Gm.Good Try.prog (39, s39) := by
  have hl : ∀ x ∈ ([] : List (Nat × Gm.Spec)), Gm.Good Try.prog x := fun _ h => by cases h
  refine ⟨⟨spec_ok (tab_ok.env hl) (tab.natl hl) Try.func39 (by kernel_rfl : Try.f39.body = some f39c) [3] (by kernel_rfl) ?_, _, Try.func39, by kernel_rfl, of_decide_eq_true (by kernel_rfl)⟩, Gm.Spec.of_natl _ _ _ _⟩
  intro ds outs h
  unfold q39 at h
  split at h
  · cases h; exact f39_spec _ _
  · cases h
/-! ### loop.example/g00465/spec.WaitOf -/
noncomputable def f12c : Code := (Try.f12.body).getD .skip
def f12k : Nat → Kp := kat [⟨[1, 2], [], [], []⟩, ⟨[2, 5], [], [], []⟩, ⟨[2, 5, 13], [], [], []⟩, ⟨[4], [], [], []⟩, ⟨[2, 5, 6], [], [], []⟩, ⟨[2, 5, 6, 7], [], [], []⟩, ⟨[2, 5, 6, 7, 22], [], [], []⟩, ⟨[2, 5, 6, 7], [], [], []⟩, ⟨[2, 5, 6, 7], [], [], []⟩, ⟨[4], [], [], []⟩]
noncomputable def f12e : Env := tab.env [(38, s38), (39, s39)]
noncomputable def f12L0 {R : Type} (n : Nat) (x0 : Int → Int → Bool → Option R) (vs5 : Int) (vb2_0 : List ByteArray) (vb2_1 : List ByteArray) (vb2_2 : List ByteArray) (vb2_3 : List FailT) : Nat → Int → Int → Option R
  | 0, _, _ => none
  | m + 1, vs6, vs7 =>
    (cond ((decide ((0 : Int) ≤ vs5)) && (decide (vs5 < (vb2_3.length : Int))))
      (cond (decide (vs7 < (minI (FailT.n (atI (t := .fail) vb2_3 (Int.toNat vs5))) (20 : Int))))
        (f12L0 n x0 vs5 vb2_0 vb2_1 vb2_2 vb2_3 m (IntKind.wrap .i64 (vs6 * (2 : Int))) (IntKind.wrap .i64 (vs7 + (1 : Int))))
        (x0 vs6 vs7 (decide (vs7 < (minI (FailT.n (atI (t := .fail) vb2_3 (Int.toNat vs5))) (20 : Int))))))
      none)
theorem f12L0_b {R : Type} (n : Nat) (k' : Ex → St → Option R) (vs5 : Int) (vs6 : Int) (vs7 : Int) (vb2_0 : List ByteArray) (vb2_1 : List ByteArray) (vb2_2 : List ByteArray) (vb2_3 : List FailT) : ev f12e f12k n (cAt [1,1,1,1,0,1,0,0] f12c) ⟨[(2, .c (.one (.pt 2 0))), (5, .c (.one (.v (.int .i64 vs5)))), (6, .c (.one (.v (.int .i64 vs6)))), (7, .c (.one (.v (.int .i64 vs7))))], [(2, ⟨.work, [.ro .str vb2_0, .ro .str vb2_1, .ro .str vb2_2, .ro .fail vb2_3]⟩)], []⟩ k' =
    (cond ((decide ((0 : Int) ≤ vs5)) && (decide (vs5 < (vb2_3.length : Int))))
    (cond (decide (vs7 < (minI (FailT.n (atI (t := .fail) vb2_3 (Int.toNat vs5))) (20 : Int))))
      (k' .normal ⟨[(2, .c (.one (.pt 2 0))), (5, .c (.one (.v (.int .i64 vs5)))), (6, .c (.one (.v (.int .i64 (IntKind.wrap .i64 (vs6 * (2 : Int))))))), (7, .c (.one (.v (.int .i64 (IntKind.wrap .i64 (vs7 + (1 : Int)))))))], [(2, ⟨.work, [.ro .str vb2_0, .ro .str vb2_1, .ro .str vb2_2, .ro .fail vb2_3]⟩)], []⟩)
      (k' (.exit 0) ⟨[(2, .c (.one (.pt 2 0))), (5, .c (.one (.v (.int .i64 vs5)))), (6, .c (.one (.v (.int .i64 vs6)))), (7, .c (.one (.v (.int .i64 vs7)))), (22, .c (.one (.v (.bool (decide (vs7 < (minI (FailT.n (atI (t := .fail) vb2_3 (Int.toNat vs5))) (20 : Int))))))))], [(2, ⟨.work, [.ro .str vb2_0, .ro .str vb2_1, .ro .str vb2_2, .ro .fail vb2_3]⟩)], []⟩))
    none) := by kernel_rfl
theorem f12L0_eq {R : Type} (n : Nat) (k' : Ex → St → Option R) (vs5 : Int) (vb2_0 : List ByteArray) (vb2_1 : List ByteArray) (vb2_2 : List ByteArray) (vb2_3 : List FailT) : ∀ (m : Nat) (vs6 : Int) (vs7 : Int), iter (fun st k => ev f12e f12k n (cAt [1,1,1,1,0,1,0,0] f12c) st k) m ⟨[(2, .c (.one (.pt 2 0))), (5, .c (.one (.v (.int .i64 vs5)))), (6, .c (.one (.v (.int .i64 vs6)))), (7, .c (.one (.v (.int .i64 vs7))))], [(2, ⟨.work, [.ro .str vb2_0, .ro .str vb2_1, .ro .str vb2_2, .ro .fail vb2_3]⟩)], []⟩ k' = f12L0 n (fun (xvs6 : Int) (xvs7 : Int) (xvs22 : Bool) => k' (.exit 0) ⟨[(2, .c (.one (.pt 2 0))), (5, .c (.one (.v (.int .i64 vs5)))), (6, .c (.one (.v (.int .i64 xvs6)))), (7, .c (.one (.v (.int .i64 xvs7)))), (22, .c (.one (.v (.bool xvs22))))], [(2, ⟨.work, [.ro .str vb2_0, .ro .str vb2_1, .ro .str vb2_2, .ro .fail vb2_3]⟩)], []⟩) vs5 vb2_0 vb2_1 vb2_2 vb2_3 m vs6 vs7 := by
  intro m; induction m with
  | zero => intros; rfl
  | succ m ih =>
    intro vs6 vs7
    simp only [iter]
    rw [f12L0_b]
    simp only [ih, f12L0]

noncomputable def f12K0 {R : Type} (n : Nat) (k' : Ex → St → Option R) : Ex → St → Option R := (blockK 0 (seqK f12e f12k n (cAt [1,1,1,1,1] f12c) k'))
theorem f12K0_x0 {R : Type} (n : Nat) (k : List Dt → Option R) (a0 : WorkT) (a1 : ByteArray) (vs5 : Int) (vb2_0 : List ByteArray) (vb2_1 : List ByteArray) (vb2_2 : List ByteArray) (vb2_3 : List FailT) (xvs6 : Int) (xvs7 : Int) (xvs22 : Bool) : f12K0 n (exitK f12e [.ro, .ro] [false] true [.tmp 4] [3] [.d .work a0, .d .str a1] k) (.exit 0) ⟨[(2, .c (.one (.pt 2 0))), (5, .c (.one (.v (.int .i64 vs5)))), (6, .c (.one (.v (.int .i64 xvs6)))), (7, .c (.one (.v (.int .i64 xvs7)))), (22, .c (.one (.v (.bool xvs22))))], [(2, ⟨.work, [.ro .str vb2_0, .ro .str vb2_1, .ro .str vb2_2, .ro .fail vb2_3]⟩)], []⟩ =
    (k [.d (.i .i64) (minI xvs6 (300 : Int))]) := by kernel_rfl

theorem f12_run {R : Type} (n : Nat) (k : List Dt → Option R) (a0 : WorkT) (a1 : ByteArray) : evFn f12e f12k n f12c [.ro, .ro] [false] true [.tmp 4] [3] [.d .work a0, .d .str a1] k =
    (cond ((fun (x : List FailT) (_ : ByteArray) => smL sm_fail x) (WorkT.fails a0) a1)
    (cond (decide ((failAt (WorkT.fails a0) a1) < (0 : Int)))
      (k [.d (.i .i64) (0 : Int)])
      (f12L0 n (fun (xvs6 : Int) (xvs7 : Int) (xvs22 : Bool) =>
        (k [.d (.i .i64) (minI xvs6 (300 : Int))])) (failAt (WorkT.fails a0) a1) (WorkT.list a0) (WorkT.busy a0) (WorkT.again a0) (WorkT.fails a0) n (1 : Int) (1 : Int)))
    none) := by
  refine Eq.trans (b := (cond ((fun (x : List FailT) (_ : ByteArray) => smL sm_fail x) (WorkT.fails a0) a1)
    (cond (decide ((failAt (WorkT.fails a0) a1) < (0 : Int)))
      (k [.d (.i .i64) (0 : Int)])
      (iter (fun st k => ev f12e f12k n (cAt [1,1,1,1,0,1,0,0] f12c) st k) n ⟨[(2, .c (.one (.pt 2 0))), (5, .c (.one (.v (.int .i64 (failAt (WorkT.fails a0) a1))))), (6, .c (.one (.v (.int .i64 (1 : Int))))), (7, .c (.one (.v (.int .i64 (1 : Int)))))], [(2, ⟨.work, [.ro .str (WorkT.list a0), .ro .str (WorkT.busy a0), .ro .str (WorkT.again a0), .ro .fail (WorkT.fails a0)]⟩)], []⟩ (f12K0 n (exitK f12e [.ro, .ro] [false] true [.tmp 4] [3] [.d .work a0, .d .str a1] k))))
    none)) (by kernel_rfl) ?_
  simp only [f12L0_eq, f12K0_x0]
theorem f12_spec (a0 : WorkT) (a1 : ByteArray) (hg : sm_work a0 = true) : ∃ keep rounds, ∀ {R : Type} (k : List Dt → Option R), evFn f12e keep rounds f12c [.ro, .ro] [false] true [.tmp 4] [3] [.d .work a0, .d .str a1] k = k [.d (.i .i64) (waitOf a0 a1)] := by
  simp only [sm_work, Bool.and_eq_true] at hg
  obtain ⟨_, _, _, hf⟩ := hg
  refine ⟨f12k, 30, fun k => ?_⟩
  rw [f12_run]
  simp only [hf, cond_true]
  unfold waitOf
  cases ho : failO a0.fails a1 with
  | none =>
    have hfa : failAt a0.fails a1 = -1 := by unfold failAt; rw [ho]; rfl
    rw [hfa]; rfl
  | some i =>
    have hfa : failAt a0.fails a1 = (i : Int) := by unfold failAt; rw [ho]; rfl
    rw [hfa]
    have hi := failO_lt ho
    have hl := smL_len hf
    obtain ⟨h1, h0, _, ht⟩ := idx hi (by omega)
    have hd : decide ((i : Int) < (0 : Int)) = false := by simp
    simp only [Option.elim_some, hd, cond_false]
    generalize hN : (atI (t := .fail) a0.fails i).n = N
    have key : ∀ (d m : Nat) (j : Int), 1 ≤ j → j + d = lowN (capN N) → d < m → f12L0 30 (fun (xvs6 : Int) (xvs7 : Int) (xvs22 : Bool) => (k [.d (.i .i64) (minI xvs6 (300 : Int))])) (i : Int) a0.list a0.busy a0.again a0.fails m (2 ^ Int.toNat (j - 1)) j = k [.d (.i .i64) (waitN N)] := by
      have hlow : 1 ≤ lowN (capN N) ∧ lowN (capN N) ≤ 20 := by unfold lowN capN; split <;> split <;> omega
      have hmin : minI N 20 = capN N := by unfold minI capN; split <;> split <;> omega
      intro d
      induction d with
      | zero =>
        intro m j hj he hm
        obtain ⟨m, rfl⟩ : ∃ m', m = m' + 1 := ⟨m - 1, by omega⟩
        have hc : decide (j < minI N 20) = false := by
          rw [hmin]; simp only [decide_eq_false_iff_not]
          unfold lowN at he; split at he <;> omega
        simp only [f12L0, h1, h0, ht, hN, hc, Bool.and_self, cond_true, cond_false]
        unfold waitN
        rw [show lowN (capN N) = j by omega]
      | succ d ih =>
        intro m j hj he hm
        obtain ⟨m, rfl⟩ : ∃ m', m = m' + 1 := ⟨m - 1, by omega⟩
        have hc : decide (j < minI N 20) = true := by
          rw [hmin]; simp only [decide_eq_true_eq]
          unfold lowN at he; split at he <;> omega
        have hp := pow_le (e := Int.toNat (j - 1)) (by omega)
        simp only [f12L0, h1, h0, ht, hN, hc, Bool.and_self, cond_true]
        rw [wrap_id (by omega) (by omega), wrap_id (x := j + 1) (by omega) (by omega)]
        rw [show (2 : Int) ^ Int.toNat (j - 1) * 2 = 2 ^ Int.toNat (j + 1 - 1) by
          rw [show Int.toNat (j + 1 - 1) = Int.toNat (j - 1) + 1 by omega, Int.pow_succ]]
        exact ih m (j + 1) (by omega) (by omega) (by omega)
    have hlow : 1 ≤ lowN (capN N) ∧ lowN (capN N) ≤ 20 := by unfold lowN capN; split <;> split <;> omega
    exact key (Int.toNat (lowN (capN N) - 1)) 30 1 (by omega) (by omega) (by omega)

noncomputable def q12 : List Dt → Option (Bool × List Dt)
  | [.d .work a0, .d .str a1] => some (((fun (x : WorkT) (_ : ByteArray) => sm_work x) a0 a1), [.d (.i .i64) (waitOf a0 a1)])
  | _ => none
noncomputable def s12 : Gm.Spec := Gm.Spec.of [.ro, .ro] [false] true q12
theorem good12 : Gm.Good Try.prog (12, s12) := by
  have hl : ∀ x ∈ [(38, s38), (39, s39)], Gm.Good Try.prog x := List.forall_mem_cons.2 ⟨good38, List.forall_mem_cons.2 ⟨good39, List.forall_mem_nil _⟩⟩
  refine ⟨⟨spec_ok (tab_ok.env hl) (tab.natl hl) Try.func12 (by kernel_rfl : Try.f12.body = some f12c) [3] (by kernel_rfl) ?_, _, Try.func12, by kernel_rfl, of_decide_eq_true (by kernel_rfl)⟩, Gm.Spec.of_natl _ _ _ _⟩
  intro ds outs h
  unfold q12 at h
  split at h
  · simp only [Option.some.injEq, Prod.mk.injEq] at h; obtain ⟨hg, h⟩ := h; cases h; exact f12_spec _ _ hg
  · cases h
/-! ### loop.example/g00465/impl.WaitOf -/
noncomputable def f14c : Code := (Try.f14.body).getD .skip
def f14k : Nat → Kp := kat [⟨[1, 2], [], [], []⟩, ⟨[2, 5], [], [], []⟩, ⟨[2, 5, 11], [], [], []⟩, ⟨[4], [], [], []⟩, ⟨[4], [], [], []⟩]
noncomputable def f14e : Env := tab.env [(42, s42)]
theorem f14_run {R : Type} (n : Nat) (k : List Dt → Option R) (a0 : WorkT) (a1 : ByteArray) : evFn f14e f14k n f14c [.ro, .ro] [false] true [.tmp 4] [3] [.d .work a0, .d .str a1] k =
    (cond ((fun (x : List FailT) (_ : ByteArray) => smL sm_fail x) (WorkT.fails a0) a1)
    (cond (decide ((failAt (WorkT.fails a0) a1) < (0 : Int)))
      (k [.d (.i .i64) (0 : Int)])
      (cond ((decide ((0 : Int) ≤ (failAt (WorkT.fails a0) a1))) && (decide ((failAt (WorkT.fails a0) a1) < ((WorkT.fails a0).length : Int))))
        (cond (decide ((IntKind.wrap .i64 ((if (if (20 : Int) < (FailT.n (atI (t := .fail) (WorkT.fails a0) (Int.toNat (failAt (WorkT.fails a0) a1)))) then (20 : Int) else (FailT.n (atI (t := .fail) (WorkT.fails a0) (Int.toNat (failAt (WorkT.fails a0) a1))))) > (1 : Int) then (if (20 : Int) < (FailT.n (atI (t := .fail) (WorkT.fails a0) (Int.toNat (failAt (WorkT.fails a0) a1)))) then (20 : Int) else (FailT.n (atI (t := .fail) (WorkT.fails a0) (Int.toNat (failAt (WorkT.fails a0) a1))))) else (1 : Int)) - (1 : Int))) < (0 : Int)))
          none
          (k [.d (.i .i64) (if (300 : Int) < (IntKind.wrap .i64 ((1 : Int) * 2 ^ (min (Int.toNat (IntKind.wrap .i64 ((if (if (20 : Int) < (FailT.n (atI (t := .fail) (WorkT.fails a0) (Int.toNat (failAt (WorkT.fails a0) a1)))) then (20 : Int) else (FailT.n (atI (t := .fail) (WorkT.fails a0) (Int.toNat (failAt (WorkT.fails a0) a1))))) > (1 : Int) then (if (20 : Int) < (FailT.n (atI (t := .fail) (WorkT.fails a0) (Int.toNat (failAt (WorkT.fails a0) a1)))) then (20 : Int) else (FailT.n (atI (t := .fail) (WorkT.fails a0) (Int.toNat (failAt (WorkT.fails a0) a1))))) else (1 : Int)) - (1 : Int)))) (IntKind.bits .i64)))) then (300 : Int) else (IntKind.wrap .i64 ((1 : Int) * 2 ^ (min (Int.toNat (IntKind.wrap .i64 ((if (if (20 : Int) < (FailT.n (atI (t := .fail) (WorkT.fails a0) (Int.toNat (failAt (WorkT.fails a0) a1)))) then (20 : Int) else (FailT.n (atI (t := .fail) (WorkT.fails a0) (Int.toNat (failAt (WorkT.fails a0) a1))))) > (1 : Int) then (if (20 : Int) < (FailT.n (atI (t := .fail) (WorkT.fails a0) (Int.toNat (failAt (WorkT.fails a0) a1)))) then (20 : Int) else (FailT.n (atI (t := .fail) (WorkT.fails a0) (Int.toNat (failAt (WorkT.fails a0) a1))))) else (1 : Int)) - (1 : Int)))) (IntKind.bits .i64)))))]))
        none))
    none) := by kernel_rfl
theorem f14_spec (a0 : WorkT) (a1 : ByteArray) (hg : sm_work a0 = true) : ∃ keep rounds, ∀ {R : Type} (k : List Dt → Option R), evFn f14e keep rounds f14c [.ro, .ro] [false] true [.tmp 4] [3] [.d .work a0, .d .str a1] k = k [.d (.i .i64) (waitOf a0 a1)] := by
  simp only [sm_work, Bool.and_eq_true] at hg
  obtain ⟨_, _, _, hf⟩ := hg
  refine ⟨f14k, 30, fun k => ?_⟩
  rw [f14_run]
  simp only [hf, cond_true]
  unfold waitOf
  cases ho : failO a0.fails a1 with
  | none =>
    have hfa : failAt a0.fails a1 = -1 := by unfold failAt; rw [ho]; rfl
    rw [hfa]; rfl
  | some i =>
    have hfa : failAt a0.fails a1 = (i : Int) := by unfold failAt; rw [ho]; rfl
    rw [hfa]
    have hi := failO_lt ho
    have hl := smL_len hf
    obtain ⟨h1, h0, _, ht⟩ := idx hi (by omega)
    have hd : decide ((i : Int) < (0 : Int)) = false := by simp
    simp only [Option.elim_some, hd, cond_false, h1, h0, ht, Bool.and_self, cond_true]
    generalize hN : (atI (t := .fail) a0.fails i).n = N
    have e1 : (if (20 : Int) < N then (20 : Int) else N) = capN N := rfl
    rw [e1]
    have e2 : (if capN N > (1 : Int) then capN N else (1 : Int)) = lowN (capN N) := rfl
    rw [e2]
    have hlow : 1 ≤ lowN (capN N) ∧ lowN (capN N) ≤ 20 := by unfold lowN capN; split <;> split <;> omega
    rw [wrap_id (x := lowN (capN N) - 1) (by omega) (by omega)]
    have hd2 : decide (lowN (capN N) - 1 < (0 : Int)) = false := by simp; omega
    simp only [hd2, cond_false]
    have hb : min (Int.toNat (lowN (capN N) - 1)) (IntKind.bits .i64) = Int.toNat (lowN (capN N) - 1) := by
      have : IntKind.bits .i64 = 64 := rfl
      omega
    have hp := pow_le (e := Int.toNat (lowN (capN N) - 1)) (by omega)
    rw [hb, Int.one_mul, wrap_id (x := 2 ^ Int.toNat (lowN (capN N) - 1)) (by omega) (by omega)]
    unfold waitN minI
    generalize (2 : Int) ^ Int.toNat (lowN (capN N) - 1) = z
    rw [show (if (300 : Int) < z then (300 : Int) else z) = (if z < 300 then z else 300) by split <;> split <;> omega]

noncomputable def q14 : List Dt → Option (Bool × List Dt)
  | [.d .work a0, .d .str a1] => some (((fun (x : WorkT) (_ : ByteArray) => sm_work x) a0 a1), [.d (.i .i64) (waitOf a0 a1)])
  | _ => none
noncomputable def s14 : Gm.Spec := Gm.Spec.of [.ro, .ro] [false] true q14
theorem good14 : Gm.Good Try.prog (14, s14) := by
  have hl : ∀ x ∈ [(42, s42)], Gm.Good Try.prog x := List.forall_mem_cons.2 ⟨good42, List.forall_mem_nil _⟩
  refine ⟨⟨spec_ok (tab_ok.env hl) (tab.natl hl) Try.func14 (by kernel_rfl : Try.f14.body = some f14c) [3] (by kernel_rfl) ?_, _, Try.func14, by kernel_rfl, of_decide_eq_true (by kernel_rfl)⟩, Gm.Spec.of_natl _ _ _ _⟩
  intro ds outs h
  unfold q14 at h
  split at h
  · simp only [Option.some.injEq, Prod.mk.injEq] at h; obtain ⟨hg, h⟩ := h; cases h; exact f14_spec _ _ hg
  · cases h
end Go.Proofs.Ytmeeoilfnahihaa

/- x -/
namespace Go.Proofs.Ytmeeoilfnahihaa
open Go Go.Gm
/-! ### loop.example/g00465/impl.without$1 -/
noncomputable def f82c : Code := (Try.f82.body).getD .skip
def f82k : Nat → Kp := kat [⟨[0, 1], [], [], []⟩, ⟨[3], [], [], []⟩]
noncomputable def f82e : Env := tab.env []
theorem f82_run {R : Type} (n : Nat) (k : List Dt → Option R) (a0 : ByteArray) (a1 : ByteArray) : evFn f82e f82k n f82c [.ro, .pro] [false] true [.tmp 3] [4] [.d .str a0, .d .str a1] k =
    (k [.d .bool (sEq a0 a1)]) := by kernel_rfl
theorem f82_spec (a0 : ByteArray) (a1 : ByteArray) : ∃ keep rounds, ∀ {R : Type} (k : List Dt → Option R), evFn f82e keep rounds f82c [.ro, .pro] [false] true [.tmp 3] [4] [.d .str a0, .d .str a1] k = k [.d .bool (strIs a0 a1)] := by
  exact ⟨f82k, 0, fun k => f82_run 0 k a0 a1⟩

noncomputable def q82 : List Dt → Option (Bool × List Dt)
  | [.d .str a0, .d .str a1] => some (true, [.d .bool (strIs a0 a1)])
  | _ => none
noncomputable def s82 : Gm.Spec := Gm.Spec.of [.ro, .pro] [false] true q82
theorem good82 : Gm.Good Try.prog (82, s82) := by
  have hl : ∀ x ∈ ([] : List (Nat × Gm.Spec)), Gm.Good Try.prog x := fun _ h => by cases h
  refine ⟨⟨spec_ok (tab_ok.env hl) (tab.natl hl) Try.func82 (by kernel_rfl : Try.f82.body = some f82c) [4] (by kernel_rfl) ?_, _, Try.func82, by kernel_rfl, of_decide_eq_true (by kernel_rfl)⟩, Gm.Spec.of_natl _ _ _ _⟩
  intro ds outs h
  unfold q82 at h
  split at h
  · cases h; exact f82_spec _ _
  · cases h
/-! ### loop.example/g00465/impl.WorkQOk$1 -/
noncomputable def f51c : Code := (Try.f51.body).getD .skip
def f51k : Nat → Kp := kat [⟨[0, 1], [], [], []⟩, ⟨[3], [], [], []⟩]
noncomputable def f51e : Env := tab.env [(46, s46)]
theorem f51_run {R : Type} (n : Nat) (k : List Dt → Option R) (a0 : ByteArray) (a1 : WorkT) : evFn f51e f51k n f51c [.ro, .pro] [false] true [.tmp 3] [4] [.d .str a0, .d .work a1] k =
    (cond ((fun (x : List ByteArray) (_ : ByteArray) => gLenW x) (WorkT.busy a1) a0)
    (k [.d .bool (isIn (WorkT.busy a1) a0)])
    none) := by kernel_rfl
theorem f51_spec (a0 : ByteArray) (a1 : WorkT) (hg : gLenW a1.busy = true) : ∃ keep rounds, ∀ {R : Type} (k : List Dt → Option R), evFn f51e keep rounds f51c [.ro, .pro] [false] true [.tmp 3] [4] [.d .str a0, .d .work a1] k = k [.d .bool (inBusy a0 a1)] := by
  refine ⟨f51k, 0, fun k => ?_⟩
  rw [f51_run]; simp only [hg, cond_true]; rfl

noncomputable def q51 : List Dt → Option (Bool × List Dt)
  | [.d .str a0, .d .work a1] => some (((fun (_ : ByteArray) (w : WorkT) => gLenW w.busy) a0 a1), [.d .bool (inBusy a0 a1)])
  | _ => none
noncomputable def s51 : Gm.Spec := Gm.Spec.of [.ro, .pro] [false] true q51
theorem good51 : Gm.Good Try.prog (51, s51) := by
  have hl : ∀ x ∈ [(46, s46)], Gm.Good Try.prog x := List.forall_mem_cons.2 ⟨good46, List.forall_mem_nil _⟩
  refine ⟨⟨spec_ok (tab_ok.env hl) (tab.natl hl) Try.func51 (by kernel_rfl : Try.f51.body = some f51c) [4] (by kernel_rfl) ?_, _, Try.func51, by kernel_rfl, of_decide_eq_true (by kernel_rfl)⟩, Gm.Spec.of_natl _ _ _ _⟩
  intro ds outs h
  unfold q51 at h
  split at h
  · simp only [Option.some.injEq, Prod.mk.injEq] at h; obtain ⟨hg, h⟩ := h; cases h; exact f51_spec _ _ hg
  · cases h
/-! ### loop.example/g00465/impl.WorkQOk$2 -/
noncomputable def f52c : Code := (Try.f52.body).getD .skip
def f52k : Nat → Kp := kat [⟨[0, 1], [], [], []⟩, ⟨[3], [], [], []⟩]
noncomputable def f52e : Env := tab.env [(46, s46)]
theorem f52_run {R : Type} (n : Nat) (k : List Dt → Option R) (a0 : ByteArray) (a1 : WorkT) : evFn f52e f52k n f52c [.ro, .pro] [false] true [.tmp 3] [4] [.d .str a0, .d .work a1] k =
    (cond ((fun (x : List ByteArray) (_ : ByteArray) => gLenW x) (WorkT.busy a1) a0)
    (k [.d .bool (!(isIn (WorkT.busy a1) a0))])
    none) := by kernel_rfl
theorem f52_spec (a0 : ByteArray) (a1 : WorkT) (hg : gLenW a1.busy = true) : ∃ keep rounds, ∀ {R : Type} (k : List Dt → Option R), evFn f52e keep rounds f52c [.ro, .pro] [false] true [.tmp 3] [4] [.d .str a0, .d .work a1] k = k [.d .bool (notBusy a0 a1)] := by
  refine ⟨f52k, 0, fun k => ?_⟩
  rw [f52_run]; simp only [hg, cond_true]; rfl

noncomputable def q52 : List Dt → Option (Bool × List Dt)
  | [.d .str a0, .d .work a1] => some (((fun (_ : ByteArray) (w : WorkT) => gLenW w.busy) a0 a1), [.d .bool (notBusy a0 a1)])
  | _ => none
noncomputable def s52 : Gm.Spec := Gm.Spec.of [.ro, .pro] [false] true q52
theorem good52 : Gm.Good Try.prog (52, s52) := by
  have hl : ∀ x ∈ [(46, s46)], Gm.Good Try.prog x := List.forall_mem_cons.2 ⟨good46, List.forall_mem_nil _⟩
  refine ⟨⟨spec_ok (tab_ok.env hl) (tab.natl hl) Try.func52 (by kernel_rfl : Try.f52.body = some f52c) [4] (by kernel_rfl) ?_, _, Try.func52, by kernel_rfl, of_decide_eq_true (by kernel_rfl)⟩, Gm.Spec.of_natl _ _ _ _⟩
  intro ds outs h
  unfold q52 at h
  split at h
  · simp only [Option.some.injEq, Prod.mk.injEq] at h; obtain ⟨hg, h⟩ := h; cases h; exact f52_spec _ _ hg
  · cases h
/-! ### slices.IndexFunc[[]string,string] -/
noncomputable def f83ac : Code := (Try.f83.body).getD .skip
def f83ak : Nat → Kp := kat [⟨[0, 1], [], [], []⟩, ⟨[0, 1, 7, 8], [], [], []⟩, ⟨[0, 1, 7, 8, 9], [], [], []⟩, ⟨[0, 1, 5, 7, 8], [], [], []⟩, ⟨[0, 1, 5, 7, 8, 16], [], [], []⟩, ⟨[4], [], [], []⟩, ⟨[0, 1, 7, 8], [], [], []⟩, ⟨[4], [], [], []⟩]
noncomputable def f83ae : Env := tab.env [(51, s51)]
noncomputable def f83aL0 {R : Type} (n : Nat) (x0 : Int → Option R) (x1 : Int → Bool → Option R) (vs0 : List ByteArray) (vs1c0 : WorkT) (vs7 : Int) : Nat → Int → Option R
  | 0, _ => none
  | m + 1, vs8 =>
    (cond (decide (vs8 < vs7))
      (cond ((decide ((0 : Int) ≤ vs8)) && (decide (vs8 < (vs0.length : Int))))
        (cond ((fun (_ : ByteArray) (w : WorkT) => gLenW w.busy) (atI (t := .str) vs0 (Int.toNat vs8)) vs1c0)
          (cond (inBusy (atI (t := .str) vs0 (Int.toNat vs8)) vs1c0)
            (x0 vs8)
            (f83aL0 n x0 x1 vs0 vs1c0 vs7 m (IntKind.wrap .i64 (vs8 + (1 : Int)))))
          none)
        none)
      (x1 vs8 (decide (vs8 < vs7))))
theorem f83aL0_b {R : Type} (n : Nat) (k' : Ex → St → Option R) (vs0 : List ByteArray) (vs1c0 : WorkT) (vs7 : Int) (vs8 : Int) : ev f83ae f83ak n (cAt [1,0,1,0,0] f83ac) ⟨[(0, .c (.one (.ro .str vs0))), (1, .c (.one (.cloR 51 [⟨.work, vs1c0⟩]))), (7, .c (.one (.v (.int .i64 vs7)))), (8, .c (.one (.v (.int .i64 vs8))))], [], []⟩ k' =
    (cond (decide (vs8 < vs7))
    (cond ((decide ((0 : Int) ≤ vs8)) && (decide (vs8 < (vs0.length : Int))))
      (cond ((fun (_ : ByteArray) (w : WorkT) => gLenW w.busy) (atI (t := .str) vs0 (Int.toNat vs8)) vs1c0)
        (cond (inBusy (atI (t := .str) vs0 (Int.toNat vs8)) vs1c0)
          (k' .ret ⟨[(4, .c (.one (.v (.int .i64 vs8))))], [], []⟩)
          (k' .normal ⟨[(0, .c (.one (.ro .str vs0))), (1, .c (.one (.cloR 51 [⟨.work, vs1c0⟩]))), (7, .c (.one (.v (.int .i64 vs7)))), (8, .c (.one (.v (.int .i64 (IntKind.wrap .i64 (vs8 + (1 : Int)))))))], [], []⟩))
        none)
      none)
    (k' (.exit 0) ⟨[(0, .c (.one (.ro .str vs0))), (1, .c (.one (.cloR 51 [⟨.work, vs1c0⟩]))), (7, .c (.one (.v (.int .i64 vs7)))), (8, .c (.one (.v (.int .i64 vs8)))), (9, .c (.one (.v (.bool (decide (vs8 < vs7))))))], [], []⟩)) := by kernel_rfl
theorem f83aL0_eq {R : Type} (n : Nat) (k' : Ex → St → Option R) (vs0 : List ByteArray) (vs1c0 : WorkT) (vs7 : Int) : ∀ (m : Nat) (vs8 : Int), iter (fun st k => ev f83ae f83ak n (cAt [1,0,1,0,0] f83ac) st k) m ⟨[(0, .c (.one (.ro .str vs0))), (1, .c (.one (.cloR 51 [⟨.work, vs1c0⟩]))), (7, .c (.one (.v (.int .i64 vs7)))), (8, .c (.one (.v (.int .i64 vs8))))], [], []⟩ k' = f83aL0 n (fun (xvs4 : Int) => k' .ret ⟨[(4, .c (.one (.v (.int .i64 xvs4))))], [], []⟩) (fun (xvs8 : Int) (xvs9 : Bool) => k' (.exit 0) ⟨[(0, .c (.one (.ro .str vs0))), (1, .c (.one (.cloR 51 [⟨.work, vs1c0⟩]))), (7, .c (.one (.v (.int .i64 vs7)))), (8, .c (.one (.v (.int .i64 xvs8)))), (9, .c (.one (.v (.bool xvs9))))], [], []⟩) vs0 vs1c0 vs7 m vs8 := by
  intro m; induction m with
  | zero => intros; rfl
  | succ m ih =>
    intro vs8
    simp only [iter]
    rw [f83aL0_b]
    simp only [ih, f83aL0]

noncomputable def f83aK0 {R : Type} (n : Nat) (k' : Ex → St → Option R) : Ex → St → Option R := (blockK 0 (seqK f83ae f83ak n (cAt [1,1] f83ac) k'))
theorem f83aK0_x0 {R : Type} (n : Nat) (k : List Dt → Option R) (a0 : List ByteArray) (a1 : WorkT) (xvs4 : Int) : f83aK0 n (exitK f83ae [.ro, .fn] [false] true [.tmp 4] [3] [.d (.sl .str) a0, .clo 51 [⟨.work, a1⟩]] k) .ret ⟨[(4, .c (.one (.v (.int .i64 xvs4))))], [], []⟩ =
    (k [.d (.i .i64) xvs4]) := by kernel_rfl
theorem f83aK0_x1 {R : Type} (n : Nat) (k : List Dt → Option R) (a0 : List ByteArray) (a1 : WorkT) (vs0 : List ByteArray) (vs1c0 : WorkT) (vs7 : Int) (xvs8 : Int) (xvs9 : Bool) : f83aK0 n (exitK f83ae [.ro, .fn] [false] true [.tmp 4] [3] [.d (.sl .str) a0, .clo 51 [⟨.work, a1⟩]] k) (.exit 0) ⟨[(0, .c (.one (.ro .str vs0))), (1, .c (.one (.cloR 51 [⟨.work, vs1c0⟩]))), (7, .c (.one (.v (.int .i64 vs7)))), (8, .c (.one (.v (.int .i64 xvs8)))), (9, .c (.one (.v (.bool xvs9))))], [], []⟩ =
    (k [.d (.i .i64) (-1 : Int)]) := by kernel_rfl

theorem f83a_run {R : Type} (n : Nat) (k : List Dt → Option R) (a0 : List ByteArray) (a1 : WorkT) : evFn f83ae f83ak n f83ac [.ro, .fn] [false] true [.tmp 4] [3] [.d (.sl .str) a0, .clo 51 [⟨.work, a1⟩]] k =
    (f83aL0 n (fun (xvs4 : Int) =>
    (k [.d (.i .i64) xvs4])) (fun (xvs8 : Int) (xvs9 : Bool) =>
    (k [.d (.i .i64) (-1 : Int)])) a0 a1 (a0.length : Int) n (0 : Int)) := by
  refine Eq.trans (b := (iter (fun st k => ev f83ae f83ak n (cAt [1,0,1,0,0] f83ac) st k) n ⟨[(0, .c (.one (.ro .str a0))), (1, .c (.one (.cloR 51 [⟨.work, a1⟩]))), (7, .c (.one (.v (.int .i64 (a0.length : Int))))), (8, .c (.one (.v (.int .i64 (0 : Int)))))], [], []⟩ (f83aK0 n (exitK f83ae [.ro, .fn] [false] true [.tmp 4] [3] [.d (.sl .str) a0, .clo 51 [⟨.work, a1⟩]] k)))) (by kernel_rfl) ?_
  simp only [f83aL0_eq, f83aK0_x0, f83aK0_x1]
theorem f83a_spec (a0 : List ByteArray) (a1 : WorkT) (hg : gBusy a0 a1 = true) : ∃ keep rounds, ∀ {R : Type} (k : List Dt → Option R), evFn f83ae keep rounds f83ac [.ro, .fn] [false] true [.tmp 4] [3] [.d (.sl .str) a0, .clo 51 [⟨.work, a1⟩]] k = k [.d (.i .i64) (inBusyAt a0 a1)] := by
  simp only [gBusy, Bool.and_eq_true] at hg
  obtain ⟨hn, hb⟩ := hg
  have hl := gLenW_le hn
  refine ⟨f83ak, a0.length + 1, fun k => ?_⟩
  rw [f83a_run]
  refine Eq.trans (loop_find (n := a0.length) (F := fun m i => f83aL0 (a0.length + 1) _ _ a0 a1 (a0.length : Int) m i) (p := fun j => inBusy (atI (t := .str) a0 j) a1) (hit := fun i => k [.d (.i .i64) i]) (miss := k [.d (.i .i64) (-1 : Int)])
    (fun m j hj => ?_) (fun m => by simp only [f83aL0, idxE, cond_false]) a0.length 0 (a0.length + 1) (by omega) (by omega)) ?_
  · obtain ⟨h1, h0, hw, ht⟩ := idx hj (by omega)
    simp only [f83aL0, h1, h0, hw, ht, Bool.and_self, cond_true, hb]
  · show _ = k [.d (.i .i64) (plc _)]
    cases firstN (fun j => inBusy (atI (t := .str) a0 j) a1) 0 a0.length <;> rfl

noncomputable def q83a : List Dt → Option (Bool × List Dt)
  | [.d (.sl .str) a0, .clo 51 [⟨.work, a1⟩]] => some ((gBusy a0 a1), [.d (.i .i64) (inBusyAt a0 a1)])
  | _ => none
noncomputable def s83a : Gm.Spec := Gm.Spec.of [.ro, .fn] [false] true q83a
theorem good83a : Gm.Good Try.prog (83, s83a) := by
  have hl : ∀ x ∈ [(51, s51)], Gm.Good Try.prog x := List.forall_mem_cons.2 ⟨good51, List.forall_mem_nil _⟩
  refine ⟨⟨spec_ok (tab_ok.env hl) (tab.natl hl) Try.func83 (by kernel_rfl : Try.f83.body = some f83ac) [3] (by kernel_rfl) ?_, _, Try.func83, by kernel_rfl, of_decide_eq_true (by kernel_rfl)⟩, Gm.Spec.of_natl _ _ _ _⟩
  intro ds outs h
  unfold q83a at h
  split at h
  · simp only [Option.some.injEq, Prod.mk.injEq] at h; obtain ⟨hg, h⟩ := h; cases h; exact f83a_spec _ _ hg
  · cases h

/-! ### slices.IndexFunc[[]string,string] -/
noncomputable def f83bc : Code := (Try.f83.body).getD .skip
def f83bk : Nat → Kp := kat [⟨[0, 1], [], [], []⟩, ⟨[0, 1, 7, 8], [], [], []⟩, ⟨[0, 1, 7, 8, 9], [], [], []⟩, ⟨[0, 1, 5, 7, 8], [], [], []⟩, ⟨[0, 1, 5, 7, 8, 16], [], [], []⟩, ⟨[4], [], [], []⟩, ⟨[0, 1, 7, 8], [], [], []⟩, ⟨[4], [], [], []⟩]
noncomputable def f83be : Env := tab.env [(52, s52)]
noncomputable def f83bL0 {R : Type} (n : Nat) (x0 : Int → Option R) (x1 : Int → Bool → Option R) (vs0 : List ByteArray) (vs1c0 : WorkT) (vs7 : Int) : Nat → Int → Option R
  | 0, _ => none
  | m + 1, vs8 =>
    (cond (decide (vs8 < vs7))
      (cond ((decide ((0 : Int) ≤ vs8)) && (decide (vs8 < (vs0.length : Int))))
        (cond ((fun (_ : ByteArray) (w : WorkT) => gLenW w.busy) (atI (t := .str) vs0 (Int.toNat vs8)) vs1c0)
          (cond (notBusy (atI (t := .str) vs0 (Int.toNat vs8)) vs1c0)
            (x0 vs8)
            (f83bL0 n x0 x1 vs0 vs1c0 vs7 m (IntKind.wrap .i64 (vs8 + (1 : Int)))))
          none)
        none)
      (x1 vs8 (decide (vs8 < vs7))))
theorem f83bL0_b {R : Type} (n : Nat) (k' : Ex → St → Option R) (vs0 : List ByteArray) (vs1c0 : WorkT) (vs7 : Int) (vs8 : Int) : ev f83be f83bk n (cAt [1,0,1,0,0] f83bc) ⟨[(0, .c (.one (.ro .str vs0))), (1, .c (.one (.cloR 52 [⟨.work, vs1c0⟩]))), (7, .c (.one (.v (.int .i64 vs7)))), (8, .c (.one (.v (.int .i64 vs8))))], [], []⟩ k' =
    (cond (decide (vs8 < vs7))
    (cond ((decide ((0 : Int) ≤ vs8)) && (decide (vs8 < (vs0.length : Int))))
      (cond ((fun (_ : ByteArray) (w : WorkT) => gLenW w.busy) (atI (t := .str) vs0 (Int.toNat vs8)) vs1c0)
        (cond (notBusy (atI (t := .str) vs0 (Int.toNat vs8)) vs1c0)
          (k' .ret ⟨[(4, .c (.one (.v (.int .i64 vs8))))], [], []⟩)
          (k' .normal ⟨[(0, .c (.one (.ro .str vs0))), (1, .c (.one (.cloR 52 [⟨.work, vs1c0⟩]))), (7, .c (.one (.v (.int .i64 vs7)))), (8, .c (.one (.v (.int .i64 (IntKind.wrap .i64 (vs8 + (1 : Int)))))))], [], []⟩))
        none)
      none)
    (k' (.exit 0) ⟨[(0, .c (.one (.ro .str vs0))), (1, .c (.one (.cloR 52 [⟨.work, vs1c0⟩]))), (7, .c (.one (.v (.int .i64 vs7)))), (8, .c (.one (.v (.int .i64 vs8)))), (9, .c (.one (.v (.bool (decide (vs8 < vs7))))))], [], []⟩)) := by kernel_rfl
theorem f83bL0_eq {R : Type} (n : Nat) (k' : Ex → St → Option R) (vs0 : List ByteArray) (vs1c0 : WorkT) (vs7 : Int) : ∀ (m : Nat) (vs8 : Int), iter (fun st k => ev f83be f83bk n (cAt [1,0,1,0,0] f83bc) st k) m ⟨[(0, .c (.one (.ro .str vs0))), (1, .c (.one (.cloR 52 [⟨.work, vs1c0⟩]))), (7, .c (.one (.v (.int .i64 vs7)))), (8, .c (.one (.v (.int .i64 vs8))))], [], []⟩ k' = f83bL0 n (fun (xvs4 : Int) => k' .ret ⟨[(4, .c (.one (.v (.int .i64 xvs4))))], [], []⟩) (fun (xvs8 : Int) (xvs9 : Bool) => k' (.exit 0) ⟨[(0, .c (.one (.ro .str vs0))), (1, .c (.one (.cloR 52 [⟨.work, vs1c0⟩]))), (7, .c (.one (.v (.int .i64 vs7)))), (8, .c (.one (.v (.int .i64 xvs8)))), (9, .c (.one (.v (.bool xvs9))))], [], []⟩) vs0 vs1c0 vs7 m vs8 := by
  intro m; induction m with
  | zero => intros; rfl
  | succ m ih =>
    intro vs8
    simp only [iter]
    rw [f83bL0_b]
    simp only [ih, f83bL0]

noncomputable def f83bK0 {R : Type} (n : Nat) (k' : Ex → St → Option R) : Ex → St → Option R := (blockK 0 (seqK f83be f83bk n (cAt [1,1] f83bc) k'))
theorem f83bK0_x0 {R : Type} (n : Nat) (k : List Dt → Option R) (a0 : List ByteArray) (a1 : WorkT) (xvs4 : Int) : f83bK0 n (exitK f83be [.ro, .fn] [false] true [.tmp 4] [3] [.d (.sl .str) a0, .clo 52 [⟨.work, a1⟩]] k) .ret ⟨[(4, .c (.one (.v (.int .i64 xvs4))))], [], []⟩ =
    (k [.d (.i .i64) xvs4]) := by kernel_rfl
theorem f83bK0_x1 {R : Type} (n : Nat) (k : List Dt → Option R) (a0 : List ByteArray) (a1 : WorkT) (vs0 : List ByteArray) (vs1c0 : WorkT) (vs7 : Int) (xvs8 : Int) (xvs9 : Bool) : f83bK0 n (exitK f83be [.ro, .fn] [false] true [.tmp 4] [3] [.d (.sl .str) a0, .clo 52 [⟨.work, a1⟩]] k) (.exit 0) ⟨[(0, .c (.one (.ro .str vs0))), (1, .c (.one (.cloR 52 [⟨.work, vs1c0⟩]))), (7, .c (.one (.v (.int .i64 vs7)))), (8, .c (.one (.v (.int .i64 xvs8)))), (9, .c (.one (.v (.bool xvs9))))], [], []⟩ =
    (k [.d (.i .i64) (-1 : Int)]) := by kernel_rfl

theorem f83b_run {R : Type} (n : Nat) (k : List Dt → Option R) (a0 : List ByteArray) (a1 : WorkT) : evFn f83be f83bk n f83bc [.ro, .fn] [false] true [.tmp 4] [3] [.d (.sl .str) a0, .clo 52 [⟨.work, a1⟩]] k =
    (f83bL0 n (fun (xvs4 : Int) =>
    (k [.d (.i .i64) xvs4])) (fun (xvs8 : Int) (xvs9 : Bool) =>
    (k [.d (.i .i64) (-1 : Int)])) a0 a1 (a0.length : Int) n (0 : Int)) := by
  refine Eq.trans (b := (iter (fun st k => ev f83be f83bk n (cAt [1,0,1,0,0] f83bc) st k) n ⟨[(0, .c (.one (.ro .str a0))), (1, .c (.one (.cloR 52 [⟨.work, a1⟩]))), (7, .c (.one (.v (.int .i64 (a0.length : Int))))), (8, .c (.one (.v (.int .i64 (0 : Int)))))], [], []⟩ (f83bK0 n (exitK f83be [.ro, .fn] [false] true [.tmp 4] [3] [.d (.sl .str) a0, .clo 52 [⟨.work, a1⟩]] k)))) (by kernel_rfl) ?_
  simp only [f83bL0_eq, f83bK0_x0, f83bK0_x1]
theorem f83b_spec (a0 : List ByteArray) (a1 : WorkT) (hg : gBusy a0 a1 = true) : ∃ keep rounds, ∀ {R : Type} (k : List Dt → Option R), evFn f83be keep rounds f83bc [.ro, .fn] [false] true [.tmp 4] [3] [.d (.sl .str) a0, .clo 52 [⟨.work, a1⟩]] k = k [.d (.i .i64) (notBusyAt a0 a1)] := by
  simp only [gBusy, Bool.and_eq_true] at hg
  obtain ⟨hn, hb⟩ := hg
  have hl := gLenW_le hn
  refine ⟨f83bk, a0.length + 1, fun k => ?_⟩
  rw [f83b_run]
  refine Eq.trans (loop_find (n := a0.length) (F := fun m i => f83bL0 (a0.length + 1) _ _ a0 a1 (a0.length : Int) m i) (p := fun j => notBusy (atI (t := .str) a0 j) a1) (hit := fun i => k [.d (.i .i64) i]) (miss := k [.d (.i .i64) (-1 : Int)])
    (fun m j hj => ?_) (fun m => by simp only [f83bL0, idxE, cond_false]) a0.length 0 (a0.length + 1) (by omega) (by omega)) ?_
  · obtain ⟨h1, h0, hw, ht⟩ := idx hj (by omega)
    simp only [f83bL0, h1, h0, hw, ht, Bool.and_self, cond_true, hb]
  · show _ = k [.d (.i .i64) (plc _)]
    cases firstN (fun j => notBusy (atI (t := .str) a0 j) a1) 0 a0.length <;> rfl

noncomputable def q83b : List Dt → Option (Bool × List Dt)
  | [.d (.sl .str) a0, .clo 52 [⟨.work, a1⟩]] => some ((gBusy a0 a1), [.d (.i .i64) (notBusyAt a0 a1)])
  | _ => none
noncomputable def s83b : Gm.Spec := Gm.Spec.of [.ro, .fn] [false] true q83b
theorem good83b : Gm.Good Try.prog (83, s83b) := by
  have hl : ∀ x ∈ [(52, s52)], Gm.Good Try.prog x := List.forall_mem_cons.2 ⟨good52, List.forall_mem_nil _⟩
  refine ⟨⟨spec_ok (tab_ok.env hl) (tab.natl hl) Try.func83 (by kernel_rfl : Try.f83.body = some f83bc) [3] (by kernel_rfl) ?_, _, Try.func83, by kernel_rfl, of_decide_eq_true (by kernel_rfl)⟩, Gm.Spec.of_natl _ _ _ _⟩
  intro ds outs h
  unfold q83b at h
  split at h
  · simp only [Option.some.injEq, Prod.mk.injEq] at h; obtain ⟨hg, h⟩ := h; cases h; exact f83b_spec _ _ hg
  · cases h

/-! ### slices.IndexFunc[[]string,string] -/
noncomputable def f83cc : Code := (Try.f83.body).getD .skip
def f83ck : Nat → Kp := kat [⟨[0, 1], [], [], []⟩, ⟨[0, 1, 7, 8], [], [], []⟩, ⟨[0, 1, 7, 8, 9], [], [], []⟩, ⟨[0, 1, 5, 7, 8], [], [], []⟩, ⟨[0, 1, 5, 7, 8, 16], [], [], []⟩, ⟨[4], [], [], []⟩, ⟨[0, 1, 7, 8], [], [], []⟩, ⟨[4], [], [], []⟩]
noncomputable def f83ce : Env := tab.env [(82, s82)]
noncomputable def f83cL0 {R : Type} (n : Nat) (x0 : Int → Option R) (x1 : Int → Bool → Option R) (vs0 : List ByteArray) (vs1c0 : ByteArray) (vs7 : Int) : Nat → Int → Option R
  | 0, _ => none
  | m + 1, vs8 =>
    (cond (decide (vs8 < vs7))
      (cond ((decide ((0 : Int) ≤ vs8)) && (decide (vs8 < (vs0.length : Int))))
        (cond (strIs (atI (t := .str) vs0 (Int.toNat vs8)) vs1c0)
          (x0 vs8)
          (f83cL0 n x0 x1 vs0 vs1c0 vs7 m (IntKind.wrap .i64 (vs8 + (1 : Int)))))
        none)
      (x1 vs8 (decide (vs8 < vs7))))
theorem f83cL0_b {R : Type} (n : Nat) (k' : Ex → St → Option R) (vs0 : List ByteArray) (vs1c0 : ByteArray) (vs7 : Int) (vs8 : Int) : ev f83ce f83ck n (cAt [1,0,1,0,0] f83cc) ⟨[(0, .c (.one (.ro .str vs0))), (1, .c (.one (.cloR 82 [⟨.str, vs1c0⟩]))), (7, .c (.one (.v (.int .i64 vs7)))), (8, .c (.one (.v (.int .i64 vs8))))], [], []⟩ k' =
    (cond (decide (vs8 < vs7))
    (cond ((decide ((0 : Int) ≤ vs8)) && (decide (vs8 < (vs0.length : Int))))
      (cond (strIs (atI (t := .str) vs0 (Int.toNat vs8)) vs1c0)
        (k' .ret ⟨[(4, .c (.one (.v (.int .i64 vs8))))], [], []⟩)
        (k' .normal ⟨[(0, .c (.one (.ro .str vs0))), (1, .c (.one (.cloR 82 [⟨.str, vs1c0⟩]))), (7, .c (.one (.v (.int .i64 vs7)))), (8, .c (.one (.v (.int .i64 (IntKind.wrap .i64 (vs8 + (1 : Int)))))))], [], []⟩))
      none)
    (k' (.exit 0) ⟨[(0, .c (.one (.ro .str vs0))), (1, .c (.one (.cloR 82 [⟨.str, vs1c0⟩]))), (7, .c (.one (.v (.int .i64 vs7)))), (8, .c (.one (.v (.int .i64 vs8)))), (9, .c (.one (.v (.bool (decide (vs8 < vs7))))))], [], []⟩)) := by kernel_rfl
theorem f83cL0_eq {R : Type} (n : Nat) (k' : Ex → St → Option R) (vs0 : List ByteArray) (vs1c0 : ByteArray) (vs7 : Int) : ∀ (m : Nat) (vs8 : Int), iter (fun st k => ev f83ce f83ck n (cAt [1,0,1,0,0] f83cc) st k) m ⟨[(0, .c (.one (.ro .str vs0))), (1, .c (.one (.cloR 82 [⟨.str, vs1c0⟩]))), (7, .c (.one (.v (.int .i64 vs7)))), (8, .c (.one (.v (.int .i64 vs8))))], [], []⟩ k' = f83cL0 n (fun (xvs4 : Int) => k' .ret ⟨[(4, .c (.one (.v (.int .i64 xvs4))))], [], []⟩) (fun (xvs8 : Int) (xvs9 : Bool) => k' (.exit 0) ⟨[(0, .c (.one (.ro .str vs0))), (1, .c (.one (.cloR 82 [⟨.str, vs1c0⟩]))), (7, .c (.one (.v (.int .i64 vs7)))), (8, .c (.one (.v (.int .i64 xvs8)))), (9, .c (.one (.v (.bool xvs9))))], [], []⟩) vs0 vs1c0 vs7 m vs8 := by
  intro m; induction m with
  | zero => intros; rfl
  | succ m ih =>
    intro vs8
    simp only [iter]
    rw [f83cL0_b]
    simp only [ih, f83cL0]

noncomputable def f83cK0 {R : Type} (n : Nat) (k' : Ex → St → Option R) : Ex → St → Option R := (blockK 0 (seqK f83ce f83ck n (cAt [1,1] f83cc) k'))
theorem f83cK0_x0 {R : Type} (n : Nat) (k : List Dt → Option R) (a0 : List ByteArray) (a1 : ByteArray) (xvs4 : Int) : f83cK0 n (exitK f83ce [.ro, .fn] [false] true [.tmp 4] [3] [.d (.sl .str) a0, .clo 82 [⟨.str, a1⟩]] k) .ret ⟨[(4, .c (.one (.v (.int .i64 xvs4))))], [], []⟩ =
    (k [.d (.i .i64) xvs4]) := by kernel_rfl
theorem f83cK0_x1 {R : Type} (n : Nat) (k : List Dt → Option R) (a0 : List ByteArray) (a1 : ByteArray) (vs0 : List ByteArray) (vs1c0 : ByteArray) (vs7 : Int) (xvs8 : Int) (xvs9 : Bool) : f83cK0 n (exitK f83ce [.ro, .fn] [false] true [.tmp 4] [3] [.d (.sl .str) a0, .clo 82 [⟨.str, a1⟩]] k) (.exit 0) ⟨[(0, .c (.one (.ro .str vs0))), (1, .c (.one (.cloR 82 [⟨.str, vs1c0⟩]))), (7, .c (.one (.v (.int .i64 vs7)))), (8, .c (.one (.v (.int .i64 xvs8)))), (9, .c (.one (.v (.bool xvs9))))], [], []⟩ =
    (k [.d (.i .i64) (-1 : Int)]) := by kernel_rfl

theorem f83c_run {R : Type} (n : Nat) (k : List Dt → Option R) (a0 : List ByteArray) (a1 : ByteArray) : evFn f83ce f83ck n f83cc [.ro, .fn] [false] true [.tmp 4] [3] [.d (.sl .str) a0, .clo 82 [⟨.str, a1⟩]] k =
    (f83cL0 n (fun (xvs4 : Int) =>
    (k [.d (.i .i64) xvs4])) (fun (xvs8 : Int) (xvs9 : Bool) =>
    (k [.d (.i .i64) (-1 : Int)])) a0 a1 (a0.length : Int) n (0 : Int)) := by
  refine Eq.trans (b := (iter (fun st k => ev f83ce f83ck n (cAt [1,0,1,0,0] f83cc) st k) n ⟨[(0, .c (.one (.ro .str a0))), (1, .c (.one (.cloR 82 [⟨.str, a1⟩]))), (7, .c (.one (.v (.int .i64 (a0.length : Int))))), (8, .c (.one (.v (.int .i64 (0 : Int)))))], [], []⟩ (f83cK0 n (exitK f83ce [.ro, .fn] [false] true [.tmp 4] [3] [.d (.sl .str) a0, .clo 82 [⟨.str, a1⟩]] k)))) (by kernel_rfl) ?_
  simp only [f83cL0_eq, f83cK0_x0, f83cK0_x1]
theorem f83c_spec (a0 : List ByteArray) (a1 : ByteArray) (hg : gLenW a0 = true) : ∃ keep rounds, ∀ {R : Type} (k : List Dt → Option R), evFn f83ce keep rounds f83cc [.ro, .fn] [false] true [.tmp 4] [3] [.d (.sl .str) a0, .clo 82 [⟨.str, a1⟩]] k = k [.d (.i .i64) (strAt a0 a1)] := by
  have hl := gLenW_le hg
  refine ⟨f83ck, a0.length + 1, fun k => ?_⟩
  rw [f83c_run]
  refine Eq.trans (loop_find (n := a0.length) (F := fun m i => f83cL0 (a0.length + 1) _ _ a0 a1 (a0.length : Int) m i) (p := fun j => strIs (atI (t := .str) a0 j) a1) (hit := fun i => k [.d (.i .i64) i]) (miss := k [.d (.i .i64) (-1 : Int)])
    (fun m j hj => ?_) (fun m => by simp only [f83cL0, idxE, cond_false]) a0.length 0 (a0.length + 1) (by omega) (by omega)) ?_
  · obtain ⟨h1, h0, hw, ht⟩ := idx hj (by omega)
    simp only [f83cL0, h1, h0, hw, ht, Bool.and_self, cond_true]
  · show _ = k [.d (.i .i64) (plc _)]
    cases firstN (fun j => strIs (atI (t := .str) a0 j) a1) 0 a0.length <;> rfl

noncomputable def q83c : List Dt → Option (Bool × List Dt)
  | [.d (.sl .str) a0, .clo 82 [⟨.str, a1⟩]] => some (((fun (x : List ByteArray) (_ : ByteArray) => gLenW x) a0 a1), [.d (.i .i64) (strAt a0 a1)])
  | _ => none
noncomputable def s83c : Gm.Spec := Gm.Spec.of [.ro, .fn] [false] true q83c
theorem good83c : Gm.Good Try.prog (83, s83c) := by
  have hl : ∀ x ∈ [(82, s82)], Gm.Good Try.prog x := List.forall_mem_cons.2 ⟨good82, List.forall_mem_nil _⟩
  refine ⟨⟨spec_ok (tab_ok.env hl) (tab.natl hl) Try.func83 (by kernel_rfl : Try.f83.body = some f83cc) [3] (by kernel_rfl) ?_, _, Try.func83, by kernel_rfl, of_decide_eq_true (by kernel_rfl)⟩, Gm.Spec.of_natl _ _ _ _⟩
  intro ds outs h
  unfold q83c at h
  split at h
  · simp only [Option.some.injEq, Prod.mk.injEq] at h; obtain ⟨hg, h⟩ := h; cases h; exact f83c_spec _ _ hg
  · cases h

noncomputable def q83 : List Dt → Option (Bool × List Dt) := fun ds => (match q83a ds with | some r => some r | none => (match q83b ds with | some r => some r | none => (match q83c ds with | some r => some r | none => none)))
noncomputable def s83 : Gm.Spec := Gm.Spec.of [.ro, .fn] [false] true q83
theorem good83 : Gm.Good Try.prog (83, s83) := by
  refine ⟨⟨spec_part (q := q83) ?_, good83a.1.2⟩, Gm.Spec.of_natl _ _ _ _⟩
  intro ds outs h
  unfold q83 at h
  cases ha : q83a ds with
  | some r =>
    simp only [ha] at h
    exact ⟨q83a, good83a.1.1, by rw [ha]; exact h⟩
  | none =>
  simp only [ha] at h
  cases hb : q83b ds with
  | some r =>
    simp only [hb] at h
    exact ⟨q83b, good83b.1.1, by rw [hb]; exact h⟩
  | none =>
  simp only [hb] at h
  cases hc : q83c ds with
  | some r =>
    simp only [hc] at h
    exact ⟨q83c, good83c.1.1, by rw [hc]; exact h⟩
  | none =>
  simp only [hc] at h
  cases h
/-! ### slices.ContainsFunc[[]string,string] -/
noncomputable def f50ac : Code := (Try.f50.body).getD .skip
def f50ak : Nat → Kp := kat [⟨[0, 1], [], [], []⟩, ⟨[4], [], [], []⟩]
noncomputable def f50ae : Env := tab.env [(51, s51), (83, s83)]
theorem f50a_run {R : Type} (n : Nat) (k : List Dt → Option R) (a0 : List ByteArray) (a1 : WorkT) : evFn f50ae f50ak n f50ac [.ro, .fn] [false] true [.tmp 4] [4] [.d (.sl .str) a0, .clo 51 [⟨.work, a1⟩]] k =
    (cond (gBusy a0 a1)
    (k [.d .bool (decide ((inBusyAt a0 a1) ≥ (0 : Int)))])
    none) := by kernel_rfl
theorem f50a_spec (a0 : List ByteArray) (a1 : WorkT) (hg : gBusy a0 a1 = true) : ∃ keep rounds, ∀ {R : Type} (k : List Dt → Option R), evFn f50ae keep rounds f50ac [.ro, .fn] [false] true [.tmp 4] [4] [.d (.sl .str) a0, .clo 51 [⟨.work, a1⟩]] k = k [.d .bool (inBusyAny a0 a1)] := by
  refine ⟨f50ak, 0, fun k => ?_⟩
  rw [f50a_run]; simp only [hg, cond_true]
  unfold inBusyAt
  rw [findI_ge]; rfl

noncomputable def q50a : List Dt → Option (Bool × List Dt)
  | [.d (.sl .str) a0, .clo 51 [⟨.work, a1⟩]] => some ((gBusy a0 a1), [.d .bool (inBusyAny a0 a1)])
  | _ => none
noncomputable def s50a : Gm.Spec := Gm.Spec.of [.ro, .fn] [false] true q50a
theorem good50a : Gm.Good Try.prog (50, s50a) := by
  have hl : ∀ x ∈ [(51, s51), (83, s83)], Gm.Good Try.prog x := List.forall_mem_cons.2 ⟨good51, List.forall_mem_cons.2 ⟨good83, List.forall_mem_nil _⟩⟩
  refine ⟨⟨spec_ok (tab_ok.env hl) (tab.natl hl) Try.func50 (by kernel_rfl : Try.f50.body = some f50ac) [4] (by kernel_rfl) ?_, _, Try.func50, by kernel_rfl, of_decide_eq_true (by kernel_rfl)⟩, Gm.Spec.of_natl _ _ _ _⟩
  intro ds outs h
  unfold q50a at h
  split at h
  · simp only [Option.some.injEq, Prod.mk.injEq] at h; obtain ⟨hg, h⟩ := h; cases h; exact f50a_spec _ _ hg
  · cases h

/-! ### slices.ContainsFunc[[]string,string] -/
noncomputable def f50bc : Code := (Try.f50.body).getD .skip
def f50bk : Nat → Kp := kat [⟨[0, 1], [], [], []⟩, ⟨[4], [], [], []⟩]
noncomputable def f50be : Env := tab.env [(52, s52), (83, s83)]
theorem f50b_run {R : Type} (n : Nat) (k : List Dt → Option R) (a0 : List ByteArray) (a1 : WorkT) : evFn f50be f50bk n f50bc [.ro, .fn] [false] true [.tmp 4] [4] [.d (.sl .str) a0, .clo 52 [⟨.work, a1⟩]] k =
    (cond (gBusy a0 a1)
    (k [.d .bool (decide ((notBusyAt a0 a1) ≥ (0 : Int)))])
    none) := by kernel_rfl
theorem f50b_spec (a0 : List ByteArray) (a1 : WorkT) (hg : gBusy a0 a1 = true) : ∃ keep rounds, ∀ {R : Type} (k : List Dt → Option R), evFn f50be keep rounds f50bc [.ro, .fn] [false] true [.tmp 4] [4] [.d (.sl .str) a0, .clo 52 [⟨.work, a1⟩]] k = k [.d .bool (notBusyAny a0 a1)] := by
  refine ⟨f50bk, 0, fun k => ?_⟩
  rw [f50b_run]; simp only [hg, cond_true]
  unfold notBusyAt
  rw [findI_ge]; rfl

noncomputable def q50b : List Dt → Option (Bool × List Dt)
  | [.d (.sl .str) a0, .clo 52 [⟨.work, a1⟩]] => some ((gBusy a0 a1), [.d .bool (notBusyAny a0 a1)])
  | _ => none
noncomputable def s50b : Gm.Spec := Gm.Spec.of [.ro, .fn] [false] true q50b
theorem good50b : Gm.Good Try.prog (50, s50b) := by
  have hl : ∀ x ∈ [(52, s52), (83, s83)], Gm.Good Try.prog x := List.forall_mem_cons.2 ⟨good52, List.forall_mem_cons.2 ⟨good83, List.forall_mem_nil _⟩⟩
  refine ⟨⟨spec_ok (tab_ok.env hl) (tab.natl hl) Try.func50 (by kernel_rfl : Try.f50.body = some f50bc) [4] (by kernel_rfl) ?_, _, Try.func50, by kernel_rfl, of_decide_eq_true (by kernel_rfl)⟩, Gm.Spec.of_natl _ _ _ _⟩
  intro ds outs h
  unfold q50b at h
  split at h
  · simp only [Option.some.injEq, Prod.mk.injEq] at h; obtain ⟨hg, h⟩ := h; cases h; exact f50b_spec _ _ hg
  · cases h

noncomputable def q50 : List Dt → Option (Bool × List Dt) := fun ds => (match q50a ds with | some r => some r | none => (match q50b ds with | some r => some r | none => none))
noncomputable def s50 : Gm.Spec := Gm.Spec.of [.ro, .fn] [false] true q50
theorem good50 : Gm.Good Try.prog (50, s50) := by
  refine ⟨⟨spec_part (q := q50) ?_, good50a.1.2⟩, Gm.Spec.of_natl _ _ _ _⟩
  intro ds outs h
  unfold q50 at h
  cases ha : q50a ds with
  | some r =>
    simp only [ha] at h
    exact ⟨q50a, good50a.1.1, by rw [ha]; exact h⟩
  | none =>
  simp only [ha] at h
  cases hb : q50b ds with
  | some r =>
    simp only [hb] at h
    exact ⟨q50b, good50b.1.1, by rw [hb]; exact h⟩
  | none =>
  simp only [hb] at h
  cases h
/-! ### loop.example/g00465/spec.WorkQOk -/
noncomputable def f24c : Code := (Try.f24.body).getD .skip
def f24k : Nat → Kp := kat [⟨[1], [], [], []⟩, ⟨[1, 27], [], [], []⟩, ⟨[2], [], [], []⟩, ⟨[1, 3], [], [], []⟩, ⟨[1, 3, 32], [], [], []⟩, ⟨[1, 3], [], [], []⟩, ⟨[1, 3, 42], [], [], []⟩, ⟨[2], [], [], []⟩, ⟨[1, 4], [], [], []⟩, ⟨[1, 4, 47], [], [], []⟩, ⟨[1, 4], [], [], []⟩, ⟨[1, 4, 58], [], [], []⟩, ⟨[2], [], [], []⟩, ⟨[1, 5], [], [], []⟩, ⟨[1, 5, 63], [], [], []⟩, ⟨[1, 5], [], [], []⟩, ⟨[1, 5, 96], [], [], []⟩, ⟨[2], [], [], []⟩, ⟨[2], [], [], []⟩]
noncomputable def f24e : Env := tab.env [(38, s38), (55, s55), (56, s56), (57, s57), (58, s58)]
noncomputable def f24L0 {R : Type} (n : Nat) (x0 : Option R) (x1 : Int → Bool → Option R) (vb1_0 : List ByteArray) (vb1_1 : List ByteArray) (vb1_2 : List ByteArray) (vb1_3 : List FailT) : Nat → Int → Option R
  | 0, _ => none
  | m + 1, vs3 =>
    (cond (decide (vs3 < (vb1_0.length : Int)))
      (cond ((decide ((0 : Int) ≤ vs3)) && (decide (vs3 < (vb1_0.length : Int))))
        (cond ((fun (x : List ByteArray) (_ : ByteArray) => gLenW x) vb1_1 (atI (t := .str) vb1_0 (Int.toNat vs3)))
          (cond (isIn vb1_1 (atI (t := .str) vb1_0 (Int.toNat vs3)))
            (x0)
            (f24L0 n x0 x1 vb1_0 vb1_1 vb1_2 vb1_3 m (IntKind.wrap .i64 (vs3 + (1 : Int)))))
          none)
        none)
      (x1 vs3 (decide (vs3 < (vb1_0.length : Int)))))
theorem f24L0_b {R : Type} (n : Nat) (k' : Ex → St → Option R) (vs3 : Int) (vb1_0 : List ByteArray) (vb1_1 : List ByteArray) (vb1_2 : List ByteArray) (vb1_3 : List FailT) : ev f24e f24k n (cAt [1,1,0,1,0,0] f24c) ⟨[(1, .c (.one (.pt 1 0))), (3, .c (.one (.v (.int .i64 vs3))))], [(1, ⟨.work, [.ro .str vb1_0, .ro .str vb1_1, .ro .str vb1_2, .ro .fail vb1_3]⟩)], []⟩ k' =
    (cond (decide (vs3 < (vb1_0.length : Int)))
    (cond ((decide ((0 : Int) ≤ vs3)) && (decide (vs3 < (vb1_0.length : Int))))
      (cond ((fun (x : List ByteArray) (_ : ByteArray) => gLenW x) vb1_1 (atI (t := .str) vb1_0 (Int.toNat vs3)))
        (cond (isIn vb1_1 (atI (t := .str) vb1_0 (Int.toNat vs3)))
          (k' .ret ⟨[(2, .c (.one (.v (.bool false))))], [], []⟩)
          (k' .normal ⟨[(1, .c (.one (.pt 1 0))), (3, .c (.one (.v (.int .i64 (IntKind.wrap .i64 (vs3 + (1 : Int)))))))], [(1, ⟨.work, [.ro .str vb1_0, .ro .str vb1_1, .ro .str vb1_2, .ro .fail vb1_3]⟩)], []⟩))
        none)
      none)
    (k' (.exit 0) ⟨[(1, .c (.one (.pt 1 0))), (3, .c (.one (.v (.int .i64 vs3)))), (32, .c (.one (.v (.bool (decide (vs3 < (vb1_0.length : Int)))))))], [(1, ⟨.work, [.ro .str vb1_0, .ro .str vb1_1, .ro .str vb1_2, .ro .fail vb1_3]⟩)], []⟩)) := by kernel_rfl
theorem f24L0_eq {R : Type} (n : Nat) (k' : Ex → St → Option R) (vb1_0 : List ByteArray) (vb1_1 : List ByteArray) (vb1_2 : List ByteArray) (vb1_3 : List FailT) : ∀ (m : Nat) (vs3 : Int), iter (fun st k => ev f24e f24k n (cAt [1,1,0,1,0,0] f24c) st k) m ⟨[(1, .c (.one (.pt 1 0))), (3, .c (.one (.v (.int .i64 vs3))))], [(1, ⟨.work, [.ro .str vb1_0, .ro .str vb1_1, .ro .str vb1_2, .ro .fail vb1_3]⟩)], []⟩ k' = f24L0 n (k' .ret ⟨[(2, .c (.one (.v (.bool false))))], [], []⟩) (fun (xvs3 : Int) (xvs32 : Bool) => k' (.exit 0) ⟨[(1, .c (.one (.pt 1 0))), (3, .c (.one (.v (.int .i64 xvs3)))), (32, .c (.one (.v (.bool xvs32))))], [(1, ⟨.work, [.ro .str vb1_0, .ro .str vb1_1, .ro .str vb1_2, .ro .fail vb1_3]⟩)], []⟩) vb1_0 vb1_1 vb1_2 vb1_3 m vs3 := by
  intro m; induction m with
  | zero => intros; rfl
  | succ m ih =>
    intro vs3
    simp only [iter]
    rw [f24L0_b]
    simp only [ih, f24L0]

noncomputable def f24L1 {R : Type} (n : Nat) (x0 : Option R) (x1 : Int → Bool → Option R) (vb1_0 : List ByteArray) (vb1_1 : List ByteArray) (vb1_2 : List ByteArray) (vb1_3 : List FailT) : Nat → Int → Option R
  | 0, _ => none
  | m + 1, vs4 =>
    (cond (decide (vs4 < (vb1_2.length : Int)))
      (cond ((decide ((0 : Int) ≤ vs4)) && (decide (vs4 < (vb1_2.length : Int))))
        (cond ((fun (x : List ByteArray) (_ : ByteArray) => gLenW x) vb1_1 (atI (t := .str) vb1_2 (Int.toNat vs4)))
          (cond (!(isIn vb1_1 (atI (t := .str) vb1_2 (Int.toNat vs4))))
            (x0)
            (f24L1 n x0 x1 vb1_0 vb1_1 vb1_2 vb1_3 m (IntKind.wrap .i64 (vs4 + (1 : Int)))))
          none)
        none)
      (x1 vs4 (decide (vs4 < (vb1_2.length : Int)))))
theorem f24L1_b {R : Type} (n : Nat) (k' : Ex → St → Option R) (vs4 : Int) (vb1_0 : List ByteArray) (vb1_1 : List ByteArray) (vb1_2 : List ByteArray) (vb1_3 : List FailT) : ev f24e f24k n (cAt [1,1,1,0,1,0,0] f24c) ⟨[(1, .c (.one (.pt 1 0))), (4, .c (.one (.v (.int .i64 vs4))))], [(1, ⟨.work, [.ro .str vb1_0, .ro .str vb1_1, .ro .str vb1_2, .ro .fail vb1_3]⟩)], []⟩ k' =
    (cond (decide (vs4 < (vb1_2.length : Int)))
    (cond ((decide ((0 : Int) ≤ vs4)) && (decide (vs4 < (vb1_2.length : Int))))
      (cond ((fun (x : List ByteArray) (_ : ByteArray) => gLenW x) vb1_1 (atI (t := .str) vb1_2 (Int.toNat vs4)))
        (cond (!(isIn vb1_1 (atI (t := .str) vb1_2 (Int.toNat vs4))))
          (k' .ret ⟨[(2, .c (.one (.v (.bool false))))], [], []⟩)
          (k' .normal ⟨[(1, .c (.one (.pt 1 0))), (4, .c (.one (.v (.int .i64 (IntKind.wrap .i64 (vs4 + (1 : Int)))))))], [(1, ⟨.work, [.ro .str vb1_0, .ro .str vb1_1, .ro .str vb1_2, .ro .fail vb1_3]⟩)], []⟩))
        none)
      none)
    (k' (.exit 2) ⟨[(1, .c (.one (.pt 1 0))), (4, .c (.one (.v (.int .i64 vs4)))), (47, .c (.one (.v (.bool (decide (vs4 < (vb1_2.length : Int)))))))], [(1, ⟨.work, [.ro .str vb1_0, .ro .str vb1_1, .ro .str vb1_2, .ro .fail vb1_3]⟩)], []⟩)) := by kernel_rfl
theorem f24L1_eq {R : Type} (n : Nat) (k' : Ex → St → Option R) (vb1_0 : List ByteArray) (vb1_1 : List ByteArray) (vb1_2 : List ByteArray) (vb1_3 : List FailT) : ∀ (m : Nat) (vs4 : Int), iter (fun st k => ev f24e f24k n (cAt [1,1,1,0,1,0,0] f24c) st k) m ⟨[(1, .c (.one (.pt 1 0))), (4, .c (.one (.v (.int .i64 vs4))))], [(1, ⟨.work, [.ro .str vb1_0, .ro .str vb1_1, .ro .str vb1_2, .ro .fail vb1_3]⟩)], []⟩ k' = f24L1 n (k' .ret ⟨[(2, .c (.one (.v (.bool false))))], [], []⟩) (fun (xvs4 : Int) (xvs47 : Bool) => k' (.exit 2) ⟨[(1, .c (.one (.pt 1 0))), (4, .c (.one (.v (.int .i64 xvs4)))), (47, .c (.one (.v (.bool xvs47))))], [(1, ⟨.work, [.ro .str vb1_0, .ro .str vb1_1, .ro .str vb1_2, .ro .fail vb1_3]⟩)], []⟩) vb1_0 vb1_1 vb1_2 vb1_3 m vs4 := by
  intro m; induction m with
  | zero => intros; rfl
  | succ m ih =>
    intro vs4
    simp only [iter]
    rw [f24L1_b]
    simp only [ih, f24L1]

noncomputable def f24L2 {R : Type} (n : Nat) (x0 : Option R) (x1 : Int → Bool → Option R) (vb1_0 : List ByteArray) (vb1_1 : List ByteArray) (vb1_2 : List ByteArray) (vb1_3 : List FailT) : Nat → Int → Option R
  | 0, _ => none
  | m + 1, vs5 =>
    (cond (decide (vs5 < (vb1_3.length : Int)))
      (cond ((decide ((0 : Int) ≤ vs5)) && (decide (vs5 < (vb1_3.length : Int))))
        (cond (okStr (FailT.name (atI (t := .fail) vb1_3 (Int.toNat vs5))))
          (cond (!(nameOk (FailT.name (atI (t := .fail) vb1_3 (Int.toNat vs5)))))
            (x0)
            (cond ((decide ((0 : Int) ≤ vs5)) && (decide (vs5 < (vb1_3.length : Int))))
              (cond ((fun (x : List FailT) (_ : ByteArray) => smL sm_fail x) vb1_3 (FailT.name (atI (t := .fail) vb1_3 (Int.toNat vs5))))
                (cond ((failAt vb1_3 (FailT.name (atI (t := .fail) vb1_3 (Int.toNat vs5)))) != vs5)
                  (x0)
                  (cond ((decide ((0 : Int) ≤ vs5)) && (decide (vs5 < (vb1_3.length : Int))))
                    (cond (!(inR (FailT.n (atI (t := .fail) vb1_3 (Int.toNat vs5))) (1 : Int) (20 : Int)))
                      (x0)
                      (f24L2 n x0 x1 vb1_0 vb1_1 vb1_2 vb1_3 m (IntKind.wrap .i64 (vs5 + (1 : Int)))))
                    none))
                none)
              none))
          none)
        none)
      (x1 vs5 (decide (vs5 < (vb1_3.length : Int)))))
theorem f24L2_b {R : Type} (n : Nat) (k' : Ex → St → Option R) (vs5 : Int) (vb1_0 : List ByteArray) (vb1_1 : List ByteArray) (vb1_2 : List ByteArray) (vb1_3 : List FailT) : ev f24e f24k n (cAt [1,1,1,1,0,1,0,0] f24c) ⟨[(1, .c (.one (.pt 1 0))), (5, .c (.one (.v (.int .i64 vs5))))], [(1, ⟨.work, [.ro .str vb1_0, .ro .str vb1_1, .ro .str vb1_2, .ro .fail vb1_3]⟩)], []⟩ k' =
    (cond (decide (vs5 < (vb1_3.length : Int)))
    (cond ((decide ((0 : Int) ≤ vs5)) && (decide (vs5 < (vb1_3.length : Int))))
      (cond (okStr (FailT.name (atI (t := .fail) vb1_3 (Int.toNat vs5))))
        (cond (!(nameOk (FailT.name (atI (t := .fail) vb1_3 (Int.toNat vs5)))))
          (k' .ret ⟨[(2, .c (.one (.v (.bool false))))], [], []⟩)
          (cond ((decide ((0 : Int) ≤ vs5)) && (decide (vs5 < (vb1_3.length : Int))))
            (cond ((fun (x : List FailT) (_ : ByteArray) => smL sm_fail x) vb1_3 (FailT.name (atI (t := .fail) vb1_3 (Int.toNat vs5))))
              (cond ((failAt vb1_3 (FailT.name (atI (t := .fail) vb1_3 (Int.toNat vs5)))) != vs5)
                (k' .ret ⟨[(2, .c (.one (.v (.bool false))))], [], []⟩)
                (cond ((decide ((0 : Int) ≤ vs5)) && (decide (vs5 < (vb1_3.length : Int))))
                  (cond (!(inR (FailT.n (atI (t := .fail) vb1_3 (Int.toNat vs5))) (1 : Int) (20 : Int)))
                    (k' .ret ⟨[(2, .c (.one (.v (.bool false))))], [], []⟩)
                    (k' .normal ⟨[(1, .c (.one (.pt 1 0))), (5, .c (.one (.v (.int .i64 (IntKind.wrap .i64 (vs5 + (1 : Int)))))))], [(1, ⟨.work, [.ro .str vb1_0, .ro .str vb1_1, .ro .str vb1_2, .ro .fail vb1_3]⟩)], []⟩))
                  none))
              none)
            none))
        none)
      none)
    (k' (.exit 4) ⟨[(1, .c (.one (.pt 1 0))), (5, .c (.one (.v (.int .i64 vs5)))), (63, .c (.one (.v (.bool (decide (vs5 < (vb1_3.length : Int)))))))], [(1, ⟨.work, [.ro .str vb1_0, .ro .str vb1_1, .ro .str vb1_2, .ro .fail vb1_3]⟩)], []⟩)) := by kernel_rfl
theorem f24L2_eq {R : Type} (n : Nat) (k' : Ex → St → Option R) (vb1_0 : List ByteArray) (vb1_1 : List ByteArray) (vb1_2 : List ByteArray) (vb1_3 : List FailT) : ∀ (m : Nat) (vs5 : Int), iter (fun st k => ev f24e f24k n (cAt [1,1,1,1,0,1,0,0] f24c) st k) m ⟨[(1, .c (.one (.pt 1 0))), (5, .c (.one (.v (.int .i64 vs5))))], [(1, ⟨.work, [.ro .str vb1_0, .ro .str vb1_1, .ro .str vb1_2, .ro .fail vb1_3]⟩)], []⟩ k' = f24L2 n (k' .ret ⟨[(2, .c (.one (.v (.bool false))))], [], []⟩) (fun (xvs5 : Int) (xvs63 : Bool) => k' (.exit 4) ⟨[(1, .c (.one (.pt 1 0))), (5, .c (.one (.v (.int .i64 xvs5)))), (63, .c (.one (.v (.bool xvs63))))], [(1, ⟨.work, [.ro .str vb1_0, .ro .str vb1_1, .ro .str vb1_2, .ro .fail vb1_3]⟩)], []⟩) vb1_0 vb1_1 vb1_2 vb1_3 m vs5 := by
  intro m; induction m with
  | zero => intros; rfl
  | succ m ih =>
    intro vs5
    simp only [iter]
    rw [f24L2_b]
    simp only [ih, f24L2]

noncomputable def f24K2 {R : Type} (n : Nat) (k' : Ex → St → Option R) : Ex → St → Option R := (blockK 4 (seqK f24e f24k n (cAt [1,1,1,1,1] f24c) k'))
theorem f24K2_x0 {R : Type} (n : Nat) (k : List Dt → Option R) (a0 : WorkT)  : f24K2 n (exitK f24e [.ro] [false] true [.tmp 2] [4] [.d .work a0] k) .ret ⟨[(2, .c (.one (.v (.bool false))))], [], []⟩ =
    (k [.d .bool false]) := by kernel_rfl
theorem f24K2_x1 {R : Type} (n : Nat) (k : List Dt → Option R) (a0 : WorkT) (vb1_0 : List ByteArray) (vb1_1 : List ByteArray) (vb1_2 : List ByteArray) (vb1_3 : List FailT) (xvs5 : Int) (xvs63 : Bool) : f24K2 n (exitK f24e [.ro] [false] true [.tmp 2] [4] [.d .work a0] k) (.exit 4) ⟨[(1, .c (.one (.pt 1 0))), (5, .c (.one (.v (.int .i64 xvs5)))), (63, .c (.one (.v (.bool xvs63))))], [(1, ⟨.work, [.ro .str vb1_0, .ro .str vb1_1, .ro .str vb1_2, .ro .fail vb1_3]⟩)], []⟩ =
    (k [.d .bool true]) := by kernel_rfl

noncomputable def f24K1 {R : Type} (n : Nat) (k' : Ex → St → Option R) : Ex → St → Option R := (blockK 2 (seqK f24e f24k n (cAt [1,1,1,1] f24c) k'))
theorem f24K1_x0 {R : Type} (n : Nat) (k : List Dt → Option R) (a0 : WorkT)  : f24K1 n (exitK f24e [.ro] [false] true [.tmp 2] [4] [.d .work a0] k) .ret ⟨[(2, .c (.one (.v (.bool false))))], [], []⟩ =
    (k [.d .bool false]) := by kernel_rfl
theorem f24K1_x1 {R : Type} (n : Nat) (k : List Dt → Option R) (a0 : WorkT) (vb1_0 : List ByteArray) (vb1_1 : List ByteArray) (vb1_2 : List ByteArray) (vb1_3 : List FailT) (xvs4 : Int) (xvs47 : Bool) : f24K1 n (exitK f24e [.ro] [false] true [.tmp 2] [4] [.d .work a0] k) (.exit 2) ⟨[(1, .c (.one (.pt 1 0))), (4, .c (.one (.v (.int .i64 xvs4)))), (47, .c (.one (.v (.bool xvs47))))], [(1, ⟨.work, [.ro .str vb1_0, .ro .str vb1_1, .ro .str vb1_2, .ro .fail vb1_3]⟩)], []⟩ =
    (f24L2 n (k [.d .bool false]) (fun (xvs5 : Int) (xvs63 : Bool) =>
    (k [.d .bool true])) vb1_0 vb1_1 vb1_2 vb1_3 n (0 : Int)) := by
  refine Eq.trans (b := (iter (fun st k => ev f24e f24k n (cAt [1,1,1,1,0,1,0,0] f24c) st k) n ⟨[(1, .c (.one (.pt 1 0))), (5, .c (.one (.v (.int .i64 (0 : Int)))))], [(1, ⟨.work, [.ro .str vb1_0, .ro .str vb1_1, .ro .str vb1_2, .ro .fail vb1_3]⟩)], []⟩ (f24K2 n (exitK f24e [.ro] [false] true [.tmp 2] [4] [.d .work a0] k)))) (by kernel_rfl) ?_
  simp only [f24L2_eq, f24K2_x0, f24K2_x1]

noncomputable def f24K0 {R : Type} (n : Nat) (k' : Ex → St → Option R) : Ex → St → Option R := (blockK 0 (seqK f24e f24k n (cAt [1,1,1] f24c) k'))
theorem f24K0_x0 {R : Type} (n : Nat) (k : List Dt → Option R) (a0 : WorkT)  : f24K0 n (exitK f24e [.ro] [false] true [.tmp 2] [4] [.d .work a0] k) .ret ⟨[(2, .c (.one (.v (.bool false))))], [], []⟩ =
    (k [.d .bool false]) := by kernel_rfl
theorem f24K0_x1 {R : Type} (n : Nat) (k : List Dt → Option R) (a0 : WorkT) (vb1_0 : List ByteArray) (vb1_1 : List ByteArray) (vb1_2 : List ByteArray) (vb1_3 : List FailT) (xvs3 : Int) (xvs32 : Bool) : f24K0 n (exitK f24e [.ro] [false] true [.tmp 2] [4] [.d .work a0] k) (.exit 0) ⟨[(1, .c (.one (.pt 1 0))), (3, .c (.one (.v (.int .i64 xvs3)))), (32, .c (.one (.v (.bool xvs32))))], [(1, ⟨.work, [.ro .str vb1_0, .ro .str vb1_1, .ro .str vb1_2, .ro .fail vb1_3]⟩)], []⟩ =
    (f24L1 n (k [.d .bool false]) (fun (xvs4 : Int) (xvs47 : Bool) =>
    (f24L2 n (k [.d .bool false]) (fun (xvs5 : Int) (xvs63 : Bool) =>
      (k [.d .bool true])) vb1_0 vb1_1 vb1_2 vb1_3 n (0 : Int))) vb1_0 vb1_1 vb1_2 vb1_3 n (0 : Int)) := by
  refine Eq.trans (b := (iter (fun st k => ev f24e f24k n (cAt [1,1,1,0,1,0,0] f24c) st k) n ⟨[(1, .c (.one (.pt 1 0))), (4, .c (.one (.v (.int .i64 (0 : Int)))))], [(1, ⟨.work, [.ro .str vb1_0, .ro .str vb1_1, .ro .str vb1_2, .ro .fail vb1_3]⟩)], []⟩ (f24K1 n (exitK f24e [.ro] [false] true [.tmp 2] [4] [.d .work a0] k)))) (by kernel_rfl) ?_
  simp only [f24L1_eq, f24K1_x0, f24K1_x1, f24L2_eq, f24K2_x0, f24K2_x1]

theorem f24_run {R : Type} (n : Nat) (k : List Dt → Option R) (a0 : WorkT) : evFn f24e f24k n f24c [.ro] [false] true [.tmp 2] [4] [.d .work a0] k =
    (cond (gNames (WorkT.list a0))
    (cond (!(namesOk (WorkT.list a0)))
      (k [.d .bool false])
      (cond (gNames (WorkT.busy a0))
        (cond (!(namesOk (WorkT.busy a0)))
          (k [.d .bool false])
          (cond (gNames (WorkT.again a0))
            (cond (!(namesOk (WorkT.again a0)))
              (k [.d .bool false])
              (cond (decide (((WorkT.fails a0).length : Int) > (12 : Int)))
                (k [.d .bool false])
                (f24L0 n (k [.d .bool false]) (fun (xvs3 : Int) (xvs32 : Bool) =>
                  (f24L1 n (k [.d .bool false]) (fun (xvs4 : Int) (xvs47 : Bool) =>
                    (f24L2 n (k [.d .bool false]) (fun (xvs5 : Int) (xvs63 : Bool) =>
                      (k [.d .bool true])) (WorkT.list a0) (WorkT.busy a0) (WorkT.again a0) (WorkT.fails a0) n (0 : Int))) (WorkT.list a0) (WorkT.busy a0) (WorkT.again a0) (WorkT.fails a0) n (0 : Int))) (WorkT.list a0) (WorkT.busy a0) (WorkT.again a0) (WorkT.fails a0) n (0 : Int))))
            none))
        none))
    none) := by
  refine Eq.trans (b := (cond (gNames (WorkT.list a0))
    (cond (!(namesOk (WorkT.list a0)))
      (k [.d .bool false])
      (cond (gNames (WorkT.busy a0))
        (cond (!(namesOk (WorkT.busy a0)))
          (k [.d .bool false])
          (cond (gNames (WorkT.again a0))
            (cond (!(namesOk (WorkT.again a0)))
              (k [.d .bool false])
              (cond (decide (((WorkT.fails a0).length : Int) > (12 : Int)))
                (k [.d .bool false])
                (iter (fun st k => ev f24e f24k n (cAt [1,1,0,1,0,0] f24c) st k) n ⟨[(1, .c (.one (.pt 1 0))), (3, .c (.one (.v (.int .i64 (0 : Int)))))], [(1, ⟨.work, [.ro .str (WorkT.list a0), .ro .str (WorkT.busy a0), .ro .str (WorkT.again a0), .ro .fail (WorkT.fails a0)]⟩)], []⟩ (f24K0 n (exitK f24e [.ro] [false] true [.tmp 2] [4] [.d .work a0] k)))))
            none))
        none))
    none)) (by kernel_rfl) ?_
  simp only [f24L0_eq, f24K0_x0, f24K0_x1, f24L1_eq, f24K1_x0, f24K1_x1, f24L2_eq, f24K2_x0, f24K2_x1]
theorem f24_spec (a0 : WorkT) (hg : sm_work a0 = true) : ∃ keep rounds, ∀ {R : Type} (k : List Dt → Option R), evFn f24e keep rounds f24c [.ro] [false] true [.tmp 2] [4] [.d .work a0] k = k [.d .bool (workQOk a0)] := by
  simp only [sm_work, Bool.and_eq_true] at hg
  obtain ⟨hl, hb, ha, hf⟩ := hg
  have gl : gNames a0.list = true := okL_sms hl
  have gb : gNames a0.busy = true := okL_sms hb
  have ga : gNames a0.again = true := okL_sms ha
  have ll := smL_len hl
  have lb := smL_len hb
  have la := smL_len ha
  have lf := smL_len hf
  have wb : gLenW a0.busy = true := gLenW_sm hb
  have g1 : gBusy a0.list a0 = true := by unfold gBusy; rw [gLenW_sm hl, wb]; rfl
  have g2 : gBusy a0.again a0 = true := by unfold gBusy; rw [gLenW_sm ha, wb]; rfl
  have hfn : ∀ {j}, j < a0.fails.length → okStr (atI (t := .fail) a0.fails j).name = true := fun hj => by
    have := smL_at (t := .fail) hf hj
    simp only [sm_fail, Bool.and_eq_true] at this
    exact okStr_sm this.1
  refine ⟨f24k, a0.list.length + a0.again.length + a0.fails.length + 1, fun {R} k => ?_⟩
  rw [f24_run]
  simp only [gl, gb, ga, g1, g2, cond_true]
  show _ = k [.d .bool (workQOk a0)]
  unfold workQOk
  cases namesOk a0.list
  · rfl
  cases namesOk a0.busy
  · rfl
  cases namesOk a0.again
  · rfl
  cases decide ((a0.fails.length : Int) > 12)
  rotate_left
  · rfl
  simp only [Bool.not_true, Bool.not_false, cond_false, Bool.true_and]
  refine Eq.trans (loop_idx (n := a0.list.length) (F := fun m i => f24L0 (a0.list.length + a0.again.length + a0.fails.length + 1) _ _ a0.list a0.busy a0.again a0.fails m i) (p := fun j => !(inBusy (atI (t := .str) a0.list j) a0)) (good := _) (bad := k [.d .bool false])
    (fun m j hj => ?_) (fun m => by simp only [f24L0, idxE, cond_false]; rfl) a0.list.length 0 (a0.list.length + a0.again.length + a0.fails.length + 1) (by omega) (by omega)) ?_
  · obtain ⟨h1, h0, hw, ht⟩ := idx hj (by omega)
    simp only [f24L0, h1, h0, hw, ht, wb, Bool.and_self, cond_true]
    unfold inBusy
    cases isIn a0.busy (atI (t := .str) a0.list j) <;> rfl
  rw [allN_all (q := fun s => !(inBusy s a0)) (fun j x hx => by rw [atI_of (t := .str) hx]), all_not]
  show cond (!(inBusyAny a0.list a0)) _ _ = _
  cases inBusyAny a0.list a0
  rotate_left
  · rfl
  simp only [Bool.not_false, cond_true, Bool.true_and]
  refine Eq.trans (loop_idx (n := a0.again.length) (F := fun m i => f24L1 (a0.list.length + a0.again.length + a0.fails.length + 1) _ _ a0.list a0.busy a0.again a0.fails m i) (p := fun j => !(notBusy (atI (t := .str) a0.again j) a0)) (good := _) (bad := k [.d .bool false])
    (fun m j hj => ?_) (fun m => by simp only [f24L1, idxE, cond_false]; rfl) a0.again.length 0 (a0.list.length + a0.again.length + a0.fails.length + 1) (by omega) (by omega)) ?_
  · obtain ⟨h1, h0, hw, ht⟩ := idx hj (by omega)
    simp only [f24L1, h1, h0, hw, ht, wb, Bool.and_self, cond_true]
    unfold notBusy
    cases isIn a0.busy (atI (t := .str) a0.again j) <;> rfl
  rw [allN_all (q := fun s => !(notBusy s a0)) (fun j x hx => by rw [atI_of (t := .str) hx]), all_not]
  show cond (!(notBusyAny a0.again a0)) _ _ = _
  cases notBusyAny a0.again a0
  rotate_left
  · rfl
  simp only [Bool.not_false, cond_true, Bool.true_and]
  refine Eq.trans (loop_idx (n := a0.fails.length) (F := fun m i => f24L2 (a0.list.length + a0.again.length + a0.fails.length + 1) _ _ a0.list a0.busy a0.again a0.fails m i) (p := failC a0.fails) (good := k [.d .bool true]) (bad := k [.d .bool false])
    (fun m j hj => ?_) (fun m => by simp only [f24L2, idxE, cond_false]) a0.fails.length 0 (a0.list.length + a0.again.length + a0.fails.length + 1) (by omega) (by omega)) ?_
  · obtain ⟨h1, h0, hw, ht⟩ := idx hj (by omega)
    simp only [f24L2, h1, h0, hw, ht, hf, hfn hj, Bool.and_self, cond_true]
    unfold failC
    cases nameOk (atI (t := .fail) a0.fails j).name <;> cases failAt a0.fails (atI (t := .fail) a0.fails j).name != (j : Int) <;> cases inR (atI (t := .fail) a0.fails j).n 1 20 <;> rfl
  · cases allN (failC a0.fails) 0 a0.fails.length <;> rfl

noncomputable def q24 : List Dt → Option (Bool × List Dt)
  | [.d .work a0] => some ((sm_work a0), [.d .bool (workQOk a0)])
  | _ => none
noncomputable def s24 : Gm.Spec := Gm.Spec.of [.ro] [false] true q24
theorem good24 : Gm.Good Try.prog (24, s24) := by
  have hl : ∀ x ∈ [(38, s38), (55, s55), (56, s56), (57, s57), (58, s58)], Gm.Good Try.prog x := List.forall_mem_cons.2 ⟨good38, List.forall_mem_cons.2 ⟨good55, List.forall_mem_cons.2 ⟨good56, List.forall_mem_cons.2 ⟨good57, List.forall_mem_cons.2 ⟨good58, List.forall_mem_nil _⟩⟩⟩⟩⟩
  refine ⟨⟨spec_ok (tab_ok.env hl) (tab.natl hl) Try.func24 (by kernel_rfl : Try.f24.body = some f24c) [4] (by kernel_rfl) ?_, _, Try.func24, by kernel_rfl, of_decide_eq_true (by kernel_rfl)⟩, Gm.Spec.of_natl _ _ _ _⟩
  intro ds outs h
  unfold q24 at h
  split at h
  · simp only [Option.some.injEq, Prod.mk.injEq] at h; obtain ⟨hg, h⟩ := h; cases h; exact f24_spec _ hg
  · cases h
/-! ### loop.example/g00465/impl.WorkQOk -/
noncomputable def f23c : Code := (Try.f23.body).getD .skip
def f23k : Nat → Kp := kat [⟨[1], [], [], []⟩, ⟨[1, 26], [], [], []⟩, ⟨[2], [], [], []⟩, ⟨[1, 36], [], [], []⟩, ⟨[2], [], [], []⟩, ⟨[1, 38, 39, 40], [], [], []⟩, ⟨[1, 38, 39, 40, 41], [], [], []⟩, ⟨[1, 3, 4, 38, 39, 40], [], [], []⟩, ⟨[1, 38, 39, 40, 63], [], [], []⟩, ⟨[2], [], [], []⟩, ⟨[1, 38, 39, 40], [], [], []⟩, ⟨[2], [], [], []⟩]
noncomputable def f23e : Env := tab.env [(42, s42), (49, s49), (50, s50), (51, s51), (52, s52), (53, s53), (54, s54)]
noncomputable def f23L0 {R : Type} (n : Nat) (x0 : Option R) (x1 : Int → Bool → Option R) (vs38 : List FailT) (vs39 : Int) (vb1_0 : List ByteArray) (vb1_1 : List ByteArray) (vb1_2 : List ByteArray) (vb1_3 : List FailT) : Nat → Int → Option R
  | 0, _ => none
  | m + 1, vs40 =>
    (cond (decide (vs40 < vs39))
      (cond ((decide ((0 : Int) ≤ vs40)) && (decide (vs40 < (vs38.length : Int))))
        (cond (okStr (FailT.name (atI (t := .fail) vs38 (Int.toNat vs40))))
          (cond (!(nameOk (FailT.name (atI (t := .fail) vs38 (Int.toNat vs40)))))
            (x0)
            (cond ((fun (x : List FailT) (_ : ByteArray) => smL sm_fail x) vb1_3 (FailT.name (atI (t := .fail) vs38 (Int.toNat vs40))))
              (cond ((failAt vb1_3 (FailT.name (atI (t := .fail) vs38 (Int.toNat vs40)))) != vs40)
                (x0)
                (cond (!(inR (FailT.n (atI (t := .fail) vs38 (Int.toNat vs40))) (1 : Int) (20 : Int)))
                  (x0)
                  (f23L0 n x0 x1 vs38 vs39 vb1_0 vb1_1 vb1_2 vb1_3 m (IntKind.wrap .i64 (vs40 + (1 : Int))))))
              none))
          none)
        none)
      (x1 vs40 (decide (vs40 < vs39))))
theorem f23L0_b {R : Type} (n : Nat) (k' : Ex → St → Option R) (vs38 : List FailT) (vs39 : Int) (vs40 : Int) (vb1_0 : List ByteArray) (vb1_1 : List ByteArray) (vb1_2 : List ByteArray) (vb1_3 : List FailT) : ev f23e f23k n (cAt [1,1,1,0,1,0,0] f23c) ⟨[(1, .c (.one (.pt 1 0))), (38, .c (.one (.ro .fail vs38))), (39, .c (.one (.v (.int .i64 vs39)))), (40, .c (.one (.v (.int .i64 vs40))))], [(1, ⟨.work, [.ro .str vb1_0, .ro .str vb1_1, .ro .str vb1_2, .ro .fail vb1_3]⟩)], []⟩ k' =
    (cond (decide (vs40 < vs39))
    (cond ((decide ((0 : Int) ≤ vs40)) && (decide (vs40 < (vs38.length : Int))))
      (cond (okStr (FailT.name (atI (t := .fail) vs38 (Int.toNat vs40))))
        (cond (!(nameOk (FailT.name (atI (t := .fail) vs38 (Int.toNat vs40)))))
          (k' .ret ⟨[(2, .c (.one (.v (.bool false))))], [], []⟩)
          (cond ((fun (x : List FailT) (_ : ByteArray) => smL sm_fail x) vb1_3 (FailT.name (atI (t := .fail) vs38 (Int.toNat vs40))))
            (cond ((failAt vb1_3 (FailT.name (atI (t := .fail) vs38 (Int.toNat vs40)))) != vs40)
              (k' .ret ⟨[(2, .c (.one (.v (.bool false))))], [], []⟩)
              (cond (!(inR (FailT.n (atI (t := .fail) vs38 (Int.toNat vs40))) (1 : Int) (20 : Int)))
                (k' .ret ⟨[(2, .c (.one (.v (.bool false))))], [], []⟩)
                (k' .normal ⟨[(1, .c (.one (.pt 1 0))), (38, .c (.one (.ro .fail vs38))), (39, .c (.one (.v (.int .i64 vs39)))), (40, .c (.one (.v (.int .i64 (IntKind.wrap .i64 (vs40 + (1 : Int)))))))], [(1, ⟨.work, [.ro .str vb1_0, .ro .str vb1_1, .ro .str vb1_2, .ro .fail vb1_3]⟩)], []⟩)))
            none))
        none)
      none)
    (k' (.exit 0) ⟨[(1, .c (.one (.pt 1 0))), (38, .c (.one (.ro .fail vs38))), (39, .c (.one (.v (.int .i64 vs39)))), (40, .c (.one (.v (.int .i64 vs40)))), (41, .c (.one (.v (.bool (decide (vs40 < vs39))))))], [(1, ⟨.work, [.ro .str vb1_0, .ro .str vb1_1, .ro .str vb1_2, .ro .fail vb1_3]⟩)], []⟩)) := by kernel_rfl
theorem f23L0_eq {R : Type} (n : Nat) (k' : Ex → St → Option R) (vs38 : List FailT) (vs39 : Int) (vb1_0 : List ByteArray) (vb1_1 : List ByteArray) (vb1_2 : List ByteArray) (vb1_3 : List FailT) : ∀ (m : Nat) (vs40 : Int), iter (fun st k => ev f23e f23k n (cAt [1,1,1,0,1,0,0] f23c) st k) m ⟨[(1, .c (.one (.pt 1 0))), (38, .c (.one (.ro .fail vs38))), (39, .c (.one (.v (.int .i64 vs39)))), (40, .c (.one (.v (.int .i64 vs40))))], [(1, ⟨.work, [.ro .str vb1_0, .ro .str vb1_1, .ro .str vb1_2, .ro .fail vb1_3]⟩)], []⟩ k' = f23L0 n (k' .ret ⟨[(2, .c (.one (.v (.bool false))))], [], []⟩) (fun (xvs40 : Int) (xvs41 : Bool) => k' (.exit 0) ⟨[(1, .c (.one (.pt 1 0))), (38, .c (.one (.ro .fail vs38))), (39, .c (.one (.v (.int .i64 vs39)))), (40, .c (.one (.v (.int .i64 xvs40)))), (41, .c (.one (.v (.bool xvs41))))], [(1, ⟨.work, [.ro .str vb1_0, .ro .str vb1_1, .ro .str vb1_2, .ro .fail vb1_3]⟩)], []⟩) vs38 vs39 vb1_0 vb1_1 vb1_2 vb1_3 m vs40 := by
  intro m; induction m with
  | zero => intros; rfl
  | succ m ih =>
    intro vs40
    simp only [iter]
    rw [f23L0_b]
    simp only [ih, f23L0]

noncomputable def f23K0 {R : Type} (n : Nat) (k' : Ex → St → Option R) : Ex → St → Option R := (blockK 0 (seqK f23e f23k n (cAt [1,1,1,1] f23c) k'))
theorem f23K0_x0 {R : Type} (n : Nat) (k : List Dt → Option R) (a0 : WorkT)  : f23K0 n (exitK f23e [.ro] [false] true [.tmp 2] [4] [.d .work a0] k) .ret ⟨[(2, .c (.one (.v (.bool false))))], [], []⟩ =
    (k [.d .bool false]) := by kernel_rfl
theorem f23K0_x1 {R : Type} (n : Nat) (k : List Dt → Option R) (a0 : WorkT) (vs38 : List FailT) (vs39 : Int) (vb1_0 : List ByteArray) (vb1_1 : List ByteArray) (vb1_2 : List ByteArray) (vb1_3 : List FailT) (xvs40 : Int) (xvs41 : Bool) : f23K0 n (exitK f23e [.ro] [false] true [.tmp 2] [4] [.d .work a0] k) (.exit 0) ⟨[(1, .c (.one (.pt 1 0))), (38, .c (.one (.ro .fail vs38))), (39, .c (.one (.v (.int .i64 vs39)))), (40, .c (.one (.v (.int .i64 xvs40)))), (41, .c (.one (.v (.bool xvs41))))], [(1, ⟨.work, [.ro .str vb1_0, .ro .str vb1_1, .ro .str vb1_2, .ro .fail vb1_3]⟩)], []⟩ =
    (k [.d .bool true]) := by kernel_rfl

theorem f23_run {R : Type} (n : Nat) (k : List Dt → Option R) (a0 : WorkT) : evFn f23e f23k n f23c [.ro] [false] true [.tmp 2] [4] [.d .work a0] k =
    (cond (gNames (WorkT.list a0))
    (cond (!(namesOk (WorkT.list a0)))
      (k [.d .bool false])
      (cond (gNames (WorkT.busy a0))
        (cond (!(namesOk (WorkT.busy a0)))
          (k [.d .bool false])
          (cond (gNames (WorkT.again a0))
            (cond (!(namesOk (WorkT.again a0)))
              (k [.d .bool false])
              (cond (decide (((WorkT.fails a0).length : Int) > (12 : Int)))
                (k [.d .bool false])
                (cond (gBusy (WorkT.list a0) a0)
                  (cond (inBusyAny (WorkT.list a0) a0)
                    (k [.d .bool false])
                    (cond (gBusy (WorkT.again a0) a0)
                      (cond (notBusyAny (WorkT.again a0) a0)
                        (k [.d .bool false])
                        (f23L0 n (k [.d .bool false]) (fun (xvs40 : Int) (xvs41 : Bool) =>
                          (k [.d .bool true])) (WorkT.fails a0) ((WorkT.fails a0).length : Int) (WorkT.list a0) (WorkT.busy a0) (WorkT.again a0) (WorkT.fails a0) n (0 : Int)))
                      none))
                  none)))
            none))
        none))
    none) := by
  refine Eq.trans (b := (cond (gNames (WorkT.list a0))
    (cond (!(namesOk (WorkT.list a0)))
      (k [.d .bool false])
      (cond (gNames (WorkT.busy a0))
        (cond (!(namesOk (WorkT.busy a0)))
          (k [.d .bool false])
          (cond (gNames (WorkT.again a0))
            (cond (!(namesOk (WorkT.again a0)))
              (k [.d .bool false])
              (cond (decide (((WorkT.fails a0).length : Int) > (12 : Int)))
                (k [.d .bool false])
                (cond (gBusy (WorkT.list a0) a0)
                  (cond (inBusyAny (WorkT.list a0) a0)
                    (k [.d .bool false])
                    (cond (gBusy (WorkT.again a0) a0)
                      (cond (notBusyAny (WorkT.again a0) a0)
                        (k [.d .bool false])
                        (iter (fun st k => ev f23e f23k n (cAt [1,1,1,0,1,0,0] f23c) st k) n ⟨[(1, .c (.one (.pt 1 0))), (38, .c (.one (.ro .fail (WorkT.fails a0)))), (39, .c (.one (.v (.int .i64 ((WorkT.fails a0).length : Int))))), (40, .c (.one (.v (.int .i64 (0 : Int)))))], [(1, ⟨.work, [.ro .str (WorkT.list a0), .ro .str (WorkT.busy a0), .ro .str (WorkT.again a0), .ro .fail (WorkT.fails a0)]⟩)], []⟩ (f23K0 n (exitK f23e [.ro] [false] true [.tmp 2] [4] [.d .work a0] k))))
                      none))
                  none)))
            none))
        none))
    none)) (by kernel_rfl) ?_
  simp only [f23L0_eq, f23K0_x0, f23K0_x1]
theorem f23_spec (a0 : WorkT) (hg : sm_work a0 = true) : ∃ keep rounds, ∀ {R : Type} (k : List Dt → Option R), evFn f23e keep rounds f23c [.ro] [false] true [.tmp 2] [4] [.d .work a0] k = k [.d .bool (workQOk a0)] := by
  simp only [sm_work, Bool.and_eq_true] at hg
  obtain ⟨hl, hb, ha, hf⟩ := hg
  have gl : gNames a0.list = true := okL_sms hl
  have gb : gNames a0.busy = true := okL_sms hb
  have ga : gNames a0.again = true := okL_sms ha
  have ll := smL_len hl
  have lb := smL_len hb
  have la := smL_len ha
  have lf := smL_len hf
  have wb : gLenW a0.busy = true := gLenW_sm hb
  have g1 : gBusy a0.list a0 = true := by unfold gBusy; rw [gLenW_sm hl, wb]; rfl
  have g2 : gBusy a0.again a0 = true := by unfold gBusy; rw [gLenW_sm ha, wb]; rfl
  have hfn : ∀ {j}, j < a0.fails.length → okStr (atI (t := .fail) a0.fails j).name = true := fun hj => by
    have := smL_at (t := .fail) hf hj
    simp only [sm_fail, Bool.and_eq_true] at this
    exact okStr_sm this.1
  refine ⟨f23k, a0.list.length + a0.again.length + a0.fails.length + 1, fun {R} k => ?_⟩
  rw [f23_run]
  simp only [gl, gb, ga, g1, g2, cond_true]
  show _ = k [.d .bool (workQOk a0)]
  unfold workQOk
  cases namesOk a0.list
  · rfl
  cases namesOk a0.busy
  · rfl
  cases namesOk a0.again
  · rfl
  cases decide ((a0.fails.length : Int) > 12)
  rotate_left
  · rfl
  simp only [Bool.not_true, Bool.not_false, cond_false, Bool.true_and]
  cases inBusyAny a0.list a0
  · cases notBusyAny a0.again a0
    · simp only [Bool.not_false, cond_false, Bool.true_and]
      refine Eq.trans (loop_idx (n := a0.fails.length) (F := fun m i => f23L0 (a0.list.length + a0.again.length + a0.fails.length + 1) _ _ a0.fails (a0.fails.length : Int) a0.list a0.busy a0.again a0.fails m i) (p := failC a0.fails) (good := k [.d .bool true]) (bad := k [.d .bool false])
        (fun m j hj => ?_) (fun m => by simp only [f23L0, idxE, cond_false]) a0.fails.length 0 (a0.list.length + a0.again.length + a0.fails.length + 1) (by omega) (by omega)) ?_
      · obtain ⟨h1, h0, hw, ht⟩ := idx hj (by omega)
        simp only [f23L0, h1, h0, hw, ht, hf, hfn hj, Bool.and_self, cond_true]
        unfold failC
        cases nameOk (atI (t := .fail) a0.fails j).name <;> cases failAt a0.fails (atI (t := .fail) a0.fails j).name != (j : Int) <;> cases inR (atI (t := .fail) a0.fails j).n 1 20 <;> rfl
      · cases allN (failC a0.fails) 0 a0.fails.length <;> rfl
    · rfl
  · rfl

noncomputable def q23 : List Dt → Option (Bool × List Dt)
  | [.d .work a0] => some ((sm_work a0), [.d .bool (workQOk a0)])
  | _ => none
noncomputable def s23 : Gm.Spec := Gm.Spec.of [.ro] [false] true q23
theorem good23 : Gm.Good Try.prog (23, s23) := by
  have hl : ∀ x ∈ [(42, s42), (49, s49), (50, s50), (51, s51), (52, s52), (53, s53), (54, s54)], Gm.Good Try.prog x := List.forall_mem_cons.2 ⟨good42, List.forall_mem_cons.2 ⟨good49, List.forall_mem_cons.2 ⟨good50, List.forall_mem_cons.2 ⟨good51, List.forall_mem_cons.2 ⟨good52, List.forall_mem_cons.2 ⟨good53, List.forall_mem_cons.2 ⟨good54, List.forall_mem_nil _⟩⟩⟩⟩⟩⟩⟩
  refine ⟨⟨spec_ok (tab_ok.env hl) (tab.natl hl) Try.func23 (by kernel_rfl : Try.f23.body = some f23c) [4] (by kernel_rfl) ?_, _, Try.func23, by kernel_rfl, of_decide_eq_true (by kernel_rfl)⟩, Gm.Spec.of_natl _ _ _ _⟩
  intro ds outs h
  unfold q23 at h
  split at h
  · simp only [Option.some.injEq, Prod.mk.injEq] at h; obtain ⟨hg, h⟩ := h; cases h; exact f23_spec _ hg
  · cases h
end Go.Proofs.Ytmeeoilfnahihaa

/- x -/
namespace Go.Proofs.Ytmeeoilfnahihaa
open Go Go.Gm
/-! ### slices.Clone[[]string,string] -/
noncomputable def f78ac : Code := (Try.f78.body).getD .skip
def f78ak : Nat → Kp := kat [⟨[0], [], [], []⟩, ⟨[0, 4], [], [], []⟩, ⟨[2], [], [], []⟩, ⟨[2], [], [], []⟩]
noncomputable def f78ae : Env := tab.env []
theorem f78a_run {R : Type} (n : Nat) (k : List Dt → Option R) (a0 : List ByteArray) : evFn f78ae f78ak n f78ac [.ro] [false] true [.tmp 2] [22] [.d (.sl .str) a0] k =
    (cond (List.isEmpty a0)
    none
    (cond (Nat.ble (0 + a0.length) LIM)
      (k [.d (.sl .str) (([] : List ByteArray) ++ a0)])
      none)) := by kernel_rfl
theorem f78a_spec (a0 : List ByteArray) (hg : (fun (x : List ByteArray) => !(x.isEmpty) && Nat.ble x.length LIM) a0 = true) : ∃ keep rounds, ∀ {R : Type} (k : List Dt → Option R), evFn f78ae keep rounds f78ac [.ro] [false] true [.tmp 2] [22] [.d (.sl .str) a0] k = k [.d (.sl .str) a0] := by
  simp only [Bool.and_eq_true, Bool.not_eq_true'] at hg
  obtain ⟨h1, h2⟩ := hg
  refine ⟨f78ak, 0, fun {R} k => ?_⟩
  rw [f78a_run, h1, Nat.zero_add, h2]
  simp only [cond_true, cond_false, List.nil_append]

noncomputable def q78a : List Dt → Option (Bool × List Dt)
  | [.d (.sl .str) a0] => some (((fun (x : List ByteArray) => !(x.isEmpty) && Nat.ble x.length LIM) a0), [.d (.sl .str) a0])
  | _ => none
noncomputable def s78a : Gm.Spec := Gm.Spec.of [.ro] [false] true q78a
theorem good78a : Gm.Good Try.prog (78, s78a) := by
  have hl : ∀ x ∈ ([] : List (Nat × Gm.Spec)), Gm.Good Try.prog x := fun _ h => by cases h
  refine ⟨⟨spec_ok (tab_ok.env hl) (tab.natl hl) Try.func78 (by kernel_rfl : Try.f78.body = some f78ac) [22] (by kernel_rfl) ?_, _, Try.func78, by kernel_rfl, of_decide_eq_true (by kernel_rfl)⟩, Gm.Spec.of_natl _ _ _ _⟩
  intro ds outs h
  unfold q78a at h
  split at h
  · simp only [Option.some.injEq, Prod.mk.injEq] at h; obtain ⟨hg, h⟩ := h; cases h; exact f78a_spec _ hg
  · cases h
set_option maxHeartbeats 1000000 in
set_option maxRecDepth 100000 in
theorem clE78 : CloneE Try.prog 78 := by
  intro a c w
  cases a with
  | none =>
    have q22 : ∀ (w : World) (n c n' c' : Nat), (binOp .eql 22 (.slice none n c) (.slice none n' c')).run Try.prog w = .ok (.bool true) w := fun w n c n' c' => Lib.run_eql_slice_nil w _ _ none n c n' c' Try.underlying22
    go_enter Try.func78, Try.ntmps78
    go_wp2
    go_ret
    exact .inl ⟨rfl, rfl⟩
  | some a =>
    have q22 : ∀ (w : World) (n c n' c' : Nat), (binOp .eql 22 (.slice (some a) n c) (.slice none n' c')).run Try.prog w = .ok (.bool false) w := fun w n c n' c' => Lib.run_eql_slice_nil w _ _ (some a) n c n' c' Try.underlying22
    go_enter Try.func78, Try.ntmps78
    go_wp2
    go_ret
    exact .inr ⟨_, rfl, rfl⟩
noncomputable def q78b : List Dt → Option (Bool × List Dt)
  | [.d (.sl .str) []] => some (true, [.d (.sl .str) []])
  | _ => none
noncomputable def q78 : List Dt → Option (Bool × List Dt)
  | [.d (.sl .str) a0] => some (Nat.ble a0.length LIM, [.d (.sl .str) a0])
  | _ => none
noncomputable def s78 : Gm.Spec := Gm.Spec.of [.ro] [false] true q78
theorem good78 : Gm.Good Try.prog (78, s78) := by
  refine ⟨⟨spec_clone (q := q78) (qb := q78b) good78a.1.1 (spec_cloneE (t := .str) clE78 fun ds outs h => ?_) fun ds outs h => ?_, _, Try.func78, by kernel_rfl, of_decide_eq_true (by kernel_rfl)⟩, Gm.Spec.of_natl _ _ _ _⟩
  · unfold q78b at h
    split at h
    · simp only [Option.some.injEq, Prod.mk.injEq, true_and] at h
      exact ⟨rfl, h.symm⟩
    · cases h
  · unfold q78 at h
    split at h
    · rename_i a0
      simp only [Option.some.injEq, Prod.mk.injEq] at h
      obtain ⟨hg, rfl⟩ := h
      cases a0 with
      | nil => exact .inr rfl
      | cons x r => refine .inl ?_; simp only [q78a, List.isEmpty_cons, Bool.not_false, Bool.true_and, hg]
    · cases h
/-! ### slices.Clone[[]loop.example/g00465/impl.Fail,loop.example/g00465/impl.Fail] -/
noncomputable def f79ac : Code := (Try.f79.body).getD .skip
def f79ak : Nat → Kp := kat [⟨[0], [], [], []⟩, ⟨[0, 4], [], [], []⟩, ⟨[2], [], [], []⟩, ⟨[2], [], [], []⟩]
noncomputable def f79ae : Env := tab.env []
theorem f79a_run {R : Type} (n : Nat) (k : List Dt → Option R) (a0 : List FailT) : evFn f79ae f79ak n f79ac [.ro] [false] true [.tmp 2] [28] [.d (.sl .fail) a0] k =
    (cond (List.isEmpty a0)
    none
    (cond (Nat.ble (0 + a0.length) LIM)
      (k [.d (.sl .fail) (([] : List FailT) ++ a0)])
      none)) := by kernel_rfl
theorem f79a_spec (a0 : List FailT) (hg : (fun (x : List FailT) => !(x.isEmpty) && Nat.ble x.length LIM) a0 = true) : ∃ keep rounds, ∀ {R : Type} (k : List Dt → Option R), evFn f79ae keep rounds f79ac [.ro] [false] true [.tmp 2] [28] [.d (.sl .fail) a0] k = k [.d (.sl .fail) a0] := by
  simp only [Bool.and_eq_true, Bool.not_eq_true'] at hg
  obtain ⟨h1, h2⟩ := hg
  refine ⟨f79ak, 0, fun {R} k => ?_⟩
  rw [f79a_run, h1, Nat.zero_add, h2]
  simp only [cond_true, cond_false, List.nil_append]

noncomputable def q79a : List Dt → Option (Bool × List Dt)
  | [.d (.sl .fail) a0] => some (((fun (x : List FailT) => !(x.isEmpty) && Nat.ble x.length LIM) a0), [.d (.sl .fail) a0])
  | _ => none
noncomputable def s79a : Gm.Spec := Gm.Spec.of [.ro] [false] true q79a
theorem good79a : Gm.Good Try.prog (79, s79a) := by
  have hl : ∀ x ∈ ([] : List (Nat × Gm.Spec)), Gm.Good Try.prog x := fun _ h => by cases h
  refine ⟨⟨spec_ok (tab_ok.env hl) (tab.natl hl) Try.func79 (by kernel_rfl : Try.f79.body = some f79ac) [28] (by kernel_rfl) ?_, _, Try.func79, by kernel_rfl, of_decide_eq_true (by kernel_rfl)⟩, Gm.Spec.of_natl _ _ _ _⟩
  intro ds outs h
  unfold q79a at h
  split at h
  · simp only [Option.some.injEq, Prod.mk.injEq] at h; obtain ⟨hg, h⟩ := h; cases h; exact f79a_spec _ hg
  · cases h
set_option maxHeartbeats 1000000 in
set_option maxRecDepth 100000 in
theorem clE79 : CloneE Try.prog 79 := by
  intro a c w
  cases a with
  | none =>
    have q22 : ∀ (w : World) (n c n' c' : Nat), (binOp .eql 28 (.slice none n c) (.slice none n' c')).run Try.prog w = .ok (.bool true) w := fun w n c n' c' => Lib.run_eql_slice_nil w _ _ none n c n' c' Try.underlying28
    go_enter Try.func79, Try.ntmps79
    go_wp2
    go_ret
    exact .inl ⟨rfl, rfl⟩
  | some a =>
    have q22 : ∀ (w : World) (n c n' c' : Nat), (binOp .eql 28 (.slice (some a) n c) (.slice none n' c')).run Try.prog w = .ok (.bool false) w := fun w n c n' c' => Lib.run_eql_slice_nil w _ _ (some a) n c n' c' Try.underlying28
    go_enter Try.func79, Try.ntmps79
    go_wp2
    go_ret
    exact .inr ⟨_, rfl, rfl⟩
noncomputable def q79b : List Dt → Option (Bool × List Dt)
  | [.d (.sl .fail) []] => some (true, [.d (.sl .fail) []])
  | _ => none
noncomputable def q79 : List Dt → Option (Bool × List Dt)
  | [.d (.sl .fail) a0] => some (Nat.ble a0.length LIM, [.d (.sl .fail) a0])
  | _ => none
noncomputable def s79 : Gm.Spec := Gm.Spec.of [.ro] [false] true q79
theorem good79 : Gm.Good Try.prog (79, s79) := by
  refine ⟨⟨spec_clone (q := q79) (qb := q79b) good79a.1.1 (spec_cloneE (t := .fail) clE79 fun ds outs h => ?_) fun ds outs h => ?_, _, Try.func79, by kernel_rfl, of_decide_eq_true (by kernel_rfl)⟩, Gm.Spec.of_natl _ _ _ _⟩
  · unfold q79b at h
    split at h
    · simp only [Option.some.injEq, Prod.mk.injEq, true_and] at h
      exact ⟨rfl, h.symm⟩
    · cases h
  · unfold q79 at h
    split at h
    · rename_i a0
      simp only [Option.some.injEq, Prod.mk.injEq] at h
      obtain ⟨hg, rfl⟩ := h
      cases a0 with
      | nil => exact .inr rfl
      | cons x r => refine .inl ?_; simp only [q79a, List.isEmpty_cons, Bool.not_false, Bool.true_and, hg]
    · cases h
/-! ### loop.example/g00465/spec.l27Copy -/
noncomputable def f59c : Code := (Try.f59.body).getD .skip
def f59k : Nat → Kp := kat [⟨[1, 2], [], [], []⟩, ⟨[2], [], [], []⟩]
noncomputable def f59e : Env := tab.env []
theorem f59_run {R : Type} (n : Nat) (k : List Dt → Option R) (a0 : WorkT) : evFn f59e f59k n f59c [.ro] [false] true [.cell 2 30] [30] [.d .work a0] k =
    (cond (Nat.ble (0 + (WorkT.list a0).length) LIM)
    (cond (Nat.ble (0 + (WorkT.busy a0).length) LIM)
      (cond (Nat.ble (0 + (WorkT.again a0).length) LIM)
        (cond (Nat.ble (0 + (WorkT.fails a0).length) LIM)
          (k [.d .work (⟨(([] : List ByteArray) ++ (WorkT.list a0)), (([] : List ByteArray) ++ (WorkT.busy a0)), (([] : List ByteArray) ++ (WorkT.again a0)), (([] : List FailT) ++ (WorkT.fails a0))⟩ : WorkT)])
          none)
        none)
      none)
    none) := by kernel_rfl
theorem f59_spec (a0 : WorkT) (hg : sm_work a0 = true) : ∃ keep rounds, ∀ {R : Type} (k : List Dt → Option R), evFn f59e keep rounds f59c [.ro] [false] true [.cell 2 30] [30] [.d .work a0] k = k [.d .work a0] := by
  have hg0 := hg
  simp only [sm_work, Bool.and_eq_true] at hg
  obtain ⟨hl, hb, ha, hf⟩ := hg
  have nl := smL_len hl
  have nb := smL_len hb
  have na := smL_len ha
  have nf := smL_len hf
  refine ⟨f59k, 0, fun k => ?_⟩
  rw [f59_run]
  simp only [Nat.zero_add, limLe nl, limLe nb, limLe na, limLe nf, cond_true, List.nil_append]

noncomputable def q59 : List Dt → Option (Bool × List Dt)
  | [.d .work a0] => some ((sm_work a0), [.d .work a0])
  | _ => none
noncomputable def s59 : Gm.Spec := Gm.Spec.of [.ro] [false] true q59
theorem good59 : Gm.Good Try.prog (59, s59) := by
  have hl : ∀ x ∈ ([] : List (Nat × Gm.Spec)), Gm.Good Try.prog x := fun _ h => by cases h
  refine ⟨⟨spec_ok (tab_ok.env hl) (tab.natl hl) Try.func59 (by kernel_rfl : Try.f59.body = some f59c) [30] (by kernel_rfl) ?_, _, Try.func59, by kernel_rfl, of_decide_eq_true (by kernel_rfl)⟩, Gm.Spec.of_natl _ _ _ _⟩
  intro ds outs h
  unfold q59 at h
  split at h
  · simp only [Option.some.injEq, Prod.mk.injEq] at h; obtain ⟨hg, h⟩ := h; cases h; exact f59_spec _ hg
  · cases h
/-! ### loop.example/g00465/impl.copyWork -/
noncomputable def f45c : Code := (Try.f45.body).getD .skip
def f45k : Nat → Kp := kat [⟨[1, 2], [], [], []⟩, ⟨[2], [], [], []⟩]
noncomputable def f45e : Env := tab.env [(78, s78), (79, s79)]
theorem f45_run {R : Type} (n : Nat) (k : List Dt → Option R) (a0 : WorkT) : evFn f45e f45k n f45c [.ro] [false] true [.cell 2 30] [30] [.d .work a0] k =
    (cond ((fun (x : List ByteArray) => Nat.ble x.length LIM) (WorkT.list a0))
    (cond ((fun (x : List ByteArray) => Nat.ble x.length LIM) (WorkT.busy a0))
      (cond ((fun (x : List ByteArray) => Nat.ble x.length LIM) (WorkT.again a0))
        (cond ((fun (x : List FailT) => Nat.ble x.length LIM) (WorkT.fails a0))
          (k [.d .work a0])
          none)
        none)
      none)
    none) := by kernel_rfl
theorem f45_spec (a0 : WorkT) (hg : sm_work a0 = true) : ∃ keep rounds, ∀ {R : Type} (k : List Dt → Option R), evFn f45e keep rounds f45c [.ro] [false] true [.cell 2 30] [30] [.d .work a0] k = k [.d .work a0] := by
  have hg0 := hg
  simp only [sm_work, Bool.and_eq_true] at hg
  obtain ⟨hl, hb, ha, hf⟩ := hg
  have nl := smL_len hl
  have nb := smL_len hb
  have na := smL_len ha
  have nf := smL_len hf
  refine ⟨f45k, 0, fun k => ?_⟩
  rw [f45_run]
  simp only [limLe nl, limLe nb, limLe na, limLe nf, cond_true]

noncomputable def q45 : List Dt → Option (Bool × List Dt)
  | [.d .work a0] => some ((sm_work a0), [.d .work a0])
  | _ => none
noncomputable def s45 : Gm.Spec := Gm.Spec.of [.ro] [false] true q45
theorem good45 : Gm.Good Try.prog (45, s45) := by
  have hl : ∀ x ∈ [(78, s78), (79, s79)], Gm.Good Try.prog x := List.forall_mem_cons.2 ⟨good78, List.forall_mem_cons.2 ⟨good79, List.forall_mem_nil _⟩⟩
  refine ⟨⟨spec_ok (tab_ok.env hl) (tab.natl hl) Try.func45 (by kernel_rfl : Try.f45.body = some f45c) [30] (by kernel_rfl) ?_, _, Try.func45, by kernel_rfl, of_decide_eq_true (by kernel_rfl)⟩, Gm.Spec.of_natl _ _ _ _⟩
  intro ds outs h
  unfold q45 at h
  split at h
  · simp only [Option.some.injEq, Prod.mk.injEq] at h; obtain ⟨hg, h⟩ := h; cases h; exact f45_spec _ hg
  · cases h
end Go.Proofs.Ytmeeoilfnahihaa

/- x -/
namespace Go.Proofs.Ytmeeoilfnahihaa
open Go Go.Gm
/-! ### loop.example/g00465/spec.WorkTake -/
noncomputable def f25c : Code := (Try.f25.body).getD .skip
def f25k : Nat → Kp := kat [⟨[1, 2], [], [], []⟩, ⟨[1, 2, 5], [], [], []⟩, ⟨[1, 2, 5, 16], [], [], []⟩, ⟨[2, 3, 4], [], [], []⟩, ⟨[1, 2, 5], [], [], []⟩, ⟨[1, 2, 5], [], [], []⟩, ⟨[1, 2, 5, 35], [], [], []⟩, ⟨[2, 3, 4], [], [], []⟩, ⟨[2, 3, 4], [], [], []⟩]
noncomputable def f25e : Env := tab.env [(24, s24), (59, s59)]
theorem f25_run {R : Type} (n : Nat) (k : List Dt → Option R) (a0 : WorkT) : evFn f25e f25k n f25c [.ro] [false, false, false] true [.cell 2 30, .tmp 3, .tmp 4] [30, 9, 4] [.d .work a0] k =
    (cond (sm_work a0)
    (cond (sm_work a0)
      (cond (!(workQOk a0))
        (k [.d .work a0, .d .str ByteArray.empty, .d .bool false])
        (cond (((WorkT.list a0).length : Int) == (0 : Int))
          (k [.d .work a0, .d .str ByteArray.empty, .d .bool false])
          (cond ((decide ((1 : Int) ≤ ((WorkT.list a0).length : Int))) && (decide (((WorkT.list a0).length : Int) ≤ ((WorkT.list a0).length : Int))))
            (cond (Nat.ble (0 + (((WorkT.list a0).take (Int.toNat ((WorkT.list a0).length : Int))).drop 1).length) LIM)
              (cond (decide ((0 : Int) < ((WorkT.list a0).length : Int)))
                (cond (Nat.ble ((WorkT.busy a0).length + 1) LIM)
                  (cond (sm_work (⟨(([] : List ByteArray) ++ (((WorkT.list a0).take (Int.toNat ((WorkT.list a0).length : Int))).drop 1)), ((WorkT.busy a0) ++ ([(atI (t := .str) (WorkT.list a0) 0)] : List ByteArray)), (WorkT.again a0), (WorkT.fails a0)⟩ : WorkT))
                    (cond (!(workQOk (⟨(([] : List ByteArray) ++ (((WorkT.list a0).take (Int.toNat ((WorkT.list a0).length : Int))).drop 1)), ((WorkT.busy a0) ++ ([(atI (t := .str) (WorkT.list a0) 0)] : List ByteArray)), (WorkT.again a0), (WorkT.fails a0)⟩ : WorkT)))
                      (cond (sm_work a0)
                        (k [.d .work a0, .d .str ByteArray.empty, .d .bool false])
                        none)
                      (cond (decide ((0 : Int) < ((WorkT.list a0).length : Int)))
                        (k [.d .work (⟨(([] : List ByteArray) ++ (((WorkT.list a0).take (Int.toNat ((WorkT.list a0).length : Int))).drop 1)), ((WorkT.busy a0) ++ ([(atI (t := .str) (WorkT.list a0) 0)] : List ByteArray)), (WorkT.again a0), (WorkT.fails a0)⟩ : WorkT), .d .str (atI (t := .str) (WorkT.list a0) 0), .d .bool true])
                        none))
                    none)
                  none)
                none)
              none)
            none)))
      none)
    none) := by kernel_rfl
theorem f25_spec (a0 : WorkT) (hg : sm_work a0 = true) : ∃ keep rounds, ∀ {R : Type} (k : List Dt → Option R), evFn f25e keep rounds f25c [.ro] [false, false, false] true [.cell 2 30, .tmp 3, .tmp 4] [30, 9, 4] [.d .work a0] k = k [.d .work ((workTake a0).1), .d .str ((workTake a0).2.1), .d .bool ((workTake a0).2.2)] := by
  have hg0 := hg
  simp only [sm_work, Bool.and_eq_true] at hg
  obtain ⟨hl, hb, ha, hf⟩ := hg
  have nl := smL_len hl
  have nb := smL_len hb
  have na := smL_len ha
  have nf := smL_len hf
  refine ⟨f25k, 0, fun {R} k => ?_⟩
  rw [f25_run]
  show _ = k [.d .work (workTake a0).1, .d .str (workTake a0).2.1, .d .bool (workTake a0).2.2]
  unfold workTake
  simp only [hg0, cond_true]
  cases hq : workQOk a0
  · rfl
  cases hlist : a0.list with
  | nil => rfl
  | cons x r =>
    rw [hlist] at hl nl
    have h1 : (((x :: r).length : Int) == (0 : Int)) = false := by rw [beq_eq_false_iff_ne, List.length_cons]; omega
    have h2 : decide ((1 : Int) ≤ ((x :: r).length : Int)) = true := decide_eq_true (by rw [List.length_cons]; omega)
    have h3 : decide (((x :: r).length : Int) ≤ ((x :: r).length : Int)) = true := decide_eq_true (Int.le_refl _)
    have h4 : decide ((0 : Int) < ((x :: r).length : Int)) = true := decide_eq_true (by rw [List.length_cons]; omega)
    have h5 : ((x :: r).take (Int.toNat ((x :: r).length : Int))).drop 1 = r := by rw [Int.toNat_natCast, List.take_length]; rfl
    have h6 : atI (t := .str) (x :: r) 0 = x := rfl
    have hr : smL smStr r = true := smL_tail hl
    have nr := smL_len hr
    have hx : smStr x = true := smL_head hl
    have hs : sm_work (takeN a0 x r) = true := by
      simp only [takeN, sm_work, Bool.and_eq_true]
      exact ⟨hr, smL_snoc hb hx (qOk_len hq).2.1, ha, hf⟩
    simp only [same, h1, h2, h3, h4, h5, h6, Bool.not_true, cond_true, cond_false, Bool.and_self, List.nil_append, Nat.zero_add, limLe nr, limLe1 nb]
    rw [show (⟨r, a0.busy ++ [x], a0.again, a0.fails⟩ : WorkT) = takeN a0 x r from rfl, hs]
    cases workQOk (takeN a0 x r) <;> simp only [cond_true, cond_false, Bool.not_true, Bool.not_false, hlist]

noncomputable def q25 : List Dt → Option (Bool × List Dt)
  | [.d .work a0] => some ((sm_work a0), [.d .work ((workTake a0).1), .d .str ((workTake a0).2.1), .d .bool ((workTake a0).2.2)])
  | _ => none
noncomputable def s25 : Gm.Spec := Gm.Spec.of [.ro] [false, false, false] true q25
theorem good25 : Gm.Good Try.prog (25, s25) := by
  have hl : ∀ x ∈ [(24, s24), (59, s59)], Gm.Good Try.prog x := List.forall_mem_cons.2 ⟨good24, List.forall_mem_cons.2 ⟨good59, List.forall_mem_nil _⟩⟩
  refine ⟨⟨spec_ok (tab_ok.env hl) (tab.natl hl) Try.func25 (by kernel_rfl : Try.f25.body = some f25c) [30, 9, 4] (by kernel_rfl) ?_, _, Try.func25, by kernel_rfl, of_decide_eq_true (by kernel_rfl)⟩, Gm.Spec.of_natl _ _ _ _⟩
  intro ds outs h
  unfold q25 at h
  split at h
  · simp only [Option.some.injEq, Prod.mk.injEq] at h; obtain ⟨hg, h⟩ := h; cases h; exact f25_spec _ hg
  · cases h
/-! ### loop.example/g00465/impl.WorkTake -/
noncomputable def f19c : Code := (Try.f19.body).getD .skip
def f19k : Nat → Kp := kat [⟨[1, 2], [], [], []⟩, ⟨[1, 2, 15], [], [], []⟩, ⟨[2, 3, 4], [], [], []⟩, ⟨[1, 2, 5], [], [], []⟩, ⟨[1, 2, 5, 6], [], [], []⟩, ⟨[1, 2, 5, 6], [], [], []⟩, ⟨[1, 2, 5, 6], [], [], []⟩, ⟨[1, 2, 5, 6, 36], [], [], []⟩, ⟨[2, 3, 4], [], [], []⟩, ⟨[2, 3, 4], [], [], []⟩]
noncomputable def f19e : Env := tab.env [(23, s23), (45, s45)]
theorem f19_run {R : Type} (n : Nat) (k : List Dt → Option R) (a0 : WorkT) : evFn f19e f19k n f19c [.ro] [false, false, false] true [.cell 2 30, .tmp 3, .tmp 4] [30, 9, 4] [.d .work a0] k =
    (cond (sm_work a0)
    (cond (!(workQOk a0))
      (cond (sm_work a0)
        (k [.d .work a0, .d .str ByteArray.empty, .d .bool false])
        none)
      (cond (((WorkT.list a0).length : Int) == (0 : Int))
        (cond (sm_work a0)
          (k [.d .work a0, .d .str ByteArray.empty, .d .bool false])
          none)
        (cond (sm_work a0)
          (cond (decide ((0 : Int) < ((WorkT.list a0).length : Int)))
            (cond ((decide ((1 : Int) ≤ ((WorkT.list a0).length : Int))) && (decide (((WorkT.list a0).length : Int) ≤ ((WorkT.list a0).length : Int))))
              (cond (Nat.ble ((WorkT.busy a0).length + 1) LIM)
                (cond (sm_work (⟨(((WorkT.list a0).take (Int.toNat ((WorkT.list a0).length : Int))).drop 1), ((WorkT.busy a0) ++ ([(atI (t := .str) (WorkT.list a0) 0)] : List ByteArray)), (WorkT.again a0), (WorkT.fails a0)⟩ : WorkT))
                  (cond (!(workQOk (⟨(((WorkT.list a0).take (Int.toNat ((WorkT.list a0).length : Int))).drop 1), ((WorkT.busy a0) ++ ([(atI (t := .str) (WorkT.list a0) 0)] : List ByteArray)), (WorkT.again a0), (WorkT.fails a0)⟩ : WorkT)))
                    (cond (sm_work a0)
                      (k [.d .work a0, .d .str ByteArray.empty, .d .bool false])
                      none)
                    (k [.d .work (⟨(((WorkT.list a0).take (Int.toNat ((WorkT.list a0).length : Int))).drop 1), ((WorkT.busy a0) ++ ([(atI (t := .str) (WorkT.list a0) 0)] : List ByteArray)), (WorkT.again a0), (WorkT.fails a0)⟩ : WorkT), .d .str (atI (t := .str) (WorkT.list a0) 0), .d .bool true]))
                  none)
                none)
              none)
            none)
          none)))
    none) := by kernel_rfl
theorem f19_spec (a0 : WorkT) (hg : sm_work a0 = true) : ∃ keep rounds, ∀ {R : Type} (k : List Dt → Option R), evFn f19e keep rounds f19c [.ro] [false, false, false] true [.cell 2 30, .tmp 3, .tmp 4] [30, 9, 4] [.d .work a0] k = k [.d .work ((workTake a0).1), .d .str ((workTake a0).2.1), .d .bool ((workTake a0).2.2)] := by
  have hg0 := hg
  simp only [sm_work, Bool.and_eq_true] at hg
  obtain ⟨hl, hb, ha, hf⟩ := hg
  have nl := smL_len hl
  have nb := smL_len hb
  have na := smL_len ha
  have nf := smL_len hf
  refine ⟨f19k, 0, fun {R} k => ?_⟩
  rw [f19_run]
  show _ = k [.d .work (workTake a0).1, .d .str (workTake a0).2.1, .d .bool (workTake a0).2.2]
  unfold workTake
  simp only [hg0, cond_true]
  cases hq : workQOk a0
  · rfl
  cases hlist : a0.list with
  | nil => rfl
  | cons x r =>
    rw [hlist] at hl nl
    have h1 : (((x :: r).length : Int) == (0 : Int)) = false := by rw [beq_eq_false_iff_ne, List.length_cons]; omega
    have h2 : decide ((1 : Int) ≤ ((x :: r).length : Int)) = true := decide_eq_true (by rw [List.length_cons]; omega)
    have h3 : decide (((x :: r).length : Int) ≤ ((x :: r).length : Int)) = true := decide_eq_true (Int.le_refl _)
    have h4 : decide ((0 : Int) < ((x :: r).length : Int)) = true := decide_eq_true (by rw [List.length_cons]; omega)
    have h5 : ((x :: r).take (Int.toNat ((x :: r).length : Int))).drop 1 = r := by rw [Int.toNat_natCast, List.take_length]; rfl
    have h6 : atI (t := .str) (x :: r) 0 = x := rfl
    have hr : smL smStr r = true := smL_tail hl
    have nr := smL_len hr
    have hx : smStr x = true := smL_head hl
    have hs : sm_work (takeN a0 x r) = true := by
      simp only [takeN, sm_work, Bool.and_eq_true]
      exact ⟨hr, smL_snoc hb hx (qOk_len hq).2.1, ha, hf⟩
    simp only [same, h1, h2, h3, h4, h5, h6, Bool.not_true, cond_true, cond_false, Bool.and_self, List.nil_append, Nat.zero_add, limLe nr, limLe1 nb]
    rw [show (⟨r, a0.busy ++ [x], a0.again, a0.fails⟩ : WorkT) = takeN a0 x r from rfl, hs]
    cases workQOk (takeN a0 x r) <;> simp only [cond_true, cond_false, Bool.not_true, Bool.not_false, hlist]

noncomputable def q19 : List Dt → Option (Bool × List Dt)
  | [.d .work a0] => some ((sm_work a0), [.d .work ((workTake a0).1), .d .str ((workTake a0).2.1), .d .bool ((workTake a0).2.2)])
  | _ => none
noncomputable def s19 : Gm.Spec := Gm.Spec.of [.ro] [false, false, false] true q19
theorem good19 : Gm.Good Try.prog (19, s19) := by
  have hl : ∀ x ∈ [(23, s23), (45, s45)], Gm.Good Try.prog x := List.forall_mem_cons.2 ⟨good23, List.forall_mem_cons.2 ⟨good45, List.forall_mem_nil _⟩⟩
  refine ⟨⟨spec_ok (tab_ok.env hl) (tab.natl hl) Try.func19 (by kernel_rfl : Try.f19.body = some f19c) [30, 9, 4] (by kernel_rfl) ?_, _, Try.func19, by kernel_rfl, of_decide_eq_true (by kernel_rfl)⟩, Gm.Spec.of_natl _ _ _ _⟩
  intro ds outs h
  unfold q19 at h
  split at h
  · simp only [Option.some.injEq, Prod.mk.injEq] at h; obtain ⟨hg, h⟩ := h; cases h; exact f19_spec _ hg
  · cases h
/-! ### loop.example/g00465/spec.WorkAdd -/
noncomputable def f28c : Code := (Try.f28.body).getD .skip
def f28k : Nat → Kp := kat [⟨[1, 2, 4], [], [], []⟩, ⟨[1, 2, 4, 6], [], [], []⟩, ⟨[1, 2, 4, 6, 11], [], [], []⟩, ⟨[4, 5], [], [], []⟩, ⟨[2, 4, 6], [], [], []⟩, ⟨[1, 2, 4, 6, 19], [], [], []⟩, ⟨[4, 5], [], [], []⟩, ⟨[1, 2, 4, 6, 31], [], [], []⟩, ⟨[2, 4, 6], [], [], []⟩, ⟨[2, 4, 6, 44], [], [], []⟩, ⟨[4, 5], [], [], []⟩, ⟨[4, 5], [], [], []⟩]
noncomputable def f28e : Env := tab.env [(24, s24), (56, s56), (59, s59)]
theorem f28_run {R : Type} (n : Nat) (k : List Dt → Option R) (a0 : WorkT) (a1 : ByteArray) : evFn f28e f28k n f28c [.ro, .ro] [false, false] true [.cell 4 30, .tmp 5] [30, 4] [.d .work a0, .d .str a1] k =
    (cond (sm_work a0)
    (cond (sm_work a0)
      (cond (!(workQOk a0))
        (k [.d .work a0, .d .bool false])
        (cond ((fun (x : List ByteArray) (_ : ByteArray) => gLenW x) (WorkT.list a0) a1)
          (cond (isIn (WorkT.list a0) a1)
            (k [.d .work a0, .d .bool true])
            (cond ((fun (x : List ByteArray) (_ : ByteArray) => gLenW x) (WorkT.again a0) a1)
              (cond (isIn (WorkT.again a0) a1)
                (k [.d .work a0, .d .bool true])
                (cond ((fun (x : List ByteArray) (_ : ByteArray) => gLenW x) (WorkT.busy a0) a1)
                  (cond (isIn (WorkT.busy a0) a1)
                    (cond (Nat.ble ((WorkT.again a0).length + 1) LIM)
                      (cond (sm_work (⟨(WorkT.list a0), (WorkT.busy a0), ((WorkT.again a0) ++ ([a1] : List ByteArray)), (WorkT.fails a0)⟩ : WorkT))
                        (cond (!(workQOk (⟨(WorkT.list a0), (WorkT.busy a0), ((WorkT.again a0) ++ ([a1] : List ByteArray)), (WorkT.fails a0)⟩ : WorkT)))
                          (cond (sm_work a0)
                            (k [.d .work a0, .d .bool false])
                            none)
                          (k [.d .work (⟨(WorkT.list a0), (WorkT.busy a0), ((WorkT.again a0) ++ ([a1] : List ByteArray)), (WorkT.fails a0)⟩ : WorkT), .d .bool true]))
                        none)
                      none)
                    (cond (Nat.ble ((WorkT.list a0).length + 1) LIM)
                      (cond (sm_work (⟨((WorkT.list a0) ++ ([a1] : List ByteArray)), (WorkT.busy a0), (WorkT.again a0), (WorkT.fails a0)⟩ : WorkT))
                        (cond (!(workQOk (⟨((WorkT.list a0) ++ ([a1] : List ByteArray)), (WorkT.busy a0), (WorkT.again a0), (WorkT.fails a0)⟩ : WorkT)))
                          (cond (sm_work a0)
                            (k [.d .work a0, .d .bool false])
                            none)
                          (k [.d .work (⟨((WorkT.list a0) ++ ([a1] : List ByteArray)), (WorkT.busy a0), (WorkT.again a0), (WorkT.fails a0)⟩ : WorkT), .d .bool true]))
                        none)
                      none))
                  none))
              none))
          none))
      none)
    none) := by kernel_rfl
theorem f28_spec (a0 : WorkT) (a1 : ByteArray) (hg : gAddW a0 a1 = true) : ∃ keep rounds, ∀ {R : Type} (k : List Dt → Option R), evFn f28e keep rounds f28c [.ro, .ro] [false, false] true [.cell 4 30, .tmp 5] [30, 4] [.d .work a0, .d .str a1] k = k [.d .work ((workAdd a0 a1).1), .d .bool ((workAdd a0 a1).2)] := by
  simp only [gAddW, Bool.and_eq_true] at hg
  obtain ⟨hg, hs1⟩ := hg
  have hg0 := hg
  simp only [sm_work, Bool.and_eq_true] at hg
  obtain ⟨hl, hb, ha, hf⟩ := hg
  have nl := smL_len hl
  have nb := smL_len hb
  have na := smL_len ha
  have nf := smL_len hf
  have gl : gLenW a0.list = true := gLenW_sm hl
  have gb : gLenW a0.busy = true := gLenW_sm hb
  have ga : gLenW a0.again = true := gLenW_sm ha
  refine ⟨f28k, 0, fun {R} k => ?_⟩
  rw [f28_run]
  show _ = k [.d .work (workAdd a0 a1).1, .d .bool (workAdd a0 a1).2]
  have e1 : (⟨a0.list, a0.busy, a0.again ++ [a1], a0.fails⟩ : WorkT) = addAgain a0 a1 := rfl
  have e2 : (⟨a0.list ++ [a1], a0.busy, a0.again, a0.fails⟩ : WorkT) = addList a0 a1 := rfl
  simp only [hg0, gl, gb, ga, limLe1 nl, limLe1 na, e1, e2, cond_true]
  unfold workAdd
  cases hq : workQOk a0
  · cases isIn a0.list a1 <;> cases isIn a0.again a1 <;> cases isIn a0.busy a1 <;> rfl
  · have s1 : sm_work (addAgain a0 a1) = true := by
      simp only [addAgain, sm_work, Bool.and_eq_true]
      exact ⟨hl, hb, smL_snoc ha hs1 (qOk_len hq).2.2, hf⟩
    have s2 : sm_work (addList a0 a1) = true := by
      simp only [addList, sm_work, Bool.and_eq_true]
      exact ⟨smL_snoc hl hs1 (qOk_len hq).1, hb, ha, hf⟩
    simp only [s1, s2, Bool.not_true, cond_true, cond_false]
    cases isIn a0.list a1 <;> cases isIn a0.again a1 <;> cases isIn a0.busy a1 <;> cases workQOk (addAgain a0 a1) <;> cases workQOk (addList a0 a1) <;> rfl

noncomputable def q28 : List Dt → Option (Bool × List Dt)
  | [.d .work a0, .d .str a1] => some ((gAddW a0 a1), [.d .work ((workAdd a0 a1).1), .d .bool ((workAdd a0 a1).2)])
  | _ => none
noncomputable def s28 : Gm.Spec := Gm.Spec.of [.ro, .ro] [false, false] true q28
theorem good28 : Gm.Good Try.prog (28, s28) := by
  have hl : ∀ x ∈ [(24, s24), (56, s56), (59, s59)], Gm.Good Try.prog x := List.forall_mem_cons.2 ⟨good24, List.forall_mem_cons.2 ⟨good56, List.forall_mem_cons.2 ⟨good59, List.forall_mem_nil _⟩⟩⟩
  refine ⟨⟨spec_ok (tab_ok.env hl) (tab.natl hl) Try.func28 (by kernel_rfl : Try.f28.body = some f28c) [30, 4] (by kernel_rfl) ?_, _, Try.func28, by kernel_rfl, of_decide_eq_true (by kernel_rfl)⟩, Gm.Spec.of_natl _ _ _ _⟩
  intro ds outs h
  unfold q28 at h
  split at h
  · simp only [Option.some.injEq, Prod.mk.injEq] at h; obtain ⟨hg, h⟩ := h; cases h; exact f28_spec _ _ hg
  · cases h
/-! ### loop.example/g00465/impl.WorkAdd -/
noncomputable def f17c : Code := (Try.f17.body).getD .skip
def f17k : Nat → Kp := kat [⟨[1, 2, 4], [], [], []⟩, ⟨[1, 2, 4, 6], [], [], []⟩, ⟨[2, 4, 6], [], [], []⟩, ⟨[1, 2, 4, 6, 15], [], [], []⟩, ⟨[1, 2, 4, 6, 26], [], [], []⟩, ⟨[2, 4, 6], [], [], []⟩, ⟨[2, 4, 6, 44], [], [], []⟩, ⟨[4, 5], [], [], []⟩, ⟨[4, 5], [], [], []⟩]
noncomputable def f17e : Env := tab.env [(23, s23), (45, s45), (46, s46)]
theorem f17_run {R : Type} (n : Nat) (k : List Dt → Option R) (a0 : WorkT) (a1 : ByteArray) : evFn f17e f17k n f17c [.ro, .ro] [false, false] true [.cell 4 30, .tmp 5] [30, 4] [.d .work a0, .d .str a1] k =
    (cond (sm_work a0)
    (cond ((fun (x : List ByteArray) (_ : ByteArray) => gLenW x) (WorkT.list a0) a1)
      (cond (isIn (WorkT.list a0) a1)
        (cond (sm_work a0)
          (cond (!(workQOk a0))
            (cond (sm_work a0)
              (k [.d .work a0, .d .bool false])
              none)
            (cond (sm_work a0)
              (cond (!(workQOk a0))
                (cond (sm_work a0)
                  (k [.d .work a0, .d .bool false])
                  none)
                (k [.d .work a0, .d .bool true]))
              none))
          none)
        (cond ((fun (x : List ByteArray) (_ : ByteArray) => gLenW x) (WorkT.again a0) a1)
          (cond (isIn (WorkT.again a0) a1)
            (cond (sm_work a0)
              (cond (!(workQOk a0))
                (cond (sm_work a0)
                  (k [.d .work a0, .d .bool false])
                  none)
                (cond (sm_work a0)
                  (cond (!(workQOk a0))
                    (cond (sm_work a0)
                      (k [.d .work a0, .d .bool false])
                      none)
                    (k [.d .work a0, .d .bool true]))
                  none))
              none)
            (cond ((fun (x : List ByteArray) (_ : ByteArray) => gLenW x) (WorkT.busy a0) a1)
              (cond (isIn (WorkT.busy a0) a1)
                (cond (Nat.ble ((WorkT.again a0).length + 1) LIM)
                  (cond (sm_work a0)
                    (cond (!(workQOk a0))
                      (cond (sm_work a0)
                        (k [.d .work a0, .d .bool false])
                        none)
                      (cond (sm_work (⟨(WorkT.list a0), (WorkT.busy a0), ((WorkT.again a0) ++ ([a1] : List ByteArray)), (WorkT.fails a0)⟩ : WorkT))
                        (cond (!(workQOk (⟨(WorkT.list a0), (WorkT.busy a0), ((WorkT.again a0) ++ ([a1] : List ByteArray)), (WorkT.fails a0)⟩ : WorkT)))
                          (cond (sm_work a0)
                            (k [.d .work a0, .d .bool false])
                            none)
                          (k [.d .work (⟨(WorkT.list a0), (WorkT.busy a0), ((WorkT.again a0) ++ ([a1] : List ByteArray)), (WorkT.fails a0)⟩ : WorkT), .d .bool true]))
                        none))
                    none)
                  none)
                (cond (Nat.ble ((WorkT.list a0).length + 1) LIM)
                  (cond (sm_work a0)
                    (cond (!(workQOk a0))
                      (cond (sm_work a0)
                        (k [.d .work a0, .d .bool false])
                        none)
                      (cond (sm_work (⟨((WorkT.list a0) ++ ([a1] : List ByteArray)), (WorkT.busy a0), (WorkT.again a0), (WorkT.fails a0)⟩ : WorkT))
                        (cond (!(workQOk (⟨((WorkT.list a0) ++ ([a1] : List ByteArray)), (WorkT.busy a0), (WorkT.again a0), (WorkT.fails a0)⟩ : WorkT)))
                          (cond (sm_work a0)
                            (k [.d .work a0, .d .bool false])
                            none)
                          (k [.d .work (⟨((WorkT.list a0) ++ ([a1] : List ByteArray)), (WorkT.busy a0), (WorkT.again a0), (WorkT.fails a0)⟩ : WorkT), .d .bool true]))
                        none))
                    none)
                  none))
              none))
          none))
      none)
    none) := by kernel_rfl
theorem f17_spec (a0 : WorkT) (a1 : ByteArray) (hg : gAddW a0 a1 = true) : ∃ keep rounds, ∀ {R : Type} (k : List Dt → Option R), evFn f17e keep rounds f17c [.ro, .ro] [false, false] true [.cell 4 30, .tmp 5] [30, 4] [.d .work a0, .d .str a1] k = k [.d .work ((workAdd a0 a1).1), .d .bool ((workAdd a0 a1).2)] := by
  simp only [gAddW, Bool.and_eq_true] at hg
  obtain ⟨hg, hs1⟩ := hg
  have hg0 := hg
  simp only [sm_work, Bool.and_eq_true] at hg
  obtain ⟨hl, hb, ha, hf⟩ := hg
  have nl := smL_len hl
  have nb := smL_len hb
  have na := smL_len ha
  have nf := smL_len hf
  have gl : gLenW a0.list = true := gLenW_sm hl
  have gb : gLenW a0.busy = true := gLenW_sm hb
  have ga : gLenW a0.again = true := gLenW_sm ha
  refine ⟨f17k, 0, fun {R} k => ?_⟩
  rw [f17_run]
  show _ = k [.d .work (workAdd a0 a1).1, .d .bool (workAdd a0 a1).2]
  have e1 : (⟨a0.list, a0.busy, a0.again ++ [a1], a0.fails⟩ : WorkT) = addAgain a0 a1 := rfl
  have e2 : (⟨a0.list ++ [a1], a0.busy, a0.again, a0.fails⟩ : WorkT) = addList a0 a1 := rfl
  simp only [hg0, gl, gb, ga, limLe1 nl, limLe1 na, e1, e2, cond_true]
  unfold workAdd
  cases hq : workQOk a0
  · cases isIn a0.list a1 <;> cases isIn a0.again a1 <;> cases isIn a0.busy a1 <;> rfl
  · have s1 : sm_work (addAgain a0 a1) = true := by
      simp only [addAgain, sm_work, Bool.and_eq_true]
      exact ⟨hl, hb, smL_snoc ha hs1 (qOk_len hq).2.2, hf⟩
    have s2 : sm_work (addList a0 a1) = true := by
      simp only [addList, sm_work, Bool.and_eq_true]
      exact ⟨smL_snoc hl hs1 (qOk_len hq).1, hb, ha, hf⟩
    simp only [s1, s2, Bool.not_true, cond_true, cond_false]
    cases isIn a0.list a1 <;> cases isIn a0.again a1 <;> cases isIn a0.busy a1 <;> cases workQOk (addAgain a0 a1) <;> cases workQOk (addList a0 a1) <;> rfl

noncomputable def q17 : List Dt → Option (Bool × List Dt)
  | [.d .work a0, .d .str a1] => some ((gAddW a0 a1), [.d .work ((workAdd a0 a1).1), .d .bool ((workAdd a0 a1).2)])
  | _ => none
noncomputable def s17 : Gm.Spec := Gm.Spec.of [.ro, .ro] [false, false] true q17
theorem good17 : Gm.Good Try.prog (17, s17) := by
  have hl : ∀ x ∈ [(23, s23), (45, s45), (46, s46)], Gm.Good Try.prog x := List.forall_mem_cons.2 ⟨good23, List.forall_mem_cons.2 ⟨good45, List.forall_mem_cons.2 ⟨good46, List.forall_mem_nil _⟩⟩⟩
  refine ⟨⟨spec_ok (tab_ok.env hl) (tab.natl hl) Try.func17 (by kernel_rfl : Try.f17.body = some f17c) [30, 4] (by kernel_rfl) ?_, _, Try.func17, by kernel_rfl, of_decide_eq_true (by kernel_rfl)⟩, Gm.Spec.of_natl _ _ _ _⟩
  intro ds outs h
  unfold q17 at h
  split at h
  · simp only [Option.some.injEq, Prod.mk.injEq] at h; obtain ⟨hg, h⟩ := h; cases h; exact f17_spec _ _ hg
  · cases h
end Go.Proofs.Ytmeeoilfnahihaa

/- What the functions compute, part 1. No conditions. -/
import Derived.Test.YtinbejnakemfjaaGm5
import Derived.Test.YtinbejnakemfjaaRows
/- The table of types of the program, and that it is the program's. Printed by gev.py of this session. -/
namespace Go.Proofs.Ytinbejnakemfjaa
open Go Go.Gm
def tab : Tab := { code := [(2, (.i .i64)), (3, (.i .i64)), (4, .bool), (5, (.i .u8)), (6, (.i .u8)), (9, .str), (10, .str), (11, .str), (12, (.i .u64)), (21, (.i .i32)), (22, (.sl .str)), (23, (.sl .node)), (25, .node), (27, (.sl (.sl .str))), (29, (.sl .node)), (31, .node), (46, (.sl (.i .u8))), (84, .cur), (89, (.sl (.i .i64))), (100, (.i .u64)), (109, (.i .u32)), (110, (.i .u8)), (111, (.i .u8)), (114, (.i .i32)), (115, (.i .i32))], eqs := [], fld := [(25, [(0, 3), (1, 3), (2, 9), (3, 22), (4, 23)]), (31, [(0, 3), (1, 3), (2, 9), (3, 22), (4, 29)]), (84, [(0, 46), (1, 3), (2, 3)])] }
theorem und2 : UndOk (tab.env []) Try.prog 2 (.i .i64) := (by kernel_rfl : Try.prog.underlying 2 = some (.int .i64))
theorem und3 : UndOk (tab.env []) Try.prog 3 (.i .i64) := (by kernel_rfl : Try.prog.underlying 3 = some (.int .i64))
theorem und4 : UndOk (tab.env []) Try.prog 4 .bool := (by kernel_rfl : Try.prog.underlying 4 = some .bool)
theorem und5 : UndOk (tab.env []) Try.prog 5 (.i .u8) := (by kernel_rfl : Try.prog.underlying 5 = some (.int .u8))
theorem und6 : UndOk (tab.env []) Try.prog 6 (.i .u8) := (by kernel_rfl : Try.prog.underlying 6 = some (.int .u8))
theorem und9 : UndOk (tab.env []) Try.prog 9 .str := (by kernel_rfl : Try.prog.underlying 9 = some .string)
theorem und10 : UndOk (tab.env []) Try.prog 10 .str := (by kernel_rfl : Try.prog.underlying 10 = some .string)
theorem und11 : UndOk (tab.env []) Try.prog 11 .str := (by kernel_rfl : Try.prog.underlying 11 = some .string)
theorem und12 : UndOk (tab.env []) Try.prog 12 (.i .u64) := (by kernel_rfl : Try.prog.underlying 12 = some (.int .u64))
theorem und21 : UndOk (tab.env []) Try.prog 21 (.i .i32) := (by kernel_rfl : Try.prog.underlying 21 = some (.int .i32))
theorem und22 : UndOk (tab.env []) Try.prog 22 (.sl .str) := ⟨9, by kernel_rfl, by kernel_rfl⟩
theorem und23 : UndOk (tab.env []) Try.prog 23 (.sl .node) := ⟨25, by kernel_rfl, by kernel_rfl⟩
theorem und25 : UndOk (tab.env []) Try.prog 25 .node := ⟨_, Try.underlying25⟩
theorem und27 : UndOk (tab.env []) Try.prog 27 (.sl (.sl .str)) := ⟨22, by kernel_rfl, by kernel_rfl⟩
theorem und29 : UndOk (tab.env []) Try.prog 29 (.sl .node) := ⟨31, by kernel_rfl, by kernel_rfl⟩
theorem und31 : UndOk (tab.env []) Try.prog 31 .node := ⟨_, Try.underlying31⟩
theorem und46 : UndOk (tab.env []) Try.prog 46 (.sl (.i .u8)) := ⟨5, by kernel_rfl, by kernel_rfl⟩
theorem und84 : UndOk (tab.env []) Try.prog 84 .cur := ⟨_, Try.underlying84⟩
theorem und89 : UndOk (tab.env []) Try.prog 89 (.sl (.i .i64)) := ⟨3, by kernel_rfl, by kernel_rfl⟩
theorem und100 : UndOk (tab.env []) Try.prog 100 (.i .u64) := (by kernel_rfl : Try.prog.underlying 100 = some (.int .u64))
theorem und109 : UndOk (tab.env []) Try.prog 109 (.i .u32) := (by kernel_rfl : Try.prog.underlying 109 = some (.int .u32))
theorem und110 : UndOk (tab.env []) Try.prog 110 (.i .u8) := (by kernel_rfl : Try.prog.underlying 110 = some (.int .u8))
theorem und111 : UndOk (tab.env []) Try.prog 111 (.i .u8) := (by kernel_rfl : Try.prog.underlying 111 = some (.int .u8))
theorem und114 : UndOk (tab.env []) Try.prog 114 (.i .i32) := (by kernel_rfl : Try.prog.underlying 114 = some (.int .i32))
theorem und115 : UndOk (tab.env []) Try.prog 115 (.i .i32) := (by kernel_rfl : Try.prog.underlying 115 = some (.int .i32))
theorem fld25 : ∃ fs : Array Field, Try.prog.underlying 25 = some (.struct fs) ∧ [(0, 3), (1, 3), (2, 9), (3, 22), (4, 23)] = fs.toList.map (fun f => (f.offset, f.type)) ∧ (∀ y ∈ ([(0, 3), (1, 3), (2, 9), (3, 22), (4, 23)] : List (Nat × Nat)), (aget tab.code y.2).isSome) ∧ (fs.toList.mapM (fun f => (Try.prog.info? f.type).map fun i => (f.offset, i.size))).isSome :=
  ⟨_, Try.underlying25, by kernel_rfl, List.all_eq_true.1 (by kernel_rfl), by kernel_rfl⟩
theorem fld31 : ∃ fs : Array Field, Try.prog.underlying 31 = some (.struct fs) ∧ [(0, 3), (1, 3), (2, 9), (3, 22), (4, 29)] = fs.toList.map (fun f => (f.offset, f.type)) ∧ (∀ y ∈ ([(0, 3), (1, 3), (2, 9), (3, 22), (4, 29)] : List (Nat × Nat)), (aget tab.code y.2).isSome) ∧ (fs.toList.mapM (fun f => (Try.prog.info? f.type).map fun i => (f.offset, i.size))).isSome :=
  ⟨_, Try.underlying31, by kernel_rfl, List.all_eq_true.1 (by kernel_rfl), by kernel_rfl⟩
theorem fld84 : ∃ fs : Array Field, Try.prog.underlying 84 = some (.struct fs) ∧ [(0, 46), (1, 3), (2, 3)] = fs.toList.map (fun f => (f.offset, f.type)) ∧ (∀ y ∈ ([(0, 46), (1, 3), (2, 3)] : List (Nat × Nat)), (aget tab.code y.2).isSome) ∧ (fs.toList.mapM (fun f => (Try.prog.info? f.type).map fun i => (f.offset, i.size))).isSome :=
  ⟨_, Try.underlying84, by kernel_rfl, List.all_eq_true.1 (by kernel_rfl), by kernel_rfl⟩
theorem tab_ok : tab.Ok Try.prog := {
  info := infoChk_ok (by kernel_rfl)
  und := List.forall_mem_cons.2 ⟨und2, List.forall_mem_cons.2 ⟨und3, List.forall_mem_cons.2 ⟨und4, List.forall_mem_cons.2 ⟨und5, List.forall_mem_cons.2 ⟨und6, List.forall_mem_cons.2 ⟨und9, List.forall_mem_cons.2 ⟨und10, List.forall_mem_cons.2 ⟨und11, List.forall_mem_cons.2 ⟨und12, List.forall_mem_cons.2 ⟨und21, List.forall_mem_cons.2 ⟨und22, List.forall_mem_cons.2 ⟨und23, List.forall_mem_cons.2 ⟨und25, List.forall_mem_cons.2 ⟨und27, List.forall_mem_cons.2 ⟨und29, List.forall_mem_cons.2 ⟨und31, List.forall_mem_cons.2 ⟨und46, List.forall_mem_cons.2 ⟨und84, List.forall_mem_cons.2 ⟨und89, List.forall_mem_cons.2 ⟨und100, List.forall_mem_cons.2 ⟨und109, List.forall_mem_cons.2 ⟨und110, List.forall_mem_cons.2 ⟨und111, List.forall_mem_cons.2 ⟨und114, List.forall_mem_cons.2 ⟨und115, List.forall_mem_nil _⟩⟩⟩⟩⟩⟩⟩⟩⟩⟩⟩⟩⟩⟩⟩⟩⟩⟩⟩⟩⟩⟩⟩⟩⟩
  fld := List.forall_mem_cons.2 ⟨fld25, List.forall_mem_cons.2 ⟨fld31, List.forall_mem_cons.2 ⟨fld84, List.forall_mem_nil _⟩⟩⟩
  sts := List.forall_mem_cons.2 ⟨fun h => by first | (cases h; done) | (simp; done), List.forall_mem_cons.2 ⟨fun h => by first | (cases h; done) | (simp; done), List.forall_mem_cons.2 ⟨fun h => by first | (cases h; done) | (simp; done), List.forall_mem_cons.2 ⟨fun h => by first | (cases h; done) | (simp; done), List.forall_mem_cons.2 ⟨fun h => by first | (cases h; done) | (simp; done), List.forall_mem_cons.2 ⟨fun h => by first | (cases h; done) | (simp; done), List.forall_mem_cons.2 ⟨fun h => by first | (cases h; done) | (simp; done), List.forall_mem_cons.2 ⟨fun h => by first | (cases h; done) | (simp; done), List.forall_mem_cons.2 ⟨fun h => by first | (cases h; done) | (simp; done), List.forall_mem_cons.2 ⟨fun h => by first | (cases h; done) | (simp; done), List.forall_mem_cons.2 ⟨fun h => by first | (cases h; done) | (simp; done), List.forall_mem_cons.2 ⟨fun h => by first | (cases h; done) | (simp; done), List.forall_mem_cons.2 ⟨fun _ => by simp [tab], List.forall_mem_cons.2 ⟨fun h => by first | (cases h; done) | (simp; done), List.forall_mem_cons.2 ⟨fun h => by first | (cases h; done) | (simp; done), List.forall_mem_cons.2 ⟨fun _ => by simp [tab], List.forall_mem_cons.2 ⟨fun h => by first | (cases h; done) | (simp; done), List.forall_mem_cons.2 ⟨fun _ => by simp [tab], List.forall_mem_cons.2 ⟨fun h => by first | (cases h; done) | (simp; done), List.forall_mem_cons.2 ⟨fun h => by first | (cases h; done) | (simp; done), List.forall_mem_cons.2 ⟨fun h => by first | (cases h; done) | (simp; done), List.forall_mem_cons.2 ⟨fun h => by first | (cases h; done) | (simp; done), List.forall_mem_cons.2 ⟨fun h => by first | (cases h; done) | (simp; done), List.forall_mem_cons.2 ⟨fun h => by first | (cases h; done) | (simp; done), List.forall_mem_cons.2 ⟨fun h => by first | (cases h; done) | (simp; done), List.forall_mem_nil _⟩⟩⟩⟩⟩⟩⟩⟩⟩⟩⟩⟩⟩⟩⟩⟩⟩⟩⟩⟩⟩⟩⟩⟩⟩
  eqs := List.forall_mem_nil _
  ord := by kernel_rfl }
end Go.Proofs.Ytinbejnakemfjaa

/- x -/
namespace Go.Proofs.Ytinbejnakemfjaa
open Go Go.Gm
/-! ### loop.example/g00465/impl.from -/
noncomputable def f90c : Code := (Try.f90.body).getD .skip
def f90k : Nat → Kp := kat [⟨[0, 1, 2], [], [], []⟩, ⟨[6], [], [], []⟩]
noncomputable def f90e : Env := tab.env []
theorem f90_run {R : Type} (n : Nat) (k : List Dt → Option R) (a0 : Int) (a1 : Int) (a2 : Int) : evFn f90e f90k n f90c [.ro, .ro, .ro] [false] true [.tmp 6] [4] [.d (.i .i64) a0, .d (.i .i64) a1, .d (.i .i64) a2] k =
    (cond (decide (a0 ≥ a1))
    (k [.d .bool (decide (a0 ≤ a2))])
    (k [.d .bool false])) := by kernel_rfl
theorem f90_spec (a0 : Int) (a1 : Int) (a2 : Int) : ∃ keep rounds, ∀ {R : Type} (k : List Dt → Option R), evFn f90e keep rounds f90c [.ro, .ro, .ro] [false] true [.tmp 6] [4] [.d (.i .i64) a0, .d (.i .i64) a1, .d (.i .i64) a2] k = k [.d .bool (inR a0 a1 a2)] := by
  refine ⟨f90k, 0, fun k => ?_⟩
  rw [f90_run]; unfold inR
  cases decide (a0 ≥ a1) <;> rfl

noncomputable def q90 : List Dt → Option (Bool × List Dt)
  | [.d (.i .i64) a0, .d (.i .i64) a1, .d (.i .i64) a2] => some (true, [.d .bool (inR a0 a1 a2)])
  | _ => none
noncomputable def s90 : Gm.Spec := Gm.Spec.of [.ro, .ro, .ro] [false] true q90
theorem good90 : Gm.Good Try.prog (90, s90) := by
  have hl : ∀ x ∈ ([] : List (Nat × Gm.Spec)), Gm.Good Try.prog x := fun _ h => by cases h
  refine ⟨⟨spec_ok (tab_ok.env hl) (tab.natl hl) Try.func90 (by kernel_rfl : Try.f90.body = some f90c) [4] (by kernel_rfl) ?_, _, Try.func90, by kernel_rfl, of_decide_eq_true (by kernel_rfl)⟩, Gm.Spec.of_natl _ _ _ _⟩
  intro ds outs h
  unfold q90 at h
  split at h
  · cases h; exact f90_spec _ _ _
  · cases h
/-! ### slices.Index[[]string,string] -/
noncomputable def f67c : Code := (Try.f67.body).getD .skip
def f67k : Nat → Kp := kat [⟨[0, 1], [], [], []⟩, ⟨[0, 1, 7, 8], [], [], []⟩, ⟨[0, 1, 7, 8, 9], [], [], []⟩, ⟨[0, 1, 5, 7, 8], [], [], []⟩, ⟨[0, 1, 5, 7, 8, 16], [], [], []⟩, ⟨[4], [], [], []⟩, ⟨[0, 1, 7, 8], [], [], []⟩, ⟨[4], [], [], []⟩]
noncomputable def f67e : Env := tab.env []
noncomputable def f67L0 {R : Type} (n : Nat) (x0 : Int → Option R) (x1 : Int → Bool → Option R) (vs0 : List ByteArray) (vs1 : ByteArray) (vs7 : Int) : Nat → Int → Option R
  | 0, _ => none
  | m + 1, vs8 =>
    (cond (decide (vs8 < vs7))
      (cond ((decide ((0 : Int) ≤ vs8)) && (decide (vs8 < (vs0.length : Int))))
        (cond (sEq vs1 (atI (t := .str) vs0 (Int.toNat vs8)))
          (x0 vs8)
          (f67L0 n x0 x1 vs0 vs1 vs7 m (IntKind.wrap .i64 (vs8 + (1 : Int)))))
        none)
      (x1 vs8 (decide (vs8 < vs7))))
theorem f67L0_b {R : Type} (n : Nat) (k' : Ex → St → Option R) (vs0 : List ByteArray) (vs1 : ByteArray) (vs7 : Int) (vs8 : Int) : ev f67e f67k n (cAt [1,0,1,0,0] f67c) ⟨[(0, .c (.one (.ro .str vs0))), (1, .c (.one (.v (.string vs1)))), (7, .c (.one (.v (.int .i64 vs7)))), (8, .c (.one (.v (.int .i64 vs8))))], [], []⟩ k' =
    (cond (decide (vs8 < vs7))
    (cond ((decide ((0 : Int) ≤ vs8)) && (decide (vs8 < (vs0.length : Int))))
      (cond (sEq vs1 (atI (t := .str) vs0 (Int.toNat vs8)))
        (k' .ret ⟨[(4, .c (.one (.v (.int .i64 vs8))))], [], []⟩)
        (k' .normal ⟨[(0, .c (.one (.ro .str vs0))), (1, .c (.one (.v (.string vs1)))), (7, .c (.one (.v (.int .i64 vs7)))), (8, .c (.one (.v (.int .i64 (IntKind.wrap .i64 (vs8 + (1 : Int)))))))], [], []⟩))
      none)
    (k' (.exit 0) ⟨[(0, .c (.one (.ro .str vs0))), (1, .c (.one (.v (.string vs1)))), (7, .c (.one (.v (.int .i64 vs7)))), (8, .c (.one (.v (.int .i64 vs8)))), (9, .c (.one (.v (.bool (decide (vs8 < vs7))))))], [], []⟩)) := by kernel_rfl
theorem f67L0_eq {R : Type} (n : Nat) (k' : Ex → St → Option R) (vs0 : List ByteArray) (vs1 : ByteArray) (vs7 : Int) : ∀ (m : Nat) (vs8 : Int), iter (fun st k => ev f67e f67k n (cAt [1,0,1,0,0] f67c) st k) m ⟨[(0, .c (.one (.ro .str vs0))), (1, .c (.one (.v (.string vs1)))), (7, .c (.one (.v (.int .i64 vs7)))), (8, .c (.one (.v (.int .i64 vs8))))], [], []⟩ k' = f67L0 n (fun (xvs4 : Int) => k' .ret ⟨[(4, .c (.one (.v (.int .i64 xvs4))))], [], []⟩) (fun (xvs8 : Int) (xvs9 : Bool) => k' (.exit 0) ⟨[(0, .c (.one (.ro .str vs0))), (1, .c (.one (.v (.string vs1)))), (7, .c (.one (.v (.int .i64 vs7)))), (8, .c (.one (.v (.int .i64 xvs8)))), (9, .c (.one (.v (.bool xvs9))))], [], []⟩) vs0 vs1 vs7 m vs8 := by
  intro m; induction m with
  | zero => intros; rfl
  | succ m ih =>
    intro vs8
    simp only [iter]
    rw [f67L0_b]
    simp only [ih, f67L0]

noncomputable def f67K0 {R : Type} (n : Nat) (k' : Ex → St → Option R) : Ex → St → Option R := (blockK 0 (seqK f67e f67k n (cAt [1,1] f67c) k'))
theorem f67K0_x0 {R : Type} (n : Nat) (k : List Dt → Option R) (a0 : List ByteArray) (a1 : ByteArray) (xvs4 : Int) : f67K0 n (exitK f67e [.ro, .ro] [false] true [.tmp 4] [3] [.d (.sl .str) a0, .d .str a1] k) .ret ⟨[(4, .c (.one (.v (.int .i64 xvs4))))], [], []⟩ =
    (k [.d (.i .i64) xvs4]) := by kernel_rfl
theorem f67K0_x1 {R : Type} (n : Nat) (k : List Dt → Option R) (a0 : List ByteArray) (a1 : ByteArray) (vs0 : List ByteArray) (vs1 : ByteArray) (vs7 : Int) (xvs8 : Int) (xvs9 : Bool) : f67K0 n (exitK f67e [.ro, .ro] [false] true [.tmp 4] [3] [.d (.sl .str) a0, .d .str a1] k) (.exit 0) ⟨[(0, .c (.one (.ro .str vs0))), (1, .c (.one (.v (.string vs1)))), (7, .c (.one (.v (.int .i64 vs7)))), (8, .c (.one (.v (.int .i64 xvs8)))), (9, .c (.one (.v (.bool xvs9))))], [], []⟩ =
    (k [.d (.i .i64) (-1 : Int)]) := by kernel_rfl

theorem f67_run {R : Type} (n : Nat) (k : List Dt → Option R) (a0 : List ByteArray) (a1 : ByteArray) : evFn f67e f67k n f67c [.ro, .ro] [false] true [.tmp 4] [3] [.d (.sl .str) a0, .d .str a1] k =
    (f67L0 n (fun (xvs4 : Int) =>
    (k [.d (.i .i64) xvs4])) (fun (xvs8 : Int) (xvs9 : Bool) =>
    (k [.d (.i .i64) (-1 : Int)])) a0 a1 (a0.length : Int) n (0 : Int)) := by
  refine Eq.trans (b := (iter (fun st k => ev f67e f67k n (cAt [1,0,1,0,0] f67c) st k) n ⟨[(0, .c (.one (.ro .str a0))), (1, .c (.one (.v (.string a1)))), (7, .c (.one (.v (.int .i64 (a0.length : Int))))), (8, .c (.one (.v (.int .i64 (0 : Int)))))], [], []⟩ (f67K0 n (exitK f67e [.ro, .ro] [false] true [.tmp 4] [3] [.d (.sl .str) a0, .d .str a1] k)))) (by kernel_rfl) ?_
  simp only [f67L0_eq, f67K0_x0, f67K0_x1]
theorem f67_spec (a0 : List ByteArray) (a1 : ByteArray) (hg : gLenW a0 = true) : ∃ keep rounds, ∀ {R : Type} (k : List Dt → Option R), evFn f67e keep rounds f67c [.ro, .ro] [false] true [.tmp 4] [3] [.d (.sl .str) a0, .d .str a1] k = k [.d (.i .i64) (idxS a0 a1)] := by
  have hl := gLenW_le hg
  refine ⟨f67k, a0.length + 1, fun k => ?_⟩
  rw [f67_run]
  refine Eq.trans (loop_find (n := a0.length) (F := fun m i => f67L0 (a0.length + 1) _ _ a0 a1 (a0.length : Int) m i) (p := fun j => sEq a1 (atI (t := .str) a0 j)) (hit := fun i => k [.d (.i .i64) i]) (miss := k [.d (.i .i64) (-1 : Int)])
    (fun m j hj => ?_) (fun m => by simp only [f67L0, idxE, cond_false]) a0.length 0 (a0.length + 1) (by omega) (by omega)) ?_
  · obtain ⟨h1, h0, hw, ht⟩ := idx hj (by omega)
    simp only [f67L0, h1, h0, hw, ht, Bool.and_self, cond_true]
  · show _ = k [.d (.i .i64) (plc _)]
    cases firstN (fun j => sEq a1 (atI (t := .str) a0 j)) 0 a0.length <;> rfl

noncomputable def q67 : List Dt → Option (Bool × List Dt)
  | [.d (.sl .str) a0, .d .str a1] => some (((fun (x : List ByteArray) (_ : ByteArray) => gLenW x) a0 a1), [.d (.i .i64) (idxS a0 a1)])
  | _ => none
noncomputable def s67 : Gm.Spec := Gm.Spec.of [.ro, .ro] [false] true q67
theorem good67 : Gm.Good Try.prog (67, s67) := by
  have hl : ∀ x ∈ ([] : List (Nat × Gm.Spec)), Gm.Good Try.prog x := fun _ h => by cases h
  refine ⟨⟨spec_ok (tab_ok.env hl) (tab.natl hl) Try.func67 (by kernel_rfl : Try.f67.body = some f67c) [3] (by kernel_rfl) ?_, _, Try.func67, by kernel_rfl, of_decide_eq_true (by kernel_rfl)⟩, Gm.Spec.of_natl _ _ _ _⟩
  intro ds outs h
  unfold q67 at h
  split at h
  · simp only [Option.some.injEq, Prod.mk.injEq] at h; obtain ⟨hg, h⟩ := h; cases h; exact f67_spec _ _ hg
  · cases h
/-! ### loop.example/g00465/spec.Digits -/
noncomputable def f37c : Code := (Try.f37.body).getD .skip
def f37k : Nat → Kp := kat [⟨[0], [], [], []⟩, ⟨[0, 7], [], [], []⟩, ⟨[2], [], [], []⟩, ⟨[0, 3], [], [], []⟩, ⟨[0, 3, 4], [], [], []⟩, ⟨[0, 3, 4, 11], [], [], []⟩, ⟨[0, 3, 4, 5], [], [], []⟩, ⟨[0, 3, 4, 5, 15], [], [], []⟩, ⟨[0, 3, 4, 5], [], [], []⟩, ⟨[0, 3, 4], [], [], []⟩, ⟨[0, 3, 4], [], [], []⟩, ⟨[4, 27], [], [], []⟩, ⟨[2], [], [], []⟩, ⟨[2], [], [], []⟩]
noncomputable def f37e : Env := tab.env []
noncomputable def f37L0 {R : Type} (n : Nat) (x0 : Int → ByteArray → Bool → Option R) (vs3 : Bool) : Nat → Int → ByteArray → Option R
  | 0, _, _ => none
  | m + 1, vs0, vs4 =>
    (cond (vs0 != (0 : Int))
      (cond (decide ((Int.tmod vs0 (10 : Int)) < (0 : Int)))
        (cond (decide (ByteArray.size (bytesOf ([(IntKind.wrap .u8 (IntKind.wrap .i64 ((48 : Int) + (IntKind.wrap .i64 ((0 : Int) - (Int.tmod vs0 (10 : Int)))))))] : List Int)) + ByteArray.size vs4 ≤ 9223372036854775807))
          (f37L0 n x0 vs3 m (IntKind.wrap .i64 (Int.tdiv vs0 (10 : Int))) ((bytesOf ([(IntKind.wrap .u8 (IntKind.wrap .i64 ((48 : Int) + (IntKind.wrap .i64 ((0 : Int) - (Int.tmod vs0 (10 : Int)))))))] : List Int)) ++ vs4))
          none)
        (cond (decide (ByteArray.size (bytesOf ([(IntKind.wrap .u8 (IntKind.wrap .i64 ((48 : Int) + (Int.tmod vs0 (10 : Int)))))] : List Int)) + ByteArray.size vs4 ≤ 9223372036854775807))
          (f37L0 n x0 vs3 m (IntKind.wrap .i64 (Int.tdiv vs0 (10 : Int))) ((bytesOf ([(IntKind.wrap .u8 (IntKind.wrap .i64 ((48 : Int) + (Int.tmod vs0 (10 : Int)))))] : List Int)) ++ vs4))
          none))
      (x0 vs0 vs4 (vs0 != (0 : Int))))
theorem f37L0_b {R : Type} (n : Nat) (k' : Ex → St → Option R) (vs0 : Int) (vs3 : Bool) (vs4 : ByteArray) : ev f37e f37k n (cAt [1,1,1,1,0,0,0] f37c) ⟨[(0, .c (.one (.v (.int .i64 vs0)))), (3, .c (.one (.v (.bool vs3)))), (4, .c (.one (.v (.string vs4))))], [], []⟩ k' =
    (cond (vs0 != (0 : Int))
    (cond (decide ((Int.tmod vs0 (10 : Int)) < (0 : Int)))
      (cond (decide (ByteArray.size (bytesOf ([(IntKind.wrap .u8 (IntKind.wrap .i64 ((48 : Int) + (IntKind.wrap .i64 ((0 : Int) - (Int.tmod vs0 (10 : Int)))))))] : List Int)) + ByteArray.size vs4 ≤ 9223372036854775807))
        (k' .normal ⟨[(0, .c (.one (.v (.int .i64 (IntKind.wrap .i64 (Int.tdiv vs0 (10 : Int))))))), (3, .c (.one (.v (.bool vs3)))), (4, .c (.one (.v (.string ((bytesOf ([(IntKind.wrap .u8 (IntKind.wrap .i64 ((48 : Int) + (IntKind.wrap .i64 ((0 : Int) - (Int.tmod vs0 (10 : Int)))))))] : List Int)) ++ vs4)))))], [], []⟩)
        none)
      (cond (decide (ByteArray.size (bytesOf ([(IntKind.wrap .u8 (IntKind.wrap .i64 ((48 : Int) + (Int.tmod vs0 (10 : Int)))))] : List Int)) + ByteArray.size vs4 ≤ 9223372036854775807))
        (k' .normal ⟨[(0, .c (.one (.v (.int .i64 (IntKind.wrap .i64 (Int.tdiv vs0 (10 : Int))))))), (3, .c (.one (.v (.bool vs3)))), (4, .c (.one (.v (.string ((bytesOf ([(IntKind.wrap .u8 (IntKind.wrap .i64 ((48 : Int) + (Int.tmod vs0 (10 : Int)))))] : List Int)) ++ vs4)))))], [], []⟩)
        none))
    (k' (.exit 0) ⟨[(0, .c (.one (.v (.int .i64 vs0)))), (3, .c (.one (.v (.bool vs3)))), (4, .c (.one (.v (.string vs4)))), (11, .c (.one (.v (.bool (vs0 != (0 : Int))))))], [], []⟩)) := by kernel_rfl
theorem f37L0_eq {R : Type} (n : Nat) (k' : Ex → St → Option R) (vs3 : Bool) : ∀ (m : Nat) (vs0 : Int) (vs4 : ByteArray), iter (fun st k => ev f37e f37k n (cAt [1,1,1,1,0,0,0] f37c) st k) m ⟨[(0, .c (.one (.v (.int .i64 vs0)))), (3, .c (.one (.v (.bool vs3)))), (4, .c (.one (.v (.string vs4))))], [], []⟩ k' = f37L0 n (fun (xvs0 : Int) (xvs4 : ByteArray) (xvs11 : Bool) => k' (.exit 0) ⟨[(0, .c (.one (.v (.int .i64 xvs0)))), (3, .c (.one (.v (.bool vs3)))), (4, .c (.one (.v (.string xvs4)))), (11, .c (.one (.v (.bool xvs11))))], [], []⟩) vs3 m vs0 vs4 := by
  intro m; induction m with
  | zero => intros; rfl
  | succ m ih =>
    intro vs0 vs4
    simp only [iter]
    rw [f37L0_b]
    simp only [ih, f37L0]

noncomputable def f37K0 {R : Type} (n : Nat) (k' : Ex → St → Option R) : Ex → St → Option R := (blockK 0 (seqK f37e f37k n (cAt [1,1,1,1,1] f37c) k'))
theorem f37K0_x0 {R : Type} (n : Nat) (k : List Dt → Option R) (a0 : Int) (vs3 : Bool) (xvs0 : Int) (xvs4 : ByteArray) (xvs11 : Bool) : f37K0 n (exitK f37e [.ro] [false] true [.tmp 2] [9] [.d (.i .i64) a0] k) (.exit 0) ⟨[(0, .c (.one (.v (.int .i64 xvs0)))), (3, .c (.one (.v (.bool vs3)))), (4, .c (.one (.v (.string xvs4)))), (11, .c (.one (.v (.bool xvs11))))], [], []⟩ =
    (cond vs3
    (cond (decide (ByteArray.size (bs [45]) + ByteArray.size xvs4 ≤ 9223372036854775807))
      (k [.d .str ((bs [45]) ++ xvs4)])
      none)
    (k [.d .str xvs4])) := by kernel_rfl

theorem f37_run {R : Type} (n : Nat) (k : List Dt → Option R) (a0 : Int) : evFn f37e f37k n f37c [.ro] [false] true [.tmp 2] [9] [.d (.i .i64) a0] k =
    (cond (a0 == (0 : Int))
    (k [.d .str (bs [48])])
    (f37L0 n (fun (xvs0 : Int) (xvs4 : ByteArray) (xvs11 : Bool) =>
      (cond (decide (a0 < (0 : Int)))
        (cond (decide (ByteArray.size (bs [45]) + ByteArray.size xvs4 ≤ 9223372036854775807))
          (k [.d .str ((bs [45]) ++ xvs4)])
          none)
        (k [.d .str xvs4]))) (decide (a0 < (0 : Int))) n a0 ByteArray.empty)) := by
  refine Eq.trans (b := (cond (a0 == (0 : Int))
    (k [.d .str (bs [48])])
    (iter (fun st k => ev f37e f37k n (cAt [1,1,1,1,0,0,0] f37c) st k) n ⟨[(0, .c (.one (.v (.int .i64 a0)))), (3, .c (.one (.v (.bool (decide (a0 < (0 : Int))))))), (4, .c (.one (.v (.string ByteArray.empty))))], [], []⟩ (f37K0 n (exitK f37e [.ro] [false] true [.tmp 2] [9] [.d (.i .i64) a0] k))))) (by kernel_rfl) ?_
  simp only [f37L0_eq, f37K0_x0]
theorem f37_spec (a0 : Int) (hg : okI a0 = true) : ∃ keep rounds, ∀ {R : Type} (k : List Dt → Option R), evFn f37e keep rounds f37c [.ro] [false] true [.tmp 2] [9] [.d (.i .i64) a0] k = k [.d .str (digS a0)] := by
  have hg0 := hg
  rw [okI_iff] at hg
  refine ⟨f37k, 25, fun {R} k => ?_⟩
  rw [f37_run]
  by_cases hz : a0 = 0
  · subst hz
    have e : digS 0 = bs [48] := by rw [show (0 : Int) = ((0 : Nat) : Int) from rfl, digS_nat, natDig_lt (by omega)]; rfl
    rw [e]; rfl
  have hz' : (a0 == (0 : Int)) = false := by rw [beq_eq_false_iff_ne]; exact hz
  rw [hz', cond_false]
  have key : ∀ (d m : Nat) (n : Int) (out : ByteArray), n.natAbs < 10 ^ d → d ≤ 20 → d < m → (n ≤ 9223372036854775807 ∧ -9223372036854775808 ≤ n) → out.size + d ≤ 100 → ∀ X : Int → ByteArray → Bool → Option R, (∀ o b, X 0 o b = X 0 o false) →
      f37L0 25 X (decide (a0 < (0 : Int))) m n out = X 0 (digR n.natAbs out) false := by
    intro d
    induction d with
    | zero =>
      intro m n out hn hd hm hw hs X hX
      obtain ⟨m, rfl⟩ : ∃ m', m = m' + 1 := ⟨m - 1, by omega⟩
      have : n = 0 := by omega
      subst this
      simp only [f37L0]
      rfl
    | succ d ih =>
      intro m n out hn hd hm hw hs X hX
      obtain ⟨m, rfl⟩ : ∃ m', m = m' + 1 := ⟨m - 1, by omega⟩
      by_cases h0 : n = 0
      · subst h0
        simp only [f37L0]
        rfl
      have h0' : (n != (0 : Int)) = true := by rw [bne_iff_ne]; exact h0
      have hn2 : n.natAbs / 10 < 10 ^ d := by rw [Nat.pow_succ] at hn; omega
      have hb := byte_dig (n.natAbs % 10) (by omega)
      have hsz : ByteArray.size ⟨#[UInt8.ofNat (48 + n.natAbs % 10)]⟩ = 1 := rfl
      simp only [f37L0, h0', cond_true]
      by_cases h1 : n < 0
      · have t1 : IntKind.wrap .i64 (Int.tdiv n 10) = -((n.natAbs / 10 : Nat) : Int) := by rw [tdiv_neg h1]; exact wrap_id (by omega) (by omega)
        have t2 : Int.tmod n 10 = -((n.natAbs % 10 : Nat) : Int) := tmod_neg h1
        have e1 : IntKind.wrap .i64 ((0 : Int) - -((n.natAbs % 10 : Nat) : Int)) = ((n.natAbs % 10 : Nat) : Int) := by rw [wrap_id (by omega) (by omega)]; omega
        rw [t1, t2, e1, hb]
        have fin := ih m (-((n.natAbs / 10 : Nat) : Int)) (⟨#[UInt8.ofNat (48 + n.natAbs % 10)]⟩ ++ out) (by omega) (by omega) (by omega) (by omega) (by rw [ByteArray.size_append]; omega) X hX
        rw [show (-((n.natAbs / 10 : Nat) : Int)).natAbs = n.natAbs / 10 by omega, digR_step (by omega)] at fin
        rw [← fin]
        have hle := app_le (a := ⟨#[UInt8.ofNat (48 + n.natAbs % 10)]⟩) (b := out) (by omega)
        by_cases h2 : -((n.natAbs % 10 : Nat) : Int) < 0
        · simp only [h2, decide_true, cond_true, hle]
        · have h3 : n.natAbs % 10 = 0 := by omega
          simp only [h2, decide_false, cond_false]
          have hb0 : bytesOf [IntKind.wrap .u8 (IntKind.wrap .i64 ((48 : Int) + -((n.natAbs % 10 : Nat) : Int)))] = ⟨#[UInt8.ofNat (48 + n.natAbs % 10)]⟩ := by rw [h3]; rfl
          rw [hb0, hle, cond_true]
      · have t1 : IntKind.wrap .i64 (Int.tdiv n 10) = ((n.natAbs / 10 : Nat) : Int) := by rw [tdiv_pos (by omega)]; exact wrap_id (by omega) (by omega)
        have t2 : Int.tmod n 10 = ((n.natAbs % 10 : Nat) : Int) := tmod_pos (by omega)
        rw [t1, t2, hb]
        have fin := ih m (((n.natAbs / 10 : Nat) : Int)) (⟨#[UInt8.ofNat (48 + n.natAbs % 10)]⟩ ++ out) (by omega) (by omega) (by omega) (by omega) (by rw [ByteArray.size_append]; omega) X hX
        rw [show (((n.natAbs / 10 : Nat) : Int)).natAbs = n.natAbs / 10 by omega, digR_step (by omega)] at fin
        rw [← fin]
        have hle := app_le (a := ⟨#[UInt8.ofNat (48 + n.natAbs % 10)]⟩) (b := out) (by omega)
        have h2 : ¬ ((n.natAbs % 10 : Nat) : Int) < 0 := by omega
        simp only [h2, decide_false, cond_false, cond_true, hle]
  refine Eq.trans (key 20 25 a0 ByteArray.empty (by have : (10 : Nat) ^ 20 = 100000000000000000000 := rfl; omega) (by omega) (by omega) (by omega) (by show 0 + 20 ≤ 100; omega) _ (fun _ _ => rfl)) ?_
  have e : digR a0.natAbs ByteArray.empty = ⟨(natDig a0.natAbs).toArray⟩ := by
    unfold digR; rw [if_neg (by omega)]; apply ba_ext; simp
  rw [e]
  by_cases h1 : a0 < 0
  · have hs := digS_size hg0
    have ed : digS a0 = bs [45] ++ ⟨(natDig a0.natAbs).toArray⟩ := by
      unfold digS; rw [if_pos h1]; apply ba_ext; rw [ba_app]; simp [bs]
    have hs2 : (bs [45]).size + ByteArray.size ⟨(natDig a0.natAbs).toArray⟩ ≤ 9223372036854775807 := by
      rw [ed, ByteArray.size_append] at hs; omega
    simp only [h1, decide_true, cond_true, app_le hs2, ed]
  · have ed : digS a0 = ⟨(natDig a0.natAbs).toArray⟩ := by
      unfold digS; rw [if_neg h1]; simp
    simp only [h1, decide_false, cond_false, ed]

noncomputable def q37 : List Dt → Option (Bool × List Dt)
  | [.d (.i .i64) a0] => some ((okI a0), [.d .str (digS a0)])
  | _ => none
noncomputable def s37 : Gm.Spec := Gm.Spec.of [.ro] [false] true q37
theorem good37 : Gm.Good Try.prog (37, s37) := by
  have hl : ∀ x ∈ ([] : List (Nat × Gm.Spec)), Gm.Good Try.prog x := fun _ h => by cases h
  refine ⟨⟨spec_ok (tab_ok.env hl) (tab.natl hl) Try.func37 (by kernel_rfl : Try.f37.body = some f37c) [9] (by kernel_rfl) ?_, _, Try.func37, by kernel_rfl, of_decide_eq_true (by kernel_rfl)⟩, Gm.Spec.of_natl _ _ _ _⟩
  intro ds outs h
  unfold q37 at h
  split at h
  · simp only [Option.some.injEq, Prod.mk.injEq] at h; obtain ⟨hg, h⟩ := h; cases h; exact f37_spec _ hg
  · cases h
noncomputable def q39 : List Dt → Option (Bool × List Dt)
  | [.d (.i .i64) a0] => some ((okI a0), [.d .str (digS a0)])
  | _ => none
noncomputable def mu39 : List Dt → Nat
  | [.d (.i .i64) a0] => muDig a0
  | _ => 0
noncomputable def s39r (N : Nat) : Gm.Spec := Gm.Spec.of [.ro] [false] true (qlt mu39 N q39)
/-! ### loop.example/g00465/impl.Digits -/
noncomputable def f39c : Code := (Try.f39.body).getD .skip
def f39k : Nat → Kp := kat [⟨[0], [], [], []⟩, ⟨[0, 3], [], [], []⟩, ⟨[2], [], [], []⟩, ⟨[0, 14], [], [], []⟩, ⟨[2], [], [], []⟩, ⟨[0, 25], [], [], []⟩, ⟨[2], [], [], []⟩, ⟨[2], [], [], []⟩]
noncomputable def f39e (N : Nat) : Env := tab.env [(39, s39r N)]
theorem f39_run {R : Type} (N : Nat) (n : Nat) (k : List Dt → Option R) (a0 : Int) : evFn (f39e N) f39k n f39c [.ro] [false] true [.tmp 2] [9] [.d (.i .i64) a0] k =
    (cond (decide (a0 < (0 : Int)))
    (cond (decide (a0 > (-10 : Int)))
      (cond ((okI (IntKind.wrap .i64 (0 - a0))) && (Nat.blt (muDig (IntKind.wrap .i64 (0 - a0))) N))
        (cond (decide (ByteArray.size (bs [45]) + ByteArray.size (digS (IntKind.wrap .i64 (0 - a0))) ≤ 9223372036854775807))
          (k [.d .str ((bs [45]) ++ (digS (IntKind.wrap .i64 (0 - a0))))])
          none)
        none)
      (cond (decide (a0 < (0 : Int)))
        (cond ((okI (IntKind.wrap .i64 (Int.tdiv a0 (10 : Int)))) && (Nat.blt (muDig (IntKind.wrap .i64 (Int.tdiv a0 (10 : Int)))) N))
          (cond ((okI (IntKind.wrap .i64 (0 - (Int.tmod a0 (10 : Int))))) && (Nat.blt (muDig (IntKind.wrap .i64 (0 - (Int.tmod a0 (10 : Int))))) N))
            (cond (decide (ByteArray.size (digS (IntKind.wrap .i64 (Int.tdiv a0 (10 : Int)))) + ByteArray.size (digS (IntKind.wrap .i64 (0 - (Int.tmod a0 (10 : Int))))) ≤ 9223372036854775807))
              (k [.d .str ((digS (IntKind.wrap .i64 (Int.tdiv a0 (10 : Int)))) ++ (digS (IntKind.wrap .i64 (0 - (Int.tmod a0 (10 : Int))))))])
              none)
            none)
          none)
        (cond (decide (a0 < (10 : Int)))
          (k [.d .str (Utf8.encode (IntKind.wrap .i32 (IntKind.wrap .i64 ((48 : Int) + a0))))])
          (cond ((okI (IntKind.wrap .i64 (Int.tdiv a0 (10 : Int)))) && (Nat.blt (muDig (IntKind.wrap .i64 (Int.tdiv a0 (10 : Int)))) N))
            (cond (decide (ByteArray.size (digS (IntKind.wrap .i64 (Int.tdiv a0 (10 : Int)))) + ByteArray.size (Utf8.encode (IntKind.wrap .i32 (IntKind.wrap .i64 ((48 : Int) + (Int.tmod a0 (10 : Int)))))) ≤ 9223372036854775807))
              (k [.d .str ((digS (IntKind.wrap .i64 (Int.tdiv a0 (10 : Int)))) ++ (Utf8.encode (IntKind.wrap .i32 (IntKind.wrap .i64 ((48 : Int) + (Int.tmod a0 (10 : Int)))))))])
              none)
            none))))
    (cond (decide (a0 < (0 : Int)))
      (cond ((okI (IntKind.wrap .i64 (Int.tdiv a0 (10 : Int)))) && (Nat.blt (muDig (IntKind.wrap .i64 (Int.tdiv a0 (10 : Int)))) N))
        (cond ((okI (IntKind.wrap .i64 (0 - (Int.tmod a0 (10 : Int))))) && (Nat.blt (muDig (IntKind.wrap .i64 (0 - (Int.tmod a0 (10 : Int))))) N))
          (cond (decide (ByteArray.size (digS (IntKind.wrap .i64 (Int.tdiv a0 (10 : Int)))) + ByteArray.size (digS (IntKind.wrap .i64 (0 - (Int.tmod a0 (10 : Int))))) ≤ 9223372036854775807))
            (k [.d .str ((digS (IntKind.wrap .i64 (Int.tdiv a0 (10 : Int)))) ++ (digS (IntKind.wrap .i64 (0 - (Int.tmod a0 (10 : Int))))))])
            none)
          none)
        none)
      (cond (decide (a0 < (10 : Int)))
        (k [.d .str (Utf8.encode (IntKind.wrap .i32 (IntKind.wrap .i64 ((48 : Int) + a0))))])
        (cond ((okI (IntKind.wrap .i64 (Int.tdiv a0 (10 : Int)))) && (Nat.blt (muDig (IntKind.wrap .i64 (Int.tdiv a0 (10 : Int)))) N))
          (cond (decide (ByteArray.size (digS (IntKind.wrap .i64 (Int.tdiv a0 (10 : Int)))) + ByteArray.size (Utf8.encode (IntKind.wrap .i32 (IntKind.wrap .i64 ((48 : Int) + (Int.tmod a0 (10 : Int)))))) ≤ 9223372036854775807))
            (k [.d .str ((digS (IntKind.wrap .i64 (Int.tdiv a0 (10 : Int)))) ++ (Utf8.encode (IntKind.wrap .i32 (IntKind.wrap .i64 ((48 : Int) + (Int.tmod a0 (10 : Int)))))))])
            none)
          none)))) := by kernel_rfl
theorem f39_spec (N : Nat) (a0 : Int) (hg : okI a0 = true) (hm : mu39 [.d (.i .i64) a0] = N) : ∃ keep rounds, ∀ {R : Type} (k : List Dt → Option R), evFn (f39e N) keep rounds f39c [.ro] [false] true [.tmp 2] [9] [.d (.i .i64) a0] k = k [.d .str (digS a0)] := by
  refine ⟨f39k, 0, fun k => ?_⟩
  rw [f39_run]
  have hm : muDig a0 = N := hm
  subst hm
  have hg0 := hg
  rw [okI_iff] at hg
  by_cases h1 : a0 < 0
  · by_cases h2 : a0 > -10
    · have o1 : okI (IntKind.wrap .i64 (0 - a0)) = true := by rw [wrap_id (by omega) (by omega), okI_iff]; omega
      have m1 : Nat.blt (muDig (IntKind.wrap .i64 (0 - a0))) (muDig a0) = true := by
        rw [wrap_id (by omega) (by omega), Nat.blt_eq]; unfold muDig; rw [if_pos h1, if_neg (by omega)]; omega
      have s1 := digS_size o1
      have b1 : (bs [45]).size = 1 := rfl
      simp only [h1, h2, o1, m1, decide_true, cond_true, Bool.and_self, app_le (show (bs [45]).size + (digS (IntKind.wrap .i64 (0 - a0))).size ≤ 9223372036854775807 by omega), digS_negone h1 h2]
    · have t1 : IntKind.wrap .i64 (Int.tdiv a0 10) = Int.tdiv a0 10 := by rw [tdiv_neg h1]; exact wrap_id (by omega) (by omega)
      have o1 : okI (Int.tdiv a0 10) = true := by rw [tdiv_neg h1, okI_iff]; omega
      have m1 : Nat.blt (muDig (Int.tdiv a0 10)) (muDig a0) = true := by
        rw [tdiv_neg h1, Nat.blt_eq]; unfold muDig; rw [if_pos h1]; split <;> omega
      have e2 : IntKind.wrap .i64 (0 - (Int.tmod a0 10)) = ((a0.natAbs % 10 : Nat) : Int) := by
        rw [tmod_neg h1, wrap_id (by omega) (by omega)]; omega
      have o2 : okI (IntKind.wrap .i64 (0 - (Int.tmod a0 10))) = true := by rw [e2, okI_iff]; omega
      have m2 : Nat.blt (muDig (IntKind.wrap .i64 (0 - (Int.tmod a0 10)))) (muDig a0) = true := by
        rw [e2, Nat.blt_eq]; unfold muDig; rw [if_pos h1, if_neg (by omega)]; omega
      have s1 := digS_size o1
      have s2 := digS_size o2
      simp only [h1, h2, t1, o1, m1, o2, m2, decide_true, decide_false, cond_true, cond_false, Bool.and_self, app_le (show (digS (Int.tdiv a0 10)).size + (digS (IntKind.wrap .i64 (0 - (Int.tmod a0 10)))).size ≤ 9223372036854775807 by omega), digS_le h2]
  · by_cases h2 : a0 < 10
    · simp only [h1, h2, decide_true, decide_false, cond_true, cond_false, digS_one (show 0 ≤ a0 by omega) h2]
    · have t1 : IntKind.wrap .i64 (Int.tdiv a0 10) = Int.tdiv a0 10 := by rw [tdiv_pos (by omega)]; exact wrap_id (by omega) (by omega)
      have o1 : okI (Int.tdiv a0 10) = true := by rw [tdiv_pos (by omega), okI_iff]; omega
      have m1 : Nat.blt (muDig (Int.tdiv a0 10)) (muDig a0) = true := by
        rw [tdiv_pos (by omega), Nat.blt_eq]; unfold muDig; rw [if_neg h1, if_neg (by omega)]; omega
      have s1 := digS_size o1
      have s2 : (Utf8.encode (IntKind.wrap .i32 (IntKind.wrap .i64 ((48 : Int) + (Int.tmod a0 10))))).size ≤ 4 := encode_size_le _
      simp only [h1, h2, t1, o1, m1, decide_true, decide_false, cond_true, cond_false, Bool.and_self, app_le (show (digS (Int.tdiv a0 10)).size + (Utf8.encode (IntKind.wrap .i32 (IntKind.wrap .i64 ((48 : Int) + (Int.tmod a0 10))))).size ≤ 9223372036854775807 by omega), digS_ge h2]

noncomputable def s39 : Gm.Spec := Gm.Spec.of [.ro] [false] true q39
theorem good39 : Gm.Good Try.prog (39, s39) := by
  refine ⟨⟨spec_rec mu39 fun N hr => ?_, _, Try.func39, by kernel_rfl, of_decide_eq_true (by kernel_rfl)⟩, Gm.Spec.of_natl _ _ _ _⟩
  have hl : ∀ x ∈ [(39, s39r N)], Gm.Good Try.prog x := List.forall_mem_cons.2 ⟨⟨⟨hr, _, Try.func39, by kernel_rfl, of_decide_eq_true (by kernel_rfl)⟩, Gm.Spec.of_natl _ _ _ _⟩, List.forall_mem_nil _⟩
  intro R
  refine spec_ok (E := f39e N) (tab_ok.env hl) (tab.natl hl) Try.func39 (by kernel_rfl : Try.f39.body = some f39c) [9] (by kernel_rfl) ?_
  intro ds outs h
  obtain ⟨h, hm⟩ := qeq_some h
  unfold q39 at h
  split at h
  · simp only [Option.some.injEq, Prod.mk.injEq] at h; obtain ⟨hg, h⟩ := h; cases h; exact f39_spec N _ hg hm
  · cases h
/-! ### loop.example/g00465/impl.Number -/
noncomputable def f76c : Code := (Try.f76.body).getD .skip
def f76k : Nat → Kp := kat [⟨[0], [], [], []⟩, ⟨[0, 4], [], [], []⟩, ⟨[0, 4, 14], [], [], []⟩, ⟨[0, 4], [], [], []⟩, ⟨[0, 4, 23], [], [], []⟩, ⟨[2, 3], [], [], []⟩, ⟨[0, 4, 5], [], [], []⟩, ⟨[0, 4, 5, 25, 26], [], [], []⟩, ⟨[0, 4, 5, 25, 26, 27], [], [], []⟩, ⟨[0, 4, 5, 6, 25, 26], [], [], []⟩, ⟨[0, 4, 5, 6, 25, 26, 38], [], [], []⟩, ⟨[2, 3], [], [], []⟩, ⟨[0, 4, 5, 25, 26], [], [], []⟩, ⟨[0, 4, 5, 25, 26], [], [], []⟩, ⟨[0, 5, 52], [], [], []⟩, ⟨[0, 5], [], [], []⟩, ⟨[5, 63], [], [], []⟩, ⟨[2, 3], [], [], []⟩, ⟨[2, 3], [], [], []⟩]
noncomputable def f76e : Env := tab.env [(39, s39), (90, s90)]
noncomputable def f76L0 {R : Type} (n : Nat) (x0 : Option R) (x1 : Int → Int → Bool → Option R) (vs0 : ByteArray) (vs4 : ByteArray) (vs25 : Int) : Nat → Int → Int → Option R
  | 0, _, _ => none
  | m + 1, vs5, vs26 =>
    (cond (decide (vs26 < vs25))
      (cond ((decide ((0 : Int) ≤ vs26)) && (decide (vs26 < (ByteArray.size vs4 : Int))))
        (cond (decide ((((ByteArray.data vs4).getD (Int.toNat vs26) 0).toNat : Int) < (48 : Int)))
          (x0)
          (cond ((decide ((0 : Int) ≤ vs26)) && (decide (vs26 < (ByteArray.size vs4 : Int))))
            (cond (decide ((((ByteArray.data vs4).getD (Int.toNat vs26) 0).toNat : Int) > (57 : Int)))
              (x0)
              (cond ((decide ((0 : Int) ≤ vs26)) && (decide (vs26 < (ByteArray.size vs4 : Int))))
                (f76L0 n x0 x1 vs0 vs4 vs25 m (IntKind.wrap .i64 ((IntKind.wrap .i64 ((10 : Int) * vs5)) + (IntKind.wrap .i64 (IntKind.wrap .u8 ((((ByteArray.data vs4).getD (Int.toNat vs26) 0).toNat : Int) - (48 : Int)))))) (IntKind.wrap .i64 (vs26 + (1 : Int))))
                none))
            none))
        none)
      (x1 vs5 vs26 (decide (vs26 < vs25))))
theorem f76L0_b {R : Type} (n : Nat) (k' : Ex → St → Option R) (vs0 : ByteArray) (vs4 : ByteArray) (vs5 : Int) (vs25 : Int) (vs26 : Int) : ev f76e f76k n (cAt [1,1,1,1,1,0,1,0,0] f76c) ⟨[(0, .c (.one (.v (.string vs0)))), (4, .c (.one (.v (.string vs4)))), (5, .c (.one (.v (.int .i64 vs5)))), (25, .c (.one (.v (.int .i64 vs25)))), (26, .c (.one (.v (.int .i64 vs26))))], [], []⟩ k' =
    (cond (decide (vs26 < vs25))
    (cond ((decide ((0 : Int) ≤ vs26)) && (decide (vs26 < (ByteArray.size vs4 : Int))))
      (cond (decide ((((ByteArray.data vs4).getD (Int.toNat vs26) 0).toNat : Int) < (48 : Int)))
        (k' .ret ⟨[(2, .c (.one (.v (.int .i64 (0 : Int))))), (3, .c (.one (.v (.bool false))))], [], []⟩)
        (cond ((decide ((0 : Int) ≤ vs26)) && (decide (vs26 < (ByteArray.size vs4 : Int))))
          (cond (decide ((((ByteArray.data vs4).getD (Int.toNat vs26) 0).toNat : Int) > (57 : Int)))
            (k' .ret ⟨[(2, .c (.one (.v (.int .i64 (0 : Int))))), (3, .c (.one (.v (.bool false))))], [], []⟩)
            (cond ((decide ((0 : Int) ≤ vs26)) && (decide (vs26 < (ByteArray.size vs4 : Int))))
              (k' .normal ⟨[(0, .c (.one (.v (.string vs0)))), (4, .c (.one (.v (.string vs4)))), (5, .c (.one (.v (.int .i64 (IntKind.wrap .i64 ((IntKind.wrap .i64 ((10 : Int) * vs5)) + (IntKind.wrap .i64 (IntKind.wrap .u8 ((((ByteArray.data vs4).getD (Int.toNat vs26) 0).toNat : Int) - (48 : Int)))))))))), (25, .c (.one (.v (.int .i64 vs25)))), (26, .c (.one (.v (.int .i64 (IntKind.wrap .i64 (vs26 + (1 : Int)))))))], [], []⟩)
              none))
          none))
      none)
    (k' (.exit 0) ⟨[(0, .c (.one (.v (.string vs0)))), (4, .c (.one (.v (.string vs4)))), (5, .c (.one (.v (.int .i64 vs5)))), (25, .c (.one (.v (.int .i64 vs25)))), (26, .c (.one (.v (.int .i64 vs26)))), (27, .c (.one (.v (.bool (decide (vs26 < vs25))))))], [], []⟩)) := by kernel_rfl
theorem f76L0_eq {R : Type} (n : Nat) (k' : Ex → St → Option R) (vs0 : ByteArray) (vs4 : ByteArray) (vs25 : Int) : ∀ (m : Nat) (vs5 : Int) (vs26 : Int), iter (fun st k => ev f76e f76k n (cAt [1,1,1,1,1,0,1,0,0] f76c) st k) m ⟨[(0, .c (.one (.v (.string vs0)))), (4, .c (.one (.v (.string vs4)))), (5, .c (.one (.v (.int .i64 vs5)))), (25, .c (.one (.v (.int .i64 vs25)))), (26, .c (.one (.v (.int .i64 vs26))))], [], []⟩ k' = f76L0 n (k' .ret ⟨[(2, .c (.one (.v (.int .i64 (0 : Int))))), (3, .c (.one (.v (.bool false))))], [], []⟩) (fun (xvs5 : Int) (xvs26 : Int) (xvs27 : Bool) => k' (.exit 0) ⟨[(0, .c (.one (.v (.string vs0)))), (4, .c (.one (.v (.string vs4)))), (5, .c (.one (.v (.int .i64 xvs5)))), (25, .c (.one (.v (.int .i64 vs25)))), (26, .c (.one (.v (.int .i64 xvs26)))), (27, .c (.one (.v (.bool xvs27))))], [], []⟩) vs0 vs4 vs25 m vs5 vs26 := by
  intro m; induction m with
  | zero => intros; rfl
  | succ m ih =>
    intro vs5 vs26
    simp only [iter]
    rw [f76L0_b]
    simp only [ih, f76L0]

noncomputable def f76K0 {R : Type} (n : Nat) (k' : Ex → St → Option R) : Ex → St → Option R := (blockK 0 (seqK f76e f76k n (cAt [1,1,1,1,1,1] f76c) k'))
theorem f76K0_x0 {R : Type} (n : Nat) (k : List Dt → Option R) (a0 : ByteArray)  : f76K0 n (exitK f76e [.ro] [false, false] true [.tmp 2, .tmp 3] [3, 4] [.d .str a0] k) .ret ⟨[(2, .c (.one (.v (.int .i64 (0 : Int))))), (3, .c (.one (.v (.bool false))))], [], []⟩ =
    (k [.d (.i .i64) (0 : Int), .d .bool false]) := by kernel_rfl
theorem f76K0_x1 {R : Type} (n : Nat) (k : List Dt → Option R) (a0 : ByteArray) (vs0 : ByteArray) (vs4 : ByteArray) (vs25 : Int) (xvs5 : Int) (xvs26 : Int) (xvs27 : Bool) : f76K0 n (exitK f76e [.ro] [false, false] true [.tmp 2, .tmp 3] [3, 4] [.d .str a0] k) (.exit 0) ⟨[(0, .c (.one (.v (.string vs0)))), (4, .c (.one (.v (.string vs4)))), (5, .c (.one (.v (.int .i64 xvs5)))), (25, .c (.one (.v (.int .i64 vs25)))), (26, .c (.one (.v (.int .i64 xvs26)))), (27, .c (.one (.v (.bool xvs27))))], [], []⟩ =
    (cond (decide ((ByteArray.size vs4 : Int) < (ByteArray.size vs0 : Int)))
    (cond (!(inR (IntKind.wrap .i64 (0 - xvs5)) (-1000000000000 : Int) (1000000000000 : Int)))
      (k [.d (.i .i64) (0 : Int), .d .bool false])
      (cond (okI (IntKind.wrap .i64 (0 - xvs5)))
        (cond (!(sEq (digS (IntKind.wrap .i64 (0 - xvs5))) vs0))
          (k [.d (.i .i64) (0 : Int), .d .bool false])
          (k [.d (.i .i64) (IntKind.wrap .i64 (0 - xvs5)), .d .bool true]))
        none))
    (cond (!(inR xvs5 (-1000000000000 : Int) (1000000000000 : Int)))
      (k [.d (.i .i64) (0 : Int), .d .bool false])
      (cond (okI xvs5)
        (cond (!(sEq (digS xvs5) vs0))
          (k [.d (.i .i64) (0 : Int), .d .bool false])
          (k [.d (.i .i64) xvs5, .d .bool true]))
        none))) := by kernel_rfl

theorem f76_run {R : Type} (n : Nat) (k : List Dt → Option R) (a0 : ByteArray) : evFn f76e f76k n f76c [.ro] [false, false] true [.tmp 2, .tmp 3] [3, 4] [.d .str a0] k =
    (cond (!(sEq a0 ByteArray.empty))
    (cond (decide ((0 : Int) < (ByteArray.size a0 : Int)))
      (cond ((((ByteArray.data a0).getD 0 0).toNat : Int) == (45 : Int))
        (cond ((decide ((1 : Int) ≤ (ByteArray.size a0 : Int))) && (decide ((ByteArray.size a0 : Int) ≤ (ByteArray.size a0 : Int))))
          (cond (sEq (ByteArray.extract a0 1 (Int.toNat (ByteArray.size a0 : Int))) ByteArray.empty)
            (k [.d (.i .i64) (0 : Int), .d .bool false])
            (cond (decide ((ByteArray.size (ByteArray.extract a0 1 (Int.toNat (ByteArray.size a0 : Int))) : Int) > (13 : Int)))
              (k [.d (.i .i64) (0 : Int), .d .bool false])
              (f76L0 n (k [.d (.i .i64) (0 : Int), .d .bool false]) (fun (xvs5 : Int) (xvs26 : Int) (xvs27 : Bool) =>
                (cond (decide ((ByteArray.size (ByteArray.extract a0 1 (Int.toNat (ByteArray.size a0 : Int))) : Int) < (ByteArray.size a0 : Int)))
                  (cond (!(inR (IntKind.wrap .i64 (0 - xvs5)) (-1000000000000 : Int) (1000000000000 : Int)))
                    (k [.d (.i .i64) (0 : Int), .d .bool false])
                    (cond (okI (IntKind.wrap .i64 (0 - xvs5)))
                      (cond (!(sEq (digS (IntKind.wrap .i64 (0 - xvs5))) a0))
                        (k [.d (.i .i64) (0 : Int), .d .bool false])
                        (k [.d (.i .i64) (IntKind.wrap .i64 (0 - xvs5)), .d .bool true]))
                      none))
                  (cond (!(inR xvs5 (-1000000000000 : Int) (1000000000000 : Int)))
                    (k [.d (.i .i64) (0 : Int), .d .bool false])
                    (cond (okI xvs5)
                      (cond (!(sEq (digS xvs5) a0))
                        (k [.d (.i .i64) (0 : Int), .d .bool false])
                        (k [.d (.i .i64) xvs5, .d .bool true]))
                      none)))) a0 (ByteArray.extract a0 1 (Int.toNat (ByteArray.size a0 : Int))) (ByteArray.size (ByteArray.extract a0 1 (Int.toNat (ByteArray.size a0 : Int))) : Int) n (0 : Int) (0 : Int))))
          none)
        (cond (sEq a0 ByteArray.empty)
          (k [.d (.i .i64) (0 : Int), .d .bool false])
          (cond (decide ((ByteArray.size a0 : Int) > (13 : Int)))
            (k [.d (.i .i64) (0 : Int), .d .bool false])
            (f76L0 n (k [.d (.i .i64) (0 : Int), .d .bool false]) (fun (xvs5 : Int) (xvs26 : Int) (xvs27 : Bool) =>
              (cond (decide ((ByteArray.size a0 : Int) < (ByteArray.size a0 : Int)))
                (cond (!(inR (IntKind.wrap .i64 (0 - xvs5)) (-1000000000000 : Int) (1000000000000 : Int)))
                  (k [.d (.i .i64) (0 : Int), .d .bool false])
                  (cond (okI (IntKind.wrap .i64 (0 - xvs5)))
                    (cond (!(sEq (digS (IntKind.wrap .i64 (0 - xvs5))) a0))
                      (k [.d (.i .i64) (0 : Int), .d .bool false])
                      (k [.d (.i .i64) (IntKind.wrap .i64 (0 - xvs5)), .d .bool true]))
                    none))
                (cond (!(inR xvs5 (-1000000000000 : Int) (1000000000000 : Int)))
                  (k [.d (.i .i64) (0 : Int), .d .bool false])
                  (cond (okI xvs5)
                    (cond (!(sEq (digS xvs5) a0))
                      (k [.d (.i .i64) (0 : Int), .d .bool false])
                      (k [.d (.i .i64) xvs5, .d .bool true]))
                    none)))) a0 a0 (ByteArray.size a0 : Int) n (0 : Int) (0 : Int)))))
      none)
    (cond (sEq a0 ByteArray.empty)
      (k [.d (.i .i64) (0 : Int), .d .bool false])
      (cond (decide ((ByteArray.size a0 : Int) > (13 : Int)))
        (k [.d (.i .i64) (0 : Int), .d .bool false])
        (f76L0 n (k [.d (.i .i64) (0 : Int), .d .bool false]) (fun (xvs5 : Int) (xvs26 : Int) (xvs27 : Bool) =>
          (cond (decide ((ByteArray.size a0 : Int) < (ByteArray.size a0 : Int)))
            (cond (!(inR (IntKind.wrap .i64 (0 - xvs5)) (-1000000000000 : Int) (1000000000000 : Int)))
              (k [.d (.i .i64) (0 : Int), .d .bool false])
              (cond (okI (IntKind.wrap .i64 (0 - xvs5)))
                (cond (!(sEq (digS (IntKind.wrap .i64 (0 - xvs5))) a0))
                  (k [.d (.i .i64) (0 : Int), .d .bool false])
                  (k [.d (.i .i64) (IntKind.wrap .i64 (0 - xvs5)), .d .bool true]))
                none))
            (cond (!(inR xvs5 (-1000000000000 : Int) (1000000000000 : Int)))
              (k [.d (.i .i64) (0 : Int), .d .bool false])
              (cond (okI xvs5)
                (cond (!(sEq (digS xvs5) a0))
                  (k [.d (.i .i64) (0 : Int), .d .bool false])
                  (k [.d (.i .i64) xvs5, .d .bool true]))
                none)))) a0 a0 (ByteArray.size a0 : Int) n (0 : Int) (0 : Int))))) := by
  refine Eq.trans (b := (cond (!(sEq a0 ByteArray.empty))
    (cond (decide ((0 : Int) < (ByteArray.size a0 : Int)))
      (cond ((((ByteArray.data a0).getD 0 0).toNat : Int) == (45 : Int))
        (cond ((decide ((1 : Int) ≤ (ByteArray.size a0 : Int))) && (decide ((ByteArray.size a0 : Int) ≤ (ByteArray.size a0 : Int))))
          (cond (sEq (ByteArray.extract a0 1 (Int.toNat (ByteArray.size a0 : Int))) ByteArray.empty)
            (k [.d (.i .i64) (0 : Int), .d .bool false])
            (cond (decide ((ByteArray.size (ByteArray.extract a0 1 (Int.toNat (ByteArray.size a0 : Int))) : Int) > (13 : Int)))
              (k [.d (.i .i64) (0 : Int), .d .bool false])
              (iter (fun st k => ev f76e f76k n (cAt [1,1,1,1,1,0,1,0,0] f76c) st k) n ⟨[(0, .c (.one (.v (.string a0)))), (4, .c (.one (.v (.string (ByteArray.extract a0 1 (Int.toNat (ByteArray.size a0 : Int))))))), (5, .c (.one (.v (.int .i64 (0 : Int))))), (25, .c (.one (.v (.int .i64 (ByteArray.size (ByteArray.extract a0 1 (Int.toNat (ByteArray.size a0 : Int))) : Int))))), (26, .c (.one (.v (.int .i64 (0 : Int)))))], [], []⟩ (f76K0 n (exitK f76e [.ro] [false, false] true [.tmp 2, .tmp 3] [3, 4] [.d .str a0] k)))))
          none)
        (cond (sEq a0 ByteArray.empty)
          (k [.d (.i .i64) (0 : Int), .d .bool false])
          (cond (decide ((ByteArray.size a0 : Int) > (13 : Int)))
            (k [.d (.i .i64) (0 : Int), .d .bool false])
            (iter (fun st k => ev f76e f76k n (cAt [1,1,1,1,1,0,1,0,0] f76c) st k) n ⟨[(0, .c (.one (.v (.string a0)))), (4, .c (.one (.v (.string a0)))), (5, .c (.one (.v (.int .i64 (0 : Int))))), (25, .c (.one (.v (.int .i64 (ByteArray.size a0 : Int))))), (26, .c (.one (.v (.int .i64 (0 : Int)))))], [], []⟩ (f76K0 n (exitK f76e [.ro] [false, false] true [.tmp 2, .tmp 3] [3, 4] [.d .str a0] k))))))
      none)
    (cond (sEq a0 ByteArray.empty)
      (k [.d (.i .i64) (0 : Int), .d .bool false])
      (cond (decide ((ByteArray.size a0 : Int) > (13 : Int)))
        (k [.d (.i .i64) (0 : Int), .d .bool false])
        (iter (fun st k => ev f76e f76k n (cAt [1,1,1,1,1,0,1,0,0] f76c) st k) n ⟨[(0, .c (.one (.v (.string a0)))), (4, .c (.one (.v (.string a0)))), (5, .c (.one (.v (.int .i64 (0 : Int))))), (25, .c (.one (.v (.int .i64 (ByteArray.size a0 : Int))))), (26, .c (.one (.v (.int .i64 (0 : Int)))))], [], []⟩ (f76K0 n (exitK f76e [.ro] [false, false] true [.tmp 2, .tmp 3] [3, 4] [.d .str a0] k))))))) (by kernel_rfl) ?_
  simp only [f76L0_eq, f76K0_x0, f76K0_x1]
theorem f76_spec (a0 : ByteArray) : ∃ keep rounds, ∀ {R : Type} (k : List Dt → Option R), evFn f76e keep rounds f76c [.ro] [false, false] true [.tmp 2, .tmp 3] [3, 4] [.d .str a0] k = k [.d (.i .i64) ((numS a0).1), .d .bool ((numS a0).2)] := by
  refine ⟨f76k, 14, fun {R} k => ?_⟩
  rw [f76_run]
  show _ = k [.d (.i .i64) (numS a0).1, .d .bool (numS a0).2]
  have key : ∀ (t : ByteArray) (bad : Option R) (fin : Int → Int → Bool → Option R), t.size ≤ 13 → f76L0 14 bad fin a0 t (t.size : Int) 14 (0 : Int) (0 : Int) = Sum.elim (fun _ => bad) (fun n => fin n (t.size : Int) false) (foldE numStep t.data.toList 0) := by
    intro t bad fin ht
    have hlen : t.data.toList.length = t.size := rfl
    refine Eq.trans (loop_fold (xs := t.data.toList) (F := fun m j a => f76L0 14 bad fin a0 t (t.size : Int) m a (j : Int)) (step := numStep) (out := fun _ => bad) (good := fun n => fin n (t.size : Int) false) (fun _ => True) (fun _ _ _ _ _ _ => trivial) (fun m j a x hx _ => ?_) (fun m a _ => ?_) t.size 0 14 0 (by omega) (by omega) trivial) (by rw [List.drop_zero])
    · have hj : j < t.size := by have := lt_of_get hx; omega
      obtain ⟨h1, h0, hw, htt⟩ := idx hj (by omega)
      have hc : (ByteArray.data t).getD j 0 = x := by
        rw [Array.getElem?_toList] at hx
        rw [Array.getD_eq_getD_getElem?, hx]; rfl
      simp only [f76L0, h1, h0, hw, htt, hc, Bool.and_self, cond_true]
      unfold numStep
      cases decide ((x.toNat : Int) < (48 : Int)) <;> cases decide ((x.toNat : Int) > (57 : Int)) <;> rfl
    · simp only [f76L0, hlen, idxE, cond_false]
  have fin : ∀ t : ByteArray, cond (sEq t ByteArray.empty) (k [.d (.i .i64) (0 : Int), .d .bool false]) (cond (decide ((ByteArray.size t : Int) > (13 : Int))) (k [.d (.i .i64) (0 : Int), .d .bool false])
      (f76L0 14 (k [.d (.i .i64) (0 : Int), .d .bool false]) (fun (xvs5 : Int) (xvs26 : Int) (xvs27 : Bool) =>
        (cond (decide ((ByteArray.size t : Int) < (ByteArray.size a0 : Int)))
          (cond (!(inR (IntKind.wrap .i64 (0 - xvs5)) (-1000000000000 : Int) (1000000000000 : Int)))
            (k [.d (.i .i64) (0 : Int), .d .bool false])
            (cond (okI (IntKind.wrap .i64 (0 - xvs5)))
              (cond (!(sEq (digS (IntKind.wrap .i64 (0 - xvs5))) a0))
                (k [.d (.i .i64) (0 : Int), .d .bool false])
                (k [.d (.i .i64) (IntKind.wrap .i64 (0 - xvs5)), .d .bool true]))
              none))
          (cond (!(inR xvs5 (-1000000000000 : Int) (1000000000000 : Int)))
            (k [.d (.i .i64) (0 : Int), .d .bool false])
            (cond (okI xvs5)
              (cond (!(sEq (digS xvs5) a0))
                (k [.d (.i .i64) (0 : Int), .d .bool false])
                (k [.d (.i .i64) xvs5, .d .bool true]))
              none)))) a0 t (ByteArray.size t : Int) 14 (0 : Int) (0 : Int))) =
      (fun r : Int × Bool => k [.d (.i .i64) r.1, .d .bool r.2]) (cond (sEq t ByteArray.empty) ((0 : Int), false) (cond (decide ((t.size : Int) > 13)) ((0 : Int), false) (Sum.elim (fun _ => ((0 : Int), false)) (numEnd a0 t) (foldE numStep t.data.toList 0)))) := by
    intro t
    cases sEq t ByteArray.empty
    rotate_left
    · rfl
    by_cases h13 : (ByteArray.size t : Int) > (13 : Int)
    · rw [decide_eq_true h13]; rfl
    rw [decide_eq_false h13, key t _ _ (by omega)]
    simp only [cond_false]
    have one : ∀ n : Int, (cond (!(inR n (-1000000000000 : Int) (1000000000000 : Int)))
            (k [.d (.i .i64) (0 : Int), .d .bool false])
            (cond (okI n)
              (cond (!(sEq (digS n) a0))
                (k [.d (.i .i64) (0 : Int), .d .bool false])
                (k [.d (.i .i64) n, .d .bool true]))
              none)) = (fun r : Int × Bool => k [.d (.i .i64) r.1, .d .bool r.2]) (cond (inR n (-1000000000000) 1000000000000) (cond (sEq (digS n) a0) (n, true) ((0 : Int), false)) ((0 : Int), false)) := by
      intro n
      cases hin : inR n (-1000000000000 : Int) (1000000000000 : Int)
      · rfl
      have := inR_iff.1 hin
      rw [okI_of (n := n) (by omega) (by omega)]
      cases sEq (digS n) a0 <;> rfl
    cases foldE numStep t.data.toList 0 with
    | inl _ => rfl
    | inr m =>
      simp only [Sum.elim_inr, numEnd]
      cases decide ((ByteArray.size t : Int) < (ByteArray.size a0 : Int))
      · exact one m
      · exact one (IntKind.wrap .i64 (0 - m))
  cases he : sEq a0 ByteArray.empty
  rotate_left
  · have hT : numT a0 = a0 := by unfold numT; rw [he]; rfl
    unfold numS
    rw [hT]
    simp only [Bool.not_true, cond_false]
    have f := fin a0
    rw [he] at f
    rw [he]
    exact f
  have hpos : 0 < a0.size := by
    rcases Nat.eq_zero_or_pos a0.size with h | h
    · exact absurd (sEq_iff.2 (size_zero h)) (by rw [he]; decide)
    · exact h
  have d1 : decide ((0 : Int) < (ByteArray.size a0 : Int)) = true := decide_eq_true (by omega)
  have d2 : decide ((1 : Int) ≤ (ByteArray.size a0 : Int)) = true := decide_eq_true (by omega)
  have d3 : decide ((ByteArray.size a0 : Int) ≤ (ByteArray.size a0 : Int)) = true := decide_eq_true (by omega)
  simp only [d1, d2, d3, Bool.not_false, Bool.and_self, cond_true, Int.toNat_natCast]
  cases hb : ((((ByteArray.data a0).getD 0 0).toNat : Int) == (45 : Int))
  · have hT : numT a0 = a0 := by unfold numT; rw [he, hb]; rfl
    unfold numS
    rw [hT]
    simp only [cond_false]
    have f := fin a0
    rw [he] at f
    rw [he]
    exact f
  · have hT : numT a0 = ByteArray.extract a0 1 a0.size := by unfold numT; rw [he, hb]; rfl
    unfold numS
    rw [hT]
    simp only [cond_true]
    exact fin _

noncomputable def q76 : List Dt → Option (Bool × List Dt)
  | [.d .str a0] => some (true, [.d (.i .i64) ((numS a0).1), .d .bool ((numS a0).2)])
  | _ => none
noncomputable def s76 : Gm.Spec := Gm.Spec.of [.ro] [false, false] true q76
theorem good76 : Gm.Good Try.prog (76, s76) := by
  have hl : ∀ x ∈ [(39, s39), (90, s90)], Gm.Good Try.prog x := List.forall_mem_cons.2 ⟨good39, List.forall_mem_cons.2 ⟨good90, List.forall_mem_nil _⟩⟩
  refine ⟨⟨spec_ok (tab_ok.env hl) (tab.natl hl) Try.func76 (by kernel_rfl : Try.f76.body = some f76c) [3, 4] (by kernel_rfl) ?_, _, Try.func76, by kernel_rfl, of_decide_eq_true (by kernel_rfl)⟩, Gm.Spec.of_natl _ _ _ _⟩
  intro ds outs h
  unfold q76 at h
  split at h
  · cases h; exact f76_spec _
  · cases h
/-! ### loop.example/g00465/impl.natural -/
noncomputable def f58c : Code := (Try.f58.body).getD .skip
def f58k : Nat → Kp := kat [⟨[0], [], [], []⟩, ⟨[4, 5], [], [], []⟩, ⟨[2, 3], [], [], []⟩]
noncomputable def f58e : Env := tab.env [(76, s76)]
theorem f58_run {R : Type} (n : Nat) (k : List Dt → Option R) (a0 : ByteArray) : evFn f58e f58k n f58c [.ro] [false, false] true [.tmp 2, .tmp 3] [3, 4] [.d .str a0] k =
    (cond ((numS a0).2)
    (k [.d (.i .i64) ((numS a0).1), .d .bool (decide (((numS a0).1) ≥ (0 : Int)))])
    (k [.d (.i .i64) ((numS a0).1), .d .bool false])) := by kernel_rfl
theorem f58_spec (a0 : ByteArray) : ∃ keep rounds, ∀ {R : Type} (k : List Dt → Option R), evFn f58e keep rounds f58c [.ro] [false, false] true [.tmp 2, .tmp 3] [3, 4] [.d .str a0] k = k [.d (.i .i64) ((natS a0).1), .d .bool ((natS a0).2)] := by
  refine ⟨f58k, 0, fun {R} k => ?_⟩
  rw [f58_run]
  show _ = k [.d (.i .i64) (natS a0).1, .d .bool (natS a0).2]
  unfold natS
  cases (numS a0).2 <;> rfl

noncomputable def q58 : List Dt → Option (Bool × List Dt)
  | [.d .str a0] => some (true, [.d (.i .i64) ((natS a0).1), .d .bool ((natS a0).2)])
  | _ => none
noncomputable def s58 : Gm.Spec := Gm.Spec.of [.ro] [false, false] true q58
theorem good58 : Gm.Good Try.prog (58, s58) := by
  have hl : ∀ x ∈ [(76, s76)], Gm.Good Try.prog x := List.forall_mem_cons.2 ⟨good76, List.forall_mem_nil _⟩
  refine ⟨⟨spec_ok (tab_ok.env hl) (tab.natl hl) Try.func58 (by kernel_rfl : Try.f58.body = some f58c) [3, 4] (by kernel_rfl) ?_, _, Try.func58, by kernel_rfl, of_decide_eq_true (by kernel_rfl)⟩, Gm.Spec.of_natl _ _ _ _⟩
  intro ds outs h
  unfold q58 at h
  split at h
  · cases h; exact f58_spec _
  · cases h
/-! ### loop.example/g00465/impl.kidAt -/
noncomputable def f45c : Code := (Try.f45.body).getD .skip
def f45k : Nat → Kp := kat [⟨[1, 2], [], [], []⟩, ⟨[1, 2, 10], [], [], []⟩, ⟨[2, 5], [], [], []⟩, ⟨[5, 19], [], [], []⟩, ⟨[4], [], [], []⟩, ⟨[4], [], [], []⟩, ⟨[2, 6, 7], [], [], []⟩, ⟨[6, 39], [], [], []⟩, ⟨[4], [], [], []⟩, ⟨[4], [], [], []⟩]
noncomputable def f45e : Env := tab.env [(58, s58), (67, s67)]
theorem f45_run {R : Type} (n : Nat) (k : List Dt → Option R) (a0 : NodeT) (a1 : ByteArray) : evFn f45e f45k n f45c [.ro, .ro] [false] true [.tmp 4] [3] [.d .node a0, .d .str a1] k =
    (cond ((NodeT.kind a0) == (5 : Int))
    (cond ((fun (x : List ByteArray) (_ : ByteArray) => gLenW x) (NodeT.keys a0) a1)
      (cond (decide ((idxS (NodeT.keys a0) a1) ≥ ((NodeT.kids a0).length : Int)))
        (k [.d (.i .i64) (-1 : Int)])
        (k [.d (.i .i64) (idxS (NodeT.keys a0) a1)]))
      none)
    (cond ((NodeT.kind a0) != (4 : Int))
      (k [.d (.i .i64) (-1 : Int)])
      (cond (!((natS a1).2))
        (k [.d (.i .i64) (-1 : Int)])
        (cond (decide (((natS a1).1) ≥ ((NodeT.kids a0).length : Int)))
          (k [.d (.i .i64) (-1 : Int)])
          (k [.d (.i .i64) ((natS a1).1)]))))) := by kernel_rfl
theorem f45_spec (a0 : NodeT) (a1 : ByteArray) (hg : sm_node a0 = true) : ∃ keep rounds, ∀ {R : Type} (k : List Dt → Option R), evFn f45e keep rounds f45c [.ro, .ro] [false] true [.tmp 4] [3] [.d .node a0, .d .str a1] k = k [.d (.i .i64) (kidAt a0 a1)] := by
  have hg0 := hg
  rw [sm_node_def] at hg
  simp only [Bool.and_eq_true] at hg
  obtain ⟨_, _, _, hke, hki⟩ := hg
  have nke := smL_len hke
  have nki := smL_len hki
  refine ⟨f45k, 0, fun {R} k => ?_⟩
  rw [f45_run]
  simp only [gLenW_sm hke, cond_true]
  cases h5 : a0.kind == (5 : Int)
  · have e : kidAt a0 a1 = cond (a0.kind == (4 : Int)) (plc (firstN (fun j => sEq (digS (j : Int)) a1) 0 a0.kids.length)) (-1) := by unfold kidAt; rw [h5]; rfl
    rw [e, ← natS_first nki]
    simp only [bne, cond_false]
    cases a0.kind == (4 : Int)
    · rfl
    cases (natS a1).2
    · rfl
    cases decide ((natS a1).1 ≥ (a0.kids.length : Int)) <;> rfl
  · have e : kidAt a0 a1 = keyAt a0 a1 := by unfold kidAt; rw [h5]; rfl
    rw [e, ← idxS_keyAt h5]
    simp only [cond_true]
    cases decide (idxS a0.keys a1 ≥ (a0.kids.length : Int)) <;> rfl

noncomputable def q45 : List Dt → Option (Bool × List Dt)
  | [.d .node a0, .d .str a1] => some (((fun (x : NodeT) (_ : ByteArray) => sm_node x) a0 a1), [.d (.i .i64) (kidAt a0 a1)])
  | _ => none
noncomputable def s45 : Gm.Spec := Gm.Spec.of [.ro, .ro] [false] true q45
theorem good45 : Gm.Good Try.prog (45, s45) := by
  have hl : ∀ x ∈ [(58, s58), (67, s67)], Gm.Good Try.prog x := List.forall_mem_cons.2 ⟨good58, List.forall_mem_cons.2 ⟨good67, List.forall_mem_nil _⟩⟩
  refine ⟨⟨spec_ok (tab_ok.env hl) (tab.natl hl) Try.func45 (by kernel_rfl : Try.f45.body = some f45c) [3] (by kernel_rfl) ?_, _, Try.func45, by kernel_rfl, of_decide_eq_true (by kernel_rfl)⟩, Gm.Spec.of_natl _ _ _ _⟩
  intro ds outs h
  unfold q45 at h
  split at h
  · simp only [Option.some.injEq, Prod.mk.injEq] at h; obtain ⟨hg, h⟩ := h; cases h; exact f45_spec _ _ hg
  · cases h
/-! ### loop.example/g00465/spec.l3At -/
noncomputable def f66c : Code := (Try.f66.body).getD .skip
def f66k : Nat → Kp := kat [⟨[1, 2], [], [], []⟩, ⟨[1, 2, 5], [], [], []⟩, ⟨[1, 2, 5, 22], [], [], []⟩, ⟨[1, 2, 5], [], [], []⟩, ⟨[1, 2, 5, 31], [], [], []⟩, ⟨[4], [], [], []⟩, ⟨[4], [], [], []⟩]
noncomputable def f66e : Env := tab.env []
noncomputable def f66L0 {R : Type} (n : Nat) (x0 : Int → Option R) (x1 : Int → Bool → Option R) (x2 : Int → Option R) (vs1 : ByteArray) (vb2_0 : Int) (vb2_1 : Int) (vb2_2 : ByteArray) (vb2_3 : List ByteArray) (vb2_4 : List NodeT) : Nat → Int → Option R
  | 0, _ => none
  | m + 1, vs5 =>
    (cond (decide (vs5 < (vb2_3.length : Int)))
      (cond (decide (vs5 < (vb2_4.length : Int)))
        (cond (vb2_0 == (5 : Int))
          (cond ((decide ((0 : Int) ≤ vs5)) && (decide (vs5 < (vb2_3.length : Int))))
            (cond (sEq (atI (t := .str) vb2_3 (Int.toNat vs5)) vs1)
              (x0 vs5)
              (f66L0 n x0 x1 x2 vs1 vb2_0 vb2_1 vb2_2 vb2_3 vb2_4 m (IntKind.wrap .i64 (vs5 + (1 : Int)))))
            none)
          (x1 vs5 (vb2_0 == (5 : Int))))
        (x2 vs5))
      (x2 vs5))
theorem f66L0_b {R : Type} (n : Nat) (k' : Ex → St → Option R) (vs1 : ByteArray) (vs5 : Int) (vb2_0 : Int) (vb2_1 : Int) (vb2_2 : ByteArray) (vb2_3 : List ByteArray) (vb2_4 : List NodeT) : ev f66e f66k n (cAt [1,0,1,0,0] f66c) ⟨[(1, .c (.one (.v (.string vs1)))), (2, .c (.one (.pt 2 0))), (5, .c (.one (.v (.int .i64 vs5))))], [(2, ⟨.node, [.v (.int .i64 vb2_0), .v (.int .i64 vb2_1), .v (.string vb2_2), .ro .str vb2_3, .ro .node vb2_4]⟩)], []⟩ k' =
    (cond (decide (vs5 < (vb2_3.length : Int)))
    (cond (decide (vs5 < (vb2_4.length : Int)))
      (cond (vb2_0 == (5 : Int))
        (cond ((decide ((0 : Int) ≤ vs5)) && (decide (vs5 < (vb2_3.length : Int))))
          (cond (sEq (atI (t := .str) vb2_3 (Int.toNat vs5)) vs1)
            (k' .ret ⟨[(4, .c (.one (.v (.int .i64 vs5))))], [], []⟩)
            (k' .normal ⟨[(1, .c (.one (.v (.string vs1)))), (2, .c (.one (.pt 2 0))), (5, .c (.one (.v (.int .i64 (IntKind.wrap .i64 (vs5 + (1 : Int)))))))], [(2, ⟨.node, [.v (.int .i64 vb2_0), .v (.int .i64 vb2_1), .v (.string vb2_2), .ro .str vb2_3, .ro .node vb2_4]⟩)], []⟩))
          none)
        (k' (.exit 0) ⟨[(1, .c (.one (.v (.string vs1)))), (2, .c (.one (.pt 2 0))), (5, .c (.one (.v (.int .i64 vs5)))), (22, .c (.one (.v (.bool (vb2_0 == (5 : Int))))))], [(2, ⟨.node, [.v (.int .i64 vb2_0), .v (.int .i64 vb2_1), .v (.string vb2_2), .ro .str vb2_3, .ro .node vb2_4]⟩)], []⟩))
      (k' (.exit 0) ⟨[(1, .c (.one (.v (.string vs1)))), (2, .c (.one (.pt 2 0))), (5, .c (.one (.v (.int .i64 vs5)))), (22, .c (.one (.v (.bool false))))], [(2, ⟨.node, [.v (.int .i64 vb2_0), .v (.int .i64 vb2_1), .v (.string vb2_2), .ro .str vb2_3, .ro .node vb2_4]⟩)], []⟩))
    (k' (.exit 0) ⟨[(1, .c (.one (.v (.string vs1)))), (2, .c (.one (.pt 2 0))), (5, .c (.one (.v (.int .i64 vs5)))), (22, .c (.one (.v (.bool false))))], [(2, ⟨.node, [.v (.int .i64 vb2_0), .v (.int .i64 vb2_1), .v (.string vb2_2), .ro .str vb2_3, .ro .node vb2_4]⟩)], []⟩)) := by kernel_rfl
theorem f66L0_eq {R : Type} (n : Nat) (k' : Ex → St → Option R) (vs1 : ByteArray) (vb2_0 : Int) (vb2_1 : Int) (vb2_2 : ByteArray) (vb2_3 : List ByteArray) (vb2_4 : List NodeT) : ∀ (m : Nat) (vs5 : Int), iter (fun st k => ev f66e f66k n (cAt [1,0,1,0,0] f66c) st k) m ⟨[(1, .c (.one (.v (.string vs1)))), (2, .c (.one (.pt 2 0))), (5, .c (.one (.v (.int .i64 vs5))))], [(2, ⟨.node, [.v (.int .i64 vb2_0), .v (.int .i64 vb2_1), .v (.string vb2_2), .ro .str vb2_3, .ro .node vb2_4]⟩)], []⟩ k' = f66L0 n (fun (xvs4 : Int) => k' .ret ⟨[(4, .c (.one (.v (.int .i64 xvs4))))], [], []⟩) (fun (xvs5 : Int) (xvs22 : Bool) => k' (.exit 0) ⟨[(1, .c (.one (.v (.string vs1)))), (2, .c (.one (.pt 2 0))), (5, .c (.one (.v (.int .i64 xvs5)))), (22, .c (.one (.v (.bool xvs22))))], [(2, ⟨.node, [.v (.int .i64 vb2_0), .v (.int .i64 vb2_1), .v (.string vb2_2), .ro .str vb2_3, .ro .node vb2_4]⟩)], []⟩) (fun (xvs5 : Int) => k' (.exit 0) ⟨[(1, .c (.one (.v (.string vs1)))), (2, .c (.one (.pt 2 0))), (5, .c (.one (.v (.int .i64 xvs5)))), (22, .c (.one (.v (.bool false))))], [(2, ⟨.node, [.v (.int .i64 vb2_0), .v (.int .i64 vb2_1), .v (.string vb2_2), .ro .str vb2_3, .ro .node vb2_4]⟩)], []⟩) vs1 vb2_0 vb2_1 vb2_2 vb2_3 vb2_4 m vs5 := by
  intro m; induction m with
  | zero => intros; rfl
  | succ m ih =>
    intro vs5
    simp only [iter]
    rw [f66L0_b]
    simp only [ih, f66L0]

noncomputable def f66K0 {R : Type} (n : Nat) (k' : Ex → St → Option R) : Ex → St → Option R := (blockK 0 (seqK f66e f66k n (cAt [1,1] f66c) k'))
theorem f66K0_x0 {R : Type} (n : Nat) (k : List Dt → Option R) (a0 : NodeT) (a1 : ByteArray) (xvs4 : Int) : f66K0 n (exitK f66e [.ro, .ro] [false] true [.tmp 4] [3] [.d .node a0, .d .str a1] k) .ret ⟨[(4, .c (.one (.v (.int .i64 xvs4))))], [], []⟩ =
    (k [.d (.i .i64) xvs4]) := by kernel_rfl
theorem f66K0_x1 {R : Type} (n : Nat) (k : List Dt → Option R) (a0 : NodeT) (a1 : ByteArray) (vs1 : ByteArray) (vb2_0 : Int) (vb2_1 : Int) (vb2_2 : ByteArray) (vb2_3 : List ByteArray) (vb2_4 : List NodeT) (xvs5 : Int) (xvs22 : Bool) : f66K0 n (exitK f66e [.ro, .ro] [false] true [.tmp 4] [3] [.d .node a0, .d .str a1] k) (.exit 0) ⟨[(1, .c (.one (.v (.string vs1)))), (2, .c (.one (.pt 2 0))), (5, .c (.one (.v (.int .i64 xvs5)))), (22, .c (.one (.v (.bool xvs22))))], [(2, ⟨.node, [.v (.int .i64 vb2_0), .v (.int .i64 vb2_1), .v (.string vb2_2), .ro .str vb2_3, .ro .node vb2_4]⟩)], []⟩ =
    (k [.d (.i .i64) (-1 : Int)]) := by kernel_rfl
theorem f66K0_x2 {R : Type} (n : Nat) (k : List Dt → Option R) (a0 : NodeT) (a1 : ByteArray) (vs1 : ByteArray) (vb2_0 : Int) (vb2_1 : Int) (vb2_2 : ByteArray) (vb2_3 : List ByteArray) (vb2_4 : List NodeT) (xvs5 : Int) : f66K0 n (exitK f66e [.ro, .ro] [false] true [.tmp 4] [3] [.d .node a0, .d .str a1] k) (.exit 0) ⟨[(1, .c (.one (.v (.string vs1)))), (2, .c (.one (.pt 2 0))), (5, .c (.one (.v (.int .i64 xvs5)))), (22, .c (.one (.v (.bool false))))], [(2, ⟨.node, [.v (.int .i64 vb2_0), .v (.int .i64 vb2_1), .v (.string vb2_2), .ro .str vb2_3, .ro .node vb2_4]⟩)], []⟩ =
    (k [.d (.i .i64) (-1 : Int)]) := by kernel_rfl

theorem f66_run {R : Type} (n : Nat) (k : List Dt → Option R) (a0 : NodeT) (a1 : ByteArray) : evFn f66e f66k n f66c [.ro, .ro] [false] true [.tmp 4] [3] [.d .node a0, .d .str a1] k =
    (f66L0 n (fun (xvs4 : Int) =>
    (k [.d (.i .i64) xvs4])) (fun (xvs5 : Int) (xvs22 : Bool) =>
    (k [.d (.i .i64) (-1 : Int)])) (fun (xvs5 : Int) =>
    (k [.d (.i .i64) (-1 : Int)])) a1 (NodeT.kind a0) (NodeT.n a0) (NodeT.s a0) (NodeT.keys a0) (NodeT.kids a0) n (0 : Int)) := by
  refine Eq.trans (b := (iter (fun st k => ev f66e f66k n (cAt [1,0,1,0,0] f66c) st k) n ⟨[(1, .c (.one (.v (.string a1)))), (2, .c (.one (.pt 2 0))), (5, .c (.one (.v (.int .i64 (0 : Int)))))], [(2, ⟨.node, [.v (.int .i64 (NodeT.kind a0)), .v (.int .i64 (NodeT.n a0)), .v (.string (NodeT.s a0)), .ro .str (NodeT.keys a0), .ro .node (NodeT.kids a0)]⟩)], []⟩ (f66K0 n (exitK f66e [.ro, .ro] [false] true [.tmp 4] [3] [.d .node a0, .d .str a1] k)))) (by kernel_rfl) ?_
  simp only [f66L0_eq, f66K0_x0, f66K0_x1, f66K0_x2]
theorem f66_spec (a0 : NodeT) (a1 : ByteArray) (hg : sm_node a0 = true) : ∃ keep rounds, ∀ {R : Type} (k : List Dt → Option R), evFn f66e keep rounds f66c [.ro, .ro] [false] true [.tmp 4] [3] [.d .node a0, .d .str a1] k = k [.d (.i .i64) (keyAt a0 a1)] := by
  have hg0 := hg
  rw [sm_node_def] at hg
  simp only [Bool.and_eq_true] at hg
  obtain ⟨_, _, _, hke, hki⟩ := hg
  have nke := smL_len hke
  have nki := smL_len hki
  refine ⟨f66k, a0.keys.length + 1, fun {R} k => ?_⟩
  rw [f66_run]
  show _ = k [.d (.i .i64) (keyAt a0 a1)]
  unfold keyAt
  cases h5 : a0.kind == (5 : Int)
  · rw [f66L0]
    simp only [h5, cond_false]
    cases decide ((0 : Int) < (a0.keys.length : Int)) <;> cases decide ((0 : Int) < (a0.kids.length : Int)) <;> rfl
  refine Eq.trans (loop_find (n := min a0.keys.length a0.kids.length) (F := fun m i => f66L0 (a0.keys.length + 1) _ _ _ a1 a0.kind a0.n a0.s a0.keys a0.kids m i) (p := fun j => sEq (atI (t := .str) a0.keys j) a1) (hit := fun i => k [.d (.i .i64) i]) (miss := k [.d (.i .i64) (-1 : Int)])
    (fun m j hj => ?_) (fun m => ?_) (min a0.keys.length a0.kids.length) 0 (a0.keys.length + 1) (by omega) (by omega)) ?_
  · obtain ⟨h1, h0, hw, ht⟩ := idx (show j < a0.keys.length by omega) (by omega)
    have h2 : decide ((j : Int) < (a0.kids.length : Int)) = true := decide_eq_true (by omega)
    simp only [f66L0, h1, h0, h2, hw, ht, h5, Bool.and_self, cond_true]
  · by_cases hle : a0.keys.length ≤ a0.kids.length
    · rw [Nat.min_eq_left hle]
      simp only [f66L0, idxE, cond_false]
    · rw [Nat.min_eq_right (by omega)]
      have h2 : decide ((a0.kids.length : Int) < (a0.keys.length : Int)) = true := decide_eq_true (by omega)
      simp only [f66L0, h2, idxE, cond_false, cond_true]
  · simp only [cond_true]
    show _ = k [.d (.i .i64) (plc _)]
    cases firstN (fun j => sEq (atI (t := .str) a0.keys j) a1) 0 (min a0.keys.length a0.kids.length) <;> rfl

noncomputable def q66 : List Dt → Option (Bool × List Dt)
  | [.d .node a0, .d .str a1] => some (((fun (x : NodeT) (_ : ByteArray) => sm_node x) a0 a1), [.d (.i .i64) (keyAt a0 a1)])
  | _ => none
noncomputable def s66 : Gm.Spec := Gm.Spec.of [.ro, .ro] [false] true q66
theorem good66 : Gm.Good Try.prog (66, s66) := by
  have hl : ∀ x ∈ ([] : List (Nat × Gm.Spec)), Gm.Good Try.prog x := fun _ h => by cases h
  refine ⟨⟨spec_ok (tab_ok.env hl) (tab.natl hl) Try.func66 (by kernel_rfl : Try.f66.body = some f66c) [3] (by kernel_rfl) ?_, _, Try.func66, by kernel_rfl, of_decide_eq_true (by kernel_rfl)⟩, Gm.Spec.of_natl _ _ _ _⟩
  intro ds outs h
  unfold q66 at h
  split at h
  · simp only [Option.some.injEq, Prod.mk.injEq] at h; obtain ⟨hg, h⟩ := h; cases h; exact f66_spec _ _ hg
  · cases h
/-! ### loop.example/g00465/spec.l22Index -/
noncomputable def f43c : Code := (Try.f43.body).getD .skip
def f43k : Nat → Kp := kat [⟨[1, 2], [], [], []⟩, ⟨[1, 2, 8], [], [], []⟩, ⟨[1, 2, 8, 9], [], [], []⟩, ⟨[5], [], [], []⟩, ⟨[4], [], [], []⟩, ⟨[1, 2, 15], [], [], []⟩, ⟨[1, 2, 6], [], [], []⟩, ⟨[1, 2, 6, 21], [], [], []⟩, ⟨[1, 2, 6], [], [], []⟩, ⟨[1, 2, 6, 27], [], [], []⟩, ⟨[4], [], [], []⟩, ⟨[4], [], [], []⟩]
noncomputable def f43e : Env := tab.env [(37, s37), (66, s66)]
noncomputable def f43L0 {R : Type} (n : Nat) (x0 : Int → Option R) (x1 : Int → Bool → Option R) (vs1 : ByteArray) (vb2_0 : Int) (vb2_1 : Int) (vb2_2 : ByteArray) (vb2_3 : List ByteArray) (vb2_4 : List NodeT) : Nat → Int → Option R
  | 0, _ => none
  | m + 1, vs6 =>
    (cond (decide (vs6 < (vb2_4.length : Int)))
      (cond (okI vs6)
        (cond (sEq (digS vs6) vs1)
          (x0 vs6)
          (f43L0 n x0 x1 vs1 vb2_0 vb2_1 vb2_2 vb2_3 vb2_4 m (IntKind.wrap .i64 (vs6 + (1 : Int)))))
        none)
      (x1 vs6 (decide (vs6 < (vb2_4.length : Int)))))
theorem f43L0_b {R : Type} (n : Nat) (k' : Ex → St → Option R) (vs1 : ByteArray) (vs6 : Int) (vb2_0 : Int) (vb2_1 : Int) (vb2_2 : ByteArray) (vb2_3 : List ByteArray) (vb2_4 : List NodeT) : ev f43e f43k n (cAt [1,0,1,0,1,1,1,0,1,0,0] f43c) ⟨[(1, .c (.one (.v (.string vs1)))), (2, .c (.one (.pt 2 0))), (6, .c (.one (.v (.int .i64 vs6))))], [(2, ⟨.node, [.v (.int .i64 vb2_0), .v (.int .i64 vb2_1), .v (.string vb2_2), .ro .str vb2_3, .ro .node vb2_4]⟩)], []⟩ k' =
    (cond (decide (vs6 < (vb2_4.length : Int)))
    (cond (okI vs6)
      (cond (sEq (digS vs6) vs1)
        (k' .ret ⟨[(4, .c (.one (.v (.int .i64 vs6))))], [], []⟩)
        (k' .normal ⟨[(1, .c (.one (.v (.string vs1)))), (2, .c (.one (.pt 2 0))), (6, .c (.one (.v (.int .i64 (IntKind.wrap .i64 (vs6 + (1 : Int)))))))], [(2, ⟨.node, [.v (.int .i64 vb2_0), .v (.int .i64 vb2_1), .v (.string vb2_2), .ro .str vb2_3, .ro .node vb2_4]⟩)], []⟩))
      none)
    (k' (.exit 1) ⟨[(1, .c (.one (.v (.string vs1)))), (2, .c (.one (.pt 2 0))), (6, .c (.one (.v (.int .i64 vs6)))), (21, .c (.one (.v (.bool (decide (vs6 < (vb2_4.length : Int)))))))], [(2, ⟨.node, [.v (.int .i64 vb2_0), .v (.int .i64 vb2_1), .v (.string vb2_2), .ro .str vb2_3, .ro .node vb2_4]⟩)], []⟩)) := by kernel_rfl
theorem f43L0_eq {R : Type} (n : Nat) (k' : Ex → St → Option R) (vs1 : ByteArray) (vb2_0 : Int) (vb2_1 : Int) (vb2_2 : ByteArray) (vb2_3 : List ByteArray) (vb2_4 : List NodeT) : ∀ (m : Nat) (vs6 : Int), iter (fun st k => ev f43e f43k n (cAt [1,0,1,0,1,1,1,0,1,0,0] f43c) st k) m ⟨[(1, .c (.one (.v (.string vs1)))), (2, .c (.one (.pt 2 0))), (6, .c (.one (.v (.int .i64 vs6))))], [(2, ⟨.node, [.v (.int .i64 vb2_0), .v (.int .i64 vb2_1), .v (.string vb2_2), .ro .str vb2_3, .ro .node vb2_4]⟩)], []⟩ k' = f43L0 n (fun (xvs4 : Int) => k' .ret ⟨[(4, .c (.one (.v (.int .i64 xvs4))))], [], []⟩) (fun (xvs6 : Int) (xvs21 : Bool) => k' (.exit 1) ⟨[(1, .c (.one (.v (.string vs1)))), (2, .c (.one (.pt 2 0))), (6, .c (.one (.v (.int .i64 xvs6)))), (21, .c (.one (.v (.bool xvs21))))], [(2, ⟨.node, [.v (.int .i64 vb2_0), .v (.int .i64 vb2_1), .v (.string vb2_2), .ro .str vb2_3, .ro .node vb2_4]⟩)], []⟩) vs1 vb2_0 vb2_1 vb2_2 vb2_3 vb2_4 m vs6 := by
  intro m; induction m with
  | zero => intros; rfl
  | succ m ih =>
    intro vs6
    simp only [iter]
    rw [f43L0_b]
    simp only [ih, f43L0]

noncomputable def f43K0 {R : Type} (n : Nat) (k' : Ex → St → Option R) : Ex → St → Option R := (blockK 1 (blockK 0 (seqK f43e f43k n (cAt [1,1] f43c) k')))
theorem f43K0_x0 {R : Type} (n : Nat) (k : List Dt → Option R) (a0 : NodeT) (a1 : ByteArray) (xvs4 : Int) : f43K0 n (exitK f43e [.ro, .ro] [false] true [.tmp 4] [3] [.d .node a0, .d .str a1] k) .ret ⟨[(4, .c (.one (.v (.int .i64 xvs4))))], [], []⟩ =
    (k [.d (.i .i64) xvs4]) := by kernel_rfl
theorem f43K0_x1 {R : Type} (n : Nat) (k : List Dt → Option R) (a0 : NodeT) (a1 : ByteArray) (vs1 : ByteArray) (vb2_0 : Int) (vb2_1 : Int) (vb2_2 : ByteArray) (vb2_3 : List ByteArray) (vb2_4 : List NodeT) (xvs6 : Int) (xvs21 : Bool) : f43K0 n (exitK f43e [.ro, .ro] [false] true [.tmp 4] [3] [.d .node a0, .d .str a1] k) (.exit 1) ⟨[(1, .c (.one (.v (.string vs1)))), (2, .c (.one (.pt 2 0))), (6, .c (.one (.v (.int .i64 xvs6)))), (21, .c (.one (.v (.bool xvs21))))], [(2, ⟨.node, [.v (.int .i64 vb2_0), .v (.int .i64 vb2_1), .v (.string vb2_2), .ro .str vb2_3, .ro .node vb2_4]⟩)], []⟩ =
    (k [.d (.i .i64) (-1 : Int)]) := by kernel_rfl

theorem f43_run {R : Type} (n : Nat) (k : List Dt → Option R) (a0 : NodeT) (a1 : ByteArray) : evFn f43e f43k n f43c [.ro, .ro] [false] true [.tmp 4] [3] [.d .node a0, .d .str a1] k =
    (cond ((NodeT.kind a0) == (5 : Int))
    (cond ((fun (x : NodeT) (_ : ByteArray) => sm_node x) (⟨(NodeT.kind a0), (NodeT.n a0), (NodeT.s a0), (NodeT.keys a0), (NodeT.kids a0)⟩ : NodeT) a1)
      (k [.d (.i .i64) (keyAt (⟨(NodeT.kind a0), (NodeT.n a0), (NodeT.s a0), (NodeT.keys a0), (NodeT.kids a0)⟩ : NodeT) a1)])
      none)
    (cond ((NodeT.kind a0) == (4 : Int))
      (f43L0 n (fun (xvs4 : Int) =>
        (k [.d (.i .i64) xvs4])) (fun (xvs6 : Int) (xvs21 : Bool) =>
        (k [.d (.i .i64) (-1 : Int)])) a1 (NodeT.kind a0) (NodeT.n a0) (NodeT.s a0) (NodeT.keys a0) (NodeT.kids a0) n (0 : Int))
      (k [.d (.i .i64) (-1 : Int)]))) := by
  refine Eq.trans (b := (cond ((NodeT.kind a0) == (5 : Int))
    (cond ((fun (x : NodeT) (_ : ByteArray) => sm_node x) (⟨(NodeT.kind a0), (NodeT.n a0), (NodeT.s a0), (NodeT.keys a0), (NodeT.kids a0)⟩ : NodeT) a1)
      (k [.d (.i .i64) (keyAt (⟨(NodeT.kind a0), (NodeT.n a0), (NodeT.s a0), (NodeT.keys a0), (NodeT.kids a0)⟩ : NodeT) a1)])
      none)
    (cond ((NodeT.kind a0) == (4 : Int))
      (iter (fun st k => ev f43e f43k n (cAt [1,0,1,0,1,1,1,0,1,0,0] f43c) st k) n ⟨[(1, .c (.one (.v (.string a1)))), (2, .c (.one (.pt 2 0))), (6, .c (.one (.v (.int .i64 (0 : Int)))))], [(2, ⟨.node, [.v (.int .i64 (NodeT.kind a0)), .v (.int .i64 (NodeT.n a0)), .v (.string (NodeT.s a0)), .ro .str (NodeT.keys a0), .ro .node (NodeT.kids a0)]⟩)], []⟩ (f43K0 n (exitK f43e [.ro, .ro] [false] true [.tmp 4] [3] [.d .node a0, .d .str a1] k)))
      (k [.d (.i .i64) (-1 : Int)])))) (by kernel_rfl) ?_
  simp only [f43L0_eq, f43K0_x0, f43K0_x1]
theorem f43_spec (a0 : NodeT) (a1 : ByteArray) (hg : sm_node a0 = true) : ∃ keep rounds, ∀ {R : Type} (k : List Dt → Option R), evFn f43e keep rounds f43c [.ro, .ro] [false] true [.tmp 4] [3] [.d .node a0, .d .str a1] k = k [.d (.i .i64) (kidAt a0 a1)] := by
  have hg0 := hg
  rw [sm_node_def] at hg
  simp only [Bool.and_eq_true] at hg
  obtain ⟨_, _, _, hke, hki⟩ := hg
  have nke := smL_len hke
  have nki := smL_len hki
  refine ⟨f43k, a0.kids.length + 1, fun {R} k => ?_⟩
  rw [f43_run]
  show _ = k [.d (.i .i64) (kidAt a0 a1)]
  simp only [eta_node, hg0, cond_true]
  unfold kidAt
  cases h5 : a0.kind == (5 : Int)
  rotate_left
  · rfl
  simp only [cond_false]
  cases h4 : a0.kind == (4 : Int)
  · rfl
  simp only [cond_true]
  refine Eq.trans (loop_find (n := a0.kids.length) (F := fun m i => f43L0 (a0.kids.length + 1) _ _ a1 a0.kind a0.n a0.s a0.keys a0.kids m i) (p := fun j => sEq (digS (j : Int)) a1) (hit := fun i => k [.d (.i .i64) i]) (miss := k [.d (.i .i64) (-1 : Int)])
    (fun m j hj => ?_) (fun m => by simp only [f43L0, idxE, cond_false]) a0.kids.length 0 (a0.kids.length + 1) (by omega) (by omega)) ?_
  · obtain ⟨h1, h0, hw, ht⟩ := idx hj (by omega)
    simp only [f43L0, h1, hw, okI_of (n := (j : Int)) (by omega) (by omega), cond_true]
  · show _ = k [.d (.i .i64) (plc _)]
    cases firstN (fun j => sEq (digS (j : Int)) a1) 0 a0.kids.length <;> rfl

noncomputable def q43 : List Dt → Option (Bool × List Dt)
  | [.d .node a0, .d .str a1] => some (((fun (x : NodeT) (_ : ByteArray) => sm_node x) a0 a1), [.d (.i .i64) (kidAt a0 a1)])
  | _ => none
noncomputable def s43 : Gm.Spec := Gm.Spec.of [.ro, .ro] [false] true q43
theorem good43 : Gm.Good Try.prog (43, s43) := by
  have hl : ∀ x ∈ [(37, s37), (66, s66)], Gm.Good Try.prog x := List.forall_mem_cons.2 ⟨good37, List.forall_mem_cons.2 ⟨good66, List.forall_mem_nil _⟩⟩
  refine ⟨⟨spec_ok (tab_ok.env hl) (tab.natl hl) Try.func43 (by kernel_rfl : Try.f43.body = some f43c) [3] (by kernel_rfl) ?_, _, Try.func43, by kernel_rfl, of_decide_eq_true (by kernel_rfl)⟩, Gm.Spec.of_natl _ _ _ _⟩
  intro ds outs h
  unfold q43 at h
  split at h
  · simp only [Option.some.injEq, Prod.mk.injEq] at h; obtain ⟨hg, h⟩ := h; cases h; exact f43_spec _ _ hg
  · cases h
end Go.Proofs.Ytinbejnakemfjaa

/- x -/
namespace Go.Proofs.Ytinbejnakemfjaa
open Go Go.Gm
noncomputable def q9 : List Dt → Option (Bool × List Dt)
  | [.d .node a0] => some ((gPt a0), [.d (.sl (.sl .str)) (allPtrs a0)])
  | _ => none
noncomputable def mu9 : List Dt → Nat
  | [.d .node a0] => nd_node a0
  | _ => 0
noncomputable def s9r (N : Nat) : Gm.Spec := Gm.Spec.of [.ro] [false] true (qlt mu9 N q9)
/-! ### loop.example/g00465/spec.AllPtrs -/
noncomputable def f9c : Code := (Try.f9.body).getD .skip
def f9k : Nat → Kp := kat [⟨[1], [], [], []⟩, ⟨[1, 3], [], [], []⟩, ⟨[1, 3, 4], [], [], []⟩, ⟨[1, 3, 4, 14], [], [], []⟩, ⟨[1, 3, 4], [], [], []⟩, ⟨[1, 3, 4, 5], [], [], []⟩, ⟨[1, 3, 4, 5, 28], [], [], []⟩, ⟨[1, 3, 4, 5], [], [], []⟩, ⟨[1, 3, 4, 5, 6], [], [], []⟩, ⟨[1, 3, 4, 5, 6, 7], [], [], []⟩, ⟨[1, 3, 4, 5, 6, 7, 43], [], [], []⟩, ⟨[1, 3, 4, 5, 6, 7], [], [], []⟩, ⟨[1, 3, 4, 5, 6, 7], [], [], []⟩, ⟨[2], [], [], []⟩]
noncomputable def f9e (N : Nat) : Env := tab.env [(9, s9r N), (37, s37)]
noncomputable def f9L0 {R : Type} (N : Nat) (n : Nat) (x0 : Int → Bool → (List (List ByteArray)) → Option R) (vs4 : Int) (vs5 : ByteArray) (vb1_0 : Int) (vb1_1 : Int) (vb1_2 : ByteArray) (vb1_3 : List ByteArray) (vb1_4 : List NodeT) (vr2496 : List (List ByteArray)) : Nat → Int → (List (List ByteArray)) → Option R
  | 0, _, _ => none
  | m + 1, vs7, vr576 =>
    (cond (decide (vs7 < (vr2496.length : Int)))
      (cond ((decide ((0 : Int) ≤ vs7)) && (decide (vs7 < (vr2496.length : Int))))
        (cond (Nat.ble (1 + (atI (t := (.sl .str)) vr2496 (Int.toNat vs7)).length) LIM)
          (cond (Nat.ble (vr576.length + 1) LIM)
            (f9L0 N n x0 vs4 vs5 vb1_0 vb1_1 vb1_2 vb1_3 vb1_4 vr2496 m (IntKind.wrap .i64 (vs7 + (1 : Int))) (vr576 ++ ([(([vs5] : List ByteArray) ++ (atI (t := (.sl .str)) vr2496 (Int.toNat vs7)))] : List (List ByteArray))))
            none)
          none)
        none)
      (x0 vs7 (decide (vs7 < (vr2496.length : Int))) vr576))
theorem f9L0_b {R : Type} (N : Nat) (n : Nat) (k' : Ex → St → Option R) (vs4 : Int) (vs5 : ByteArray) (vs7 : Int) (vb1_0 : Int) (vb1_1 : Int) (vb1_2 : ByteArray) (vb1_3 : List ByteArray) (vb1_4 : List NodeT) (vr576 : List (List ByteArray)) (vr2496 : List (List ByteArray)) : ev (f9e N) f9k n (cAt [1,1,0,1,0,0,1,0,0,1,1,1,1,0,0] f9c) ⟨[(1, .c (.one (.pt 1 0))), (3, .c (.one (.h 576 0 0 []))), (4, .c (.one (.v (.int .i64 vs4)))), (5, .c (.one (.v (.string vs5)))), (6, .c (.one (.h 2496 0 0 []))), (7, .c (.one (.v (.int .i64 vs7))))], [(1, ⟨.node, [.v (.int .i64 vb1_0), .v (.int .i64 vb1_1), .v (.string vb1_2), .ro .str vb1_3, .ro .node vb1_4]⟩)], [(576, .live ⟨(.sl .str), .deep, 0, [], vr576⟩), (2496, .live ⟨(.sl .str), .deep, 0, [], vr2496⟩)]⟩ k' =
    (cond (decide (vs7 < (vr2496.length : Int)))
    (cond ((decide ((0 : Int) ≤ vs7)) && (decide (vs7 < (vr2496.length : Int))))
      (cond (Nat.ble (1 + (atI (t := (.sl .str)) vr2496 (Int.toNat vs7)).length) LIM)
        (cond (Nat.ble (vr576.length + 1) LIM)
          (k' .normal ⟨[(1, .c (.one (.pt 1 0))), (3, .c (.one (.h 576 0 0 []))), (4, .c (.one (.v (.int .i64 vs4)))), (5, .c (.one (.v (.string vs5)))), (6, .c (.one (.h 2496 0 0 []))), (7, .c (.one (.v (.int .i64 (IntKind.wrap .i64 (vs7 + (1 : Int)))))))], [(1, ⟨.node, [.v (.int .i64 vb1_0), .v (.int .i64 vb1_1), .v (.string vb1_2), .ro .str vb1_3, .ro .node vb1_4]⟩)], [(576, .live ⟨(.sl .str), .deep, 0, [], (vr576 ++ ([(([vs5] : List ByteArray) ++ (atI (t := (.sl .str)) vr2496 (Int.toNat vs7)))] : List (List ByteArray)))⟩), (2496, .live ⟨(.sl .str), .deep, 0, [], vr2496⟩)]⟩)
          none)
        none)
      none)
    (k' (.exit 2) ⟨[(1, .c (.one (.pt 1 0))), (3, .c (.one (.h 576 0 0 []))), (4, .c (.one (.v (.int .i64 vs4)))), (5, .c (.one (.v (.string vs5)))), (6, .c (.one (.h 2496 0 0 []))), (7, .c (.one (.v (.int .i64 vs7)))), (43, .c (.one (.v (.bool (decide (vs7 < (vr2496.length : Int)))))))], [(1, ⟨.node, [.v (.int .i64 vb1_0), .v (.int .i64 vb1_1), .v (.string vb1_2), .ro .str vb1_3, .ro .node vb1_4]⟩)], [(576, .live ⟨(.sl .str), .deep, 0, [], vr576⟩), (2496, .live ⟨(.sl .str), .deep, 0, [], vr2496⟩)]⟩)) := by kernel_rfl
theorem f9L0_eq {R : Type} (N : Nat) (n : Nat) (k' : Ex → St → Option R) (vs4 : Int) (vs5 : ByteArray) (vb1_0 : Int) (vb1_1 : Int) (vb1_2 : ByteArray) (vb1_3 : List ByteArray) (vb1_4 : List NodeT) (vr2496 : List (List ByteArray)) : ∀ (m : Nat) (vs7 : Int) (vr576 : List (List ByteArray)), iter (fun st k => ev (f9e N) f9k n (cAt [1,1,0,1,0,0,1,0,0,1,1,1,1,0,0] f9c) st k) m ⟨[(1, .c (.one (.pt 1 0))), (3, .c (.one (.h 576 0 0 []))), (4, .c (.one (.v (.int .i64 vs4)))), (5, .c (.one (.v (.string vs5)))), (6, .c (.one (.h 2496 0 0 []))), (7, .c (.one (.v (.int .i64 vs7))))], [(1, ⟨.node, [.v (.int .i64 vb1_0), .v (.int .i64 vb1_1), .v (.string vb1_2), .ro .str vb1_3, .ro .node vb1_4]⟩)], [(576, .live ⟨(.sl .str), .deep, 0, [], vr576⟩), (2496, .live ⟨(.sl .str), .deep, 0, [], vr2496⟩)]⟩ k' = f9L0 N n (fun (xvs7 : Int) (xvs43 : Bool) (xvr576 : List (List ByteArray)) => k' (.exit 2) ⟨[(1, .c (.one (.pt 1 0))), (3, .c (.one (.h 576 0 0 []))), (4, .c (.one (.v (.int .i64 vs4)))), (5, .c (.one (.v (.string vs5)))), (6, .c (.one (.h 2496 0 0 []))), (7, .c (.one (.v (.int .i64 xvs7)))), (43, .c (.one (.v (.bool xvs43))))], [(1, ⟨.node, [.v (.int .i64 vb1_0), .v (.int .i64 vb1_1), .v (.string vb1_2), .ro .str vb1_3, .ro .node vb1_4]⟩)], [(576, .live ⟨(.sl .str), .deep, 0, [], xvr576⟩), (2496, .live ⟨(.sl .str), .deep, 0, [], vr2496⟩)]⟩) vs4 vs5 vb1_0 vb1_1 vb1_2 vb1_3 vb1_4 vr2496 m vs7 vr576 := by
  intro m; induction m with
  | zero => intros; rfl
  | succ m ih =>
    intro vs7 vr576
    simp only [iter]
    rw [f9L0_b]
    simp only [ih, f9L0]

noncomputable def f9K0 {R : Type} (N : Nat) (n : Nat) (k' : Ex → St → Option R) : Ex → St → Option R := (blockK 2 (blockK 1 (seqK (f9e N) f9k n (cAt [1,1,0,1,0,0,1,1] f9c) k')))
theorem f9K0_x0 {R : Type} (N : Nat) (n : Nat) (k' : Ex → St → Option R) (vs4 : Int) (vs5 : ByteArray) (vb1_0 : Int) (vb1_1 : Int) (vb1_2 : ByteArray) (vb1_3 : List ByteArray) (vb1_4 : List NodeT) (vr2496 : List (List ByteArray)) (xvs7 : Int) (xvs43 : Bool) (xvr576 : List (List ByteArray)) : f9K0 N n k' (.exit 2) ⟨[(1, .c (.one (.pt 1 0))), (3, .c (.one (.h 576 0 0 []))), (4, .c (.one (.v (.int .i64 vs4)))), (5, .c (.one (.v (.string vs5)))), (6, .c (.one (.h 2496 0 0 []))), (7, .c (.one (.v (.int .i64 xvs7)))), (43, .c (.one (.v (.bool xvs43))))], [(1, ⟨.node, [.v (.int .i64 vb1_0), .v (.int .i64 vb1_1), .v (.string vb1_2), .ro .str vb1_3, .ro .node vb1_4]⟩)], [(576, .live ⟨(.sl .str), .deep, 0, [], xvr576⟩), (2496, .live ⟨(.sl .str), .deep, 0, [], vr2496⟩)]⟩ =
    (k' .normal ⟨[(1, .c (.one (.pt 1 0))), (3, .c (.one (.h 576 0 0 []))), (4, .c (.one (.v (.int .i64 (IntKind.wrap .i64 (vs4 + (1 : Int)))))))], [(1, ⟨.node, [.v (.int .i64 vb1_0), .v (.int .i64 vb1_1), .v (.string vb1_2), .ro .str vb1_3, .ro .node vb1_4]⟩)], [(576, .live ⟨(.sl .str), .deep, 0, [], xvr576⟩)]⟩) := by kernel_rfl

noncomputable def f9L1 {R : Type} (N : Nat) (n : Nat) (x0 : Int → Bool → (List (List ByteArray)) → Option R) (vb1_0 : Int) (vb1_1 : Int) (vb1_2 : ByteArray) (vb1_3 : List ByteArray) (vb1_4 : List NodeT) : Nat → Int → (List (List ByteArray)) → Option R
  | 0, _, _ => none
  | m + 1, vs4, vr576 =>
    (cond (decide (vs4 < (vb1_4.length : Int)))
      (cond (okI vs4)
        (cond (vb1_0 == (5 : Int))
          (cond (decide (vs4 < (vb1_3.length : Int)))
            (cond ((decide ((0 : Int) ≤ vs4)) && (decide (vs4 < (vb1_3.length : Int))))
              (cond ((decide ((0 : Int) ≤ vs4)) && (decide (vs4 < (vb1_4.length : Int))))
                (cond ((gPt (⟨(NodeT.kind (atI (t := .node) vb1_4 (Int.toNat vs4))), (NodeT.n (atI (t := .node) vb1_4 (Int.toNat vs4))), (NodeT.s (atI (t := .node) vb1_4 (Int.toNat vs4))), (NodeT.keys (atI (t := .node) vb1_4 (Int.toNat vs4))), (NodeT.kids (atI (t := .node) vb1_4 (Int.toNat vs4)))⟩ : NodeT)) && (Nat.blt (nd_node (⟨(NodeT.kind (atI (t := .node) vb1_4 (Int.toNat vs4))), (NodeT.n (atI (t := .node) vb1_4 (Int.toNat vs4))), (NodeT.s (atI (t := .node) vb1_4 (Int.toNat vs4))), (NodeT.keys (atI (t := .node) vb1_4 (Int.toNat vs4))), (NodeT.kids (atI (t := .node) vb1_4 (Int.toNat vs4)))⟩ : NodeT)) N))
                  (f9L0 N n (fun (xvs7 : Int) (xvs43 : Bool) (xvr576 : List (List ByteArray)) =>
                    (f9L1 N n x0 vb1_0 vb1_1 vb1_2 vb1_3 vb1_4 m (IntKind.wrap .i64 (vs4 + (1 : Int))) xvr576)) vs4 (atI (t := .str) vb1_3 (Int.toNat vs4)) vb1_0 vb1_1 vb1_2 vb1_3 vb1_4 (allPtrs (⟨(NodeT.kind (atI (t := .node) vb1_4 (Int.toNat vs4))), (NodeT.n (atI (t := .node) vb1_4 (Int.toNat vs4))), (NodeT.s (atI (t := .node) vb1_4 (Int.toNat vs4))), (NodeT.keys (atI (t := .node) vb1_4 (Int.toNat vs4))), (NodeT.kids (atI (t := .node) vb1_4 (Int.toNat vs4)))⟩ : NodeT)) n (0 : Int) vr576)
                  none)
                none)
              none)
            (cond ((decide ((0 : Int) ≤ vs4)) && (decide (vs4 < (vb1_4.length : Int))))
              (cond ((gPt (⟨(NodeT.kind (atI (t := .node) vb1_4 (Int.toNat vs4))), (NodeT.n (atI (t := .node) vb1_4 (Int.toNat vs4))), (NodeT.s (atI (t := .node) vb1_4 (Int.toNat vs4))), (NodeT.keys (atI (t := .node) vb1_4 (Int.toNat vs4))), (NodeT.kids (atI (t := .node) vb1_4 (Int.toNat vs4)))⟩ : NodeT)) && (Nat.blt (nd_node (⟨(NodeT.kind (atI (t := .node) vb1_4 (Int.toNat vs4))), (NodeT.n (atI (t := .node) vb1_4 (Int.toNat vs4))), (NodeT.s (atI (t := .node) vb1_4 (Int.toNat vs4))), (NodeT.keys (atI (t := .node) vb1_4 (Int.toNat vs4))), (NodeT.kids (atI (t := .node) vb1_4 (Int.toNat vs4)))⟩ : NodeT)) N))
                (f9L0 N n (fun (xvs7 : Int) (xvs43 : Bool) (xvr576 : List (List ByteArray)) =>
                  (f9L1 N n x0 vb1_0 vb1_1 vb1_2 vb1_3 vb1_4 m (IntKind.wrap .i64 (vs4 + (1 : Int))) xvr576)) vs4 (digS vs4) vb1_0 vb1_1 vb1_2 vb1_3 vb1_4 (allPtrs (⟨(NodeT.kind (atI (t := .node) vb1_4 (Int.toNat vs4))), (NodeT.n (atI (t := .node) vb1_4 (Int.toNat vs4))), (NodeT.s (atI (t := .node) vb1_4 (Int.toNat vs4))), (NodeT.keys (atI (t := .node) vb1_4 (Int.toNat vs4))), (NodeT.kids (atI (t := .node) vb1_4 (Int.toNat vs4)))⟩ : NodeT)) n (0 : Int) vr576)
                none)
              none))
          (cond ((decide ((0 : Int) ≤ vs4)) && (decide (vs4 < (vb1_4.length : Int))))
            (cond ((gPt (⟨(NodeT.kind (atI (t := .node) vb1_4 (Int.toNat vs4))), (NodeT.n (atI (t := .node) vb1_4 (Int.toNat vs4))), (NodeT.s (atI (t := .node) vb1_4 (Int.toNat vs4))), (NodeT.keys (atI (t := .node) vb1_4 (Int.toNat vs4))), (NodeT.kids (atI (t := .node) vb1_4 (Int.toNat vs4)))⟩ : NodeT)) && (Nat.blt (nd_node (⟨(NodeT.kind (atI (t := .node) vb1_4 (Int.toNat vs4))), (NodeT.n (atI (t := .node) vb1_4 (Int.toNat vs4))), (NodeT.s (atI (t := .node) vb1_4 (Int.toNat vs4))), (NodeT.keys (atI (t := .node) vb1_4 (Int.toNat vs4))), (NodeT.kids (atI (t := .node) vb1_4 (Int.toNat vs4)))⟩ : NodeT)) N))
              (f9L0 N n (fun (xvs7 : Int) (xvs43 : Bool) (xvr576 : List (List ByteArray)) =>
                (f9L1 N n x0 vb1_0 vb1_1 vb1_2 vb1_3 vb1_4 m (IntKind.wrap .i64 (vs4 + (1 : Int))) xvr576)) vs4 (digS vs4) vb1_0 vb1_1 vb1_2 vb1_3 vb1_4 (allPtrs (⟨(NodeT.kind (atI (t := .node) vb1_4 (Int.toNat vs4))), (NodeT.n (atI (t := .node) vb1_4 (Int.toNat vs4))), (NodeT.s (atI (t := .node) vb1_4 (Int.toNat vs4))), (NodeT.keys (atI (t := .node) vb1_4 (Int.toNat vs4))), (NodeT.kids (atI (t := .node) vb1_4 (Int.toNat vs4)))⟩ : NodeT)) n (0 : Int) vr576)
              none)
            none))
        none)
      (x0 vs4 (decide (vs4 < (vb1_4.length : Int))) vr576))
theorem f9L1_b {R : Type} (N : Nat) (n : Nat) (k' : Ex → St → Option R) (vs4 : Int) (vb1_0 : Int) (vb1_1 : Int) (vb1_2 : ByteArray) (vb1_3 : List ByteArray) (vb1_4 : List NodeT) (vr576 : List (List ByteArray)) : ev (f9e N) f9k n (cAt [1,1,0,1,0,0] f9c) ⟨[(1, .c (.one (.pt 1 0))), (3, .c (.one (.h 576 0 0 []))), (4, .c (.one (.v (.int .i64 vs4))))], [(1, ⟨.node, [.v (.int .i64 vb1_0), .v (.int .i64 vb1_1), .v (.string vb1_2), .ro .str vb1_3, .ro .node vb1_4]⟩)], [(576, .live ⟨(.sl .str), .deep, 0, [], vr576⟩)]⟩ k' =
    (cond (decide (vs4 < (vb1_4.length : Int)))
    (cond (okI vs4)
      (cond (vb1_0 == (5 : Int))
        (cond (decide (vs4 < (vb1_3.length : Int)))
          (cond ((decide ((0 : Int) ≤ vs4)) && (decide (vs4 < (vb1_3.length : Int))))
            (cond ((decide ((0 : Int) ≤ vs4)) && (decide (vs4 < (vb1_4.length : Int))))
              (cond ((gPt (⟨(NodeT.kind (atI (t := .node) vb1_4 (Int.toNat vs4))), (NodeT.n (atI (t := .node) vb1_4 (Int.toNat vs4))), (NodeT.s (atI (t := .node) vb1_4 (Int.toNat vs4))), (NodeT.keys (atI (t := .node) vb1_4 (Int.toNat vs4))), (NodeT.kids (atI (t := .node) vb1_4 (Int.toNat vs4)))⟩ : NodeT)) && (Nat.blt (nd_node (⟨(NodeT.kind (atI (t := .node) vb1_4 (Int.toNat vs4))), (NodeT.n (atI (t := .node) vb1_4 (Int.toNat vs4))), (NodeT.s (atI (t := .node) vb1_4 (Int.toNat vs4))), (NodeT.keys (atI (t := .node) vb1_4 (Int.toNat vs4))), (NodeT.kids (atI (t := .node) vb1_4 (Int.toNat vs4)))⟩ : NodeT)) N))
                (f9L0 N n (fun (xvs7 : Int) (xvs43 : Bool) (xvr576 : List (List ByteArray)) =>
                  (k' .normal ⟨[(1, .c (.one (.pt 1 0))), (3, .c (.one (.h 576 0 0 []))), (4, .c (.one (.v (.int .i64 (IntKind.wrap .i64 (vs4 + (1 : Int)))))))], [(1, ⟨.node, [.v (.int .i64 vb1_0), .v (.int .i64 vb1_1), .v (.string vb1_2), .ro .str vb1_3, .ro .node vb1_4]⟩)], [(576, .live ⟨(.sl .str), .deep, 0, [], xvr576⟩)]⟩)) vs4 (atI (t := .str) vb1_3 (Int.toNat vs4)) vb1_0 vb1_1 vb1_2 vb1_3 vb1_4 (allPtrs (⟨(NodeT.kind (atI (t := .node) vb1_4 (Int.toNat vs4))), (NodeT.n (atI (t := .node) vb1_4 (Int.toNat vs4))), (NodeT.s (atI (t := .node) vb1_4 (Int.toNat vs4))), (NodeT.keys (atI (t := .node) vb1_4 (Int.toNat vs4))), (NodeT.kids (atI (t := .node) vb1_4 (Int.toNat vs4)))⟩ : NodeT)) n (0 : Int) vr576)
                none)
              none)
            none)
          (cond ((decide ((0 : Int) ≤ vs4)) && (decide (vs4 < (vb1_4.length : Int))))
            (cond ((gPt (⟨(NodeT.kind (atI (t := .node) vb1_4 (Int.toNat vs4))), (NodeT.n (atI (t := .node) vb1_4 (Int.toNat vs4))), (NodeT.s (atI (t := .node) vb1_4 (Int.toNat vs4))), (NodeT.keys (atI (t := .node) vb1_4 (Int.toNat vs4))), (NodeT.kids (atI (t := .node) vb1_4 (Int.toNat vs4)))⟩ : NodeT)) && (Nat.blt (nd_node (⟨(NodeT.kind (atI (t := .node) vb1_4 (Int.toNat vs4))), (NodeT.n (atI (t := .node) vb1_4 (Int.toNat vs4))), (NodeT.s (atI (t := .node) vb1_4 (Int.toNat vs4))), (NodeT.keys (atI (t := .node) vb1_4 (Int.toNat vs4))), (NodeT.kids (atI (t := .node) vb1_4 (Int.toNat vs4)))⟩ : NodeT)) N))
              (f9L0 N n (fun (xvs7 : Int) (xvs43 : Bool) (xvr576 : List (List ByteArray)) =>
                (k' .normal ⟨[(1, .c (.one (.pt 1 0))), (3, .c (.one (.h 576 0 0 []))), (4, .c (.one (.v (.int .i64 (IntKind.wrap .i64 (vs4 + (1 : Int)))))))], [(1, ⟨.node, [.v (.int .i64 vb1_0), .v (.int .i64 vb1_1), .v (.string vb1_2), .ro .str vb1_3, .ro .node vb1_4]⟩)], [(576, .live ⟨(.sl .str), .deep, 0, [], xvr576⟩)]⟩)) vs4 (digS vs4) vb1_0 vb1_1 vb1_2 vb1_3 vb1_4 (allPtrs (⟨(NodeT.kind (atI (t := .node) vb1_4 (Int.toNat vs4))), (NodeT.n (atI (t := .node) vb1_4 (Int.toNat vs4))), (NodeT.s (atI (t := .node) vb1_4 (Int.toNat vs4))), (NodeT.keys (atI (t := .node) vb1_4 (Int.toNat vs4))), (NodeT.kids (atI (t := .node) vb1_4 (Int.toNat vs4)))⟩ : NodeT)) n (0 : Int) vr576)
              none)
            none))
        (cond ((decide ((0 : Int) ≤ vs4)) && (decide (vs4 < (vb1_4.length : Int))))
          (cond ((gPt (⟨(NodeT.kind (atI (t := .node) vb1_4 (Int.toNat vs4))), (NodeT.n (atI (t := .node) vb1_4 (Int.toNat vs4))), (NodeT.s (atI (t := .node) vb1_4 (Int.toNat vs4))), (NodeT.keys (atI (t := .node) vb1_4 (Int.toNat vs4))), (NodeT.kids (atI (t := .node) vb1_4 (Int.toNat vs4)))⟩ : NodeT)) && (Nat.blt (nd_node (⟨(NodeT.kind (atI (t := .node) vb1_4 (Int.toNat vs4))), (NodeT.n (atI (t := .node) vb1_4 (Int.toNat vs4))), (NodeT.s (atI (t := .node) vb1_4 (Int.toNat vs4))), (NodeT.keys (atI (t := .node) vb1_4 (Int.toNat vs4))), (NodeT.kids (atI (t := .node) vb1_4 (Int.toNat vs4)))⟩ : NodeT)) N))
            (f9L0 N n (fun (xvs7 : Int) (xvs43 : Bool) (xvr576 : List (List ByteArray)) =>
              (k' .normal ⟨[(1, .c (.one (.pt 1 0))), (3, .c (.one (.h 576 0 0 []))), (4, .c (.one (.v (.int .i64 (IntKind.wrap .i64 (vs4 + (1 : Int)))))))], [(1, ⟨.node, [.v (.int .i64 vb1_0), .v (.int .i64 vb1_1), .v (.string vb1_2), .ro .str vb1_3, .ro .node vb1_4]⟩)], [(576, .live ⟨(.sl .str), .deep, 0, [], xvr576⟩)]⟩)) vs4 (digS vs4) vb1_0 vb1_1 vb1_2 vb1_3 vb1_4 (allPtrs (⟨(NodeT.kind (atI (t := .node) vb1_4 (Int.toNat vs4))), (NodeT.n (atI (t := .node) vb1_4 (Int.toNat vs4))), (NodeT.s (atI (t := .node) vb1_4 (Int.toNat vs4))), (NodeT.keys (atI (t := .node) vb1_4 (Int.toNat vs4))), (NodeT.kids (atI (t := .node) vb1_4 (Int.toNat vs4)))⟩ : NodeT)) n (0 : Int) vr576)
            none)
          none))
      none)
    (k' (.exit 0) ⟨[(1, .c (.one (.pt 1 0))), (3, .c (.one (.h 576 0 0 []))), (4, .c (.one (.v (.int .i64 vs4)))), (14, .c (.one (.v (.bool (decide (vs4 < (vb1_4.length : Int)))))))], [(1, ⟨.node, [.v (.int .i64 vb1_0), .v (.int .i64 vb1_1), .v (.string vb1_2), .ro .str vb1_3, .ro .node vb1_4]⟩)], [(576, .live ⟨(.sl .str), .deep, 0, [], vr576⟩)]⟩)) := by
  refine Eq.trans (b := (cond (decide (vs4 < (vb1_4.length : Int)))
    (cond (okI vs4)
      (cond (vb1_0 == (5 : Int))
        (cond (decide (vs4 < (vb1_3.length : Int)))
          (cond ((decide ((0 : Int) ≤ vs4)) && (decide (vs4 < (vb1_3.length : Int))))
            (cond ((decide ((0 : Int) ≤ vs4)) && (decide (vs4 < (vb1_4.length : Int))))
              (cond ((gPt (⟨(NodeT.kind (atI (t := .node) vb1_4 (Int.toNat vs4))), (NodeT.n (atI (t := .node) vb1_4 (Int.toNat vs4))), (NodeT.s (atI (t := .node) vb1_4 (Int.toNat vs4))), (NodeT.keys (atI (t := .node) vb1_4 (Int.toNat vs4))), (NodeT.kids (atI (t := .node) vb1_4 (Int.toNat vs4)))⟩ : NodeT)) && (Nat.blt (nd_node (⟨(NodeT.kind (atI (t := .node) vb1_4 (Int.toNat vs4))), (NodeT.n (atI (t := .node) vb1_4 (Int.toNat vs4))), (NodeT.s (atI (t := .node) vb1_4 (Int.toNat vs4))), (NodeT.keys (atI (t := .node) vb1_4 (Int.toNat vs4))), (NodeT.kids (atI (t := .node) vb1_4 (Int.toNat vs4)))⟩ : NodeT)) N))
                (iter (fun st k => ev (f9e N) f9k n (cAt [1,1,0,1,0,0,1,0,0,1,1,1,1,0,0] f9c) st k) n ⟨[(1, .c (.one (.pt 1 0))), (3, .c (.one (.h 576 0 0 []))), (4, .c (.one (.v (.int .i64 vs4)))), (5, .c (.one (.v (.string (atI (t := .str) vb1_3 (Int.toNat vs4)))))), (6, .c (.one (.h 2496 0 0 []))), (7, .c (.one (.v (.int .i64 (0 : Int)))))], [(1, ⟨.node, [.v (.int .i64 vb1_0), .v (.int .i64 vb1_1), .v (.string vb1_2), .ro .str vb1_3, .ro .node vb1_4]⟩)], [(576, .live ⟨(.sl .str), .deep, 0, [], vr576⟩), (2496, .live ⟨(.sl .str), .deep, 0, [], (allPtrs (⟨(NodeT.kind (atI (t := .node) vb1_4 (Int.toNat vs4))), (NodeT.n (atI (t := .node) vb1_4 (Int.toNat vs4))), (NodeT.s (atI (t := .node) vb1_4 (Int.toNat vs4))), (NodeT.keys (atI (t := .node) vb1_4 (Int.toNat vs4))), (NodeT.kids (atI (t := .node) vb1_4 (Int.toNat vs4)))⟩ : NodeT))⟩)]⟩ (f9K0 N n k'))
                none)
              none)
            none)
          (cond ((decide ((0 : Int) ≤ vs4)) && (decide (vs4 < (vb1_4.length : Int))))
            (cond ((gPt (⟨(NodeT.kind (atI (t := .node) vb1_4 (Int.toNat vs4))), (NodeT.n (atI (t := .node) vb1_4 (Int.toNat vs4))), (NodeT.s (atI (t := .node) vb1_4 (Int.toNat vs4))), (NodeT.keys (atI (t := .node) vb1_4 (Int.toNat vs4))), (NodeT.kids (atI (t := .node) vb1_4 (Int.toNat vs4)))⟩ : NodeT)) && (Nat.blt (nd_node (⟨(NodeT.kind (atI (t := .node) vb1_4 (Int.toNat vs4))), (NodeT.n (atI (t := .node) vb1_4 (Int.toNat vs4))), (NodeT.s (atI (t := .node) vb1_4 (Int.toNat vs4))), (NodeT.keys (atI (t := .node) vb1_4 (Int.toNat vs4))), (NodeT.kids (atI (t := .node) vb1_4 (Int.toNat vs4)))⟩ : NodeT)) N))
              (iter (fun st k => ev (f9e N) f9k n (cAt [1,1,0,1,0,0,1,0,0,1,1,1,1,0,0] f9c) st k) n ⟨[(1, .c (.one (.pt 1 0))), (3, .c (.one (.h 576 0 0 []))), (4, .c (.one (.v (.int .i64 vs4)))), (5, .c (.one (.v (.string (digS vs4))))), (6, .c (.one (.h 2496 0 0 []))), (7, .c (.one (.v (.int .i64 (0 : Int)))))], [(1, ⟨.node, [.v (.int .i64 vb1_0), .v (.int .i64 vb1_1), .v (.string vb1_2), .ro .str vb1_3, .ro .node vb1_4]⟩)], [(576, .live ⟨(.sl .str), .deep, 0, [], vr576⟩), (2496, .live ⟨(.sl .str), .deep, 0, [], (allPtrs (⟨(NodeT.kind (atI (t := .node) vb1_4 (Int.toNat vs4))), (NodeT.n (atI (t := .node) vb1_4 (Int.toNat vs4))), (NodeT.s (atI (t := .node) vb1_4 (Int.toNat vs4))), (NodeT.keys (atI (t := .node) vb1_4 (Int.toNat vs4))), (NodeT.kids (atI (t := .node) vb1_4 (Int.toNat vs4)))⟩ : NodeT))⟩)]⟩ (f9K0 N n k'))
              none)
            none))
        (cond ((decide ((0 : Int) ≤ vs4)) && (decide (vs4 < (vb1_4.length : Int))))
          (cond ((gPt (⟨(NodeT.kind (atI (t := .node) vb1_4 (Int.toNat vs4))), (NodeT.n (atI (t := .node) vb1_4 (Int.toNat vs4))), (NodeT.s (atI (t := .node) vb1_4 (Int.toNat vs4))), (NodeT.keys (atI (t := .node) vb1_4 (Int.toNat vs4))), (NodeT.kids (atI (t := .node) vb1_4 (Int.toNat vs4)))⟩ : NodeT)) && (Nat.blt (nd_node (⟨(NodeT.kind (atI (t := .node) vb1_4 (Int.toNat vs4))), (NodeT.n (atI (t := .node) vb1_4 (Int.toNat vs4))), (NodeT.s (atI (t := .node) vb1_4 (Int.toNat vs4))), (NodeT.keys (atI (t := .node) vb1_4 (Int.toNat vs4))), (NodeT.kids (atI (t := .node) vb1_4 (Int.toNat vs4)))⟩ : NodeT)) N))
            (iter (fun st k => ev (f9e N) f9k n (cAt [1,1,0,1,0,0,1,0,0,1,1,1,1,0,0] f9c) st k) n ⟨[(1, .c (.one (.pt 1 0))), (3, .c (.one (.h 576 0 0 []))), (4, .c (.one (.v (.int .i64 vs4)))), (5, .c (.one (.v (.string (digS vs4))))), (6, .c (.one (.h 2496 0 0 []))), (7, .c (.one (.v (.int .i64 (0 : Int)))))], [(1, ⟨.node, [.v (.int .i64 vb1_0), .v (.int .i64 vb1_1), .v (.string vb1_2), .ro .str vb1_3, .ro .node vb1_4]⟩)], [(576, .live ⟨(.sl .str), .deep, 0, [], vr576⟩), (2496, .live ⟨(.sl .str), .deep, 0, [], (allPtrs (⟨(NodeT.kind (atI (t := .node) vb1_4 (Int.toNat vs4))), (NodeT.n (atI (t := .node) vb1_4 (Int.toNat vs4))), (NodeT.s (atI (t := .node) vb1_4 (Int.toNat vs4))), (NodeT.keys (atI (t := .node) vb1_4 (Int.toNat vs4))), (NodeT.kids (atI (t := .node) vb1_4 (Int.toNat vs4)))⟩ : NodeT))⟩)]⟩ (f9K0 N n k'))
            none)
          none))
      none)
    (k' (.exit 0) ⟨[(1, .c (.one (.pt 1 0))), (3, .c (.one (.h 576 0 0 []))), (4, .c (.one (.v (.int .i64 vs4)))), (14, .c (.one (.v (.bool (decide (vs4 < (vb1_4.length : Int)))))))], [(1, ⟨.node, [.v (.int .i64 vb1_0), .v (.int .i64 vb1_1), .v (.string vb1_2), .ro .str vb1_3, .ro .node vb1_4]⟩)], [(576, .live ⟨(.sl .str), .deep, 0, [], vr576⟩)]⟩))) (by kernel_rfl) ?_
  simp only [f9L0_eq, f9K0_x0]
theorem f9L1_eq {R : Type} (N : Nat) (n : Nat) (k' : Ex → St → Option R) (vb1_0 : Int) (vb1_1 : Int) (vb1_2 : ByteArray) (vb1_3 : List ByteArray) (vb1_4 : List NodeT) : ∀ (m : Nat) (vs4 : Int) (vr576 : List (List ByteArray)), iter (fun st k => ev (f9e N) f9k n (cAt [1,1,0,1,0,0] f9c) st k) m ⟨[(1, .c (.one (.pt 1 0))), (3, .c (.one (.h 576 0 0 []))), (4, .c (.one (.v (.int .i64 vs4))))], [(1, ⟨.node, [.v (.int .i64 vb1_0), .v (.int .i64 vb1_1), .v (.string vb1_2), .ro .str vb1_3, .ro .node vb1_4]⟩)], [(576, .live ⟨(.sl .str), .deep, 0, [], vr576⟩)]⟩ k' = f9L1 N n (fun (xvs4 : Int) (xvs14 : Bool) (xvr576 : List (List ByteArray)) => k' (.exit 0) ⟨[(1, .c (.one (.pt 1 0))), (3, .c (.one (.h 576 0 0 []))), (4, .c (.one (.v (.int .i64 xvs4)))), (14, .c (.one (.v (.bool xvs14))))], [(1, ⟨.node, [.v (.int .i64 vb1_0), .v (.int .i64 vb1_1), .v (.string vb1_2), .ro .str vb1_3, .ro .node vb1_4]⟩)], [(576, .live ⟨(.sl .str), .deep, 0, [], xvr576⟩)]⟩) vb1_0 vb1_1 vb1_2 vb1_3 vb1_4 m vs4 vr576 := by
  intro m; induction m with
  | zero => intros; rfl
  | succ m ih =>
    intro vs4 vr576
    simp only [iter]
    rw [f9L1_b]
    simp only [ih, f9L1]

noncomputable def f9K1 {R : Type} (N : Nat) (n : Nat) (k' : Ex → St → Option R) : Ex → St → Option R := (blockK 0 (seqK (f9e N) f9k n (cAt [1,1,1] f9c) k'))
theorem f9K1_x0 {R : Type} (N : Nat) (n : Nat) (k : List Dt → Option R) (a0 : NodeT) (vb1_0 : Int) (vb1_1 : Int) (vb1_2 : ByteArray) (vb1_3 : List ByteArray) (vb1_4 : List NodeT) (xvs4 : Int) (xvs14 : Bool) (xvr576 : List (List ByteArray)) : f9K1 N n (exitK (f9e N) [.ro] [false] true [.tmp 2] [27] [.d .node a0] k) (.exit 0) ⟨[(1, .c (.one (.pt 1 0))), (3, .c (.one (.h 576 0 0 []))), (4, .c (.one (.v (.int .i64 xvs4)))), (14, .c (.one (.v (.bool xvs14))))], [(1, ⟨.node, [.v (.int .i64 vb1_0), .v (.int .i64 vb1_1), .v (.string vb1_2), .ro .str vb1_3, .ro .node vb1_4]⟩)], [(576, .live ⟨(.sl .str), .deep, 0, [], xvr576⟩)]⟩ =
    (k [.d (.sl (.sl .str)) xvr576]) := by kernel_rfl

theorem f9_run {R : Type} (N : Nat) (n : Nat) (k : List Dt → Option R) (a0 : NodeT) : evFn (f9e N) f9k n f9c [.ro] [false] true [.tmp 2] [27] [.d .node a0] k =
    (f9L1 N n (fun (xvs4 : Int) (xvs14 : Bool) (xvr576 : List (List ByteArray)) =>
    (k [.d (.sl (.sl .str)) xvr576])) (NodeT.kind a0) (NodeT.n a0) (NodeT.s a0) (NodeT.keys a0) (NodeT.kids a0) n (0 : Int) [([] : List ByteArray)]) := by
  refine Eq.trans (b := (iter (fun st k => ev (f9e N) f9k n (cAt [1,1,0,1,0,0] f9c) st k) n ⟨[(1, .c (.one (.pt 1 0))), (3, .c (.one (.h 576 0 0 []))), (4, .c (.one (.v (.int .i64 (0 : Int)))))], [(1, ⟨.node, [.v (.int .i64 (NodeT.kind a0)), .v (.int .i64 (NodeT.n a0)), .v (.string (NodeT.s a0)), .ro .str (NodeT.keys a0), .ro .node (NodeT.kids a0)]⟩)], [(576, .live ⟨(.sl .str), .deep, 0, [], ([([] : List ByteArray)] : List (List ByteArray))⟩)]⟩ (f9K1 N n (exitK (f9e N) [.ro] [false] true [.tmp 2] [27] [.d .node a0] k)))) (by kernel_rfl) ?_
  simp only [f9L1_eq, f9K1_x0]
theorem f9_spec (N : Nat) (a0 : NodeT) (hg : gPt a0 = true) (hm : mu9 [.d .node a0] = N) : ∃ keep rounds, ∀ {R : Type} (k : List Dt → Option R), evFn (f9e N) keep rounds f9c [.ro] [false] true [.tmp 2] [27] [.d .node a0] k = k [.d (.sl (.sl .str)) (allPtrs a0)] := by
  have hm : nd_node a0 = N := hm
  subst hm
  have hg0 := hg
  simp only [gPt, Bool.and_eq_true] at hg
  obtain ⟨hg, hnd⟩ := hg
  have hnd := bleN hnd
  rw [sm_node_def] at hg
  simp only [Bool.and_eq_true] at hg
  obtain ⟨_, _, _, hke, hki⟩ := hg
  have nke := smL_len hke
  have nki := smL_len hki
  have hkl : a0.kids.length + 1 ≤ nd_node a0 := by
    rw [nd_node_def]
    have : ∀ l : List NodeT, l.length ≤ ndL nd_node l := fun l => by
      induction l with
      | nil => exact Nat.zero_le _
      | cons y r ih =>
        have e1 : ndL nd_node (y :: r) = nd_node y + ndL nd_node r := by simp [ndL]
        have := nd_node_def y
        rw [List.length_cons]; omega
    have := this a0.kids
    omega
  refine ⟨f9k, nd_node a0 + 1, fun {R} k => ?_⟩
  rw [f9_run]
  show _ = k [.d (.sl (.sl .str)) (allPtrs a0)]
  have hlen := allPtrs_len a0
  rw [allPtrs_def, List.length_cons] at hlen
  have inner : ∀ (x : NodeT) (j : Nat) (part : ByteArray) (out : List (List ByteArray)) (fin : Int → Bool → List (List ByteArray) → Option R), x ∈ a0.kids → out.length + (allPtrs x).length ≤ nd_node a0 →
      f9L0 (nd_node a0) (nd_node a0 + 1) fin (j : Int) part a0.kind a0.n a0.s a0.keys a0.kids (allPtrs x) (nd_node a0 + 1) (0 : Int) out = fin ((allPtrs x).length : Int) false (out ++ (allPtrs x).map fun p => part :: p) := by
    intro x j part out fin hx hB
    have hxl := nd_node_kid hx
    have hxn := allPtrs_len x
    refine Eq.trans (loop_acc (xs := allPtrs x) (F := fun m j' out => f9L0 (nd_node a0) (nd_node a0 + 1) fin (j : Int) part a0.kind a0.n a0.s a0.keys a0.kids (allPtrs x) m (j' : Int) out) (f := fun out p => out ++ [part :: p]) (good := fun out => fin ((allPtrs x).length : Int) false out) (fun j' o => o.length ≤ out.length + j')
      (fun j' o p hp hi => by simp only [List.length_append, List.length_cons, List.length_nil]; omega) (fun m j' o p hp hi => ?_) (fun m o hi => by simp only [f9L0, idxE, cond_false]) (allPtrs x).length 0 (nd_node a0 + 1) out (by omega) (by omega) (by omega)) ?_
    · obtain ⟨h1, h0, hw, ht⟩ := idx (lt_of_get hp) (by omega)
      have hj := lt_of_get hp
      have hway := allPtrs_way x p (List.mem_of_getElem? hp)
      have hlim : Nat.ble (o.length + 1) LIM = true := Nat.ble_eq_true_of_le (by have : (LIM : Nat) = 4294967296 := rfl; omega)
      have hlim2 : Nat.ble (1 + p.length) LIM = true := Nat.ble_eq_true_of_le (by have : (LIM : Nat) = 4294967296 := rfl; omega)
      simp only [f9L0, h1, h0, hw, ht, atI_of (t := .sl .str) hp, Bool.and_self, cond_true, hlim, hlim2]
      rfl
    · rw [List.drop_zero]
      congr 1
      have : ∀ (l : List (List ByteArray)) (o : List (List ByteArray)), l.foldl (fun out p => out ++ [part :: p]) o = o ++ l.map fun p => part :: p := by
        intro l
        induction l with
        | nil => intro o; simp
        | cons y r ih => intro o; rw [List.foldl_cons, ih]; simp
      exact this _ _
  refine Eq.trans (loop_ptr (kids := a0.kids) (kind := a0.kind) (keys := a0.keys) (B := nd_node a0) (F := fun m j out => f9L1 (nd_node a0) (nd_node a0 + 1) _ a0.kind a0.n a0.s a0.keys a0.kids m (j : Int) out) (good := fun out => k [.d (.sl (.sl .str)) out])
    (fun m j out x hx hB => ?_) (fun m out => by simp only [f9L1, idxE, cond_false]) a0.kids.length 0 (nd_node a0 + 1) [[]] (by omega) (by omega) (by rw [List.drop_zero, List.length_cons, List.length_nil]; omega)) ?_
  · obtain ⟨h1, h0, hw, ht⟩ := idx (lt_of_get hx) (by omega)
    have hj := lt_of_get hx
    have hxm := List.mem_of_getElem? hx
    have hb : Nat.blt (nd_node x) (nd_node a0) = true := by
      have := nd_node_kid (x := a0) hxm
      rw [Nat.blt_eq]; exact this
    have hgx := gPt_kid hg0 hxm
    have hoj : okI (j : Int) = true := okI_of (by omega) (by omega)
    simp only [f9L1, h1, h0, hw, ht, hoj, atI_of (t := .node) hx, Bool.and_self, cond_true, eta_node, hgx, hb]
    unfold wayAt
    cases a0.kind == (5 : Int)
    · simp only [cond_false]; exact inner x j _ out _ hxm hB
    by_cases hl : (j : Int) < (a0.keys.length : Int)
    · simp only [decide_eq_true hl, Bool.and_self, cond_true]; exact inner x j _ out _ hxm hB
    · simp only [decide_eq_false hl, cond_true, cond_false]; exact inner x j _ out _ hxm hB
  · rw [List.drop_zero, allPtrs_def]; rfl

noncomputable def s9 : Gm.Spec := Gm.Spec.of [.ro] [false] true q9
theorem good9 : Gm.Good Try.prog (9, s9) := by
  refine ⟨⟨spec_rec mu9 fun N hr => ?_, _, Try.func9, by kernel_rfl, of_decide_eq_true (by kernel_rfl)⟩, Gm.Spec.of_natl _ _ _ _⟩
  have hl : ∀ x ∈ [(9, s9r N), (37, s37)], Gm.Good Try.prog x := List.forall_mem_cons.2 ⟨⟨⟨hr, _, Try.func9, by kernel_rfl, of_decide_eq_true (by kernel_rfl)⟩, Gm.Spec.of_natl _ _ _ _⟩, List.forall_mem_cons.2 ⟨good37, List.forall_mem_nil _⟩⟩
  intro R
  refine spec_ok (E := f9e N) (tab_ok.env hl) (tab.natl hl) Try.func9 (by kernel_rfl : Try.f9.body = some f9c) [27] (by kernel_rfl) ?_
  intro ds outs h
  obtain ⟨h, hm⟩ := qeq_some h
  unfold q9 at h
  split at h
  · simp only [Option.some.injEq, Prod.mk.injEq] at h; obtain ⟨hg, h⟩ := h; cases h; exact f9_spec N _ hg hm
  · cases h
noncomputable def q11 : List Dt → Option (Bool × List Dt)
  | [.d .node a0] => some ((gPt a0), [.d (.sl (.sl .str)) (allPtrs a0)])
  | _ => none
noncomputable def mu11 : List Dt → Nat
  | [.d .node a0] => nd_node a0
  | _ => 0
noncomputable def s11r (N : Nat) : Gm.Spec := Gm.Spec.of [.ro] [false] true (qlt mu11 N q11)
/-! ### loop.example/g00465/impl.AllPtrs -/
noncomputable def f11c : Code := (Try.f11.body).getD .skip
def f11k : Nat → Kp := kat [⟨[1], [], [], []⟩, ⟨[1, 3], [], [], []⟩, ⟨[1, 3, 12, 13, 14], [], [], []⟩, ⟨[1, 3, 12, 13, 14, 15], [], [], []⟩, ⟨[1, 3, 4, 5, 12, 13, 14], [], [], []⟩, ⟨[1, 3, 4, 5, 6, 12, 13, 14], [], [], []⟩, ⟨[1, 3, 4, 5, 6, 12, 13, 14, 30], [], [], []⟩, ⟨[1, 3, 5, 6, 12, 13, 14], [], [], []⟩, ⟨[1, 3, 6, 12, 13, 14, 37, 38, 39], [], [], []⟩, ⟨[1, 3, 6, 12, 13, 14, 37, 38, 39, 40], [], [], []⟩, ⟨[1, 3, 6, 8, 12, 13, 14, 37, 38, 39], [], [], []⟩, ⟨[1, 3, 6, 12, 13, 14, 37, 38, 39], [], [], []⟩, ⟨[1, 3, 6, 12, 13, 14, 37, 38, 39], [], [], []⟩, ⟨[1, 3, 12, 13, 14], [], [], []⟩, ⟨[2], [], [], []⟩]
noncomputable def f11e (N : Nat) : Env := tab.env [(11, s11r N), (39, s39)]
noncomputable def f11L0 {R : Type} (N : Nat) (n : Nat) (x0 : Int → Bool → (List (List ByteArray)) → Option R) (vs6 : ByteArray) (vs12 : List NodeT) (vs13 : Int) (vs14 : Int) (vs38 : Int) (vb1_0 : Int) (vb1_1 : Int) (vb1_2 : ByteArray) (vb1_3 : List ByteArray) (vb1_4 : List NodeT) (vr2368 : List (List ByteArray)) : Nat → Int → (List (List ByteArray)) → Option R
  | 0, _, _ => none
  | m + 1, vs39, vr640 =>
    (cond (decide (vs39 < vs38))
      (cond ((decide ((0 : Int) ≤ vs39)) && (decide (vs39 < (vr2368.length : Int))))
        (cond (Nat.ble (1 + (atI (t := (.sl .str)) vr2368 (Int.toNat vs39)).length) LIM)
          (cond (Nat.ble (vr640.length + 1) LIM)
            (f11L0 N n x0 vs6 vs12 vs13 vs14 vs38 vb1_0 vb1_1 vb1_2 vb1_3 vb1_4 vr2368 m (IntKind.wrap .i64 (vs39 + (1 : Int))) (vr640 ++ ([(([vs6] : List ByteArray) ++ (atI (t := (.sl .str)) vr2368 (Int.toNat vs39)))] : List (List ByteArray))))
            none)
          none)
        none)
      (x0 vs39 (decide (vs39 < vs38)) vr640))
theorem f11L0_b {R : Type} (N : Nat) (n : Nat) (k' : Ex → St → Option R) (vs6 : ByteArray) (vs12 : List NodeT) (vs13 : Int) (vs14 : Int) (vs38 : Int) (vs39 : Int) (vb1_0 : Int) (vb1_1 : Int) (vb1_2 : ByteArray) (vb1_3 : List ByteArray) (vb1_4 : List NodeT) (vr640 : List (List ByteArray)) (vr2368 : List (List ByteArray)) : ev (f11e N) f11k n (cAt [1,1,0,1,0,0,1,1,0,0,1,1,1,1,0,0] f11c) ⟨[(1, .c (.one (.pt 1 0))), (3, .c (.one (.h 640 0 0 []))), (6, .c (.one (.v (.string vs6)))), (12, .c (.one (.ro .node vs12))), (13, .c (.one (.v (.int .i64 vs13)))), (14, .c (.one (.v (.int .i64 vs14)))), (37, .c (.one (.h 2368 0 0 []))), (38, .c (.one (.v (.int .i64 vs38)))), (39, .c (.one (.v (.int .i64 vs39))))], [(1, ⟨.node, [.v (.int .i64 vb1_0), .v (.int .i64 vb1_1), .v (.string vb1_2), .ro .str vb1_3, .ro .node vb1_4]⟩)], [(640, .live ⟨(.sl .str), .deep, 0, [], vr640⟩), (2368, .live ⟨(.sl .str), .deep, 0, [], vr2368⟩)]⟩ k' =
    (cond (decide (vs39 < vs38))
    (cond ((decide ((0 : Int) ≤ vs39)) && (decide (vs39 < (vr2368.length : Int))))
      (cond (Nat.ble (1 + (atI (t := (.sl .str)) vr2368 (Int.toNat vs39)).length) LIM)
        (cond (Nat.ble (vr640.length + 1) LIM)
          (k' .normal ⟨[(1, .c (.one (.pt 1 0))), (3, .c (.one (.h 640 0 0 []))), (6, .c (.one (.v (.string vs6)))), (12, .c (.one (.ro .node vs12))), (13, .c (.one (.v (.int .i64 vs13)))), (14, .c (.one (.v (.int .i64 vs14)))), (37, .c (.one (.h 2368 0 0 []))), (38, .c (.one (.v (.int .i64 vs38)))), (39, .c (.one (.v (.int .i64 (IntKind.wrap .i64 (vs39 + (1 : Int)))))))], [(1, ⟨.node, [.v (.int .i64 vb1_0), .v (.int .i64 vb1_1), .v (.string vb1_2), .ro .str vb1_3, .ro .node vb1_4]⟩)], [(640, .live ⟨(.sl .str), .deep, 0, [], (vr640 ++ ([(([vs6] : List ByteArray) ++ (atI (t := (.sl .str)) vr2368 (Int.toNat vs39)))] : List (List ByteArray)))⟩), (2368, .live ⟨(.sl .str), .deep, 0, [], vr2368⟩)]⟩)
          none)
        none)
      none)
    (k' (.exit 2) ⟨[(1, .c (.one (.pt 1 0))), (3, .c (.one (.h 640 0 0 []))), (6, .c (.one (.v (.string vs6)))), (12, .c (.one (.ro .node vs12))), (13, .c (.one (.v (.int .i64 vs13)))), (14, .c (.one (.v (.int .i64 vs14)))), (37, .c (.one (.h 2368 0 0 []))), (38, .c (.one (.v (.int .i64 vs38)))), (39, .c (.one (.v (.int .i64 vs39)))), (40, .c (.one (.v (.bool (decide (vs39 < vs38))))))], [(1, ⟨.node, [.v (.int .i64 vb1_0), .v (.int .i64 vb1_1), .v (.string vb1_2), .ro .str vb1_3, .ro .node vb1_4]⟩)], [(640, .live ⟨(.sl .str), .deep, 0, [], vr640⟩), (2368, .live ⟨(.sl .str), .deep, 0, [], vr2368⟩)]⟩)) := by kernel_rfl
theorem f11L0_eq {R : Type} (N : Nat) (n : Nat) (k' : Ex → St → Option R) (vs6 : ByteArray) (vs12 : List NodeT) (vs13 : Int) (vs14 : Int) (vs38 : Int) (vb1_0 : Int) (vb1_1 : Int) (vb1_2 : ByteArray) (vb1_3 : List ByteArray) (vb1_4 : List NodeT) (vr2368 : List (List ByteArray)) : ∀ (m : Nat) (vs39 : Int) (vr640 : List (List ByteArray)), iter (fun st k => ev (f11e N) f11k n (cAt [1,1,0,1,0,0,1,1,0,0,1,1,1,1,0,0] f11c) st k) m ⟨[(1, .c (.one (.pt 1 0))), (3, .c (.one (.h 640 0 0 []))), (6, .c (.one (.v (.string vs6)))), (12, .c (.one (.ro .node vs12))), (13, .c (.one (.v (.int .i64 vs13)))), (14, .c (.one (.v (.int .i64 vs14)))), (37, .c (.one (.h 2368 0 0 []))), (38, .c (.one (.v (.int .i64 vs38)))), (39, .c (.one (.v (.int .i64 vs39))))], [(1, ⟨.node, [.v (.int .i64 vb1_0), .v (.int .i64 vb1_1), .v (.string vb1_2), .ro .str vb1_3, .ro .node vb1_4]⟩)], [(640, .live ⟨(.sl .str), .deep, 0, [], vr640⟩), (2368, .live ⟨(.sl .str), .deep, 0, [], vr2368⟩)]⟩ k' = f11L0 N n (fun (xvs39 : Int) (xvs40 : Bool) (xvr640 : List (List ByteArray)) => k' (.exit 2) ⟨[(1, .c (.one (.pt 1 0))), (3, .c (.one (.h 640 0 0 []))), (6, .c (.one (.v (.string vs6)))), (12, .c (.one (.ro .node vs12))), (13, .c (.one (.v (.int .i64 vs13)))), (14, .c (.one (.v (.int .i64 vs14)))), (37, .c (.one (.h 2368 0 0 []))), (38, .c (.one (.v (.int .i64 vs38)))), (39, .c (.one (.v (.int .i64 xvs39)))), (40, .c (.one (.v (.bool xvs40))))], [(1, ⟨.node, [.v (.int .i64 vb1_0), .v (.int .i64 vb1_1), .v (.string vb1_2), .ro .str vb1_3, .ro .node vb1_4]⟩)], [(640, .live ⟨(.sl .str), .deep, 0, [], xvr640⟩), (2368, .live ⟨(.sl .str), .deep, 0, [], vr2368⟩)]⟩) vs6 vs12 vs13 vs14 vs38 vb1_0 vb1_1 vb1_2 vb1_3 vb1_4 vr2368 m vs39 vr640 := by
  intro m; induction m with
  | zero => intros; rfl
  | succ m ih =>
    intro vs39 vr640
    simp only [iter]
    rw [f11L0_b]
    simp only [ih, f11L0]

noncomputable def f11K0 {R : Type} (N : Nat) (n : Nat) (k' : Ex → St → Option R) : Ex → St → Option R := (blockK 2 (blockK 1 (seqK (f11e N) f11k n (cAt [1,1,0,1,0,0,1,1,1] f11c) k')))
theorem f11K0_x0 {R : Type} (N : Nat) (n : Nat) (k' : Ex → St → Option R) (vs6 : ByteArray) (vs12 : List NodeT) (vs13 : Int) (vs14 : Int) (vs38 : Int) (vb1_0 : Int) (vb1_1 : Int) (vb1_2 : ByteArray) (vb1_3 : List ByteArray) (vb1_4 : List NodeT) (vr2368 : List (List ByteArray)) (xvs39 : Int) (xvs40 : Bool) (xvr640 : List (List ByteArray)) : f11K0 N n k' (.exit 2) ⟨[(1, .c (.one (.pt 1 0))), (3, .c (.one (.h 640 0 0 []))), (6, .c (.one (.v (.string vs6)))), (12, .c (.one (.ro .node vs12))), (13, .c (.one (.v (.int .i64 vs13)))), (14, .c (.one (.v (.int .i64 vs14)))), (37, .c (.one (.h 2368 0 0 []))), (38, .c (.one (.v (.int .i64 vs38)))), (39, .c (.one (.v (.int .i64 xvs39)))), (40, .c (.one (.v (.bool xvs40))))], [(1, ⟨.node, [.v (.int .i64 vb1_0), .v (.int .i64 vb1_1), .v (.string vb1_2), .ro .str vb1_3, .ro .node vb1_4]⟩)], [(640, .live ⟨(.sl .str), .deep, 0, [], xvr640⟩), (2368, .live ⟨(.sl .str), .deep, 0, [], vr2368⟩)]⟩ =
    (k' .normal ⟨[(1, .c (.one (.pt 1 0))), (3, .c (.one (.h 640 0 0 []))), (12, .c (.one (.ro .node vs12))), (13, .c (.one (.v (.int .i64 vs13)))), (14, .c (.one (.v (.int .i64 (IntKind.wrap .i64 (vs14 + (1 : Int)))))))], [(1, ⟨.node, [.v (.int .i64 vb1_0), .v (.int .i64 vb1_1), .v (.string vb1_2), .ro .str vb1_3, .ro .node vb1_4]⟩)], [(640, .live ⟨(.sl .str), .deep, 0, [], xvr640⟩)]⟩) := by kernel_rfl

noncomputable def f11L1 {R : Type} (N : Nat) (n : Nat) (x0 : Int → Bool → (List (List ByteArray)) → Option R) (vs12 : List NodeT) (vs13 : Int) (vb1_0 : Int) (vb1_1 : Int) (vb1_2 : ByteArray) (vb1_3 : List ByteArray) (vb1_4 : List NodeT) : Nat → Int → (List (List ByteArray)) → Option R
  | 0, _, _ => none
  | m + 1, vs14, vr640 =>
    (cond (decide (vs14 < vs13))
      (cond ((decide ((0 : Int) ≤ vs14)) && (decide (vs14 < (vs12.length : Int))))
        (cond (okI vs14)
          (cond (vb1_0 == (5 : Int))
            (cond (decide (vs14 < (vb1_3.length : Int)))
              (cond ((decide ((0 : Int) ≤ vs14)) && (decide (vs14 < (vb1_3.length : Int))))
                (cond ((gPt (⟨(NodeT.kind (atI (t := .node) vs12 (Int.toNat vs14))), (NodeT.n (atI (t := .node) vs12 (Int.toNat vs14))), (NodeT.s (atI (t := .node) vs12 (Int.toNat vs14))), (NodeT.keys (atI (t := .node) vs12 (Int.toNat vs14))), (NodeT.kids (atI (t := .node) vs12 (Int.toNat vs14)))⟩ : NodeT)) && (Nat.blt (nd_node (⟨(NodeT.kind (atI (t := .node) vs12 (Int.toNat vs14))), (NodeT.n (atI (t := .node) vs12 (Int.toNat vs14))), (NodeT.s (atI (t := .node) vs12 (Int.toNat vs14))), (NodeT.keys (atI (t := .node) vs12 (Int.toNat vs14))), (NodeT.kids (atI (t := .node) vs12 (Int.toNat vs14)))⟩ : NodeT)) N))
                  (f11L0 N n (fun (xvs39 : Int) (xvs40 : Bool) (xvr640 : List (List ByteArray)) =>
                    (f11L1 N n x0 vs12 vs13 vb1_0 vb1_1 vb1_2 vb1_3 vb1_4 m (IntKind.wrap .i64 (vs14 + (1 : Int))) xvr640)) (atI (t := .str) vb1_3 (Int.toNat vs14)) vs12 vs13 vs14 ((allPtrs (⟨(NodeT.kind (atI (t := .node) vs12 (Int.toNat vs14))), (NodeT.n (atI (t := .node) vs12 (Int.toNat vs14))), (NodeT.s (atI (t := .node) vs12 (Int.toNat vs14))), (NodeT.keys (atI (t := .node) vs12 (Int.toNat vs14))), (NodeT.kids (atI (t := .node) vs12 (Int.toNat vs14)))⟩ : NodeT)).length : Int) vb1_0 vb1_1 vb1_2 vb1_3 vb1_4 (allPtrs (⟨(NodeT.kind (atI (t := .node) vs12 (Int.toNat vs14))), (NodeT.n (atI (t := .node) vs12 (Int.toNat vs14))), (NodeT.s (atI (t := .node) vs12 (Int.toNat vs14))), (NodeT.keys (atI (t := .node) vs12 (Int.toNat vs14))), (NodeT.kids (atI (t := .node) vs12 (Int.toNat vs14)))⟩ : NodeT)) n (0 : Int) vr640)
                  none)
                none)
              (cond ((gPt (⟨(NodeT.kind (atI (t := .node) vs12 (Int.toNat vs14))), (NodeT.n (atI (t := .node) vs12 (Int.toNat vs14))), (NodeT.s (atI (t := .node) vs12 (Int.toNat vs14))), (NodeT.keys (atI (t := .node) vs12 (Int.toNat vs14))), (NodeT.kids (atI (t := .node) vs12 (Int.toNat vs14)))⟩ : NodeT)) && (Nat.blt (nd_node (⟨(NodeT.kind (atI (t := .node) vs12 (Int.toNat vs14))), (NodeT.n (atI (t := .node) vs12 (Int.toNat vs14))), (NodeT.s (atI (t := .node) vs12 (Int.toNat vs14))), (NodeT.keys (atI (t := .node) vs12 (Int.toNat vs14))), (NodeT.kids (atI (t := .node) vs12 (Int.toNat vs14)))⟩ : NodeT)) N))
                (f11L0 N n (fun (xvs39 : Int) (xvs40 : Bool) (xvr640 : List (List ByteArray)) =>
                  (f11L1 N n x0 vs12 vs13 vb1_0 vb1_1 vb1_2 vb1_3 vb1_4 m (IntKind.wrap .i64 (vs14 + (1 : Int))) xvr640)) (digS vs14) vs12 vs13 vs14 ((allPtrs (⟨(NodeT.kind (atI (t := .node) vs12 (Int.toNat vs14))), (NodeT.n (atI (t := .node) vs12 (Int.toNat vs14))), (NodeT.s (atI (t := .node) vs12 (Int.toNat vs14))), (NodeT.keys (atI (t := .node) vs12 (Int.toNat vs14))), (NodeT.kids (atI (t := .node) vs12 (Int.toNat vs14)))⟩ : NodeT)).length : Int) vb1_0 vb1_1 vb1_2 vb1_3 vb1_4 (allPtrs (⟨(NodeT.kind (atI (t := .node) vs12 (Int.toNat vs14))), (NodeT.n (atI (t := .node) vs12 (Int.toNat vs14))), (NodeT.s (atI (t := .node) vs12 (Int.toNat vs14))), (NodeT.keys (atI (t := .node) vs12 (Int.toNat vs14))), (NodeT.kids (atI (t := .node) vs12 (Int.toNat vs14)))⟩ : NodeT)) n (0 : Int) vr640)
                none))
            (cond ((gPt (⟨(NodeT.kind (atI (t := .node) vs12 (Int.toNat vs14))), (NodeT.n (atI (t := .node) vs12 (Int.toNat vs14))), (NodeT.s (atI (t := .node) vs12 (Int.toNat vs14))), (NodeT.keys (atI (t := .node) vs12 (Int.toNat vs14))), (NodeT.kids (atI (t := .node) vs12 (Int.toNat vs14)))⟩ : NodeT)) && (Nat.blt (nd_node (⟨(NodeT.kind (atI (t := .node) vs12 (Int.toNat vs14))), (NodeT.n (atI (t := .node) vs12 (Int.toNat vs14))), (NodeT.s (atI (t := .node) vs12 (Int.toNat vs14))), (NodeT.keys (atI (t := .node) vs12 (Int.toNat vs14))), (NodeT.kids (atI (t := .node) vs12 (Int.toNat vs14)))⟩ : NodeT)) N))
              (f11L0 N n (fun (xvs39 : Int) (xvs40 : Bool) (xvr640 : List (List ByteArray)) =>
                (f11L1 N n x0 vs12 vs13 vb1_0 vb1_1 vb1_2 vb1_3 vb1_4 m (IntKind.wrap .i64 (vs14 + (1 : Int))) xvr640)) (digS vs14) vs12 vs13 vs14 ((allPtrs (⟨(NodeT.kind (atI (t := .node) vs12 (Int.toNat vs14))), (NodeT.n (atI (t := .node) vs12 (Int.toNat vs14))), (NodeT.s (atI (t := .node) vs12 (Int.toNat vs14))), (NodeT.keys (atI (t := .node) vs12 (Int.toNat vs14))), (NodeT.kids (atI (t := .node) vs12 (Int.toNat vs14)))⟩ : NodeT)).length : Int) vb1_0 vb1_1 vb1_2 vb1_3 vb1_4 (allPtrs (⟨(NodeT.kind (atI (t := .node) vs12 (Int.toNat vs14))), (NodeT.n (atI (t := .node) vs12 (Int.toNat vs14))), (NodeT.s (atI (t := .node) vs12 (Int.toNat vs14))), (NodeT.keys (atI (t := .node) vs12 (Int.toNat vs14))), (NodeT.kids (atI (t := .node) vs12 (Int.toNat vs14)))⟩ : NodeT)) n (0 : Int) vr640)
              none))
          none)
        none)
      (x0 vs14 (decide (vs14 < vs13)) vr640))
theorem f11L1_b {R : Type} (N : Nat) (n : Nat) (k' : Ex → St → Option R) (vs12 : List NodeT) (vs13 : Int) (vs14 : Int) (vb1_0 : Int) (vb1_1 : Int) (vb1_2 : ByteArray) (vb1_3 : List ByteArray) (vb1_4 : List NodeT) (vr640 : List (List ByteArray)) : ev (f11e N) f11k n (cAt [1,1,0,1,0,0] f11c) ⟨[(1, .c (.one (.pt 1 0))), (3, .c (.one (.h 640 0 0 []))), (12, .c (.one (.ro .node vs12))), (13, .c (.one (.v (.int .i64 vs13)))), (14, .c (.one (.v (.int .i64 vs14))))], [(1, ⟨.node, [.v (.int .i64 vb1_0), .v (.int .i64 vb1_1), .v (.string vb1_2), .ro .str vb1_3, .ro .node vb1_4]⟩)], [(640, .live ⟨(.sl .str), .deep, 0, [], vr640⟩)]⟩ k' =
    (cond (decide (vs14 < vs13))
    (cond ((decide ((0 : Int) ≤ vs14)) && (decide (vs14 < (vs12.length : Int))))
      (cond (okI vs14)
        (cond (vb1_0 == (5 : Int))
          (cond (decide (vs14 < (vb1_3.length : Int)))
            (cond ((decide ((0 : Int) ≤ vs14)) && (decide (vs14 < (vb1_3.length : Int))))
              (cond ((gPt (⟨(NodeT.kind (atI (t := .node) vs12 (Int.toNat vs14))), (NodeT.n (atI (t := .node) vs12 (Int.toNat vs14))), (NodeT.s (atI (t := .node) vs12 (Int.toNat vs14))), (NodeT.keys (atI (t := .node) vs12 (Int.toNat vs14))), (NodeT.kids (atI (t := .node) vs12 (Int.toNat vs14)))⟩ : NodeT)) && (Nat.blt (nd_node (⟨(NodeT.kind (atI (t := .node) vs12 (Int.toNat vs14))), (NodeT.n (atI (t := .node) vs12 (Int.toNat vs14))), (NodeT.s (atI (t := .node) vs12 (Int.toNat vs14))), (NodeT.keys (atI (t := .node) vs12 (Int.toNat vs14))), (NodeT.kids (atI (t := .node) vs12 (Int.toNat vs14)))⟩ : NodeT)) N))
                (f11L0 N n (fun (xvs39 : Int) (xvs40 : Bool) (xvr640 : List (List ByteArray)) =>
                  (k' .normal ⟨[(1, .c (.one (.pt 1 0))), (3, .c (.one (.h 640 0 0 []))), (12, .c (.one (.ro .node vs12))), (13, .c (.one (.v (.int .i64 vs13)))), (14, .c (.one (.v (.int .i64 (IntKind.wrap .i64 (vs14 + (1 : Int)))))))], [(1, ⟨.node, [.v (.int .i64 vb1_0), .v (.int .i64 vb1_1), .v (.string vb1_2), .ro .str vb1_3, .ro .node vb1_4]⟩)], [(640, .live ⟨(.sl .str), .deep, 0, [], xvr640⟩)]⟩)) (atI (t := .str) vb1_3 (Int.toNat vs14)) vs12 vs13 vs14 ((allPtrs (⟨(NodeT.kind (atI (t := .node) vs12 (Int.toNat vs14))), (NodeT.n (atI (t := .node) vs12 (Int.toNat vs14))), (NodeT.s (atI (t := .node) vs12 (Int.toNat vs14))), (NodeT.keys (atI (t := .node) vs12 (Int.toNat vs14))), (NodeT.kids (atI (t := .node) vs12 (Int.toNat vs14)))⟩ : NodeT)).length : Int) vb1_0 vb1_1 vb1_2 vb1_3 vb1_4 (allPtrs (⟨(NodeT.kind (atI (t := .node) vs12 (Int.toNat vs14))), (NodeT.n (atI (t := .node) vs12 (Int.toNat vs14))), (NodeT.s (atI (t := .node) vs12 (Int.toNat vs14))), (NodeT.keys (atI (t := .node) vs12 (Int.toNat vs14))), (NodeT.kids (atI (t := .node) vs12 (Int.toNat vs14)))⟩ : NodeT)) n (0 : Int) vr640)
                none)
              none)
            (cond ((gPt (⟨(NodeT.kind (atI (t := .node) vs12 (Int.toNat vs14))), (NodeT.n (atI (t := .node) vs12 (Int.toNat vs14))), (NodeT.s (atI (t := .node) vs12 (Int.toNat vs14))), (NodeT.keys (atI (t := .node) vs12 (Int.toNat vs14))), (NodeT.kids (atI (t := .node) vs12 (Int.toNat vs14)))⟩ : NodeT)) && (Nat.blt (nd_node (⟨(NodeT.kind (atI (t := .node) vs12 (Int.toNat vs14))), (NodeT.n (atI (t := .node) vs12 (Int.toNat vs14))), (NodeT.s (atI (t := .node) vs12 (Int.toNat vs14))), (NodeT.keys (atI (t := .node) vs12 (Int.toNat vs14))), (NodeT.kids (atI (t := .node) vs12 (Int.toNat vs14)))⟩ : NodeT)) N))
              (f11L0 N n (fun (xvs39 : Int) (xvs40 : Bool) (xvr640 : List (List ByteArray)) =>
                (k' .normal ⟨[(1, .c (.one (.pt 1 0))), (3, .c (.one (.h 640 0 0 []))), (12, .c (.one (.ro .node vs12))), (13, .c (.one (.v (.int .i64 vs13)))), (14, .c (.one (.v (.int .i64 (IntKind.wrap .i64 (vs14 + (1 : Int)))))))], [(1, ⟨.node, [.v (.int .i64 vb1_0), .v (.int .i64 vb1_1), .v (.string vb1_2), .ro .str vb1_3, .ro .node vb1_4]⟩)], [(640, .live ⟨(.sl .str), .deep, 0, [], xvr640⟩)]⟩)) (digS vs14) vs12 vs13 vs14 ((allPtrs (⟨(NodeT.kind (atI (t := .node) vs12 (Int.toNat vs14))), (NodeT.n (atI (t := .node) vs12 (Int.toNat vs14))), (NodeT.s (atI (t := .node) vs12 (Int.toNat vs14))), (NodeT.keys (atI (t := .node) vs12 (Int.toNat vs14))), (NodeT.kids (atI (t := .node) vs12 (Int.toNat vs14)))⟩ : NodeT)).length : Int) vb1_0 vb1_1 vb1_2 vb1_3 vb1_4 (allPtrs (⟨(NodeT.kind (atI (t := .node) vs12 (Int.toNat vs14))), (NodeT.n (atI (t := .node) vs12 (Int.toNat vs14))), (NodeT.s (atI (t := .node) vs12 (Int.toNat vs14))), (NodeT.keys (atI (t := .node) vs12 (Int.toNat vs14))), (NodeT.kids (atI (t := .node) vs12 (Int.toNat vs14)))⟩ : NodeT)) n (0 : Int) vr640)
              none))
          (cond ((gPt (⟨(NodeT.kind (atI (t := .node) vs12 (Int.toNat vs14))), (NodeT.n (atI (t := .node) vs12 (Int.toNat vs14))), (NodeT.s (atI (t := .node) vs12 (Int.toNat vs14))), (NodeT.keys (atI (t := .node) vs12 (Int.toNat vs14))), (NodeT.kids (atI (t := .node) vs12 (Int.toNat vs14)))⟩ : NodeT)) && (Nat.blt (nd_node (⟨(NodeT.kind (atI (t := .node) vs12 (Int.toNat vs14))), (NodeT.n (atI (t := .node) vs12 (Int.toNat vs14))), (NodeT.s (atI (t := .node) vs12 (Int.toNat vs14))), (NodeT.keys (atI (t := .node) vs12 (Int.toNat vs14))), (NodeT.kids (atI (t := .node) vs12 (Int.toNat vs14)))⟩ : NodeT)) N))
            (f11L0 N n (fun (xvs39 : Int) (xvs40 : Bool) (xvr640 : List (List ByteArray)) =>
              (k' .normal ⟨[(1, .c (.one (.pt 1 0))), (3, .c (.one (.h 640 0 0 []))), (12, .c (.one (.ro .node vs12))), (13, .c (.one (.v (.int .i64 vs13)))), (14, .c (.one (.v (.int .i64 (IntKind.wrap .i64 (vs14 + (1 : Int)))))))], [(1, ⟨.node, [.v (.int .i64 vb1_0), .v (.int .i64 vb1_1), .v (.string vb1_2), .ro .str vb1_3, .ro .node vb1_4]⟩)], [(640, .live ⟨(.sl .str), .deep, 0, [], xvr640⟩)]⟩)) (digS vs14) vs12 vs13 vs14 ((allPtrs (⟨(NodeT.kind (atI (t := .node) vs12 (Int.toNat vs14))), (NodeT.n (atI (t := .node) vs12 (Int.toNat vs14))), (NodeT.s (atI (t := .node) vs12 (Int.toNat vs14))), (NodeT.keys (atI (t := .node) vs12 (Int.toNat vs14))), (NodeT.kids (atI (t := .node) vs12 (Int.toNat vs14)))⟩ : NodeT)).length : Int) vb1_0 vb1_1 vb1_2 vb1_3 vb1_4 (allPtrs (⟨(NodeT.kind (atI (t := .node) vs12 (Int.toNat vs14))), (NodeT.n (atI (t := .node) vs12 (Int.toNat vs14))), (NodeT.s (atI (t := .node) vs12 (Int.toNat vs14))), (NodeT.keys (atI (t := .node) vs12 (Int.toNat vs14))), (NodeT.kids (atI (t := .node) vs12 (Int.toNat vs14)))⟩ : NodeT)) n (0 : Int) vr640)
            none))
        none)
      none)
    (k' (.exit 0) ⟨[(1, .c (.one (.pt 1 0))), (3, .c (.one (.h 640 0 0 []))), (12, .c (.one (.ro .node vs12))), (13, .c (.one (.v (.int .i64 vs13)))), (14, .c (.one (.v (.int .i64 vs14)))), (15, .c (.one (.v (.bool (decide (vs14 < vs13))))))], [(1, ⟨.node, [.v (.int .i64 vb1_0), .v (.int .i64 vb1_1), .v (.string vb1_2), .ro .str vb1_3, .ro .node vb1_4]⟩)], [(640, .live ⟨(.sl .str), .deep, 0, [], vr640⟩)]⟩)) := by
  refine Eq.trans (b := (cond (decide (vs14 < vs13))
    (cond ((decide ((0 : Int) ≤ vs14)) && (decide (vs14 < (vs12.length : Int))))
      (cond (okI vs14)
        (cond (vb1_0 == (5 : Int))
          (cond (decide (vs14 < (vb1_3.length : Int)))
            (cond ((decide ((0 : Int) ≤ vs14)) && (decide (vs14 < (vb1_3.length : Int))))
              (cond ((gPt (⟨(NodeT.kind (atI (t := .node) vs12 (Int.toNat vs14))), (NodeT.n (atI (t := .node) vs12 (Int.toNat vs14))), (NodeT.s (atI (t := .node) vs12 (Int.toNat vs14))), (NodeT.keys (atI (t := .node) vs12 (Int.toNat vs14))), (NodeT.kids (atI (t := .node) vs12 (Int.toNat vs14)))⟩ : NodeT)) && (Nat.blt (nd_node (⟨(NodeT.kind (atI (t := .node) vs12 (Int.toNat vs14))), (NodeT.n (atI (t := .node) vs12 (Int.toNat vs14))), (NodeT.s (atI (t := .node) vs12 (Int.toNat vs14))), (NodeT.keys (atI (t := .node) vs12 (Int.toNat vs14))), (NodeT.kids (atI (t := .node) vs12 (Int.toNat vs14)))⟩ : NodeT)) N))
                (iter (fun st k => ev (f11e N) f11k n (cAt [1,1,0,1,0,0,1,1,0,0,1,1,1,1,0,0] f11c) st k) n ⟨[(1, .c (.one (.pt 1 0))), (3, .c (.one (.h 640 0 0 []))), (6, .c (.one (.v (.string (atI (t := .str) vb1_3 (Int.toNat vs14)))))), (12, .c (.one (.ro .node vs12))), (13, .c (.one (.v (.int .i64 vs13)))), (14, .c (.one (.v (.int .i64 vs14)))), (37, .c (.one (.h 2368 0 0 []))), (38, .c (.one (.v (.int .i64 ((allPtrs (⟨(NodeT.kind (atI (t := .node) vs12 (Int.toNat vs14))), (NodeT.n (atI (t := .node) vs12 (Int.toNat vs14))), (NodeT.s (atI (t := .node) vs12 (Int.toNat vs14))), (NodeT.keys (atI (t := .node) vs12 (Int.toNat vs14))), (NodeT.kids (atI (t := .node) vs12 (Int.toNat vs14)))⟩ : NodeT)).length : Int))))), (39, .c (.one (.v (.int .i64 (0 : Int)))))], [(1, ⟨.node, [.v (.int .i64 vb1_0), .v (.int .i64 vb1_1), .v (.string vb1_2), .ro .str vb1_3, .ro .node vb1_4]⟩)], [(640, .live ⟨(.sl .str), .deep, 0, [], vr640⟩), (2368, .live ⟨(.sl .str), .deep, 0, [], (allPtrs (⟨(NodeT.kind (atI (t := .node) vs12 (Int.toNat vs14))), (NodeT.n (atI (t := .node) vs12 (Int.toNat vs14))), (NodeT.s (atI (t := .node) vs12 (Int.toNat vs14))), (NodeT.keys (atI (t := .node) vs12 (Int.toNat vs14))), (NodeT.kids (atI (t := .node) vs12 (Int.toNat vs14)))⟩ : NodeT))⟩)]⟩ (f11K0 N n k'))
                none)
              none)
            (cond ((gPt (⟨(NodeT.kind (atI (t := .node) vs12 (Int.toNat vs14))), (NodeT.n (atI (t := .node) vs12 (Int.toNat vs14))), (NodeT.s (atI (t := .node) vs12 (Int.toNat vs14))), (NodeT.keys (atI (t := .node) vs12 (Int.toNat vs14))), (NodeT.kids (atI (t := .node) vs12 (Int.toNat vs14)))⟩ : NodeT)) && (Nat.blt (nd_node (⟨(NodeT.kind (atI (t := .node) vs12 (Int.toNat vs14))), (NodeT.n (atI (t := .node) vs12 (Int.toNat vs14))), (NodeT.s (atI (t := .node) vs12 (Int.toNat vs14))), (NodeT.keys (atI (t := .node) vs12 (Int.toNat vs14))), (NodeT.kids (atI (t := .node) vs12 (Int.toNat vs14)))⟩ : NodeT)) N))
              (iter (fun st k => ev (f11e N) f11k n (cAt [1,1,0,1,0,0,1,1,0,0,1,1,1,1,0,0] f11c) st k) n ⟨[(1, .c (.one (.pt 1 0))), (3, .c (.one (.h 640 0 0 []))), (6, .c (.one (.v (.string (digS vs14))))), (12, .c (.one (.ro .node vs12))), (13, .c (.one (.v (.int .i64 vs13)))), (14, .c (.one (.v (.int .i64 vs14)))), (37, .c (.one (.h 2368 0 0 []))), (38, .c (.one (.v (.int .i64 ((allPtrs (⟨(NodeT.kind (atI (t := .node) vs12 (Int.toNat vs14))), (NodeT.n (atI (t := .node) vs12 (Int.toNat vs14))), (NodeT.s (atI (t := .node) vs12 (Int.toNat vs14))), (NodeT.keys (atI (t := .node) vs12 (Int.toNat vs14))), (NodeT.kids (atI (t := .node) vs12 (Int.toNat vs14)))⟩ : NodeT)).length : Int))))), (39, .c (.one (.v (.int .i64 (0 : Int)))))], [(1, ⟨.node, [.v (.int .i64 vb1_0), .v (.int .i64 vb1_1), .v (.string vb1_2), .ro .str vb1_3, .ro .node vb1_4]⟩)], [(640, .live ⟨(.sl .str), .deep, 0, [], vr640⟩), (2368, .live ⟨(.sl .str), .deep, 0, [], (allPtrs (⟨(NodeT.kind (atI (t := .node) vs12 (Int.toNat vs14))), (NodeT.n (atI (t := .node) vs12 (Int.toNat vs14))), (NodeT.s (atI (t := .node) vs12 (Int.toNat vs14))), (NodeT.keys (atI (t := .node) vs12 (Int.toNat vs14))), (NodeT.kids (atI (t := .node) vs12 (Int.toNat vs14)))⟩ : NodeT))⟩)]⟩ (f11K0 N n k'))
              none))
          (cond ((gPt (⟨(NodeT.kind (atI (t := .node) vs12 (Int.toNat vs14))), (NodeT.n (atI (t := .node) vs12 (Int.toNat vs14))), (NodeT.s (atI (t := .node) vs12 (Int.toNat vs14))), (NodeT.keys (atI (t := .node) vs12 (Int.toNat vs14))), (NodeT.kids (atI (t := .node) vs12 (Int.toNat vs14)))⟩ : NodeT)) && (Nat.blt (nd_node (⟨(NodeT.kind (atI (t := .node) vs12 (Int.toNat vs14))), (NodeT.n (atI (t := .node) vs12 (Int.toNat vs14))), (NodeT.s (atI (t := .node) vs12 (Int.toNat vs14))), (NodeT.keys (atI (t := .node) vs12 (Int.toNat vs14))), (NodeT.kids (atI (t := .node) vs12 (Int.toNat vs14)))⟩ : NodeT)) N))
            (iter (fun st k => ev (f11e N) f11k n (cAt [1,1,0,1,0,0,1,1,0,0,1,1,1,1,0,0] f11c) st k) n ⟨[(1, .c (.one (.pt 1 0))), (3, .c (.one (.h 640 0 0 []))), (6, .c (.one (.v (.string (digS vs14))))), (12, .c (.one (.ro .node vs12))), (13, .c (.one (.v (.int .i64 vs13)))), (14, .c (.one (.v (.int .i64 vs14)))), (37, .c (.one (.h 2368 0 0 []))), (38, .c (.one (.v (.int .i64 ((allPtrs (⟨(NodeT.kind (atI (t := .node) vs12 (Int.toNat vs14))), (NodeT.n (atI (t := .node) vs12 (Int.toNat vs14))), (NodeT.s (atI (t := .node) vs12 (Int.toNat vs14))), (NodeT.keys (atI (t := .node) vs12 (Int.toNat vs14))), (NodeT.kids (atI (t := .node) vs12 (Int.toNat vs14)))⟩ : NodeT)).length : Int))))), (39, .c (.one (.v (.int .i64 (0 : Int)))))], [(1, ⟨.node, [.v (.int .i64 vb1_0), .v (.int .i64 vb1_1), .v (.string vb1_2), .ro .str vb1_3, .ro .node vb1_4]⟩)], [(640, .live ⟨(.sl .str), .deep, 0, [], vr640⟩), (2368, .live ⟨(.sl .str), .deep, 0, [], (allPtrs (⟨(NodeT.kind (atI (t := .node) vs12 (Int.toNat vs14))), (NodeT.n (atI (t := .node) vs12 (Int.toNat vs14))), (NodeT.s (atI (t := .node) vs12 (Int.toNat vs14))), (NodeT.keys (atI (t := .node) vs12 (Int.toNat vs14))), (NodeT.kids (atI (t := .node) vs12 (Int.toNat vs14)))⟩ : NodeT))⟩)]⟩ (f11K0 N n k'))
            none))
        none)
      none)
    (k' (.exit 0) ⟨[(1, .c (.one (.pt 1 0))), (3, .c (.one (.h 640 0 0 []))), (12, .c (.one (.ro .node vs12))), (13, .c (.one (.v (.int .i64 vs13)))), (14, .c (.one (.v (.int .i64 vs14)))), (15, .c (.one (.v (.bool (decide (vs14 < vs13))))))], [(1, ⟨.node, [.v (.int .i64 vb1_0), .v (.int .i64 vb1_1), .v (.string vb1_2), .ro .str vb1_3, .ro .node vb1_4]⟩)], [(640, .live ⟨(.sl .str), .deep, 0, [], vr640⟩)]⟩))) (by kernel_rfl) ?_
  simp only [f11L0_eq, f11K0_x0]
theorem f11L1_eq {R : Type} (N : Nat) (n : Nat) (k' : Ex → St → Option R) (vs12 : List NodeT) (vs13 : Int) (vb1_0 : Int) (vb1_1 : Int) (vb1_2 : ByteArray) (vb1_3 : List ByteArray) (vb1_4 : List NodeT) : ∀ (m : Nat) (vs14 : Int) (vr640 : List (List ByteArray)), iter (fun st k => ev (f11e N) f11k n (cAt [1,1,0,1,0,0] f11c) st k) m ⟨[(1, .c (.one (.pt 1 0))), (3, .c (.one (.h 640 0 0 []))), (12, .c (.one (.ro .node vs12))), (13, .c (.one (.v (.int .i64 vs13)))), (14, .c (.one (.v (.int .i64 vs14))))], [(1, ⟨.node, [.v (.int .i64 vb1_0), .v (.int .i64 vb1_1), .v (.string vb1_2), .ro .str vb1_3, .ro .node vb1_4]⟩)], [(640, .live ⟨(.sl .str), .deep, 0, [], vr640⟩)]⟩ k' = f11L1 N n (fun (xvs14 : Int) (xvs15 : Bool) (xvr640 : List (List ByteArray)) => k' (.exit 0) ⟨[(1, .c (.one (.pt 1 0))), (3, .c (.one (.h 640 0 0 []))), (12, .c (.one (.ro .node vs12))), (13, .c (.one (.v (.int .i64 vs13)))), (14, .c (.one (.v (.int .i64 xvs14)))), (15, .c (.one (.v (.bool xvs15))))], [(1, ⟨.node, [.v (.int .i64 vb1_0), .v (.int .i64 vb1_1), .v (.string vb1_2), .ro .str vb1_3, .ro .node vb1_4]⟩)], [(640, .live ⟨(.sl .str), .deep, 0, [], xvr640⟩)]⟩) vs12 vs13 vb1_0 vb1_1 vb1_2 vb1_3 vb1_4 m vs14 vr640 := by
  intro m; induction m with
  | zero => intros; rfl
  | succ m ih =>
    intro vs14 vr640
    simp only [iter]
    rw [f11L1_b]
    simp only [ih, f11L1]

noncomputable def f11K1 {R : Type} (N : Nat) (n : Nat) (k' : Ex → St → Option R) : Ex → St → Option R := (blockK 0 (seqK (f11e N) f11k n (cAt [1,1,1] f11c) k'))
theorem f11K1_x0 {R : Type} (N : Nat) (n : Nat) (k : List Dt → Option R) (a0 : NodeT) (vs12 : List NodeT) (vs13 : Int) (vb1_0 : Int) (vb1_1 : Int) (vb1_2 : ByteArray) (vb1_3 : List ByteArray) (vb1_4 : List NodeT) (xvs14 : Int) (xvs15 : Bool) (xvr640 : List (List ByteArray)) : f11K1 N n (exitK (f11e N) [.ro] [false] true [.tmp 2] [27] [.d .node a0] k) (.exit 0) ⟨[(1, .c (.one (.pt 1 0))), (3, .c (.one (.h 640 0 0 []))), (12, .c (.one (.ro .node vs12))), (13, .c (.one (.v (.int .i64 vs13)))), (14, .c (.one (.v (.int .i64 xvs14)))), (15, .c (.one (.v (.bool xvs15))))], [(1, ⟨.node, [.v (.int .i64 vb1_0), .v (.int .i64 vb1_1), .v (.string vb1_2), .ro .str vb1_3, .ro .node vb1_4]⟩)], [(640, .live ⟨(.sl .str), .deep, 0, [], xvr640⟩)]⟩ =
    (k [.d (.sl (.sl .str)) xvr640]) := by kernel_rfl

theorem f11_run {R : Type} (N : Nat) (n : Nat) (k : List Dt → Option R) (a0 : NodeT) : evFn (f11e N) f11k n f11c [.ro] [false] true [.tmp 2] [27] [.d .node a0] k =
    (f11L1 N n (fun (xvs14 : Int) (xvs15 : Bool) (xvr640 : List (List ByteArray)) =>
    (k [.d (.sl (.sl .str)) xvr640])) (NodeT.kids a0) ((NodeT.kids a0).length : Int) (NodeT.kind a0) (NodeT.n a0) (NodeT.s a0) (NodeT.keys a0) (NodeT.kids a0) n (0 : Int) [([] : List ByteArray)]) := by
  refine Eq.trans (b := (iter (fun st k => ev (f11e N) f11k n (cAt [1,1,0,1,0,0] f11c) st k) n ⟨[(1, .c (.one (.pt 1 0))), (3, .c (.one (.h 640 0 0 []))), (12, .c (.one (.ro .node (NodeT.kids a0)))), (13, .c (.one (.v (.int .i64 ((NodeT.kids a0).length : Int))))), (14, .c (.one (.v (.int .i64 (0 : Int)))))], [(1, ⟨.node, [.v (.int .i64 (NodeT.kind a0)), .v (.int .i64 (NodeT.n a0)), .v (.string (NodeT.s a0)), .ro .str (NodeT.keys a0), .ro .node (NodeT.kids a0)]⟩)], [(640, .live ⟨(.sl .str), .deep, 0, [], ([([] : List ByteArray)] : List (List ByteArray))⟩)]⟩ (f11K1 N n (exitK (f11e N) [.ro] [false] true [.tmp 2] [27] [.d .node a0] k)))) (by kernel_rfl) ?_
  simp only [f11L1_eq, f11K1_x0]
theorem f11_spec (N : Nat) (a0 : NodeT) (hg : gPt a0 = true) (hm : mu11 [.d .node a0] = N) : ∃ keep rounds, ∀ {R : Type} (k : List Dt → Option R), evFn (f11e N) keep rounds f11c [.ro] [false] true [.tmp 2] [27] [.d .node a0] k = k [.d (.sl (.sl .str)) (allPtrs a0)] := by
  have hm : nd_node a0 = N := hm
  subst hm
  have hg0 := hg
  simp only [gPt, Bool.and_eq_true] at hg
  obtain ⟨hg, hnd⟩ := hg
  have hnd := bleN hnd
  rw [sm_node_def] at hg
  simp only [Bool.and_eq_true] at hg
  obtain ⟨_, _, _, hke, hki⟩ := hg
  have nke := smL_len hke
  have nki := smL_len hki
  have hkl : a0.kids.length + 1 ≤ nd_node a0 := by
    rw [nd_node_def]
    have : ∀ l : List NodeT, l.length ≤ ndL nd_node l := fun l => by
      induction l with
      | nil => exact Nat.zero_le _
      | cons y r ih =>
        have e1 : ndL nd_node (y :: r) = nd_node y + ndL nd_node r := by simp [ndL]
        have := nd_node_def y
        rw [List.length_cons]; omega
    have := this a0.kids
    omega
  refine ⟨f11k, nd_node a0 + 1, fun {R} k => ?_⟩
  rw [f11_run]
  show _ = k [.d (.sl (.sl .str)) (allPtrs a0)]
  have hlen := allPtrs_len a0
  rw [allPtrs_def, List.length_cons] at hlen
  have inner : ∀ (x : NodeT) (j : Nat) (part : ByteArray) (out : List (List ByteArray)) (fin : Int → Bool → List (List ByteArray) → Option R), x ∈ a0.kids → out.length + (allPtrs x).length ≤ nd_node a0 →
      f11L0 (nd_node a0) (nd_node a0 + 1) fin part a0.kids (a0.kids.length : Int) (j : Int) ((allPtrs x).length : Int) a0.kind a0.n a0.s a0.keys a0.kids (allPtrs x) (nd_node a0 + 1) (0 : Int) out = fin ((allPtrs x).length : Int) false (out ++ (allPtrs x).map fun p => part :: p) := by
    intro x j part out fin hx hB
    have hxl := nd_node_kid hx
    have hxn := allPtrs_len x
    refine Eq.trans (loop_acc (xs := allPtrs x) (F := fun m j' out => f11L0 (nd_node a0) (nd_node a0 + 1) fin part a0.kids (a0.kids.length : Int) (j : Int) ((allPtrs x).length : Int) a0.kind a0.n a0.s a0.keys a0.kids (allPtrs x) m (j' : Int) out) (f := fun out p => out ++ [part :: p]) (good := fun out => fin ((allPtrs x).length : Int) false out) (fun j' o => o.length ≤ out.length + j')
      (fun j' o p hp hi => by simp only [List.length_append, List.length_cons, List.length_nil]; omega) (fun m j' o p hp hi => ?_) (fun m o hi => by simp only [f11L0, idxE, cond_false]) (allPtrs x).length 0 (nd_node a0 + 1) out (by omega) (by omega) (by omega)) ?_
    · obtain ⟨h1, h0, hw, ht⟩ := idx (lt_of_get hp) (by omega)
      have hj := lt_of_get hp
      have hway := allPtrs_way x p (List.mem_of_getElem? hp)
      have hlim : Nat.ble (o.length + 1) LIM = true := Nat.ble_eq_true_of_le (by have : (LIM : Nat) = 4294967296 := rfl; omega)
      have hlim2 : Nat.ble (1 + p.length) LIM = true := Nat.ble_eq_true_of_le (by have : (LIM : Nat) = 4294967296 := rfl; omega)
      simp only [f11L0, h1, h0, hw, ht, atI_of (t := .sl .str) hp, Bool.and_self, cond_true, hlim, hlim2]
      rfl
    · rw [List.drop_zero]
      congr 1
      have : ∀ (l : List (List ByteArray)) (o : List (List ByteArray)), l.foldl (fun out p => out ++ [part :: p]) o = o ++ l.map fun p => part :: p := by
        intro l
        induction l with
        | nil => intro o; simp
        | cons y r ih => intro o; rw [List.foldl_cons, ih]; simp
      exact this _ _
  refine Eq.trans (loop_ptr (kids := a0.kids) (kind := a0.kind) (keys := a0.keys) (B := nd_node a0) (F := fun m j out => f11L1 (nd_node a0) (nd_node a0 + 1) _ a0.kids (a0.kids.length : Int) a0.kind a0.n a0.s a0.keys a0.kids m (j : Int) out) (good := fun out => k [.d (.sl (.sl .str)) out])
    (fun m j out x hx hB => ?_) (fun m out => by simp only [f11L1, idxE, cond_false]) a0.kids.length 0 (nd_node a0 + 1) [[]] (by omega) (by omega) (by rw [List.drop_zero, List.length_cons, List.length_nil]; omega)) ?_
  · obtain ⟨h1, h0, hw, ht⟩ := idx (lt_of_get hx) (by omega)
    have hj := lt_of_get hx
    have hxm := List.mem_of_getElem? hx
    have hb : Nat.blt (nd_node x) (nd_node a0) = true := by
      have := nd_node_kid (x := a0) hxm
      rw [Nat.blt_eq]; exact this
    have hgx := gPt_kid hg0 hxm
    have hoj : okI (j : Int) = true := okI_of (by omega) (by omega)
    simp only [f11L1, h1, h0, hw, ht, hoj, atI_of (t := .node) hx, Bool.and_self, cond_true, eta_node, hgx, hb]
    unfold wayAt
    cases a0.kind == (5 : Int)
    · simp only [cond_false]; exact inner x j _ out _ hxm hB
    by_cases hl : (j : Int) < (a0.keys.length : Int)
    · simp only [decide_eq_true hl, Bool.and_self, cond_true]; exact inner x j _ out _ hxm hB
    · simp only [decide_eq_false hl, cond_true, cond_false]; exact inner x j _ out _ hxm hB
  · rw [List.drop_zero, allPtrs_def]; rfl

noncomputable def s11 : Gm.Spec := Gm.Spec.of [.ro] [false] true q11
theorem good11 : Gm.Good Try.prog (11, s11) := by
  refine ⟨⟨spec_rec mu11 fun N hr => ?_, _, Try.func11, by kernel_rfl, of_decide_eq_true (by kernel_rfl)⟩, Gm.Spec.of_natl _ _ _ _⟩
  have hl : ∀ x ∈ [(11, s11r N), (39, s39)], Gm.Good Try.prog x := List.forall_mem_cons.2 ⟨⟨⟨hr, _, Try.func11, by kernel_rfl, of_decide_eq_true (by kernel_rfl)⟩, Gm.Spec.of_natl _ _ _ _⟩, List.forall_mem_cons.2 ⟨good39, List.forall_mem_nil _⟩⟩
  intro R
  refine spec_ok (E := f11e N) (tab_ok.env hl) (tab.natl hl) Try.func11 (by kernel_rfl : Try.f11.body = some f11c) [27] (by kernel_rfl) ?_
  intro ds outs h
  obtain ⟨h, hm⟩ := qeq_some h
  unfold q11 at h
  split at h
  · simp only [Option.some.injEq, Prod.mk.injEq] at h; obtain ⟨hg, h⟩ := h; cases h; exact f11_spec N _ hg hm
  · cases h
end Go.Proofs.Ytinbejnakemfjaa

/- x -/
namespace Go.Proofs.Ytinbejnakemfjaa
open Go Go.Gm
/-! ### loop.example/g00465/laws.szStringS -/
noncomputable def f17c : Code := (Try.f17.body).getD .skip
def f17k : Nat → Kp := kat [⟨[0, 1], [], [], []⟩, ⟨[0, 1], [], [], []⟩, ⟨[0, 1, 11], [], [], []⟩, ⟨[4], [], [], []⟩, ⟨[0, 1, 5], [], [], []⟩, ⟨[0, 1, 5, 15], [], [], []⟩, ⟨[0, 1, 5], [], [], []⟩, ⟨[0, 1, 5], [], [], []⟩, ⟨[0, 1, 5, 26], [], [], []⟩, ⟨[4], [], [], []⟩, ⟨[4], [], [], []⟩]
noncomputable def f17e : Env := tab.env []
noncomputable def f17L0 {R : Type} (n : Nat) (x0 : Option R) (x1 : Int → Int → Bool → Option R) (vs0 : List ByteArray) : Nat → Int → Int → Option R
  | 0, _, _ => none
  | m + 1, vs1, vs5 =>
    (cond (decide (vs5 < (vs0.length : Int)))
      (cond ((decide ((0 : Int) ≤ vs5)) && (decide (vs5 < (vs0.length : Int))))
        (cond (decide ((IntKind.wrap .i64 (vs1 - (ByteArray.size (atI (t := .str) vs0 (Int.toNat vs5)) : Int))) < (0 : Int)))
          (x0)
          (f17L0 n x0 x1 vs0 m (IntKind.wrap .i64 (vs1 - (ByteArray.size (atI (t := .str) vs0 (Int.toNat vs5)) : Int))) (IntKind.wrap .i64 (vs5 + (1 : Int)))))
        none)
      (x1 vs1 vs5 (decide (vs5 < (vs0.length : Int)))))
theorem f17L0_b {R : Type} (n : Nat) (k' : Ex → St → Option R) (vs0 : List ByteArray) (vs1 : Int) (vs5 : Int) : ev f17e f17k n (cAt [1,1,1,0,1,0,0] f17c) ⟨[(0, .c (.one (.ro .str vs0))), (1, .c (.one (.v (.int .i64 vs1)))), (5, .c (.one (.v (.int .i64 vs5))))], [], []⟩ k' =
    (cond (decide (vs5 < (vs0.length : Int)))
    (cond ((decide ((0 : Int) ≤ vs5)) && (decide (vs5 < (vs0.length : Int))))
      (cond (decide ((IntKind.wrap .i64 (vs1 - (ByteArray.size (atI (t := .str) vs0 (Int.toNat vs5)) : Int))) < (0 : Int)))
        (k' .ret ⟨[(4, .c (.one (.v (.int .i64 (-1 : Int)))))], [], []⟩)
        (k' .normal ⟨[(0, .c (.one (.ro .str vs0))), (1, .c (.one (.v (.int .i64 (IntKind.wrap .i64 (vs1 - (ByteArray.size (atI (t := .str) vs0 (Int.toNat vs5)) : Int))))))), (5, .c (.one (.v (.int .i64 (IntKind.wrap .i64 (vs5 + (1 : Int)))))))], [], []⟩))
      none)
    (k' (.exit 0) ⟨[(0, .c (.one (.ro .str vs0))), (1, .c (.one (.v (.int .i64 vs1)))), (5, .c (.one (.v (.int .i64 vs5)))), (15, .c (.one (.v (.bool (decide (vs5 < (vs0.length : Int)))))))], [], []⟩)) := by kernel_rfl
theorem f17L0_eq {R : Type} (n : Nat) (k' : Ex → St → Option R) (vs0 : List ByteArray) : ∀ (m : Nat) (vs1 : Int) (vs5 : Int), iter (fun st k => ev f17e f17k n (cAt [1,1,1,0,1,0,0] f17c) st k) m ⟨[(0, .c (.one (.ro .str vs0))), (1, .c (.one (.v (.int .i64 vs1)))), (5, .c (.one (.v (.int .i64 vs5))))], [], []⟩ k' = f17L0 n (k' .ret ⟨[(4, .c (.one (.v (.int .i64 (-1 : Int)))))], [], []⟩) (fun (xvs1 : Int) (xvs5 : Int) (xvs15 : Bool) => k' (.exit 0) ⟨[(0, .c (.one (.ro .str vs0))), (1, .c (.one (.v (.int .i64 xvs1)))), (5, .c (.one (.v (.int .i64 xvs5)))), (15, .c (.one (.v (.bool xvs15))))], [], []⟩) vs0 m vs1 vs5 := by
  intro m; induction m with
  | zero => intros; rfl
  | succ m ih =>
    intro vs1 vs5
    simp only [iter]
    rw [f17L0_b]
    simp only [ih, f17L0]

noncomputable def f17K0 {R : Type} (n : Nat) (k' : Ex → St → Option R) : Ex → St → Option R := (blockK 0 (seqK f17e f17k n (cAt [1,1,1,1] f17c) k'))
theorem f17K0_x0 {R : Type} (n : Nat) (k : List Dt → Option R) (a0 : List ByteArray) (a1 : Int)  : f17K0 n (exitK f17e [.ro, .ro] [false] true [.tmp 4] [3] [.d (.sl .str) a0, .d (.i .i64) a1] k) .ret ⟨[(4, .c (.one (.v (.int .i64 (-1 : Int)))))], [], []⟩ =
    (k [.d (.i .i64) (-1 : Int)]) := by kernel_rfl
theorem f17K0_x1 {R : Type} (n : Nat) (k : List Dt → Option R) (a0 : List ByteArray) (a1 : Int) (vs0 : List ByteArray) (xvs1 : Int) (xvs5 : Int) (xvs15 : Bool) : f17K0 n (exitK f17e [.ro, .ro] [false] true [.tmp 4] [3] [.d (.sl .str) a0, .d (.i .i64) a1] k) (.exit 0) ⟨[(0, .c (.one (.ro .str vs0))), (1, .c (.one (.v (.int .i64 xvs1)))), (5, .c (.one (.v (.int .i64 xvs5)))), (15, .c (.one (.v (.bool xvs15))))], [], []⟩ =
    (k [.d (.i .i64) xvs1]) := by kernel_rfl

theorem f17_run {R : Type} (n : Nat) (k : List Dt → Option R) (a0 : List ByteArray) (a1 : Int) : evFn f17e f17k n f17c [.ro, .ro] [false] true [.tmp 4] [3] [.d (.sl .str) a0, .d (.i .i64) a1] k =
    (cond (decide ((IntKind.wrap .i64 (a1 - (a0.length : Int))) < (0 : Int)))
    (k [.d (.i .i64) (-1 : Int)])
    (f17L0 n (k [.d (.i .i64) (-1 : Int)]) (fun (xvs1 : Int) (xvs5 : Int) (xvs15 : Bool) =>
      (k [.d (.i .i64) xvs1])) a0 n (IntKind.wrap .i64 (a1 - (a0.length : Int))) (0 : Int))) := by
  refine Eq.trans (b := (cond (decide ((IntKind.wrap .i64 (a1 - (a0.length : Int))) < (0 : Int)))
    (k [.d (.i .i64) (-1 : Int)])
    (iter (fun st k => ev f17e f17k n (cAt [1,1,1,0,1,0,0] f17c) st k) n ⟨[(0, .c (.one (.ro .str a0))), (1, .c (.one (.v (.int .i64 (IntKind.wrap .i64 (a1 - (a0.length : Int))))))), (5, .c (.one (.v (.int .i64 (0 : Int)))))], [], []⟩ (f17K0 n (exitK f17e [.ro, .ro] [false] true [.tmp 4] [3] [.d (.sl .str) a0, .d (.i .i64) a1] k))))) (by kernel_rfl) ?_
  simp only [f17L0_eq, f17K0_x0, f17K0_x1]
theorem f17_spec (a0 : List ByteArray) (a1 : Int) (hg : gzL_str a0 a1 = true) : ∃ keep rounds, ∀ {R : Type} (k : List Dt → Option R), evFn f17e keep rounds f17c [.ro, .ro] [false] true [.tmp 4] [3] [.d (.sl .str) a0, .d (.i .i64) a1] k = k [.d (.i .i64) (zL_str a0 a1)] := by
  simp only [gzL_str, okL, Bool.and_eq_true, okN_iff] at hg
  obtain ⟨⟨hl, hs⟩, hn⟩ := hg
  have hl : a0.length ≤ 9223372036854775807 := bleN hl
  refine ⟨f17k, a0.length + 1, fun k => ?_⟩
  rw [f17_run, wrap_id (x := a1 - (a0.length : Int)) (by omega) (by omega)]
  show _ = k [.d (.i .i64) (zL_str a0 a1)]
  unfold zL_str
  have eL : szL ByteArray.size a0 = a0.length + (a0.map ByteArray.size).sum := rfl
  by_cases hc : a1 - (a0.length : Int) < 0
  · simp only [hc, decide_true, cond_true]
    rw [szI_neg (by omega)]
  · simp only [hc, decide_false, cond_false]
    refine Eq.trans (loop_fold (xs := a0) (F := fun m j left => f17L0 (a0.length + 1) _ _ a0 m left (j : Int)) (step := szStep ByteArray.size)
      (out := fun _ => k [.d (.i .i64) (-1 : Int)]) (good := fun left => k [.d (.i .i64) left]) (fun n => 0 ≤ n ∧ n ≤ 1048576)
      (fun x n n' hx hn h => by
        unfold szStep at h
        split at h
        · cases h
        · cases h; omega)
      (fun m j n x hx hn => ?_)
      (fun m n hn => by simp only [f17L0, idxE, cond_false]) a0.length 0 (a0.length + 1) (a1 - (a0.length : Int)) (by omega) (by omega) (by omega)) ?_
    · obtain ⟨h1, h0, hw, ht⟩ := idx (lt_of_get hx) (by omega)
      have hx2 := List.all_eq_true.1 hs x (List.mem_of_getElem? hx)
      have hx2 : x.size ≤ 9223372036854775807 := bleN hx2
      simp only [f17L0, h1, h0, hw, ht, atI_of (t := .str) hx, Bool.and_self, cond_true]
      rw [wrap_id (x := n - (x.size : Int)) (by omega) (by omega)]
      unfold szStep
      by_cases h : n - (x.size : Int) < 0
      · simp only [h, decide_true, cond_true, if_true, Sum.elim_inl]
      · simp only [h, decide_false, cond_false, if_false, Sum.elim_inr]
    · rw [List.drop_zero, sz_fold _ _ _ (by omega)]
      by_cases h2 : a1 - (a0.length : Int) - ((a0.map ByteArray.size).sum : Nat) < 0
      · rw [if_pos h2, szI_neg (by omega)]; rfl
      · rw [if_neg h2, szI_pos (by omega)]
        simp only [Sum.elim_inr]
        rw [show a1 - (a0.length : Int) - ((a0.map ByteArray.size).sum : Nat) = a1 - (szL ByteArray.size a0 : Nat) by omega]

noncomputable def q17 : List Dt → Option (Bool × List Dt)
  | [.d (.sl .str) a0, .d (.i .i64) a1] => some ((gzL_str a0 a1), [.d (.i .i64) (zL_str a0 a1)])
  | _ => none
noncomputable def s17 : Gm.Spec := Gm.Spec.of [.ro, .ro] [false] true q17
theorem good17 : Gm.Good Try.prog (17, s17) := by
  have hl : ∀ x ∈ ([] : List (Nat × Gm.Spec)), Gm.Good Try.prog x := fun _ h => by cases h
  refine ⟨⟨spec_ok (tab_ok.env hl) (tab.natl hl) Try.func17 (by kernel_rfl : Try.f17.body = some f17c) [3] (by kernel_rfl) ?_, _, Try.func17, by kernel_rfl, of_decide_eq_true (by kernel_rfl)⟩, Gm.Spec.of_natl _ _ _ _⟩
  intro ds outs h
  unfold q17 at h
  split at h
  · simp only [Option.some.injEq, Prod.mk.injEq] at h; obtain ⟨hg, h⟩ := h; cases h; exact f17_spec _ _ hg
  · cases h
noncomputable def q8 : List Dt → Option (Bool × List Dt)
  | [.d .node a0, .d (.i .i64) a1] => some ((gz_node a0 a1), [.d (.i .i64) (z_node a0 a1)])
  | _ => none
noncomputable def mu8 : List Dt → Nat
  | [.d .node a0, .d (.i .i64) a1] => mz_node a0 a1
  | _ => 0
noncomputable def s8r (N : Nat) : Gm.Spec := Gm.Spec.of [.ro, .ro] [false] true (qlt mu8 N q8)
noncomputable def s8 : Gm.Spec := Gm.Spec.of [.ro, .ro] [false] true q8
noncomputable def q36 : List Dt → Option (Bool × List Dt)
  | [.d (.sl .node) a0, .d (.i .i64) a1] => some ((gzL_node a0 a1), [.d (.i .i64) (zL_node a0 a1)])
  | _ => none
noncomputable def mu36 : List Dt → Nat
  | [.d (.sl .node) a0, .d (.i .i64) a1] => mzL_node a0 a1
  | _ => 0
noncomputable def s36r (N : Nat) : Gm.Spec := Gm.Spec.of [.ro, .ro] [false] true (qlt mu36 N q36)
noncomputable def s36 : Gm.Spec := Gm.Spec.of [.ro, .ro] [false] true q36
/-! ### loop.example/g00465/laws.szNode -/
noncomputable def f8c : Code := (Try.f8.body).getD .skip
def f8k : Nat → Kp := kat [⟨[1, 2], [], [], []⟩, ⟨[1, 2], [], [], []⟩, ⟨[1, 2, 11], [], [], []⟩, ⟨[4], [], [], []⟩, ⟨[1, 2], [], [], []⟩, ⟨[1, 2, 17], [], [], []⟩, ⟨[4], [], [], []⟩, ⟨[1], [], [], []⟩, ⟨[1, 23], [], [], []⟩, ⟨[4], [], [], []⟩, ⟨[4], [], [], []⟩]
noncomputable def f8e (N : Nat) : Env := tab.env [(17, s17), (36, s36r N)]
theorem f8_run {R : Type} (N : Nat) (n : Nat) (k : List Dt → Option R) (a0 : NodeT) (a1 : Int) : evFn (f8e N) f8k n f8c [.ro, .ro] [false] true [.tmp 4] [3] [.d .node a0, .d (.i .i64) a1] k =
    (cond (decide ((IntKind.wrap .i64 (a1 - (ByteArray.size (NodeT.s a0) : Int))) < (0 : Int)))
    (k [.d (.i .i64) (-1 : Int)])
    (cond (gzL_str (NodeT.keys a0) (IntKind.wrap .i64 (a1 - (ByteArray.size (NodeT.s a0) : Int))))
      (cond (decide ((zL_str (NodeT.keys a0) (IntKind.wrap .i64 (a1 - (ByteArray.size (NodeT.s a0) : Int)))) < (0 : Int)))
        (k [.d (.i .i64) (-1 : Int)])
        (cond ((gzL_node (NodeT.kids a0) (zL_str (NodeT.keys a0) (IntKind.wrap .i64 (a1 - (ByteArray.size (NodeT.s a0) : Int))))) && (Nat.blt (mzL_node (NodeT.kids a0) (zL_str (NodeT.keys a0) (IntKind.wrap .i64 (a1 - (ByteArray.size (NodeT.s a0) : Int))))) N))
          (cond (decide ((zL_node (NodeT.kids a0) (zL_str (NodeT.keys a0) (IntKind.wrap .i64 (a1 - (ByteArray.size (NodeT.s a0) : Int))))) < (0 : Int)))
            (k [.d (.i .i64) (-1 : Int)])
            (k [.d (.i .i64) (zL_node (NodeT.kids a0) (zL_str (NodeT.keys a0) (IntKind.wrap .i64 (a1 - (ByteArray.size (NodeT.s a0) : Int)))))]))
          none))
      none)) := by kernel_rfl
theorem f8_spec (N : Nat) (a0 : NodeT) (a1 : Int) (hg : gz_node a0 a1 = true) (hm : mu8 [.d .node a0, .d (.i .i64) a1] = N) : ∃ keep rounds, ∀ {R : Type} (k : List Dt → Option R), evFn (f8e N) keep rounds f8c [.ro, .ro] [false] true [.tmp 4] [3] [.d .node a0, .d (.i .i64) a1] k = k [.d (.i .i64) (z_node a0 a1)] := by
  have hm : mz_node a0 a1 = N := hm
  subst hm
  simp only [gz_node, ok_node_def, Bool.and_eq_true, okN_iff] at hg
  obtain ⟨⟨hf_kind, hf_n, hf_s, hf_keys, hf_kids⟩, hn1, hn2⟩ := hg
  have hf_sb : a0.s.size ≤ 9223372036854775807 := bleN hf_s
  have eN := szN_node_def a0
  refine ⟨f8k, 0, fun {R} k => ?_⟩
  rw [f8_run]
  show _ = k [.d (.i .i64) (z_node a0 a1)]
  unfold z_node
  rw [wrap_id (x := a1 - ((a0.s.size : Nat) : Int)) (by omega) (by omega)]
  by_cases h1 : a1 - ((a0.s.size : Nat) : Int) < 0
  · simp only [h1, decide_true, cond_true]; rw [szI_neg (by omega)]
  simp only [h1, decide_false, cond_false]
  have g2 : gzL_str a0.keys (a1 - ((a0.s.size : Nat) : Int)) = true := by simp only [gzL_str, Bool.and_eq_true, okN_iff]; exact ⟨hf_keys, by omega, by omega⟩
  have z2 : zL_str a0.keys (a1 - ((a0.s.size : Nat) : Int)) = szI (szL ByteArray.size a0.keys) (a1 - ((a0.s.size : Nat) : Int)) := rfl
  rw [g2, z2]
  by_cases h2 : (a1 - ((a0.s.size : Nat) : Int)) - ((szL ByteArray.size a0.keys : Nat) : Int) < 0
  · rw [szI_neg h2, szI_neg (by omega)]; rfl
  rw [szI_pos h2]
  simp only [cond_true, h2, decide_false, cond_false, Bool.and_self]
  have g3 : gzL_node a0.kids ((a1 - ((a0.s.size : Nat) : Int)) - ((szL ByteArray.size a0.keys : Nat) : Int)) = true := by simp only [gzL_node, Bool.and_eq_true, okN_iff]; exact ⟨hf_kids, by omega, by omega⟩
  have m3 : Nat.blt (mzL_node a0.kids ((a1 - ((a0.s.size : Nat) : Int)) - ((szL ByteArray.size a0.keys : Nat) : Int))) (mz_node a0 a1) = true := by rw [Nat.blt_eq]; simp only [mzL_node, mz_node, nd_node_def]; omega
  have z3 : zL_node a0.kids ((a1 - ((a0.s.size : Nat) : Int)) - ((szL ByteArray.size a0.keys : Nat) : Int)) = szI (szL szN_node a0.kids) ((a1 - ((a0.s.size : Nat) : Int)) - ((szL ByteArray.size a0.keys : Nat) : Int)) := rfl
  rw [g3, m3, z3]
  by_cases h3 : ((a1 - ((a0.s.size : Nat) : Int)) - ((szL ByteArray.size a0.keys : Nat) : Int)) - ((szL szN_node a0.kids : Nat) : Int) < 0
  · rw [szI_neg h3, szI_neg (by omega)]; rfl
  rw [szI_pos h3]
  simp only [cond_true, h3, decide_false, cond_false, Bool.and_self]
  rw [szI_pos (by omega)]
  first
    | rfl
    | rw [show (((a1 - ((a0.s.size : Nat) : Int)) - ((szL ByteArray.size a0.keys : Nat) : Int)) - ((szL szN_node a0.kids : Nat) : Int)) = a1 - ((szN_node a0 : Nat) : Int) by omega]


/-! ### loop.example/g00465/laws.szNodeS -/
noncomputable def f36c : Code := (Try.f36.body).getD .skip
def f36k : Nat → Kp := kat [⟨[0, 1], [], [], []⟩, ⟨[0, 1], [], [], []⟩, ⟨[0, 1, 11], [], [], []⟩, ⟨[4], [], [], []⟩, ⟨[0, 1, 5], [], [], []⟩, ⟨[0, 1, 5, 15], [], [], []⟩, ⟨[0, 1, 5], [], [], []⟩, ⟨[0, 1, 5], [], [], []⟩, ⟨[0, 1, 5, 25], [], [], []⟩, ⟨[4], [], [], []⟩, ⟨[4], [], [], []⟩]
noncomputable def f36e (N : Nat) : Env := tab.env [(8, s8r N)]
noncomputable def f36L0 {R : Type} (N : Nat) (n : Nat) (x0 : Option R) (x1 : Int → Int → Bool → Option R) (vs0 : List NodeT) : Nat → Int → Int → Option R
  | 0, _, _ => none
  | m + 1, vs1, vs5 =>
    (cond (decide (vs5 < (vs0.length : Int)))
      (cond ((decide ((0 : Int) ≤ vs5)) && (decide (vs5 < (vs0.length : Int))))
        (cond ((gz_node (⟨(NodeT.kind (atI (t := .node) vs0 (Int.toNat vs5))), (NodeT.n (atI (t := .node) vs0 (Int.toNat vs5))), (NodeT.s (atI (t := .node) vs0 (Int.toNat vs5))), (NodeT.keys (atI (t := .node) vs0 (Int.toNat vs5))), (NodeT.kids (atI (t := .node) vs0 (Int.toNat vs5)))⟩ : NodeT) vs1) && (Nat.blt (mz_node (⟨(NodeT.kind (atI (t := .node) vs0 (Int.toNat vs5))), (NodeT.n (atI (t := .node) vs0 (Int.toNat vs5))), (NodeT.s (atI (t := .node) vs0 (Int.toNat vs5))), (NodeT.keys (atI (t := .node) vs0 (Int.toNat vs5))), (NodeT.kids (atI (t := .node) vs0 (Int.toNat vs5)))⟩ : NodeT) vs1) N))
          (cond (decide ((z_node (⟨(NodeT.kind (atI (t := .node) vs0 (Int.toNat vs5))), (NodeT.n (atI (t := .node) vs0 (Int.toNat vs5))), (NodeT.s (atI (t := .node) vs0 (Int.toNat vs5))), (NodeT.keys (atI (t := .node) vs0 (Int.toNat vs5))), (NodeT.kids (atI (t := .node) vs0 (Int.toNat vs5)))⟩ : NodeT) vs1) < (0 : Int)))
            (x0)
            (f36L0 N n x0 x1 vs0 m (z_node (⟨(NodeT.kind (atI (t := .node) vs0 (Int.toNat vs5))), (NodeT.n (atI (t := .node) vs0 (Int.toNat vs5))), (NodeT.s (atI (t := .node) vs0 (Int.toNat vs5))), (NodeT.keys (atI (t := .node) vs0 (Int.toNat vs5))), (NodeT.kids (atI (t := .node) vs0 (Int.toNat vs5)))⟩ : NodeT) vs1) (IntKind.wrap .i64 (vs5 + (1 : Int)))))
          none)
        none)
      (x1 vs1 vs5 (decide (vs5 < (vs0.length : Int)))))
theorem f36L0_b {R : Type} (N : Nat) (n : Nat) (k' : Ex → St → Option R) (vs0 : List NodeT) (vs1 : Int) (vs5 : Int) : ev (f36e N) f36k n (cAt [1,1,1,0,1,0,0] f36c) ⟨[(0, .c (.one (.ro .node vs0))), (1, .c (.one (.v (.int .i64 vs1)))), (5, .c (.one (.v (.int .i64 vs5))))], [], []⟩ k' =
    (cond (decide (vs5 < (vs0.length : Int)))
    (cond ((decide ((0 : Int) ≤ vs5)) && (decide (vs5 < (vs0.length : Int))))
      (cond ((gz_node (⟨(NodeT.kind (atI (t := .node) vs0 (Int.toNat vs5))), (NodeT.n (atI (t := .node) vs0 (Int.toNat vs5))), (NodeT.s (atI (t := .node) vs0 (Int.toNat vs5))), (NodeT.keys (atI (t := .node) vs0 (Int.toNat vs5))), (NodeT.kids (atI (t := .node) vs0 (Int.toNat vs5)))⟩ : NodeT) vs1) && (Nat.blt (mz_node (⟨(NodeT.kind (atI (t := .node) vs0 (Int.toNat vs5))), (NodeT.n (atI (t := .node) vs0 (Int.toNat vs5))), (NodeT.s (atI (t := .node) vs0 (Int.toNat vs5))), (NodeT.keys (atI (t := .node) vs0 (Int.toNat vs5))), (NodeT.kids (atI (t := .node) vs0 (Int.toNat vs5)))⟩ : NodeT) vs1) N))
        (cond (decide ((z_node (⟨(NodeT.kind (atI (t := .node) vs0 (Int.toNat vs5))), (NodeT.n (atI (t := .node) vs0 (Int.toNat vs5))), (NodeT.s (atI (t := .node) vs0 (Int.toNat vs5))), (NodeT.keys (atI (t := .node) vs0 (Int.toNat vs5))), (NodeT.kids (atI (t := .node) vs0 (Int.toNat vs5)))⟩ : NodeT) vs1) < (0 : Int)))
          (k' .ret ⟨[(4, .c (.one (.v (.int .i64 (-1 : Int)))))], [], []⟩)
          (k' .normal ⟨[(0, .c (.one (.ro .node vs0))), (1, .c (.one (.v (.int .i64 (z_node (⟨(NodeT.kind (atI (t := .node) vs0 (Int.toNat vs5))), (NodeT.n (atI (t := .node) vs0 (Int.toNat vs5))), (NodeT.s (atI (t := .node) vs0 (Int.toNat vs5))), (NodeT.keys (atI (t := .node) vs0 (Int.toNat vs5))), (NodeT.kids (atI (t := .node) vs0 (Int.toNat vs5)))⟩ : NodeT) vs1))))), (5, .c (.one (.v (.int .i64 (IntKind.wrap .i64 (vs5 + (1 : Int)))))))], [], []⟩))
        none)
      none)
    (k' (.exit 0) ⟨[(0, .c (.one (.ro .node vs0))), (1, .c (.one (.v (.int .i64 vs1)))), (5, .c (.one (.v (.int .i64 vs5)))), (15, .c (.one (.v (.bool (decide (vs5 < (vs0.length : Int)))))))], [], []⟩)) := by kernel_rfl
theorem f36L0_eq {R : Type} (N : Nat) (n : Nat) (k' : Ex → St → Option R) (vs0 : List NodeT) : ∀ (m : Nat) (vs1 : Int) (vs5 : Int), iter (fun st k => ev (f36e N) f36k n (cAt [1,1,1,0,1,0,0] f36c) st k) m ⟨[(0, .c (.one (.ro .node vs0))), (1, .c (.one (.v (.int .i64 vs1)))), (5, .c (.one (.v (.int .i64 vs5))))], [], []⟩ k' = f36L0 N n (k' .ret ⟨[(4, .c (.one (.v (.int .i64 (-1 : Int)))))], [], []⟩) (fun (xvs1 : Int) (xvs5 : Int) (xvs15 : Bool) => k' (.exit 0) ⟨[(0, .c (.one (.ro .node vs0))), (1, .c (.one (.v (.int .i64 xvs1)))), (5, .c (.one (.v (.int .i64 xvs5)))), (15, .c (.one (.v (.bool xvs15))))], [], []⟩) vs0 m vs1 vs5 := by
  intro m; induction m with
  | zero => intros; rfl
  | succ m ih =>
    intro vs1 vs5
    simp only [iter]
    rw [f36L0_b]
    simp only [ih, f36L0]

noncomputable def f36K0 {R : Type} (N : Nat) (n : Nat) (k' : Ex → St → Option R) : Ex → St → Option R := (blockK 0 (seqK (f36e N) f36k n (cAt [1,1,1,1] f36c) k'))
theorem f36K0_x0 {R : Type} (N : Nat) (n : Nat) (k : List Dt → Option R) (a0 : List NodeT) (a1 : Int)  : f36K0 N n (exitK (f36e N) [.ro, .ro] [false] true [.tmp 4] [3] [.d (.sl .node) a0, .d (.i .i64) a1] k) .ret ⟨[(4, .c (.one (.v (.int .i64 (-1 : Int)))))], [], []⟩ =
    (k [.d (.i .i64) (-1 : Int)]) := by kernel_rfl
theorem f36K0_x1 {R : Type} (N : Nat) (n : Nat) (k : List Dt → Option R) (a0 : List NodeT) (a1 : Int) (vs0 : List NodeT) (xvs1 : Int) (xvs5 : Int) (xvs15 : Bool) : f36K0 N n (exitK (f36e N) [.ro, .ro] [false] true [.tmp 4] [3] [.d (.sl .node) a0, .d (.i .i64) a1] k) (.exit 0) ⟨[(0, .c (.one (.ro .node vs0))), (1, .c (.one (.v (.int .i64 xvs1)))), (5, .c (.one (.v (.int .i64 xvs5)))), (15, .c (.one (.v (.bool xvs15))))], [], []⟩ =
    (k [.d (.i .i64) xvs1]) := by kernel_rfl

theorem f36_run {R : Type} (N : Nat) (n : Nat) (k : List Dt → Option R) (a0 : List NodeT) (a1 : Int) : evFn (f36e N) f36k n f36c [.ro, .ro] [false] true [.tmp 4] [3] [.d (.sl .node) a0, .d (.i .i64) a1] k =
    (cond (decide ((IntKind.wrap .i64 (a1 - (a0.length : Int))) < (0 : Int)))
    (k [.d (.i .i64) (-1 : Int)])
    (f36L0 N n (k [.d (.i .i64) (-1 : Int)]) (fun (xvs1 : Int) (xvs5 : Int) (xvs15 : Bool) =>
      (k [.d (.i .i64) xvs1])) a0 n (IntKind.wrap .i64 (a1 - (a0.length : Int))) (0 : Int))) := by
  refine Eq.trans (b := (cond (decide ((IntKind.wrap .i64 (a1 - (a0.length : Int))) < (0 : Int)))
    (k [.d (.i .i64) (-1 : Int)])
    (iter (fun st k => ev (f36e N) f36k n (cAt [1,1,1,0,1,0,0] f36c) st k) n ⟨[(0, .c (.one (.ro .node a0))), (1, .c (.one (.v (.int .i64 (IntKind.wrap .i64 (a1 - (a0.length : Int))))))), (5, .c (.one (.v (.int .i64 (0 : Int)))))], [], []⟩ (f36K0 N n (exitK (f36e N) [.ro, .ro] [false] true [.tmp 4] [3] [.d (.sl .node) a0, .d (.i .i64) a1] k))))) (by kernel_rfl) ?_
  simp only [f36L0_eq, f36K0_x0, f36K0_x1]
theorem f36_spec (N : Nat) (a0 : List NodeT) (a1 : Int) (hg : gzL_node a0 a1 = true) (hm : mu36 [.d (.sl .node) a0, .d (.i .i64) a1] = N) : ∃ keep rounds, ∀ {R : Type} (k : List Dt → Option R), evFn (f36e N) keep rounds f36c [.ro, .ro] [false] true [.tmp 4] [3] [.d (.sl .node) a0, .d (.i .i64) a1] k = k [.d (.i .i64) (zL_node a0 a1)] := by
  have hm : mzL_node a0 a1 = N := hm
  subst hm
  simp only [gzL_node, okL, Bool.and_eq_true, okN_iff] at hg
  obtain ⟨⟨hl, hs⟩, hn⟩ := hg
  have hl : a0.length ≤ 9223372036854775807 := bleN hl
  refine ⟨f36k, a0.length + 1, fun {R} k => ?_⟩
  rw [f36_run, wrap_id (x := a1 - (a0.length : Int)) (by omega) (by omega)]
  show _ = k [.d (.i .i64) (zL_node a0 a1)]
  unfold zL_node
  have eL : szL szN_node a0 = a0.length + (a0.map szN_node).sum := rfl
  by_cases hc : a1 - (a0.length : Int) < 0
  · simp only [hc, decide_true, cond_true]
    rw [szI_neg (by omega)]
  · simp only [hc, decide_false, cond_false]
    refine Eq.trans (loop_fold (xs := a0) (F := fun m j left => f36L0 (mzL_node a0 a1) (a0.length + 1) _ _ a0 m left (j : Int)) (step := szStep szN_node)
      (out := fun _ => k [.d (.i .i64) (-1 : Int)]) (good := fun left => k [.d (.i .i64) left]) (fun n => 0 ≤ n ∧ n ≤ 1048576)
      (fun x n n' hx hn h => by
        unfold szStep at h
        split at h
        · cases h
        · cases h; omega)
      (fun m j n x hx hn => ?_)
      (fun m n hn => by simp only [f36L0, idxE, cond_false]) a0.length 0 (a0.length + 1) (a1 - (a0.length : Int)) (by omega) (by omega) (by omega)) ?_
    · obtain ⟨h1, h0, hw, ht⟩ := idx (lt_of_get hx) (by omega)
      have hmem := List.mem_of_getElem? hx
      have hx2 := List.all_eq_true.1 hs x hmem
      have hb : Nat.blt (mz_node x n) (mzL_node a0 a1) = true := by
        have := ndL_mem (f := nd_node) hmem
        rw [Nat.blt_eq]; simp only [mz_node, mzL_node]; omega
      have hg2 : gz_node x n = true := by simp only [gz_node, Bool.and_eq_true, okN_iff]; exact ⟨hx2, by omega, by omega⟩
      have hz : z_node x n = szI (szN_node x) n := rfl
      simp only [f36L0, h1, h0, hw, ht, atI_of (t := .node) hx, Bool.and_self, cond_true, eta_node, hg2, hz, hb]
      unfold szStep
      by_cases h : n - (szN_node x : Int) < 0
      · rw [szI_neg h]; simp only [h, if_true, Sum.elim_inl]; rfl
      · rw [szI_pos h]; simp only [h, decide_false, cond_false, if_false, Sum.elim_inr]
    · rw [List.drop_zero, sz_fold _ _ _ (by omega)]
      by_cases h2 : a1 - (a0.length : Int) - ((a0.map szN_node).sum : Nat) < 0
      · rw [if_pos h2, szI_neg (by omega)]; rfl
      · rw [if_neg h2, szI_pos (by omega)]
        simp only [Sum.elim_inr]
        rw [show a1 - (a0.length : Int) - ((a0.map szN_node).sum : Nat) = a1 - (szL szN_node a0 : Nat) by omega]


theorem goods8 : ∀ x ∈ ([⟨8, [.ro, .ro], [false], true, mu8, q8⟩, ⟨36, [.ro, .ro], [false], true, mu36, q36⟩] : List Rc), Gm.SpecOk Try.prog x.f (Gm.Spec.of x.ms x.rs x.ow x.q) := by
  refine spec_recs _ fun N hr => ?_
  have hr1 : Gm.SpecOk Try.prog 8 (Gm.Spec.of [.ro, .ro] [false] true (qlt mu8 N q8)) := fun {R} => hr _ (.head _)
  have hr2 : Gm.SpecOk Try.prog 36 (Gm.Spec.of [.ro, .ro] [false] true (qlt mu36 N q36)) := fun {R} => hr _ (.tail _ (.head _))
  refine List.forall_mem_cons.2 ⟨?_, List.forall_mem_cons.2 ⟨?_, List.forall_mem_nil _⟩⟩
  · have hl : ∀ x ∈ ([(17, s17), (36, s36r N)] : List (Nat × Gm.Spec)), Gm.Good Try.prog x := List.forall_mem_cons.2 ⟨good17, List.forall_mem_cons.2 ⟨⟨⟨hr2, _, Try.func36, by kernel_rfl, of_decide_eq_true (by kernel_rfl)⟩, Gm.Spec.of_natl _ _ _ _⟩, List.forall_mem_nil _⟩⟩
    show Gm.SpecOk Try.prog 8 (Gm.Spec.of [.ro, .ro] [false] true (qeq mu8 N q8))
    intro R
    refine spec_ok (E := f8e N) (tab_ok.env hl) (tab.natl hl) Try.func8 (by kernel_rfl : Try.f8.body = some f8c) [3] (by kernel_rfl) ?_
    intro ds outs h
    obtain ⟨h, hm⟩ := qeq_some h
    unfold q8 at h
    split at h
    · simp only [Option.some.injEq, Prod.mk.injEq] at h; obtain ⟨hg, h⟩ := h; cases h; exact f8_spec N _ _ hg hm
    · cases h
  · have hl : ∀ x ∈ ([(8, s8r N)] : List (Nat × Gm.Spec)), Gm.Good Try.prog x := List.forall_mem_cons.2 ⟨⟨⟨hr1, _, Try.func8, by kernel_rfl, of_decide_eq_true (by kernel_rfl)⟩, Gm.Spec.of_natl _ _ _ _⟩, List.forall_mem_nil _⟩
    show Gm.SpecOk Try.prog 36 (Gm.Spec.of [.ro, .ro] [false] true (qeq mu36 N q36))
    intro R
    refine spec_ok (E := f36e N) (tab_ok.env hl) (tab.natl hl) Try.func36 (by kernel_rfl : Try.f36.body = some f36c) [3] (by kernel_rfl) ?_
    intro ds outs h
    obtain ⟨h, hm⟩ := qeq_some h
    unfold q36 at h
    split at h
    · simp only [Option.some.injEq, Prod.mk.injEq] at h; obtain ⟨hg, h⟩ := h; cases h; exact f36_spec N _ _ hg hm
    · cases h
theorem good8 : Gm.Good Try.prog (8, s8) := ⟨⟨fun {R} => goods8 _ (.head _), _, Try.func8, by kernel_rfl, of_decide_eq_true (by kernel_rfl)⟩, Gm.Spec.of_natl _ _ _ _⟩
theorem good36 : Gm.Good Try.prog (36, s36) := ⟨⟨fun {R} => goods8 _ (.tail _ (.head _)), _, Try.func36, by kernel_rfl, of_decide_eq_true (by kernel_rfl)⟩, Gm.Spec.of_natl _ _ _ _⟩
/-! ### loop.example/g00465/laws.toStringS -/
noncomputable def f19c : Code := (Try.f19.body).getD .skip
def f19k : Nat → Kp := kat [⟨[0], [], [], []⟩, ⟨[0, 3], [], [], []⟩, ⟨[0, 3, 4], [], [], []⟩, ⟨[0, 3, 4, 11], [], [], []⟩, ⟨[0, 3, 4], [], [], []⟩, ⟨[0, 3, 4], [], [], []⟩, ⟨[2], [], [], []⟩]
noncomputable def f19e : Env := tab.env []
noncomputable def f19L0 {R : Type} (n : Nat) (x0 : Int → Bool → (List ByteArray) → Option R) (vs0 : List ByteArray) : Nat → Int → (List ByteArray) → Option R
  | 0, _, _ => none
  | m + 1, vs4, vr448 =>
    (cond (decide (vs4 < (vs0.length : Int)))
      (cond ((decide ((0 : Int) ≤ vs4)) && (decide (vs4 < (vs0.length : Int))))
        (cond ((decide ((0 : Int) ≤ vs4)) && (decide (vs4 < (vr448.length : Int))))
          (f19L0 n x0 vs0 m (IntKind.wrap .i64 (vs4 + (1 : Int))) (vr448.set (Int.toNat vs4) (atI (t := .str) vs0 (Int.toNat vs4))))
          none)
        none)
      (x0 vs4 (decide (vs4 < (vs0.length : Int))) vr448))
theorem f19L0_b {R : Type} (n : Nat) (k' : Ex → St → Option R) (vs0 : List ByteArray) (vs4 : Int) (vr448 : List ByteArray) : ev f19e f19k n (cAt [1,1,0,1,0,0] f19c) ⟨[(0, .c (.one (.ro .str vs0))), (3, .c (.one (.h 448 0 0 []))), (4, .c (.one (.v (.int .i64 vs4))))], [], [(448, .live ⟨.str, .deep, 0, [], vr448⟩)]⟩ k' =
    (cond (decide (vs4 < (vs0.length : Int)))
    (cond ((decide ((0 : Int) ≤ vs4)) && (decide (vs4 < (vs0.length : Int))))
      (cond ((decide ((0 : Int) ≤ vs4)) && (decide (vs4 < (vr448.length : Int))))
        (k' .normal ⟨[(0, .c (.one (.ro .str vs0))), (3, .c (.one (.h 448 0 0 []))), (4, .c (.one (.v (.int .i64 (IntKind.wrap .i64 (vs4 + (1 : Int)))))))], [], [(448, .live ⟨.str, .deep, 0, [], (vr448.set (Int.toNat vs4) (atI (t := .str) vs0 (Int.toNat vs4)))⟩)]⟩)
        none)
      none)
    (k' (.exit 0) ⟨[(0, .c (.one (.ro .str vs0))), (3, .c (.one (.h 448 0 0 []))), (4, .c (.one (.v (.int .i64 vs4)))), (11, .c (.one (.v (.bool (decide (vs4 < (vs0.length : Int)))))))], [], [(448, .live ⟨.str, .deep, 0, [], vr448⟩)]⟩)) := by kernel_rfl
theorem f19L0_eq {R : Type} (n : Nat) (k' : Ex → St → Option R) (vs0 : List ByteArray) : ∀ (m : Nat) (vs4 : Int) (vr448 : List ByteArray), iter (fun st k => ev f19e f19k n (cAt [1,1,0,1,0,0] f19c) st k) m ⟨[(0, .c (.one (.ro .str vs0))), (3, .c (.one (.h 448 0 0 []))), (4, .c (.one (.v (.int .i64 vs4))))], [], [(448, .live ⟨.str, .deep, 0, [], vr448⟩)]⟩ k' = f19L0 n (fun (xvs4 : Int) (xvs11 : Bool) (xvr448 : List ByteArray) => k' (.exit 0) ⟨[(0, .c (.one (.ro .str vs0))), (3, .c (.one (.h 448 0 0 []))), (4, .c (.one (.v (.int .i64 xvs4)))), (11, .c (.one (.v (.bool xvs11))))], [], [(448, .live ⟨.str, .deep, 0, [], xvr448⟩)]⟩) vs0 m vs4 vr448 := by
  intro m; induction m with
  | zero => intros; rfl
  | succ m ih =>
    intro vs4 vr448
    simp only [iter]
    rw [f19L0_b]
    simp only [ih, f19L0]

noncomputable def f19K0 {R : Type} (n : Nat) (k' : Ex → St → Option R) : Ex → St → Option R := (blockK 0 (seqK f19e f19k n (cAt [1,1,1] f19c) k'))
theorem f19K0_x0 {R : Type} (n : Nat) (k : List Dt → Option R) (a0 : List ByteArray) (vs0 : List ByteArray) (xvs4 : Int) (xvs11 : Bool) (xvr448 : List ByteArray) : f19K0 n (exitK f19e [.ro] [false] true [.tmp 2] [22] [.d (.sl .str) a0] k) (.exit 0) ⟨[(0, .c (.one (.ro .str vs0))), (3, .c (.one (.h 448 0 0 []))), (4, .c (.one (.v (.int .i64 xvs4)))), (11, .c (.one (.v (.bool xvs11))))], [], [(448, .live ⟨.str, .deep, 0, [], xvr448⟩)]⟩ =
    (k [.d (.sl .str) xvr448]) := by kernel_rfl

theorem f19_run {R : Type} (n : Nat) (k : List Dt → Option R) (a0 : List ByteArray) : evFn f19e f19k n f19c [.ro] [false] true [.tmp 2] [22] [.d (.sl .str) a0] k =
    (cond ((decide ((a0.length : Int) = (a0.length : Int))) && ((decide ((0 : Int) ≤ (a0.length : Int))) && (decide ((a0.length : Int) ≤ (LIM : Int)))))
    (f19L0 n (fun (xvs4 : Int) (xvs11 : Bool) (xvr448 : List ByteArray) =>
      (k [.d (.sl .str) xvr448])) a0 n (0 : Int) (List.replicate (Int.toNat (a0.length : Int)) ByteArray.empty))
    none) := by
  refine Eq.trans (b := (cond ((decide ((a0.length : Int) = (a0.length : Int))) && ((decide ((0 : Int) ≤ (a0.length : Int))) && (decide ((a0.length : Int) ≤ (LIM : Int)))))
    (iter (fun st k => ev f19e f19k n (cAt [1,1,0,1,0,0] f19c) st k) n ⟨[(0, .c (.one (.ro .str a0))), (3, .c (.one (.h 448 0 0 []))), (4, .c (.one (.v (.int .i64 (0 : Int)))))], [], [(448, .live ⟨.str, .deep, 0, [], (List.replicate (Int.toNat (a0.length : Int)) ByteArray.empty)⟩)]⟩ (f19K0 n (exitK f19e [.ro] [false] true [.tmp 2] [22] [.d (.sl .str) a0] k)))
    none)) (by kernel_rfl) ?_
  simp only [f19L0_eq, f19K0_x0]
theorem f19_spec (a0 : List ByteArray) (hg : smL smStr a0 = true) : ∃ keep rounds, ∀ {R : Type} (k : List Dt → Option R), evFn f19e keep rounds f19c [.ro] [false] true [.tmp 2] [22] [.d (.sl .str) a0] k = k [.d (.sl .str) a0] := by
  have hl : a0.length ≤ 1048576 := smL_len hg
  have hs := smL_all hg
  refine ⟨f19k, a0.length + 1, fun k => ?_⟩
  rw [f19_run, mkOk hl]
  simp only [cond_true]
  have := loop_copy (xs := a0) (f := fun x => x) (F := fun m j out => f19L0 (a0.length + 1) (fun (xvs4 : Int) (xvs11 : Bool) (xvr448 : List ByteArray) => (k [.d (.sl .str) xvr448])) a0 m (j : Int) out) (good := fun out => k [.d (.sl .str) out]) ByteArray.empty
    (fun m j out x hx hl' => by
      obtain ⟨h1, h0, hw, ht⟩ := idx (lt_of_get hx) (by omega)
      obtain ⟨h2, _, _, _⟩ := idx (show j < out.length by rw [hl']; exact lt_of_get hx) (by omega)
      have hx2 := List.all_eq_true.1 hs x (List.mem_of_getElem? hx)
      simp only [f19L0, h1, h0, h2, hw, ht, atI_of (t := .str) hx, Bool.and_self, cond_true])
    (fun m out => by simp only [f19L0, idxE, cond_false]) a0.length 0 (a0.length + 1) (by omega) (by omega)
  simpa using this

noncomputable def q19 : List Dt → Option (Bool × List Dt)
  | [.d (.sl .str) a0] => some ((smL smStr a0), [.d (.sl .str) a0])
  | _ => none
noncomputable def s19 : Gm.Spec := Gm.Spec.of [.ro] [false] true q19
theorem good19 : Gm.Good Try.prog (19, s19) := by
  have hl : ∀ x ∈ ([] : List (Nat × Gm.Spec)), Gm.Good Try.prog x := fun _ h => by cases h
  refine ⟨⟨spec_ok (tab_ok.env hl) (tab.natl hl) Try.func19 (by kernel_rfl : Try.f19.body = some f19c) [22] (by kernel_rfl) ?_, _, Try.func19, by kernel_rfl, of_decide_eq_true (by kernel_rfl)⟩, Gm.Spec.of_natl _ _ _ _⟩
  intro ds outs h
  unfold q19 at h
  split at h
  · simp only [Option.some.injEq, Prod.mk.injEq] at h; obtain ⟨hg, h⟩ := h; cases h; exact f19_spec _ hg
  · cases h
noncomputable def q10 : List Dt → Option (Bool × List Dt)
  | [.d .node a0] => some ((sm_node a0), [.d .node a0])
  | _ => none
noncomputable def mu10 : List Dt → Nat
  | [.d .node a0] => mt_node a0
  | _ => 0
noncomputable def s10r (N : Nat) : Gm.Spec := Gm.Spec.of [.ro] [false] true (qlt mu10 N q10)
noncomputable def s10 : Gm.Spec := Gm.Spec.of [.ro] [false] true q10
noncomputable def q38 : List Dt → Option (Bool × List Dt)
  | [.d (.sl .node) a0] => some ((smL sm_node a0), [.d (.sl .node) a0])
  | _ => none
noncomputable def mu38 : List Dt → Nat
  | [.d (.sl .node) a0] => mtL_node a0
  | _ => 0
noncomputable def s38r (N : Nat) : Gm.Spec := Gm.Spec.of [.ro] [false] true (qlt mu38 N q38)
noncomputable def s38 : Gm.Spec := Gm.Spec.of [.ro] [false] true q38
/-! ### loop.example/g00465/laws.toNode -/
noncomputable def f10c : Code := (Try.f10.body).getD .skip
def f10k : Nat → Kp := kat [⟨[1, 2], [], [], []⟩, ⟨[1, 2, 3], [], [], []⟩, ⟨[1, 2, 3], [], [], []⟩, ⟨[1, 2, 3], [], [], []⟩, ⟨[1, 2, 3], [], [], []⟩, ⟨[1, 2, 3], [], [], []⟩, ⟨[2, 3], [], [], []⟩, ⟨[2], [], [], []⟩]
noncomputable def f10e (N : Nat) : Env := tab.env [(19, s19), (38, s38r N)]
theorem f10_run {R : Type} (N : Nat) (n : Nat) (k : List Dt → Option R) (a0 : NodeT) : evFn (f10e N) f10k n f10c [.ro] [false] true [.cell 2 31] [31] [.d .node a0] k =
    (cond (smL smStr (NodeT.keys a0))
    (cond ((smL sm_node (NodeT.kids a0)) && (Nat.blt (mtL_node (NodeT.kids a0)) N))
      (k [.d .node (⟨(NodeT.kind a0), (NodeT.n a0), (NodeT.s a0), (NodeT.keys a0), (NodeT.kids a0)⟩ : NodeT)])
      none)
    none) := by kernel_rfl
theorem f10_spec (N : Nat) (a0 : NodeT) (hg : sm_node a0 = true) (hm : mu10 [.d .node a0] = N) : ∃ keep rounds, ∀ {R : Type} (k : List Dt → Option R), evFn (f10e N) keep rounds f10c [.ro] [false] true [.cell 2 31] [31] [.d .node a0] k = k [.d .node a0] := by
  have hm : mt_node a0 = N := hm
  subst hm
  have m1 : Nat.blt (mtL_node a0.kids) (mt_node a0) = true := by rw [Nat.blt_eq]; simp only [mtL_node, mt_node, nd_node_def]; omega
  simp only [sm_node_def, Bool.and_eq_true] at hg
  refine ⟨f10k, 0, fun {R} k => ?_⟩
  rw [f10_run]
  simp only [hg, m1, Bool.and_self, cond_true, eta_node]


/-! ### loop.example/g00465/laws.toNodeS -/
noncomputable def f38c : Code := (Try.f38.body).getD .skip
def f38k : Nat → Kp := kat [⟨[0], [], [], []⟩, ⟨[0, 3], [], [], []⟩, ⟨[0, 3, 4], [], [], []⟩, ⟨[0, 3, 4, 11], [], [], []⟩, ⟨[0, 3, 4], [], [], []⟩, ⟨[0, 3, 4], [], [], []⟩, ⟨[2], [], [], []⟩]
noncomputable def f38e (N : Nat) : Env := tab.env [(10, s10r N)]
noncomputable def f38v0 (vr448 : List NodeT) (vs4 : Int) (vs0 : List NodeT) : List NodeT :=
  (vr448.set (Int.toNat vs4) (⟨(NodeT.kind (⟨(NodeT.kind (atI (t := .node) vs0 (Int.toNat vs4))), (NodeT.n (atI (t := .node) vs0 (Int.toNat vs4))), (NodeT.s (atI (t := .node) vs0 (Int.toNat vs4))), (NodeT.keys (atI (t := .node) vs0 (Int.toNat vs4))), (NodeT.kids (atI (t := .node) vs0 (Int.toNat vs4)))⟩ : NodeT)), (NodeT.n (⟨(NodeT.kind (atI (t := .node) vs0 (Int.toNat vs4))), (NodeT.n (atI (t := .node) vs0 (Int.toNat vs4))), (NodeT.s (atI (t := .node) vs0 (Int.toNat vs4))), (NodeT.keys (atI (t := .node) vs0 (Int.toNat vs4))), (NodeT.kids (atI (t := .node) vs0 (Int.toNat vs4)))⟩ : NodeT)), (NodeT.s (⟨(NodeT.kind (atI (t := .node) vs0 (Int.toNat vs4))), (NodeT.n (atI (t := .node) vs0 (Int.toNat vs4))), (NodeT.s (atI (t := .node) vs0 (Int.toNat vs4))), (NodeT.keys (atI (t := .node) vs0 (Int.toNat vs4))), (NodeT.kids (atI (t := .node) vs0 (Int.toNat vs4)))⟩ : NodeT)), (NodeT.keys (⟨(NodeT.kind (atI (t := .node) vs0 (Int.toNat vs4))), (NodeT.n (atI (t := .node) vs0 (Int.toNat vs4))), (NodeT.s (atI (t := .node) vs0 (Int.toNat vs4))), (NodeT.keys (atI (t := .node) vs0 (Int.toNat vs4))), (NodeT.kids (atI (t := .node) vs0 (Int.toNat vs4)))⟩ : NodeT)), (NodeT.kids (⟨(NodeT.kind (atI (t := .node) vs0 (Int.toNat vs4))), (NodeT.n (atI (t := .node) vs0 (Int.toNat vs4))), (NodeT.s (atI (t := .node) vs0 (Int.toNat vs4))), (NodeT.keys (atI (t := .node) vs0 (Int.toNat vs4))), (NodeT.kids (atI (t := .node) vs0 (Int.toNat vs4)))⟩ : NodeT))⟩ : NodeT))
noncomputable def f38L0 {R : Type} (N : Nat) (n : Nat) (x0 : Int → Bool → (List NodeT) → Option R) (vs0 : List NodeT) : Nat → Int → (List NodeT) → Option R
  | 0, _, _ => none
  | m + 1, vs4, vr448 =>
    (cond (decide (vs4 < (vs0.length : Int)))
      (cond ((decide ((0 : Int) ≤ vs4)) && (decide (vs4 < (vs0.length : Int))))
        (cond ((sm_node (⟨(NodeT.kind (atI (t := .node) vs0 (Int.toNat vs4))), (NodeT.n (atI (t := .node) vs0 (Int.toNat vs4))), (NodeT.s (atI (t := .node) vs0 (Int.toNat vs4))), (NodeT.keys (atI (t := .node) vs0 (Int.toNat vs4))), (NodeT.kids (atI (t := .node) vs0 (Int.toNat vs4)))⟩ : NodeT)) && (Nat.blt (mt_node (⟨(NodeT.kind (atI (t := .node) vs0 (Int.toNat vs4))), (NodeT.n (atI (t := .node) vs0 (Int.toNat vs4))), (NodeT.s (atI (t := .node) vs0 (Int.toNat vs4))), (NodeT.keys (atI (t := .node) vs0 (Int.toNat vs4))), (NodeT.kids (atI (t := .node) vs0 (Int.toNat vs4)))⟩ : NodeT)) N))
          (cond ((decide ((0 : Int) ≤ vs4)) && (decide (vs4 < (vr448.length : Int))))
            (f38L0 N n x0 vs0 m (IntKind.wrap .i64 (vs4 + (1 : Int))) (f38v0 vr448 vs4 vs0))
            none)
          none)
        none)
      (x0 vs4 (decide (vs4 < (vs0.length : Int))) vr448))
theorem f38L0_b {R : Type} (N : Nat) (n : Nat) (k' : Ex → St → Option R) (vs0 : List NodeT) (vs4 : Int) (vr448 : List NodeT) : ev (f38e N) f38k n (cAt [1,1,0,1,0,0] f38c) ⟨[(0, .c (.one (.ro .node vs0))), (3, .c (.one (.h 448 0 0 []))), (4, .c (.one (.v (.int .i64 vs4))))], [], [(448, .live ⟨.node, .deep, 0, [], vr448⟩)]⟩ k' =
    (cond (decide (vs4 < (vs0.length : Int)))
    (cond ((decide ((0 : Int) ≤ vs4)) && (decide (vs4 < (vs0.length : Int))))
      (cond ((sm_node (⟨(NodeT.kind (atI (t := .node) vs0 (Int.toNat vs4))), (NodeT.n (atI (t := .node) vs0 (Int.toNat vs4))), (NodeT.s (atI (t := .node) vs0 (Int.toNat vs4))), (NodeT.keys (atI (t := .node) vs0 (Int.toNat vs4))), (NodeT.kids (atI (t := .node) vs0 (Int.toNat vs4)))⟩ : NodeT)) && (Nat.blt (mt_node (⟨(NodeT.kind (atI (t := .node) vs0 (Int.toNat vs4))), (NodeT.n (atI (t := .node) vs0 (Int.toNat vs4))), (NodeT.s (atI (t := .node) vs0 (Int.toNat vs4))), (NodeT.keys (atI (t := .node) vs0 (Int.toNat vs4))), (NodeT.kids (atI (t := .node) vs0 (Int.toNat vs4)))⟩ : NodeT)) N))
        (cond ((decide ((0 : Int) ≤ vs4)) && (decide (vs4 < (vr448.length : Int))))
          (k' .normal ⟨[(0, .c (.one (.ro .node vs0))), (3, .c (.one (.h 448 0 0 []))), (4, .c (.one (.v (.int .i64 (IntKind.wrap .i64 (vs4 + (1 : Int)))))))], [], [(448, .live ⟨.node, .deep, 0, [], (f38v0 vr448 vs4 vs0)⟩)]⟩)
          none)
        none)
      none)
    (k' (.exit 0) ⟨[(0, .c (.one (.ro .node vs0))), (3, .c (.one (.h 448 0 0 []))), (4, .c (.one (.v (.int .i64 vs4)))), (11, .c (.one (.v (.bool (decide (vs4 < (vs0.length : Int)))))))], [], [(448, .live ⟨.node, .deep, 0, [], vr448⟩)]⟩)) := by kernel_rfl
theorem f38L0_eq {R : Type} (N : Nat) (n : Nat) (k' : Ex → St → Option R) (vs0 : List NodeT) : ∀ (m : Nat) (vs4 : Int) (vr448 : List NodeT), iter (fun st k => ev (f38e N) f38k n (cAt [1,1,0,1,0,0] f38c) st k) m ⟨[(0, .c (.one (.ro .node vs0))), (3, .c (.one (.h 448 0 0 []))), (4, .c (.one (.v (.int .i64 vs4))))], [], [(448, .live ⟨.node, .deep, 0, [], vr448⟩)]⟩ k' = f38L0 N n (fun (xvs4 : Int) (xvs11 : Bool) (xvr448 : List NodeT) => k' (.exit 0) ⟨[(0, .c (.one (.ro .node vs0))), (3, .c (.one (.h 448 0 0 []))), (4, .c (.one (.v (.int .i64 xvs4)))), (11, .c (.one (.v (.bool xvs11))))], [], [(448, .live ⟨.node, .deep, 0, [], xvr448⟩)]⟩) vs0 m vs4 vr448 := by
  intro m; induction m with
  | zero => intros; rfl
  | succ m ih =>
    intro vs4 vr448
    simp only [iter]
    rw [f38L0_b]
    simp only [ih, f38L0]

noncomputable def f38K0 {R : Type} (N : Nat) (n : Nat) (k' : Ex → St → Option R) : Ex → St → Option R := (blockK 0 (seqK (f38e N) f38k n (cAt [1,1,1] f38c) k'))
theorem f38K0_x0 {R : Type} (N : Nat) (n : Nat) (k : List Dt → Option R) (a0 : List NodeT) (vs0 : List NodeT) (xvs4 : Int) (xvs11 : Bool) (xvr448 : List NodeT) : f38K0 N n (exitK (f38e N) [.ro] [false] true [.tmp 2] [29] [.d (.sl .node) a0] k) (.exit 0) ⟨[(0, .c (.one (.ro .node vs0))), (3, .c (.one (.h 448 0 0 []))), (4, .c (.one (.v (.int .i64 xvs4)))), (11, .c (.one (.v (.bool xvs11))))], [], [(448, .live ⟨.node, .deep, 0, [], xvr448⟩)]⟩ =
    (k [.d (.sl .node) xvr448]) := by kernel_rfl

theorem f38_run {R : Type} (N : Nat) (n : Nat) (k : List Dt → Option R) (a0 : List NodeT) : evFn (f38e N) f38k n f38c [.ro] [false] true [.tmp 2] [29] [.d (.sl .node) a0] k =
    (cond ((decide ((a0.length : Int) = (a0.length : Int))) && ((decide ((0 : Int) ≤ (a0.length : Int))) && (decide ((a0.length : Int) ≤ (LIM : Int)))))
    (f38L0 N n (fun (xvs4 : Int) (xvs11 : Bool) (xvr448 : List NodeT) =>
      (k [.d (.sl .node) xvr448])) a0 n (0 : Int) (List.replicate (Int.toNat (a0.length : Int)) (⟨(0 : Int), (0 : Int), ByteArray.empty, ([] : List ByteArray), ([] : List NodeT)⟩ : NodeT)))
    none) := by
  refine Eq.trans (b := (cond ((decide ((a0.length : Int) = (a0.length : Int))) && ((decide ((0 : Int) ≤ (a0.length : Int))) && (decide ((a0.length : Int) ≤ (LIM : Int)))))
    (iter (fun st k => ev (f38e N) f38k n (cAt [1,1,0,1,0,0] f38c) st k) n ⟨[(0, .c (.one (.ro .node a0))), (3, .c (.one (.h 448 0 0 []))), (4, .c (.one (.v (.int .i64 (0 : Int)))))], [], [(448, .live ⟨.node, .deep, 0, [], (List.replicate (Int.toNat (a0.length : Int)) (⟨(0 : Int), (0 : Int), ByteArray.empty, ([] : List ByteArray), ([] : List NodeT)⟩ : NodeT))⟩)]⟩ (f38K0 N n (exitK (f38e N) [.ro] [false] true [.tmp 2] [29] [.d (.sl .node) a0] k)))
    none)) (by kernel_rfl) ?_
  simp only [f38L0_eq, f38K0_x0]
theorem f38_spec (N : Nat) (a0 : List NodeT) (hg : smL sm_node a0 = true) (hm : mu38 [.d (.sl .node) a0] = N) : ∃ keep rounds, ∀ {R : Type} (k : List Dt → Option R), evFn (f38e N) keep rounds f38c [.ro] [false] true [.tmp 2] [29] [.d (.sl .node) a0] k = k [.d (.sl .node) a0] := by
  have hm : mtL_node a0 = N := hm
  subst hm
  have hl : a0.length ≤ 1048576 := smL_len hg
  have hs := smL_all hg
  refine ⟨f38k, a0.length + 1, fun {R} k => ?_⟩
  rw [f38_run, mkOk hl]
  simp only [cond_true]
  have := loop_copy (xs := a0) (f := fun x => x) (F := fun m j out => f38L0 (mtL_node a0) (a0.length + 1) (fun (xvs4 : Int) (xvs11 : Bool) (xvr448 : List NodeT) => (k [.d (.sl .node) xvr448])) a0 m (j : Int) out) (good := fun out => k [.d (.sl .node) out]) (⟨(0 : Int), (0 : Int), ByteArray.empty, ([] : List ByteArray), ([] : List NodeT)⟩ : NodeT)
    (fun m j out x hx hl' => by
      obtain ⟨h1, h0, hw, ht⟩ := idx (lt_of_get hx) (by omega)
      obtain ⟨h2, _, _, _⟩ := idx (show j < out.length by rw [hl']; exact lt_of_get hx) (by omega)
      have hmem := List.mem_of_getElem? hx
      have hx2 := List.all_eq_true.1 hs x hmem
      have hb : Nat.blt (mt_node x) (mtL_node a0) = true := by
        have := ndL_mem (f := nd_node) hmem
        rw [Nat.blt_eq]; simp only [mt_node, mtL_node]; omega
      simp only [f38L0, f38v0, h1, h0, h2, hw, ht, atI_of (t := .node) hx, Bool.and_self, cond_true, eta_node, hx2, hb])
    (fun m out => by simp only [f38L0, idxE, cond_false]) a0.length 0 (a0.length + 1) (by omega) (by omega)
  simpa using this


theorem goods10 : ∀ x ∈ ([⟨10, [.ro], [false], true, mu10, q10⟩, ⟨38, [.ro], [false], true, mu38, q38⟩] : List Rc), Gm.SpecOk Try.prog x.f (Gm.Spec.of x.ms x.rs x.ow x.q) := by
  refine spec_recs _ fun N hr => ?_
  have hr1 : Gm.SpecOk Try.prog 10 (Gm.Spec.of [.ro] [false] true (qlt mu10 N q10)) := fun {R} => hr _ (.head _)
  have hr2 : Gm.SpecOk Try.prog 38 (Gm.Spec.of [.ro] [false] true (qlt mu38 N q38)) := fun {R} => hr _ (.tail _ (.head _))
  refine List.forall_mem_cons.2 ⟨?_, List.forall_mem_cons.2 ⟨?_, List.forall_mem_nil _⟩⟩
  · have hl : ∀ x ∈ ([(19, s19), (38, s38r N)] : List (Nat × Gm.Spec)), Gm.Good Try.prog x := List.forall_mem_cons.2 ⟨good19, List.forall_mem_cons.2 ⟨⟨⟨hr2, _, Try.func38, by kernel_rfl, of_decide_eq_true (by kernel_rfl)⟩, Gm.Spec.of_natl _ _ _ _⟩, List.forall_mem_nil _⟩⟩
    show Gm.SpecOk Try.prog 10 (Gm.Spec.of [.ro] [false] true (qeq mu10 N q10))
    intro R
    refine spec_ok (E := f10e N) (tab_ok.env hl) (tab.natl hl) Try.func10 (by kernel_rfl : Try.f10.body = some f10c) [31] (by kernel_rfl) ?_
    intro ds outs h
    obtain ⟨h, hm⟩ := qeq_some h
    unfold q10 at h
    split at h
    · simp only [Option.some.injEq, Prod.mk.injEq] at h; obtain ⟨hg, h⟩ := h; cases h; exact f10_spec N _ hg hm
    · cases h
  · have hl : ∀ x ∈ ([(10, s10r N)] : List (Nat × Gm.Spec)), Gm.Good Try.prog x := List.forall_mem_cons.2 ⟨⟨⟨hr1, _, Try.func10, by kernel_rfl, of_decide_eq_true (by kernel_rfl)⟩, Gm.Spec.of_natl _ _ _ _⟩, List.forall_mem_nil _⟩
    show Gm.SpecOk Try.prog 38 (Gm.Spec.of [.ro] [false] true (qeq mu38 N q38))
    intro R
    refine spec_ok (E := f38e N) (tab_ok.env hl) (tab.natl hl) Try.func38 (by kernel_rfl : Try.f38.body = some f38c) [29] (by kernel_rfl) ?_
    intro ds outs h
    obtain ⟨h, hm⟩ := qeq_some h
    unfold q38 at h
    split at h
    · simp only [Option.some.injEq, Prod.mk.injEq] at h; obtain ⟨hg, h⟩ := h; cases h; exact f38_spec N _ hg hm
    · cases h
theorem good10 : Gm.Good Try.prog (10, s10) := ⟨⟨fun {R} => goods10 _ (.head _), _, Try.func10, by kernel_rfl, of_decide_eq_true (by kernel_rfl)⟩, Gm.Spec.of_natl _ _ _ _⟩
theorem good38 : Gm.Good Try.prog (38, s38) := ⟨⟨fun {R} => goods10 _ (.tail _ (.head _)), _, Try.func38, by kernel_rfl, of_decide_eq_true (by kernel_rfl)⟩, Gm.Spec.of_natl _ _ _ _⟩
/-! ### loop.example/g00465/laws.eqStringS -/
noncomputable def f21c : Code := (Try.f21.body).getD .skip
def f21k : Nat → Kp := kat [⟨[0, 1], [], [], []⟩, ⟨[0, 1, 10], [], [], []⟩, ⟨[4], [], [], []⟩, ⟨[0, 1, 5], [], [], []⟩, ⟨[0, 1, 5, 14], [], [], []⟩, ⟨[0, 1, 5], [], [], []⟩, ⟨[0, 1, 5, 25], [], [], []⟩, ⟨[4], [], [], []⟩, ⟨[4], [], [], []⟩]
noncomputable def f21e : Env := tab.env []
noncomputable def f21L0 {R : Type} (n : Nat) (x0 : Option R) (x1 : Int → Bool → Option R) (vs0 : List ByteArray) (vs1 : List ByteArray) : Nat → Int → Option R
  | 0, _ => none
  | m + 1, vs5 =>
    (cond (decide (vs5 < (vs0.length : Int)))
      (cond ((decide ((0 : Int) ≤ vs5)) && (decide (vs5 < (vs0.length : Int))))
        (cond ((decide ((0 : Int) ≤ vs5)) && (decide (vs5 < (vs1.length : Int))))
          (cond (!(sEq (atI (t := .str) vs0 (Int.toNat vs5)) (atI (t := .str) vs1 (Int.toNat vs5))))
            (x0)
            (f21L0 n x0 x1 vs0 vs1 m (IntKind.wrap .i64 (vs5 + (1 : Int)))))
          none)
        none)
      (x1 vs5 (decide (vs5 < (vs0.length : Int)))))
theorem f21L0_b {R : Type} (n : Nat) (k' : Ex → St → Option R) (vs0 : List ByteArray) (vs1 : List ByteArray) (vs5 : Int) : ev f21e f21k n (cAt [1,1,0,1,0,0] f21c) ⟨[(0, .c (.one (.ro .str vs0))), (1, .c (.one (.ro .str vs1))), (5, .c (.one (.v (.int .i64 vs5))))], [], []⟩ k' =
    (cond (decide (vs5 < (vs0.length : Int)))
    (cond ((decide ((0 : Int) ≤ vs5)) && (decide (vs5 < (vs0.length : Int))))
      (cond ((decide ((0 : Int) ≤ vs5)) && (decide (vs5 < (vs1.length : Int))))
        (cond (!(sEq (atI (t := .str) vs0 (Int.toNat vs5)) (atI (t := .str) vs1 (Int.toNat vs5))))
          (k' .ret ⟨[(4, .c (.one (.v (.bool false))))], [], []⟩)
          (k' .normal ⟨[(0, .c (.one (.ro .str vs0))), (1, .c (.one (.ro .str vs1))), (5, .c (.one (.v (.int .i64 (IntKind.wrap .i64 (vs5 + (1 : Int)))))))], [], []⟩))
        none)
      none)
    (k' (.exit 0) ⟨[(0, .c (.one (.ro .str vs0))), (1, .c (.one (.ro .str vs1))), (5, .c (.one (.v (.int .i64 vs5)))), (14, .c (.one (.v (.bool (decide (vs5 < (vs0.length : Int)))))))], [], []⟩)) := by kernel_rfl
theorem f21L0_eq {R : Type} (n : Nat) (k' : Ex → St → Option R) (vs0 : List ByteArray) (vs1 : List ByteArray) : ∀ (m : Nat) (vs5 : Int), iter (fun st k => ev f21e f21k n (cAt [1,1,0,1,0,0] f21c) st k) m ⟨[(0, .c (.one (.ro .str vs0))), (1, .c (.one (.ro .str vs1))), (5, .c (.one (.v (.int .i64 vs5))))], [], []⟩ k' = f21L0 n (k' .ret ⟨[(4, .c (.one (.v (.bool false))))], [], []⟩) (fun (xvs5 : Int) (xvs14 : Bool) => k' (.exit 0) ⟨[(0, .c (.one (.ro .str vs0))), (1, .c (.one (.ro .str vs1))), (5, .c (.one (.v (.int .i64 xvs5)))), (14, .c (.one (.v (.bool xvs14))))], [], []⟩) vs0 vs1 m vs5 := by
  intro m; induction m with
  | zero => intros; rfl
  | succ m ih =>
    intro vs5
    simp only [iter]
    rw [f21L0_b]
    simp only [ih, f21L0]

noncomputable def f21K0 {R : Type} (n : Nat) (k' : Ex → St → Option R) : Ex → St → Option R := (blockK 0 (seqK f21e f21k n (cAt [1,1,1] f21c) k'))
theorem f21K0_x0 {R : Type} (n : Nat) (k : List Dt → Option R) (a0 : List ByteArray) (a1 : List ByteArray)  : f21K0 n (exitK f21e [.ro, .ro] [false] true [.tmp 4] [4] [.d (.sl .str) a0, .d (.sl .str) a1] k) .ret ⟨[(4, .c (.one (.v (.bool false))))], [], []⟩ =
    (k [.d .bool false]) := by kernel_rfl
theorem f21K0_x1 {R : Type} (n : Nat) (k : List Dt → Option R) (a0 : List ByteArray) (a1 : List ByteArray) (vs0 : List ByteArray) (vs1 : List ByteArray) (xvs5 : Int) (xvs14 : Bool) : f21K0 n (exitK f21e [.ro, .ro] [false] true [.tmp 4] [4] [.d (.sl .str) a0, .d (.sl .str) a1] k) (.exit 0) ⟨[(0, .c (.one (.ro .str vs0))), (1, .c (.one (.ro .str vs1))), (5, .c (.one (.v (.int .i64 xvs5)))), (14, .c (.one (.v (.bool xvs14))))], [], []⟩ =
    (k [.d .bool true]) := by kernel_rfl

theorem f21_run {R : Type} (n : Nat) (k : List Dt → Option R) (a0 : List ByteArray) (a1 : List ByteArray) : evFn f21e f21k n f21c [.ro, .ro] [false] true [.tmp 4] [4] [.d (.sl .str) a0, .d (.sl .str) a1] k =
    (cond ((a0.length : Int) != (a1.length : Int))
    (k [.d .bool false])
    (f21L0 n (k [.d .bool false]) (fun (xvs5 : Int) (xvs14 : Bool) =>
      (k [.d .bool true])) a0 a1 n (0 : Int))) := by
  refine Eq.trans (b := (cond ((a0.length : Int) != (a1.length : Int))
    (k [.d .bool false])
    (iter (fun st k => ev f21e f21k n (cAt [1,1,0,1,0,0] f21c) st k) n ⟨[(0, .c (.one (.ro .str a0))), (1, .c (.one (.ro .str a1))), (5, .c (.one (.v (.int .i64 (0 : Int)))))], [], []⟩ (f21K0 n (exitK f21e [.ro, .ro] [false] true [.tmp 4] [4] [.d (.sl .str) a0, .d (.sl .str) a1] k))))) (by kernel_rfl) ?_
  simp only [f21L0_eq, f21K0_x0, f21K0_x1]
theorem f21_spec (a0 : List ByteArray) (a1 : List ByteArray) (hg : sm2 (smL smStr) a0 a1 = true) : ∃ keep rounds, ∀ {R : Type} (k : List Dt → Option R), evFn f21e keep rounds f21c [.ro, .ro] [false] true [.tmp 4] [4] [.d (.sl .str) a0, .d (.sl .str) a1] k = k [.d .bool (eqD a0 a1)] := by
  simp only [sm2, Bool.and_eq_true] at hg
  obtain ⟨hg0, hg1⟩ := hg
  have hl : a0.length ≤ 1048576 := smL_len hg0
  refine ⟨f21k, a0.length + 1, fun k => ?_⟩
  rw [f21_run]
  by_cases hc : a0.length = a1.length
  · have hc' : ((a0.length : Int) != (a1.length : Int)) = false := by simp [hc]
    simp only [hc', cond_false]
    refine Eq.trans (loop_idx (n := a0.length) (F := fun m i => f21L0 (a0.length + 1) _ _ a0 a1 m i) (p := fun j => sEq (atI (t := .str) a0 j) (atI (t := .str) a1 j)) (good := k [.d .bool true]) (bad := k [.d .bool false])
      (fun m j hj => ?_) (fun m => by simp only [f21L0, idxE, cond_false]) a0.length 0 (a0.length + 1) (by omega) (by omega)) ?_
    · obtain ⟨h1, h0, hw, ht⟩ := idx hj (by omega)
      obtain ⟨h2, _, _, _⟩ := idx (show j < a1.length by omega) (by omega)
      simp only [f21L0, h1, h0, h2, hw, ht, Bool.and_self, cond_true]
      cases sEq (atI (t := .str) a0 j) (atI (t := .str) a1 j) <;> rfl
    · rw [allN_eq hc (fun j x y hx hy => by rw [atI_of (t := .str) hx, atI_of (t := .str) hy, ← eqD_str])]
      cases eqD a0 a1 <;> rfl
  · simp only [bneLen hc, cond_true]
    rw [eqD_ne (fun e => hc (by rw [e]))]

noncomputable def q21 : List Dt → Option (Bool × List Dt)
  | [.d (.sl .str) a0, .d (.sl .str) a1] => some ((sm2 (smL smStr) a0 a1), [.d .bool (eqD a0 a1)])
  | _ => none
noncomputable def s21 : Gm.Spec := Gm.Spec.of [.ro, .ro] [false] true q21
theorem good21 : Gm.Good Try.prog (21, s21) := by
  have hl : ∀ x ∈ ([] : List (Nat × Gm.Spec)), Gm.Good Try.prog x := fun _ h => by cases h
  refine ⟨⟨spec_ok (tab_ok.env hl) (tab.natl hl) Try.func21 (by kernel_rfl : Try.f21.body = some f21c) [4] (by kernel_rfl) ?_, _, Try.func21, by kernel_rfl, of_decide_eq_true (by kernel_rfl)⟩, Gm.Spec.of_natl _ _ _ _⟩
  intro ds outs h
  unfold q21 at h
  split at h
  · simp only [Option.some.injEq, Prod.mk.injEq] at h; obtain ⟨hg, h⟩ := h; cases h; exact f21_spec _ _ hg
  · cases h
/-! ### loop.example/g00465/laws.eqStringSS -/
noncomputable def f12c : Code := (Try.f12.body).getD .skip
def f12k : Nat → Kp := kat [⟨[0, 1], [], [], []⟩, ⟨[0, 1, 10], [], [], []⟩, ⟨[4], [], [], []⟩, ⟨[0, 1, 5], [], [], []⟩, ⟨[0, 1, 5, 14], [], [], []⟩, ⟨[0, 1, 5], [], [], []⟩, ⟨[0, 1, 5, 26], [], [], []⟩, ⟨[4], [], [], []⟩, ⟨[4], [], [], []⟩]
noncomputable def f12e : Env := tab.env [(21, s21)]
noncomputable def f12L0 {R : Type} (n : Nat) (x0 : Option R) (x1 : Int → Bool → Option R) (vs0 : List (List ByteArray)) (vs1 : List (List ByteArray)) : Nat → Int → Option R
  | 0, _ => none
  | m + 1, vs5 =>
    (cond (decide (vs5 < (vs0.length : Int)))
      (cond ((decide ((0 : Int) ≤ vs5)) && (decide (vs5 < (vs0.length : Int))))
        (cond ((decide ((0 : Int) ≤ vs5)) && (decide (vs5 < (vs1.length : Int))))
          (cond (sm2 (smL smStr) (atI (t := (.sl .str)) vs0 (Int.toNat vs5)) (atI (t := (.sl .str)) vs1 (Int.toNat vs5)))
            (cond (!(eqD (atI (t := (.sl .str)) vs0 (Int.toNat vs5)) (atI (t := (.sl .str)) vs1 (Int.toNat vs5))))
              (x0)
              (f12L0 n x0 x1 vs0 vs1 m (IntKind.wrap .i64 (vs5 + (1 : Int)))))
            none)
          none)
        none)
      (x1 vs5 (decide (vs5 < (vs0.length : Int)))))
theorem f12L0_b {R : Type} (n : Nat) (k' : Ex → St → Option R) (vs0 : List (List ByteArray)) (vs1 : List (List ByteArray)) (vs5 : Int) : ev f12e f12k n (cAt [1,1,0,1,0,0] f12c) ⟨[(0, .c (.one (.ro (.sl .str) vs0))), (1, .c (.one (.ro (.sl .str) vs1))), (5, .c (.one (.v (.int .i64 vs5))))], [], []⟩ k' =
    (cond (decide (vs5 < (vs0.length : Int)))
    (cond ((decide ((0 : Int) ≤ vs5)) && (decide (vs5 < (vs0.length : Int))))
      (cond ((decide ((0 : Int) ≤ vs5)) && (decide (vs5 < (vs1.length : Int))))
        (cond (sm2 (smL smStr) (atI (t := (.sl .str)) vs0 (Int.toNat vs5)) (atI (t := (.sl .str)) vs1 (Int.toNat vs5)))
          (cond (!(eqD (atI (t := (.sl .str)) vs0 (Int.toNat vs5)) (atI (t := (.sl .str)) vs1 (Int.toNat vs5))))
            (k' .ret ⟨[(4, .c (.one (.v (.bool false))))], [], []⟩)
            (k' .normal ⟨[(0, .c (.one (.ro (.sl .str) vs0))), (1, .c (.one (.ro (.sl .str) vs1))), (5, .c (.one (.v (.int .i64 (IntKind.wrap .i64 (vs5 + (1 : Int)))))))], [], []⟩))
          none)
        none)
      none)
    (k' (.exit 0) ⟨[(0, .c (.one (.ro (.sl .str) vs0))), (1, .c (.one (.ro (.sl .str) vs1))), (5, .c (.one (.v (.int .i64 vs5)))), (14, .c (.one (.v (.bool (decide (vs5 < (vs0.length : Int)))))))], [], []⟩)) := by kernel_rfl
theorem f12L0_eq {R : Type} (n : Nat) (k' : Ex → St → Option R) (vs0 : List (List ByteArray)) (vs1 : List (List ByteArray)) : ∀ (m : Nat) (vs5 : Int), iter (fun st k => ev f12e f12k n (cAt [1,1,0,1,0,0] f12c) st k) m ⟨[(0, .c (.one (.ro (.sl .str) vs0))), (1, .c (.one (.ro (.sl .str) vs1))), (5, .c (.one (.v (.int .i64 vs5))))], [], []⟩ k' = f12L0 n (k' .ret ⟨[(4, .c (.one (.v (.bool false))))], [], []⟩) (fun (xvs5 : Int) (xvs14 : Bool) => k' (.exit 0) ⟨[(0, .c (.one (.ro (.sl .str) vs0))), (1, .c (.one (.ro (.sl .str) vs1))), (5, .c (.one (.v (.int .i64 xvs5)))), (14, .c (.one (.v (.bool xvs14))))], [], []⟩) vs0 vs1 m vs5 := by
  intro m; induction m with
  | zero => intros; rfl
  | succ m ih =>
    intro vs5
    simp only [iter]
    rw [f12L0_b]
    simp only [ih, f12L0]

noncomputable def f12K0 {R : Type} (n : Nat) (k' : Ex → St → Option R) : Ex → St → Option R := (blockK 0 (seqK f12e f12k n (cAt [1,1,1] f12c) k'))
theorem f12K0_x0 {R : Type} (n : Nat) (k : List Dt → Option R) (a0 : List (List ByteArray)) (a1 : List (List ByteArray))  : f12K0 n (exitK f12e [.ro, .ro] [false] true [.tmp 4] [4] [.d (.sl (.sl .str)) a0, .d (.sl (.sl .str)) a1] k) .ret ⟨[(4, .c (.one (.v (.bool false))))], [], []⟩ =
    (k [.d .bool false]) := by kernel_rfl
theorem f12K0_x1 {R : Type} (n : Nat) (k : List Dt → Option R) (a0 : List (List ByteArray)) (a1 : List (List ByteArray)) (vs0 : List (List ByteArray)) (vs1 : List (List ByteArray)) (xvs5 : Int) (xvs14 : Bool) : f12K0 n (exitK f12e [.ro, .ro] [false] true [.tmp 4] [4] [.d (.sl (.sl .str)) a0, .d (.sl (.sl .str)) a1] k) (.exit 0) ⟨[(0, .c (.one (.ro (.sl .str) vs0))), (1, .c (.one (.ro (.sl .str) vs1))), (5, .c (.one (.v (.int .i64 xvs5)))), (14, .c (.one (.v (.bool xvs14))))], [], []⟩ =
    (k [.d .bool true]) := by kernel_rfl

theorem f12_run {R : Type} (n : Nat) (k : List Dt → Option R) (a0 : List (List ByteArray)) (a1 : List (List ByteArray)) : evFn f12e f12k n f12c [.ro, .ro] [false] true [.tmp 4] [4] [.d (.sl (.sl .str)) a0, .d (.sl (.sl .str)) a1] k =
    (cond ((a0.length : Int) != (a1.length : Int))
    (k [.d .bool false])
    (f12L0 n (k [.d .bool false]) (fun (xvs5 : Int) (xvs14 : Bool) =>
      (k [.d .bool true])) a0 a1 n (0 : Int))) := by
  refine Eq.trans (b := (cond ((a0.length : Int) != (a1.length : Int))
    (k [.d .bool false])
    (iter (fun st k => ev f12e f12k n (cAt [1,1,0,1,0,0] f12c) st k) n ⟨[(0, .c (.one (.ro (.sl .str) a0))), (1, .c (.one (.ro (.sl .str) a1))), (5, .c (.one (.v (.int .i64 (0 : Int)))))], [], []⟩ (f12K0 n (exitK f12e [.ro, .ro] [false] true [.tmp 4] [4] [.d (.sl (.sl .str)) a0, .d (.sl (.sl .str)) a1] k))))) (by kernel_rfl) ?_
  simp only [f12L0_eq, f12K0_x0, f12K0_x1]
theorem f12_spec (a0 : List (List ByteArray)) (a1 : List (List ByteArray)) (hg : gSS a0 a1 = true) : ∃ keep rounds, ∀ {R : Type} (k : List Dt → Option R), evFn f12e keep rounds f12c [.ro, .ro] [false] true [.tmp 4] [4] [.d (.sl (.sl .str)) a0, .d (.sl (.sl .str)) a1] k = k [.d .bool (eqD a0 a1)] := by
  simp only [gSS, smSS, Bool.and_eq_true] at hg
  obtain ⟨⟨hl0, ha0⟩, hl1, ha1⟩ := hg
  have nl := bleN hl0
  refine ⟨f12k, a0.length + 1, fun {R} k => ?_⟩
  rw [f12_run]
  by_cases hl : a0.length = a1.length
  rotate_left
  · have h1 : ((a0.length : Int) != (a1.length : Int)) = true := by simp only [bne_iff_ne]; omega
    rw [h1, eqD_ne fun e => hl (by rw [e])]; rfl
  have h1 : ((a0.length : Int) != (a1.length : Int)) = false := by rw [hl, bne_self_eq_false]
  rw [h1, cond_false]
  refine Eq.trans (loop_idx (n := a0.length) (F := fun m i => f12L0 (a0.length + 1) _ _ a0 a1 m i) (p := fun j => eqD (atI (t := .sl .str) a0 j) (atI (t := .sl .str) a1 j)) (good := k [.d .bool true]) (bad := k [.d .bool false])
    (fun m j hj => ?_) (fun m => by simp only [f12L0, idxE, cond_false]) a0.length 0 (a0.length + 1) (by omega) (by omega)) ?_
  · obtain ⟨h1, h0, hw, ht⟩ := idx hj (by omega)
    have h2 : decide ((j : Int) < (a1.length : Int)) = true := by rw [← hl]; exact h1
    have s0 := List.all_eq_true.1 ha0 _ (List.mem_of_getElem? (atI_lt (t := .sl .str) hj))
    have s1 := List.all_eq_true.1 ha1 _ (List.mem_of_getElem? (atI_lt (t := .sl .str) (xs := a1) (i := j) (by omega)))
    simp only [f12L0, h1, h0, h2, hw, ht, sm2, s0, s1, Bool.and_self, cond_true]
    cases eqD (atI (t := .sl .str) a0 j) (atI (t := .sl .str) a1 j) <;> rfl
  · have : allN (fun j => eqD (atI (t := .sl .str) a0 j) (atI (t := .sl .str) a1 j)) 0 a0.length = eqD a0 a1 := by
      rw [Bool.eq_iff_iff, allN_iff, eqD_iff]
      constructor
      · intro h
        refine List.ext_getElem? fun i => ?_
        by_cases hi : i < a0.length
        · have := eqD_iff.1 (h i (by omega) (by omega))
          rw [atI_lt (t := .sl .str) hi, atI_lt (t := .sl .str) (xs := a1) (i := i) (by omega), this]
        · rw [List.getElem?_eq_none (by omega), List.getElem?_eq_none (by omega)]
      · rintro rfl i _ _
        exact eqD_self _
    rw [this]
    cases eqD a0 a1 <;> rfl

noncomputable def q12 : List Dt → Option (Bool × List Dt)
  | [.d (.sl (.sl .str)) a0, .d (.sl (.sl .str)) a1] => some ((gSS a0 a1), [.d .bool (eqD a0 a1)])
  | _ => none
noncomputable def s12 : Gm.Spec := Gm.Spec.of [.ro, .ro] [false] true q12
theorem good12 : Gm.Good Try.prog (12, s12) := by
  have hl : ∀ x ∈ [(21, s21)], Gm.Good Try.prog x := List.forall_mem_cons.2 ⟨good21, List.forall_mem_nil _⟩
  refine ⟨⟨spec_ok (tab_ok.env hl) (tab.natl hl) Try.func12 (by kernel_rfl : Try.f12.body = some f12c) [4] (by kernel_rfl) ?_, _, Try.func12, by kernel_rfl, of_decide_eq_true (by kernel_rfl)⟩, Gm.Spec.of_natl _ _ _ _⟩
  intro ds outs h
  unfold q12 at h
  split at h
  · simp only [Option.some.injEq, Prod.mk.injEq] at h; obtain ⟨hg, h⟩ := h; cases h; exact f12_spec _ _ hg
  · cases h
noncomputable def q13 : List Dt → Option (Bool × List Dt)
  | [.d .node a0, .d .node a1] => some ((sm2 sm_node a0 a1), [.d .bool (eqD a0 a1)])
  | _ => none
noncomputable def mu13 : List Dt → Nat
  | [.d .node a0, .d .node a1] => me_node a0 a1
  | _ => 0
noncomputable def s13r (N : Nat) : Gm.Spec := Gm.Spec.of [.ro, .ro] [false] true (qlt mu13 N q13)
noncomputable def s13 : Gm.Spec := Gm.Spec.of [.ro, .ro] [false] true q13
noncomputable def q40 : List Dt → Option (Bool × List Dt)
  | [.d (.sl .node) a0, .d (.sl .node) a1] => some ((sm2 (smL sm_node) a0 a1), [.d .bool (eqD a0 a1)])
  | _ => none
noncomputable def mu40 : List Dt → Nat
  | [.d (.sl .node) a0, .d (.sl .node) a1] => meL_node a0 a1
  | _ => 0
noncomputable def s40r (N : Nat) : Gm.Spec := Gm.Spec.of [.ro, .ro] [false] true (qlt mu40 N q40)
noncomputable def s40 : Gm.Spec := Gm.Spec.of [.ro, .ro] [false] true q40
/-! ### loop.example/g00465/laws.eqNode -/
noncomputable def f13c : Code := (Try.f13.body).getD .skip
def f13k : Nat → Kp := kat [⟨[2, 3], [], [], []⟩, ⟨[2, 3, 9], [], [], []⟩, ⟨[4], [], [], []⟩, ⟨[2, 3, 14], [], [], []⟩, ⟨[4], [], [], []⟩, ⟨[2, 3, 19], [], [], []⟩, ⟨[4], [], [], []⟩, ⟨[2, 3, 25], [], [], []⟩, ⟨[4], [], [], []⟩, ⟨[31], [], [], []⟩, ⟨[4], [], [], []⟩, ⟨[4], [], [], []⟩]
noncomputable def f13e (N : Nat) : Env := tab.env [(21, s21), (40, s40r N)]
theorem f13_run {R : Type} (N : Nat) (n : Nat) (k : List Dt → Option R) (a0 : NodeT) (a1 : NodeT) : evFn (f13e N) f13k n f13c [.ro, .ro] [false] true [.tmp 4] [4] [.d .node a0, .d .node a1] k =
    (cond ((NodeT.kind a0) != (NodeT.kind a1))
    (k [.d .bool false])
    (cond ((NodeT.n a0) != (NodeT.n a1))
      (k [.d .bool false])
      (cond (!(sEq (NodeT.s a0) (NodeT.s a1)))
        (k [.d .bool false])
        (cond (sm2 (smL smStr) (NodeT.keys a0) (NodeT.keys a1))
          (cond (!(eqD (NodeT.keys a0) (NodeT.keys a1)))
            (k [.d .bool false])
            (cond ((sm2 (smL sm_node) (NodeT.kids a0) (NodeT.kids a1)) && (Nat.blt (meL_node (NodeT.kids a0) (NodeT.kids a1)) N))
              (cond (!(eqD (NodeT.kids a0) (NodeT.kids a1)))
                (k [.d .bool false])
                (k [.d .bool true]))
              none))
          none)))) := by kernel_rfl
theorem f13_spec (N : Nat) (a0 : NodeT) (a1 : NodeT) (hg : sm2 sm_node a0 a1 = true) (hm : mu13 [.d .node a0, .d .node a1] = N) : ∃ keep rounds, ∀ {R : Type} (k : List Dt → Option R), evFn (f13e N) keep rounds f13c [.ro, .ro] [false] true [.tmp 4] [4] [.d .node a0, .d .node a1] k = k [.d .bool (eqD a0 a1)] := by
  have hm : me_node a0 a1 = N := hm
  subst hm
  have m1 : Nat.blt (meL_node a0.kids a1.kids) (me_node a0 a1) = true := by rw [Nat.blt_eq]; simp only [meL_node, me_node, nd_node_def]; omega
  simp only [sm2, sm_node_def, Bool.and_eq_true] at hg
  refine ⟨f13k, 0, fun {R} k => ?_⟩
  rw [f13_run, eqD_node]
  simp only [bne, sm2, hg, m1, Bool.and_self, Bool.true_and, cond_true]
  cases (a0.kind == a1.kind) <;> cases (a0.n == a1.n) <;> cases sEq a0.s a1.s <;> cases eqD a0.keys a1.keys <;> cases eqD a0.kids a1.kids <;> rfl


/-! ### loop.example/g00465/laws.eqNodeS -/
noncomputable def f40c : Code := (Try.f40.body).getD .skip
def f40k : Nat → Kp := kat [⟨[0, 1], [], [], []⟩, ⟨[0, 1, 10], [], [], []⟩, ⟨[4], [], [], []⟩, ⟨[0, 1, 5], [], [], []⟩, ⟨[0, 1, 5, 14], [], [], []⟩, ⟨[0, 1, 5], [], [], []⟩, ⟨[0, 1, 5, 26], [], [], []⟩, ⟨[4], [], [], []⟩, ⟨[4], [], [], []⟩]
noncomputable def f40e (N : Nat) : Env := tab.env [(13, s13r N)]
noncomputable def f40L0 {R : Type} (N : Nat) (n : Nat) (x0 : Option R) (x1 : Int → Bool → Option R) (vs0 : List NodeT) (vs1 : List NodeT) : Nat → Int → Option R
  | 0, _ => none
  | m + 1, vs5 =>
    (cond (decide (vs5 < (vs0.length : Int)))
      (cond ((decide ((0 : Int) ≤ vs5)) && (decide (vs5 < (vs0.length : Int))))
        (cond ((decide ((0 : Int) ≤ vs5)) && (decide (vs5 < (vs1.length : Int))))
          (cond ((sm2 sm_node (⟨(NodeT.kind (atI (t := .node) vs0 (Int.toNat vs5))), (NodeT.n (atI (t := .node) vs0 (Int.toNat vs5))), (NodeT.s (atI (t := .node) vs0 (Int.toNat vs5))), (NodeT.keys (atI (t := .node) vs0 (Int.toNat vs5))), (NodeT.kids (atI (t := .node) vs0 (Int.toNat vs5)))⟩ : NodeT) (⟨(NodeT.kind (atI (t := .node) vs1 (Int.toNat vs5))), (NodeT.n (atI (t := .node) vs1 (Int.toNat vs5))), (NodeT.s (atI (t := .node) vs1 (Int.toNat vs5))), (NodeT.keys (atI (t := .node) vs1 (Int.toNat vs5))), (NodeT.kids (atI (t := .node) vs1 (Int.toNat vs5)))⟩ : NodeT)) && (Nat.blt (me_node (⟨(NodeT.kind (atI (t := .node) vs0 (Int.toNat vs5))), (NodeT.n (atI (t := .node) vs0 (Int.toNat vs5))), (NodeT.s (atI (t := .node) vs0 (Int.toNat vs5))), (NodeT.keys (atI (t := .node) vs0 (Int.toNat vs5))), (NodeT.kids (atI (t := .node) vs0 (Int.toNat vs5)))⟩ : NodeT) (⟨(NodeT.kind (atI (t := .node) vs1 (Int.toNat vs5))), (NodeT.n (atI (t := .node) vs1 (Int.toNat vs5))), (NodeT.s (atI (t := .node) vs1 (Int.toNat vs5))), (NodeT.keys (atI (t := .node) vs1 (Int.toNat vs5))), (NodeT.kids (atI (t := .node) vs1 (Int.toNat vs5)))⟩ : NodeT)) N))
            (cond (!(eqD (⟨(NodeT.kind (atI (t := .node) vs0 (Int.toNat vs5))), (NodeT.n (atI (t := .node) vs0 (Int.toNat vs5))), (NodeT.s (atI (t := .node) vs0 (Int.toNat vs5))), (NodeT.keys (atI (t := .node) vs0 (Int.toNat vs5))), (NodeT.kids (atI (t := .node) vs0 (Int.toNat vs5)))⟩ : NodeT) (⟨(NodeT.kind (atI (t := .node) vs1 (Int.toNat vs5))), (NodeT.n (atI (t := .node) vs1 (Int.toNat vs5))), (NodeT.s (atI (t := .node) vs1 (Int.toNat vs5))), (NodeT.keys (atI (t := .node) vs1 (Int.toNat vs5))), (NodeT.kids (atI (t := .node) vs1 (Int.toNat vs5)))⟩ : NodeT)))
              (x0)
              (f40L0 N n x0 x1 vs0 vs1 m (IntKind.wrap .i64 (vs5 + (1 : Int)))))
            none)
          none)
        none)
      (x1 vs5 (decide (vs5 < (vs0.length : Int)))))
theorem f40L0_b {R : Type} (N : Nat) (n : Nat) (k' : Ex → St → Option R) (vs0 : List NodeT) (vs1 : List NodeT) (vs5 : Int) : ev (f40e N) f40k n (cAt [1,1,0,1,0,0] f40c) ⟨[(0, .c (.one (.ro .node vs0))), (1, .c (.one (.ro .node vs1))), (5, .c (.one (.v (.int .i64 vs5))))], [], []⟩ k' =
    (cond (decide (vs5 < (vs0.length : Int)))
    (cond ((decide ((0 : Int) ≤ vs5)) && (decide (vs5 < (vs0.length : Int))))
      (cond ((decide ((0 : Int) ≤ vs5)) && (decide (vs5 < (vs1.length : Int))))
        (cond ((sm2 sm_node (⟨(NodeT.kind (atI (t := .node) vs0 (Int.toNat vs5))), (NodeT.n (atI (t := .node) vs0 (Int.toNat vs5))), (NodeT.s (atI (t := .node) vs0 (Int.toNat vs5))), (NodeT.keys (atI (t := .node) vs0 (Int.toNat vs5))), (NodeT.kids (atI (t := .node) vs0 (Int.toNat vs5)))⟩ : NodeT) (⟨(NodeT.kind (atI (t := .node) vs1 (Int.toNat vs5))), (NodeT.n (atI (t := .node) vs1 (Int.toNat vs5))), (NodeT.s (atI (t := .node) vs1 (Int.toNat vs5))), (NodeT.keys (atI (t := .node) vs1 (Int.toNat vs5))), (NodeT.kids (atI (t := .node) vs1 (Int.toNat vs5)))⟩ : NodeT)) && (Nat.blt (me_node (⟨(NodeT.kind (atI (t := .node) vs0 (Int.toNat vs5))), (NodeT.n (atI (t := .node) vs0 (Int.toNat vs5))), (NodeT.s (atI (t := .node) vs0 (Int.toNat vs5))), (NodeT.keys (atI (t := .node) vs0 (Int.toNat vs5))), (NodeT.kids (atI (t := .node) vs0 (Int.toNat vs5)))⟩ : NodeT) (⟨(NodeT.kind (atI (t := .node) vs1 (Int.toNat vs5))), (NodeT.n (atI (t := .node) vs1 (Int.toNat vs5))), (NodeT.s (atI (t := .node) vs1 (Int.toNat vs5))), (NodeT.keys (atI (t := .node) vs1 (Int.toNat vs5))), (NodeT.kids (atI (t := .node) vs1 (Int.toNat vs5)))⟩ : NodeT)) N))
          (cond (!(eqD (⟨(NodeT.kind (atI (t := .node) vs0 (Int.toNat vs5))), (NodeT.n (atI (t := .node) vs0 (Int.toNat vs5))), (NodeT.s (atI (t := .node) vs0 (Int.toNat vs5))), (NodeT.keys (atI (t := .node) vs0 (Int.toNat vs5))), (NodeT.kids (atI (t := .node) vs0 (Int.toNat vs5)))⟩ : NodeT) (⟨(NodeT.kind (atI (t := .node) vs1 (Int.toNat vs5))), (NodeT.n (atI (t := .node) vs1 (Int.toNat vs5))), (NodeT.s (atI (t := .node) vs1 (Int.toNat vs5))), (NodeT.keys (atI (t := .node) vs1 (Int.toNat vs5))), (NodeT.kids (atI (t := .node) vs1 (Int.toNat vs5)))⟩ : NodeT)))
            (k' .ret ⟨[(4, .c (.one (.v (.bool false))))], [], []⟩)
            (k' .normal ⟨[(0, .c (.one (.ro .node vs0))), (1, .c (.one (.ro .node vs1))), (5, .c (.one (.v (.int .i64 (IntKind.wrap .i64 (vs5 + (1 : Int)))))))], [], []⟩))
          none)
        none)
      none)
    (k' (.exit 0) ⟨[(0, .c (.one (.ro .node vs0))), (1, .c (.one (.ro .node vs1))), (5, .c (.one (.v (.int .i64 vs5)))), (14, .c (.one (.v (.bool (decide (vs5 < (vs0.length : Int)))))))], [], []⟩)) := by kernel_rfl
theorem f40L0_eq {R : Type} (N : Nat) (n : Nat) (k' : Ex → St → Option R) (vs0 : List NodeT) (vs1 : List NodeT) : ∀ (m : Nat) (vs5 : Int), iter (fun st k => ev (f40e N) f40k n (cAt [1,1,0,1,0,0] f40c) st k) m ⟨[(0, .c (.one (.ro .node vs0))), (1, .c (.one (.ro .node vs1))), (5, .c (.one (.v (.int .i64 vs5))))], [], []⟩ k' = f40L0 N n (k' .ret ⟨[(4, .c (.one (.v (.bool false))))], [], []⟩) (fun (xvs5 : Int) (xvs14 : Bool) => k' (.exit 0) ⟨[(0, .c (.one (.ro .node vs0))), (1, .c (.one (.ro .node vs1))), (5, .c (.one (.v (.int .i64 xvs5)))), (14, .c (.one (.v (.bool xvs14))))], [], []⟩) vs0 vs1 m vs5 := by
  intro m; induction m with
  | zero => intros; rfl
  | succ m ih =>
    intro vs5
    simp only [iter]
    rw [f40L0_b]
    simp only [ih, f40L0]

noncomputable def f40K0 {R : Type} (N : Nat) (n : Nat) (k' : Ex → St → Option R) : Ex → St → Option R := (blockK 0 (seqK (f40e N) f40k n (cAt [1,1,1] f40c) k'))
theorem f40K0_x0 {R : Type} (N : Nat) (n : Nat) (k : List Dt → Option R) (a0 : List NodeT) (a1 : List NodeT)  : f40K0 N n (exitK (f40e N) [.ro, .ro] [false] true [.tmp 4] [4] [.d (.sl .node) a0, .d (.sl .node) a1] k) .ret ⟨[(4, .c (.one (.v (.bool false))))], [], []⟩ =
    (k [.d .bool false]) := by kernel_rfl
theorem f40K0_x1 {R : Type} (N : Nat) (n : Nat) (k : List Dt → Option R) (a0 : List NodeT) (a1 : List NodeT) (vs0 : List NodeT) (vs1 : List NodeT) (xvs5 : Int) (xvs14 : Bool) : f40K0 N n (exitK (f40e N) [.ro, .ro] [false] true [.tmp 4] [4] [.d (.sl .node) a0, .d (.sl .node) a1] k) (.exit 0) ⟨[(0, .c (.one (.ro .node vs0))), (1, .c (.one (.ro .node vs1))), (5, .c (.one (.v (.int .i64 xvs5)))), (14, .c (.one (.v (.bool xvs14))))], [], []⟩ =
    (k [.d .bool true]) := by kernel_rfl

theorem f40_run {R : Type} (N : Nat) (n : Nat) (k : List Dt → Option R) (a0 : List NodeT) (a1 : List NodeT) : evFn (f40e N) f40k n f40c [.ro, .ro] [false] true [.tmp 4] [4] [.d (.sl .node) a0, .d (.sl .node) a1] k =
    (cond ((a0.length : Int) != (a1.length : Int))
    (k [.d .bool false])
    (f40L0 N n (k [.d .bool false]) (fun (xvs5 : Int) (xvs14 : Bool) =>
      (k [.d .bool true])) a0 a1 n (0 : Int))) := by
  refine Eq.trans (b := (cond ((a0.length : Int) != (a1.length : Int))
    (k [.d .bool false])
    (iter (fun st k => ev (f40e N) f40k n (cAt [1,1,0,1,0,0] f40c) st k) n ⟨[(0, .c (.one (.ro .node a0))), (1, .c (.one (.ro .node a1))), (5, .c (.one (.v (.int .i64 (0 : Int)))))], [], []⟩ (f40K0 N n (exitK (f40e N) [.ro, .ro] [false] true [.tmp 4] [4] [.d (.sl .node) a0, .d (.sl .node) a1] k))))) (by kernel_rfl) ?_
  simp only [f40L0_eq, f40K0_x0, f40K0_x1]
theorem f40_spec (N : Nat) (a0 : List NodeT) (a1 : List NodeT) (hg : sm2 (smL sm_node) a0 a1 = true) (hm : mu40 [.d (.sl .node) a0, .d (.sl .node) a1] = N) : ∃ keep rounds, ∀ {R : Type} (k : List Dt → Option R), evFn (f40e N) keep rounds f40c [.ro, .ro] [false] true [.tmp 4] [4] [.d (.sl .node) a0, .d (.sl .node) a1] k = k [.d .bool (eqD a0 a1)] := by
  have hm : meL_node a0 a1 = N := hm
  subst hm
  simp only [sm2, Bool.and_eq_true] at hg
  obtain ⟨hg0, hg1⟩ := hg
  have hl : a0.length ≤ 1048576 := smL_len hg0
  refine ⟨f40k, a0.length + 1, fun {R} k => ?_⟩
  rw [f40_run]
  by_cases hc : a0.length = a1.length
  · have hc' : ((a0.length : Int) != (a1.length : Int)) = false := by simp [hc]
    simp only [hc', cond_false]
    refine Eq.trans (loop_idx (n := a0.length) (F := fun m i => f40L0 (meL_node a0 a1) (a0.length + 1) _ _ a0 a1 m i) (p := fun j => eqD (atI (t := .node) a0 j) (atI (t := .node) a1 j)) (good := k [.d .bool true]) (bad := k [.d .bool false])
      (fun m j hj => ?_) (fun m => by simp only [f40L0, idxE, cond_false]) a0.length 0 (a0.length + 1) (by omega) (by omega)) ?_
    · obtain ⟨h1, h0, hw, ht⟩ := idx hj (by omega)
      obtain ⟨h2, _, _, _⟩ := idx (show j < a1.length by omega) (by omega)
      have ha := smL_at (t := .node) hg0 hj
      have hb := smL_at (t := .node) hg1 (show j < a1.length by omega)
      have hm1 : Nat.blt (me_node (atI (t := .node) a0 j) (atI (t := .node) a1 j)) (meL_node a0 a1) = true := by
        obtain ⟨x, hx, _⟩ := drop_get hj
        have := ndL_mem (f := nd_node) (List.mem_of_getElem? hx)
        rw [atI_of (t := .node) hx, Nat.blt_eq]; simp only [me_node, meL_node]; omega
      simp only [f40L0, h1, h0, h2, hw, ht, Bool.and_self, cond_true, sm2, eta_node, ha, hb, hm1]
      cases eqD (atI (t := .node) a0 j) (atI (t := .node) a1 j) <;> rfl
    · rw [allN_eq hc (fun j x y hx hy => by rw [atI_of (t := .node) hx, atI_of (t := .node) hy])]
      cases eqD a0 a1 <;> rfl
  · simp only [bneLen hc, cond_true]
    rw [eqD_ne (fun e => hc (by rw [e]))]


theorem goods13 : ∀ x ∈ ([⟨13, [.ro, .ro], [false], true, mu13, q13⟩, ⟨40, [.ro, .ro], [false], true, mu40, q40⟩] : List Rc), Gm.SpecOk Try.prog x.f (Gm.Spec.of x.ms x.rs x.ow x.q) := by
  refine spec_recs _ fun N hr => ?_
  have hr1 : Gm.SpecOk Try.prog 13 (Gm.Spec.of [.ro, .ro] [false] true (qlt mu13 N q13)) := fun {R} => hr _ (.head _)
  have hr2 : Gm.SpecOk Try.prog 40 (Gm.Spec.of [.ro, .ro] [false] true (qlt mu40 N q40)) := fun {R} => hr _ (.tail _ (.head _))
  refine List.forall_mem_cons.2 ⟨?_, List.forall_mem_cons.2 ⟨?_, List.forall_mem_nil _⟩⟩
  · have hl : ∀ x ∈ ([(21, s21), (40, s40r N)] : List (Nat × Gm.Spec)), Gm.Good Try.prog x := List.forall_mem_cons.2 ⟨good21, List.forall_mem_cons.2 ⟨⟨⟨hr2, _, Try.func40, by kernel_rfl, of_decide_eq_true (by kernel_rfl)⟩, Gm.Spec.of_natl _ _ _ _⟩, List.forall_mem_nil _⟩⟩
    show Gm.SpecOk Try.prog 13 (Gm.Spec.of [.ro, .ro] [false] true (qeq mu13 N q13))
    intro R
    refine spec_ok (E := f13e N) (tab_ok.env hl) (tab.natl hl) Try.func13 (by kernel_rfl : Try.f13.body = some f13c) [4] (by kernel_rfl) ?_
    intro ds outs h
    obtain ⟨h, hm⟩ := qeq_some h
    unfold q13 at h
    split at h
    · simp only [Option.some.injEq, Prod.mk.injEq] at h; obtain ⟨hg, h⟩ := h; cases h; exact f13_spec N _ _ hg hm
    · cases h
  · have hl : ∀ x ∈ ([(13, s13r N)] : List (Nat × Gm.Spec)), Gm.Good Try.prog x := List.forall_mem_cons.2 ⟨⟨⟨hr1, _, Try.func13, by kernel_rfl, of_decide_eq_true (by kernel_rfl)⟩, Gm.Spec.of_natl _ _ _ _⟩, List.forall_mem_nil _⟩
    show Gm.SpecOk Try.prog 40 (Gm.Spec.of [.ro, .ro] [false] true (qeq mu40 N q40))
    intro R
    refine spec_ok (E := f40e N) (tab_ok.env hl) (tab.natl hl) Try.func40 (by kernel_rfl : Try.f40.body = some f40c) [4] (by kernel_rfl) ?_
    intro ds outs h
    obtain ⟨h, hm⟩ := qeq_some h
    unfold q40 at h
    split at h
    · simp only [Option.some.injEq, Prod.mk.injEq] at h; obtain ⟨hg, h⟩ := h; cases h; exact f40_spec N _ _ hg hm
    · cases h
theorem good13 : Gm.Good Try.prog (13, s13) := ⟨⟨fun {R} => goods13 _ (.head _), _, Try.func13, by kernel_rfl, of_decide_eq_true (by kernel_rfl)⟩, Gm.Spec.of_natl _ _ _ _⟩
theorem good40 : Gm.Good Try.prog (40, s40) := ⟨⟨fun {R} => goods13 _ (.tail _ (.head _)), _, Try.func40, by kernel_rfl, of_decide_eq_true (by kernel_rfl)⟩, Gm.Spec.of_natl _ _ _ _⟩
end Go.Proofs.Ytinbejnakemfjaa

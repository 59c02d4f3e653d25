/- What the functions compute, part 1. No conditions. -/
import Derived.Test.YtglijihijmkpaaaGm4
import Derived.Test.YtglijihijmkpaaaRows
/- The table of types of the program, and that it is the program's. Printed by gev.py of this session. -/
namespace Go.Proofs.Ytglijihijmkpaaa
open Go Go.Gm
def tab : Tab := { code := [(2, (.i .i64)), (3, (.i .i64)), (4, .bool), (5, (.i .u8)), (6, (.i .u8)), (9, .str), (10, .str), (11, .str), (12, (.i .u64)), (21, (.i .i32)), (22, (.sl .str)), (23, (.sl .rule)), (24, (.sl .bool)), (26, .rule), (29, (.sl .rule)), (31, .rule), (35, (.sl .node)), (37, .node), (39, (.sl .node)), (41, .node), (76, (.sl (.i .u8))), (84, (.i .u32)), (85, (.i .u8)), (86, (.i .u8)), (89, (.i .i32)), (90, (.i .i32))], eqs := [], fld := [(26, [(0, 3), (1, 22), (2, 23), (3, 24), (4, 3), (5, 3)]), (31, [(0, 3), (1, 22), (2, 29), (3, 24), (4, 3), (5, 3)]), (37, [(0, 3), (1, 3), (2, 9), (3, 22), (4, 35)]), (41, [(0, 3), (1, 3), (2, 9), (3, 22), (4, 39)])] }
theorem und2 : UndOk (tab.env []) Try.prog 2 (.i .i64) := (by kernel_rfl : Try.prog.underlying 2 = some (.int .i64))
theorem und3 : UndOk (tab.env []) Try.prog 3 (.i .i64) := (by kernel_rfl : Try.prog.underlying 3 = some (.int .i64))
theorem und4 : UndOk (tab.env []) Try.prog 4 .bool := (by kernel_rfl : Try.prog.underlying 4 = some .bool)
theorem und5 : UndOk (tab.env []) Try.prog 5 (.i .u8) := (by kernel_rfl : Try.prog.underlying 5 = some (.int .u8))
theorem und6 : UndOk (tab.env []) Try.prog 6 (.i .u8) := (by kernel_rfl : Try.prog.underlying 6 = some (.int .u8))
theorem und9 : UndOk (tab.env []) Try.prog 9 .str := (by kernel_rfl : Try.prog.underlying 9 = some .string)
theorem und10 : UndOk (tab.env []) Try.prog 10 .str := (by kernel_rfl : Try.prog.underlying 10 = some .string)
theorem und11 : UndOk (tab.env []) Try.prog 11 .str := (by kernel_rfl : Try.prog.underlying 11 = some .string)
theorem und12 : UndOk (tab.env []) Try.prog 12 (.i .u64) := (by kernel_rfl : Try.prog.underlying 12 = some (.int .u64))
theorem und21 : UndOk (tab.env []) Try.prog 21 (.i .i32) := (by kernel_rfl : Try.prog.underlying 21 = some (.int .i32))
theorem und22 : UndOk (tab.env []) Try.prog 22 (.sl .str) := ⟨9, by kernel_rfl, by kernel_rfl⟩
theorem und23 : UndOk (tab.env []) Try.prog 23 (.sl .rule) := ⟨26, by kernel_rfl, by kernel_rfl⟩
theorem und24 : UndOk (tab.env []) Try.prog 24 (.sl .bool) := ⟨4, by kernel_rfl, by kernel_rfl⟩
theorem und26 : UndOk (tab.env []) Try.prog 26 .rule := ⟨_, Try.underlying26⟩
theorem und29 : UndOk (tab.env []) Try.prog 29 (.sl .rule) := ⟨31, by kernel_rfl, by kernel_rfl⟩
theorem und31 : UndOk (tab.env []) Try.prog 31 .rule := ⟨_, Try.underlying31⟩
theorem und35 : UndOk (tab.env []) Try.prog 35 (.sl .node) := ⟨37, by kernel_rfl, by kernel_rfl⟩
theorem und37 : UndOk (tab.env []) Try.prog 37 .node := ⟨_, Try.underlying37⟩
theorem und39 : UndOk (tab.env []) Try.prog 39 (.sl .node) := ⟨41, by kernel_rfl, by kernel_rfl⟩
theorem und41 : UndOk (tab.env []) Try.prog 41 .node := ⟨_, Try.underlying41⟩
theorem und76 : UndOk (tab.env []) Try.prog 76 (.sl (.i .u8)) := ⟨5, by kernel_rfl, by kernel_rfl⟩
theorem und84 : UndOk (tab.env []) Try.prog 84 (.i .u32) := (by kernel_rfl : Try.prog.underlying 84 = some (.int .u32))
theorem und85 : UndOk (tab.env []) Try.prog 85 (.i .u8) := (by kernel_rfl : Try.prog.underlying 85 = some (.int .u8))
theorem und86 : UndOk (tab.env []) Try.prog 86 (.i .u8) := (by kernel_rfl : Try.prog.underlying 86 = some (.int .u8))
theorem und89 : UndOk (tab.env []) Try.prog 89 (.i .i32) := (by kernel_rfl : Try.prog.underlying 89 = some (.int .i32))
theorem und90 : UndOk (tab.env []) Try.prog 90 (.i .i32) := (by kernel_rfl : Try.prog.underlying 90 = some (.int .i32))
theorem fld26 : ∃ fs : Array Field, Try.prog.underlying 26 = some (.struct fs) ∧ [(0, 3), (1, 22), (2, 23), (3, 24), (4, 3), (5, 3)] = fs.toList.map (fun f => (f.offset, f.type)) ∧ (∀ y ∈ ([(0, 3), (1, 22), (2, 23), (3, 24), (4, 3), (5, 3)] : List (Nat × Nat)), (aget tab.code y.2).isSome) ∧ (fs.toList.mapM (fun f => (Try.prog.info? f.type).map fun i => (f.offset, i.size))).isSome :=
  ⟨_, Try.underlying26, by kernel_rfl, List.all_eq_true.1 (by kernel_rfl), by kernel_rfl⟩
theorem fld31 : ∃ fs : Array Field, Try.prog.underlying 31 = some (.struct fs) ∧ [(0, 3), (1, 22), (2, 29), (3, 24), (4, 3), (5, 3)] = fs.toList.map (fun f => (f.offset, f.type)) ∧ (∀ y ∈ ([(0, 3), (1, 22), (2, 29), (3, 24), (4, 3), (5, 3)] : List (Nat × Nat)), (aget tab.code y.2).isSome) ∧ (fs.toList.mapM (fun f => (Try.prog.info? f.type).map fun i => (f.offset, i.size))).isSome :=
  ⟨_, Try.underlying31, by kernel_rfl, List.all_eq_true.1 (by kernel_rfl), by kernel_rfl⟩
theorem fld37 : ∃ fs : Array Field, Try.prog.underlying 37 = some (.struct fs) ∧ [(0, 3), (1, 3), (2, 9), (3, 22), (4, 35)] = fs.toList.map (fun f => (f.offset, f.type)) ∧ (∀ y ∈ ([(0, 3), (1, 3), (2, 9), (3, 22), (4, 35)] : List (Nat × Nat)), (aget tab.code y.2).isSome) ∧ (fs.toList.mapM (fun f => (Try.prog.info? f.type).map fun i => (f.offset, i.size))).isSome :=
  ⟨_, Try.underlying37, by kernel_rfl, List.all_eq_true.1 (by kernel_rfl), by kernel_rfl⟩
theorem fld41 : ∃ fs : Array Field, Try.prog.underlying 41 = some (.struct fs) ∧ [(0, 3), (1, 3), (2, 9), (3, 22), (4, 39)] = fs.toList.map (fun f => (f.offset, f.type)) ∧ (∀ y ∈ ([(0, 3), (1, 3), (2, 9), (3, 22), (4, 39)] : List (Nat × Nat)), (aget tab.code y.2).isSome) ∧ (fs.toList.mapM (fun f => (Try.prog.info? f.type).map fun i => (f.offset, i.size))).isSome :=
  ⟨_, Try.underlying41, by kernel_rfl, List.all_eq_true.1 (by kernel_rfl), by kernel_rfl⟩
theorem tab_ok : tab.Ok Try.prog := {
  info := infoChk_ok (by kernel_rfl)
  und := List.forall_mem_cons.2 ⟨und2, List.forall_mem_cons.2 ⟨und3, List.forall_mem_cons.2 ⟨und4, List.forall_mem_cons.2 ⟨und5, List.forall_mem_cons.2 ⟨und6, List.forall_mem_cons.2 ⟨und9, List.forall_mem_cons.2 ⟨und10, List.forall_mem_cons.2 ⟨und11, List.forall_mem_cons.2 ⟨und12, List.forall_mem_cons.2 ⟨und21, List.forall_mem_cons.2 ⟨und22, List.forall_mem_cons.2 ⟨und23, List.forall_mem_cons.2 ⟨und24, List.forall_mem_cons.2 ⟨und26, List.forall_mem_cons.2 ⟨und29, List.forall_mem_cons.2 ⟨und31, List.forall_mem_cons.2 ⟨und35, List.forall_mem_cons.2 ⟨und37, List.forall_mem_cons.2 ⟨und39, List.forall_mem_cons.2 ⟨und41, List.forall_mem_cons.2 ⟨und76, List.forall_mem_cons.2 ⟨und84, List.forall_mem_cons.2 ⟨und85, List.forall_mem_cons.2 ⟨und86, List.forall_mem_cons.2 ⟨und89, List.forall_mem_cons.2 ⟨und90, List.forall_mem_nil _⟩⟩⟩⟩⟩⟩⟩⟩⟩⟩⟩⟩⟩⟩⟩⟩⟩⟩⟩⟩⟩⟩⟩⟩⟩⟩
  fld := List.forall_mem_cons.2 ⟨fld26, List.forall_mem_cons.2 ⟨fld31, List.forall_mem_cons.2 ⟨fld37, List.forall_mem_cons.2 ⟨fld41, List.forall_mem_nil _⟩⟩⟩⟩
  sts := List.forall_mem_cons.2 ⟨fun h => by first | (cases h; done) | (simp; done), List.forall_mem_cons.2 ⟨fun h => by first | (cases h; done) | (simp; done), List.forall_mem_cons.2 ⟨fun h => by first | (cases h; done) | (simp; done), List.forall_mem_cons.2 ⟨fun h => by first | (cases h; done) | (simp; done), List.forall_mem_cons.2 ⟨fun h => by first | (cases h; done) | (simp; done), List.forall_mem_cons.2 ⟨fun h => by first | (cases h; done) | (simp; done), List.forall_mem_cons.2 ⟨fun h => by first | (cases h; done) | (simp; done), List.forall_mem_cons.2 ⟨fun h => by first | (cases h; done) | (simp; done), List.forall_mem_cons.2 ⟨fun h => by first | (cases h; done) | (simp; done), List.forall_mem_cons.2 ⟨fun h => by first | (cases h; done) | (simp; done), List.forall_mem_cons.2 ⟨fun h => by first | (cases h; done) | (simp; done), List.forall_mem_cons.2 ⟨fun h => by first | (cases h; done) | (simp; done), List.forall_mem_cons.2 ⟨fun h => by first | (cases h; done) | (simp; done), List.forall_mem_cons.2 ⟨fun _ => by simp [tab], List.forall_mem_cons.2 ⟨fun h => by first | (cases h; done) | (simp; done), List.forall_mem_cons.2 ⟨fun _ => by simp [tab], List.forall_mem_cons.2 ⟨fun h => by first | (cases h; done) | (simp; done), List.forall_mem_cons.2 ⟨fun _ => by simp [tab], List.forall_mem_cons.2 ⟨fun h => by first | (cases h; done) | (simp; done), List.forall_mem_cons.2 ⟨fun _ => by simp [tab], List.forall_mem_cons.2 ⟨fun h => by first | (cases h; done) | (simp; done), List.forall_mem_cons.2 ⟨fun h => by first | (cases h; done) | (simp; done), List.forall_mem_cons.2 ⟨fun h => by first | (cases h; done) | (simp; done), List.forall_mem_cons.2 ⟨fun h => by first | (cases h; done) | (simp; done), List.forall_mem_cons.2 ⟨fun h => by first | (cases h; done) | (simp; done), List.forall_mem_cons.2 ⟨fun h => by first | (cases h; done) | (simp; done), List.forall_mem_nil _⟩⟩⟩⟩⟩⟩⟩⟩⟩⟩⟩⟩⟩⟩⟩⟩⟩⟩⟩⟩⟩⟩⟩⟩⟩⟩
  eqs := List.forall_mem_nil _
  ord := by kernel_rfl }
end Go.Proofs.Ytglijihijmkpaaa

/- x -/
namespace Go.Proofs.Ytglijihijmkpaaa
open Go Go.Gm
/-! ### loop.example/g00465/spec.l1In -/
noncomputable def f42c : Code := (Try.f42.body).getD .skip
def f42k : Nat → Kp := kat [⟨[0, 1, 2], []⟩, ⟨[6], []⟩]
noncomputable def f42e : Env := tab.env []
theorem f42_run {R : Type} (n : Nat) (k : List Dt → Option R) (a0 : Int) (a1 : Int) (a2 : Int) : evFn f42e f42k n f42c [.ro, .ro, .ro] [false] true [.tmp 6] [4] [.d (.i .i64) a0, .d (.i .i64) a1, .d (.i .i64) a2] k =
    (cond (decide (a0 ≥ a1))
    (k [.d .bool (decide (a0 ≤ a2))])
    (k [.d .bool false])) := by kernel_rfl
theorem f42_spec (a0 : Int) (a1 : Int) (a2 : Int) : ∃ keep rounds, ∀ {R : Type} (k : List Dt → Option R), evFn f42e keep rounds f42c [.ro, .ro, .ro] [false] true [.tmp 6] [4] [.d (.i .i64) a0, .d (.i .i64) a1, .d (.i .i64) a2] k = k [.d .bool (inR a0 a1 a2)] := by
  refine ⟨f42k, 0, fun k => ?_⟩
  rw [f42_run]; unfold inR
  cases decide (a0 ≥ a1) <;> rfl

noncomputable def q42 : List Dt → Option (Bool × List Dt)
  | [.d (.i .i64) a0, .d (.i .i64) a1, .d (.i .i64) a2] => some (true, [.d .bool (inR a0 a1 a2)])
  | _ => none
noncomputable def s42 : Gm.Spec := Gm.Spec.of [.ro, .ro, .ro] [false] true q42
theorem good42 : Gm.Good Try.prog (42, s42) := by
  have hl : ∀ x ∈ ([] : List (Nat × Gm.Spec)), Gm.Good Try.prog x := fun _ h => by cases h
  refine ⟨⟨spec_ok (tab_ok.env hl) (tab.natl hl) Try.func42 (by kernel_rfl : Try.f42.body = some f42c) [4] (by kernel_rfl) ?_, _, Try.func42, by kernel_rfl, of_decide_eq_true (by kernel_rfl)⟩, Gm.Spec.of_natl _ _ _ _⟩
  intro ds outs h
  unfold q42 at h
  split at h
  · cases h; exact f42_spec _ _ _
  · cases h
/-! ### loop.example/g00465/impl.from -/
noncomputable def f45c : Code := (Try.f45.body).getD .skip
def f45k : Nat → Kp := kat [⟨[0, 1, 2], []⟩, ⟨[6], []⟩]
noncomputable def f45e : Env := tab.env []
theorem f45_run {R : Type} (n : Nat) (k : List Dt → Option R) (a0 : Int) (a1 : Int) (a2 : Int) : evFn f45e f45k n f45c [.ro, .ro, .ro] [false] true [.tmp 6] [4] [.d (.i .i64) a0, .d (.i .i64) a1, .d (.i .i64) a2] k =
    (cond (decide (a0 ≥ a1))
    (k [.d .bool (decide (a0 ≤ a2))])
    (k [.d .bool false])) := by kernel_rfl
theorem f45_spec (a0 : Int) (a1 : Int) (a2 : Int) : ∃ keep rounds, ∀ {R : Type} (k : List Dt → Option R), evFn f45e keep rounds f45c [.ro, .ro, .ro] [false] true [.tmp 6] [4] [.d (.i .i64) a0, .d (.i .i64) a1, .d (.i .i64) a2] k = k [.d .bool (inR a0 a1 a2)] := by
  refine ⟨f45k, 0, fun k => ?_⟩
  rw [f45_run]; unfold inR
  cases decide (a0 ≥ a1) <;> rfl

noncomputable def q45 : List Dt → Option (Bool × List Dt)
  | [.d (.i .i64) a0, .d (.i .i64) a1, .d (.i .i64) a2] => some (true, [.d .bool (inR a0 a1 a2)])
  | _ => none
noncomputable def s45 : Gm.Spec := Gm.Spec.of [.ro, .ro, .ro] [false] true q45
theorem good45 : Gm.Good Try.prog (45, s45) := by
  have hl : ∀ x ∈ ([] : List (Nat × Gm.Spec)), Gm.Good Try.prog x := fun _ h => by cases h
  refine ⟨⟨spec_ok (tab_ok.env hl) (tab.natl hl) Try.func45 (by kernel_rfl : Try.f45.body = some f45c) [4] (by kernel_rfl) ?_, _, Try.func45, by kernel_rfl, of_decide_eq_true (by kernel_rfl)⟩, Gm.Spec.of_natl _ _ _ _⟩
  intro ds outs h
  unfold q45 at h
  split at h
  · cases h; exact f45_spec _ _ _
  · cases h
/-! ### loop.example/g00465/spec.TextOk -/
noncomputable def f55c : Code := (Try.f55.body).getD .skip
def f55k : Nat → Kp := kat [⟨[0], []⟩, ⟨[0, 3], []⟩, ⟨[0, 3, 7], []⟩, ⟨[0, 3], []⟩, ⟨[0, 3, 19], []⟩, ⟨[2], []⟩, ⟨[2], []⟩]
noncomputable def f55e : Env := tab.env []
noncomputable def f55L0 {R : Type} (n : Nat) (x0 : Option R) (x1 : Int → Bool → Option R) (vs0 : ByteArray) : Nat → Int → Option R
  | 0, _ => none
  | m + 1, vs3 =>
    (cond (decide (vs3 < (ByteArray.size vs0 : Int)))
      (cond ((decide ((0 : Int) ≤ vs3)) && (decide (vs3 < (ByteArray.size vs0 : Int))))
        (cond (decide ((((ByteArray.data vs0).getD (Int.toNat vs3) 0).toNat : Int) < (32 : Int)))
          (x0)
          (cond ((decide ((0 : Int) ≤ vs3)) && (decide (vs3 < (ByteArray.size vs0 : Int))))
            (cond (decide ((((ByteArray.data vs0).getD (Int.toNat vs3) 0).toNat : Int) > (126 : Int)))
              (x0)
              (f55L0 n x0 x1 vs0 m (IntKind.wrap .i64 (vs3 + (1 : Int)))))
            none))
        none)
      (x1 vs3 (decide (vs3 < (ByteArray.size vs0 : Int)))))
theorem f55L0_b {R : Type} (n : Nat) (k' : Ex → St → Option R) (vs0 : ByteArray) (vs3 : Int) : ev f55e f55k n (cAt [1,0,1,0,0] f55c) ⟨[(0, .c (.one (.v (.string vs0)))), (3, .c (.one (.v (.int .i64 vs3))))], [], []⟩ k' =
    (cond (decide (vs3 < (ByteArray.size vs0 : Int)))
    (cond ((decide ((0 : Int) ≤ vs3)) && (decide (vs3 < (ByteArray.size vs0 : Int))))
      (cond (decide ((((ByteArray.data vs0).getD (Int.toNat vs3) 0).toNat : Int) < (32 : Int)))
        (k' .ret ⟨[(2, .c (.one (.v (.bool false))))], [], []⟩)
        (cond ((decide ((0 : Int) ≤ vs3)) && (decide (vs3 < (ByteArray.size vs0 : Int))))
          (cond (decide ((((ByteArray.data vs0).getD (Int.toNat vs3) 0).toNat : Int) > (126 : Int)))
            (k' .ret ⟨[(2, .c (.one (.v (.bool false))))], [], []⟩)
            (k' .normal ⟨[(0, .c (.one (.v (.string vs0)))), (3, .c (.one (.v (.int .i64 (IntKind.wrap .i64 (vs3 + (1 : Int)))))))], [], []⟩))
          none))
      none)
    (k' (.exit 0) ⟨[(0, .c (.one (.v (.string vs0)))), (3, .c (.one (.v (.int .i64 vs3)))), (7, .c (.one (.v (.bool (decide (vs3 < (ByteArray.size vs0 : Int)))))))], [], []⟩)) := by kernel_rfl
theorem f55L0_eq {R : Type} (n : Nat) (k' : Ex → St → Option R) (vs0 : ByteArray) : ∀ (m : Nat) (vs3 : Int), iter (fun st k => ev f55e f55k n (cAt [1,0,1,0,0] f55c) st k) m ⟨[(0, .c (.one (.v (.string vs0)))), (3, .c (.one (.v (.int .i64 vs3))))], [], []⟩ k' = f55L0 n (k' .ret ⟨[(2, .c (.one (.v (.bool false))))], [], []⟩) (fun (xvs3 : Int) (xvs7 : Bool) => k' (.exit 0) ⟨[(0, .c (.one (.v (.string vs0)))), (3, .c (.one (.v (.int .i64 xvs3)))), (7, .c (.one (.v (.bool xvs7))))], [], []⟩) vs0 m vs3 := by
  intro m; induction m with
  | zero => intros; rfl
  | succ m ih =>
    intro vs3
    simp only [iter]
    rw [f55L0_b]
    simp only [ih, f55L0]

noncomputable def f55K0 {R : Type} (n : Nat) (k' : Ex → St → Option R) : Ex → St → Option R := (blockK 0 (seqK f55e f55k n (cAt [1,1] f55c) k'))
theorem f55K0_x0 {R : Type} (n : Nat) (k : List Dt → Option R) (a0 : ByteArray)  : f55K0 n (exitK f55e [.ro] [false] true [.tmp 2] [4] [.d .str a0] k) .ret ⟨[(2, .c (.one (.v (.bool false))))], [], []⟩ =
    (k [.d .bool false]) := by kernel_rfl
theorem f55K0_x1 {R : Type} (n : Nat) (k : List Dt → Option R) (a0 : ByteArray) (vs0 : ByteArray) (xvs3 : Int) (xvs7 : Bool) : f55K0 n (exitK f55e [.ro] [false] true [.tmp 2] [4] [.d .str a0] k) (.exit 0) ⟨[(0, .c (.one (.v (.string vs0)))), (3, .c (.one (.v (.int .i64 xvs3)))), (7, .c (.one (.v (.bool xvs7))))], [], []⟩ =
    (k [.d .bool (decide ((ByteArray.size vs0 : Int) ≤ (400 : Int)))]) := by kernel_rfl

theorem f55_run {R : Type} (n : Nat) (k : List Dt → Option R) (a0 : ByteArray) : evFn f55e f55k n f55c [.ro] [false] true [.tmp 2] [4] [.d .str a0] k =
    (f55L0 n (k [.d .bool false]) (fun (xvs3 : Int) (xvs7 : Bool) =>
    (k [.d .bool (decide ((ByteArray.size a0 : Int) ≤ (400 : Int)))])) a0 n (0 : Int)) := by
  refine Eq.trans (b := (iter (fun st k => ev f55e f55k n (cAt [1,0,1,0,0] f55c) st k) n ⟨[(0, .c (.one (.v (.string a0)))), (3, .c (.one (.v (.int .i64 (0 : Int)))))], [], []⟩ (f55K0 n (exitK f55e [.ro] [false] true [.tmp 2] [4] [.d .str a0] k)))) (by kernel_rfl) ?_
  simp only [f55L0_eq, f55K0_x0, f55K0_x1]
theorem f55_spec (a0 : ByteArray) (hg : okStr a0 = true) : ∃ keep rounds, ∀ {R : Type} (k : List Dt → Option R), evFn f55e keep rounds f55c [.ro] [false] true [.tmp 2] [4] [.d .str a0] k = k [.d .bool (textOk a0)] := by
  have hl : a0.size ≤ 9223372036854775807 := bleN hg
  refine ⟨f55k, a0.size + 1, fun {R} k => ?_⟩
  rw [f55_run]
  refine Eq.trans (loop_idx (n := a0.size) (F := fun m i => f55L0 (a0.size + 1) _ _ a0 m i) (p := fun j => inR (byteAt a0 j) 32 126) (good := _) (bad := k [.d .bool false])
    (fun m j hj => ?_) (fun m => by simp only [f55L0, idxE, cond_false]; rfl) a0.size 0 (a0.size + 1) (by omega) (by omega)) ?_
  · obtain ⟨h1, h0, hw, ht⟩ := idx hj (by omega)
    have hc : 0 ≤ byteAt a0 j ∧ byteAt a0 j < 256 := by
      unfold byteAt
      have := UInt8.toNat_lt (a0.data.getD j 0)
      omega
    simp only [f55L0, h1, h0, hw, ht, Bool.and_self, cond_true]
    change 0 ≤ (((ByteArray.data a0).getD j 0).toNat : Int) ∧ (((ByteArray.data a0).getD j 0).toNat : Int) < 256 at hc
    show _ = cond (inR (((ByteArray.data a0).getD j 0).toNat : Int) 32 126) _ _
    generalize (((ByteArray.data a0).getD j 0).toNat : Int) = c at *
    unfold inR
    rw [show decide (c < 32) = !(decide (c ≥ 32)) by rw [Bool.eq_iff_iff]; simp, show decide (c > 126) = !(decide (c ≤ 126)) by rw [Bool.eq_iff_iff]; simp]
    cases decide (c ≥ 32) <;> cases decide (c ≤ 126) <;> rfl
  · unfold textOk
    cases allN (fun j => inR (byteAt a0 j) 32 126) 0 a0.size <;> rfl

noncomputable def q55 : List Dt → Option (Bool × List Dt)
  | [.d .str a0] => some ((okStr a0), [.d .bool (textOk a0)])
  | _ => none
noncomputable def s55 : Gm.Spec := Gm.Spec.of [.ro] [false] true q55
theorem good55 : Gm.Good Try.prog (55, s55) := by
  have hl : ∀ x ∈ ([] : List (Nat × Gm.Spec)), Gm.Good Try.prog x := fun _ h => by cases h
  refine ⟨⟨spec_ok (tab_ok.env hl) (tab.natl hl) Try.func55 (by kernel_rfl : Try.f55.body = some f55c) [4] (by kernel_rfl) ?_, _, Try.func55, by kernel_rfl, of_decide_eq_true (by kernel_rfl)⟩, Gm.Spec.of_natl _ _ _ _⟩
  intro ds outs h
  unfold q55 at h
  split at h
  · simp only [Option.some.injEq, Prod.mk.injEq] at h; obtain ⟨hg, h⟩ := h; cases h; exact f55_spec _ hg
  · cases h
/-! ### loop.example/g00465/impl.TextOk -/
noncomputable def f46c : Code := (Try.f46.body).getD .skip
def f46k : Nat → Kp := kat [⟨[0], []⟩, ⟨[0, 5, 6], []⟩, ⟨[0, 5, 6, 7], []⟩, ⟨[0, 3, 5, 6], []⟩, ⟨[0, 5, 6, 14], []⟩, ⟨[2], []⟩, ⟨[0, 5, 6], []⟩, ⟨[2], []⟩]
noncomputable def f46e : Env := tab.env [(45, s45)]
noncomputable def f46L0 {R : Type} (n : Nat) (x0 : Option R) (x1 : Int → Bool → Option R) (vs0 : ByteArray) (vs5 : Int) : Nat → Int → Option R
  | 0, _ => none
  | m + 1, vs6 =>
    (cond (decide (vs6 < vs5))
      (cond ((decide ((0 : Int) ≤ vs6)) && (decide (vs6 < (ByteArray.size vs0 : Int))))
        (cond (!(inR (IntKind.wrap .i64 (((ByteArray.data vs0).getD (Int.toNat vs6) 0).toNat : Int)) (32 : Int) (126 : Int)))
          (x0)
          (f46L0 n x0 x1 vs0 vs5 m (IntKind.wrap .i64 (vs6 + (1 : Int)))))
        none)
      (x1 vs6 (decide (vs6 < vs5))))
theorem f46L0_b {R : Type} (n : Nat) (k' : Ex → St → Option R) (vs0 : ByteArray) (vs5 : Int) (vs6 : Int) : ev f46e f46k n (cAt [1,0,1,0,0] f46c) ⟨[(0, .c (.one (.v (.string vs0)))), (5, .c (.one (.v (.int .i64 vs5)))), (6, .c (.one (.v (.int .i64 vs6))))], [], []⟩ k' =
    (cond (decide (vs6 < vs5))
    (cond ((decide ((0 : Int) ≤ vs6)) && (decide (vs6 < (ByteArray.size vs0 : Int))))
      (cond (!(inR (IntKind.wrap .i64 (((ByteArray.data vs0).getD (Int.toNat vs6) 0).toNat : Int)) (32 : Int) (126 : Int)))
        (k' .ret ⟨[(2, .c (.one (.v (.bool false))))], [], []⟩)
        (k' .normal ⟨[(0, .c (.one (.v (.string vs0)))), (5, .c (.one (.v (.int .i64 vs5)))), (6, .c (.one (.v (.int .i64 (IntKind.wrap .i64 (vs6 + (1 : Int)))))))], [], []⟩))
      none)
    (k' (.exit 0) ⟨[(0, .c (.one (.v (.string vs0)))), (5, .c (.one (.v (.int .i64 vs5)))), (6, .c (.one (.v (.int .i64 vs6)))), (7, .c (.one (.v (.bool (decide (vs6 < vs5))))))], [], []⟩)) := by kernel_rfl
theorem f46L0_eq {R : Type} (n : Nat) (k' : Ex → St → Option R) (vs0 : ByteArray) (vs5 : Int) : ∀ (m : Nat) (vs6 : Int), iter (fun st k => ev f46e f46k n (cAt [1,0,1,0,0] f46c) st k) m ⟨[(0, .c (.one (.v (.string vs0)))), (5, .c (.one (.v (.int .i64 vs5)))), (6, .c (.one (.v (.int .i64 vs6))))], [], []⟩ k' = f46L0 n (k' .ret ⟨[(2, .c (.one (.v (.bool false))))], [], []⟩) (fun (xvs6 : Int) (xvs7 : Bool) => k' (.exit 0) ⟨[(0, .c (.one (.v (.string vs0)))), (5, .c (.one (.v (.int .i64 vs5)))), (6, .c (.one (.v (.int .i64 xvs6)))), (7, .c (.one (.v (.bool xvs7))))], [], []⟩) vs0 vs5 m vs6 := by
  intro m; induction m with
  | zero => intros; rfl
  | succ m ih =>
    intro vs6
    simp only [iter]
    rw [f46L0_b]
    simp only [ih, f46L0]

noncomputable def f46K0 {R : Type} (n : Nat) (k' : Ex → St → Option R) : Ex → St → Option R := (blockK 0 (seqK f46e f46k n (cAt [1,1] f46c) k'))
theorem f46K0_x0 {R : Type} (n : Nat) (k : List Dt → Option R) (a0 : ByteArray)  : f46K0 n (exitK f46e [.ro] [false] true [.tmp 2] [4] [.d .str a0] k) .ret ⟨[(2, .c (.one (.v (.bool false))))], [], []⟩ =
    (k [.d .bool false]) := by kernel_rfl
theorem f46K0_x1 {R : Type} (n : Nat) (k : List Dt → Option R) (a0 : ByteArray) (vs0 : ByteArray) (vs5 : Int) (xvs6 : Int) (xvs7 : Bool) : f46K0 n (exitK f46e [.ro] [false] true [.tmp 2] [4] [.d .str a0] k) (.exit 0) ⟨[(0, .c (.one (.v (.string vs0)))), (5, .c (.one (.v (.int .i64 vs5)))), (6, .c (.one (.v (.int .i64 xvs6)))), (7, .c (.one (.v (.bool xvs7))))], [], []⟩ =
    (k [.d .bool (decide ((ByteArray.size vs0 : Int) ≤ (400 : Int)))]) := by kernel_rfl

theorem f46_run {R : Type} (n : Nat) (k : List Dt → Option R) (a0 : ByteArray) : evFn f46e f46k n f46c [.ro] [false] true [.tmp 2] [4] [.d .str a0] k =
    (f46L0 n (k [.d .bool false]) (fun (xvs6 : Int) (xvs7 : Bool) =>
    (k [.d .bool (decide ((ByteArray.size a0 : Int) ≤ (400 : Int)))])) a0 (ByteArray.size a0 : Int) n (0 : Int)) := by
  refine Eq.trans (b := (iter (fun st k => ev f46e f46k n (cAt [1,0,1,0,0] f46c) st k) n ⟨[(0, .c (.one (.v (.string a0)))), (5, .c (.one (.v (.int .i64 (ByteArray.size a0 : Int))))), (6, .c (.one (.v (.int .i64 (0 : Int)))))], [], []⟩ (f46K0 n (exitK f46e [.ro] [false] true [.tmp 2] [4] [.d .str a0] k)))) (by kernel_rfl) ?_
  simp only [f46L0_eq, f46K0_x0, f46K0_x1]
theorem f46_spec (a0 : ByteArray) (hg : okStr a0 = true) : ∃ keep rounds, ∀ {R : Type} (k : List Dt → Option R), evFn f46e keep rounds f46c [.ro] [false] true [.tmp 2] [4] [.d .str a0] k = k [.d .bool (textOk a0)] := by
  have hl : a0.size ≤ 9223372036854775807 := bleN hg
  refine ⟨f46k, a0.size + 1, fun {R} k => ?_⟩
  rw [f46_run]
  refine Eq.trans (loop_idx (n := a0.size) (F := fun m i => f46L0 (a0.size + 1) _ _ a0 (a0.size : Int) m i) (p := fun j => inR (byteAt a0 j) 32 126) (good := _) (bad := k [.d .bool false])
    (fun m j hj => ?_) (fun m => by simp only [f46L0, idxE, cond_false]; rfl) a0.size 0 (a0.size + 1) (by omega) (by omega)) ?_
  · obtain ⟨h1, h0, hw, ht⟩ := idx hj (by omega)
    have hc : 0 ≤ byteAt a0 j ∧ byteAt a0 j < 256 := by
      unfold byteAt
      have := UInt8.toNat_lt (a0.data.getD j 0)
      omega
    simp only [f46L0, h1, h0, hw, ht, Bool.and_self, cond_true]
    change 0 ≤ (((ByteArray.data a0).getD j 0).toNat : Int) ∧ (((ByteArray.data a0).getD j 0).toNat : Int) < 256 at hc
    show _ = cond (inR (((ByteArray.data a0).getD j 0).toNat : Int) 32 126) _ _
    generalize (((ByteArray.data a0).getD j 0).toNat : Int) = c at *
    rw [wrap_id (by omega) (by omega)]
    cases inR c 32 126 <;> rfl
  · unfold textOk
    cases allN (fun j => inR (byteAt a0 j) 32 126) 0 a0.size <;> rfl

noncomputable def q46 : List Dt → Option (Bool × List Dt)
  | [.d .str a0] => some ((okStr a0), [.d .bool (textOk a0)])
  | _ => none
noncomputable def s46 : Gm.Spec := Gm.Spec.of [.ro] [false] true q46
theorem good46 : Gm.Good Try.prog (46, s46) := by
  have hl : ∀ x ∈ [(45, s45)], Gm.Good Try.prog x := List.forall_mem_cons.2 ⟨good45, List.forall_mem_nil _⟩
  refine ⟨⟨spec_ok (tab_ok.env hl) (tab.natl hl) Try.func46 (by kernel_rfl : Try.f46.body = some f46c) [4] (by kernel_rfl) ?_, _, Try.func46, by kernel_rfl, of_decide_eq_true (by kernel_rfl)⟩, Gm.Spec.of_natl _ _ _ _⟩
  intro ds outs h
  unfold q46 at h
  split at h
  · simp only [Option.some.injEq, Prod.mk.injEq] at h; obtain ⟨hg, h⟩ := h; cases h; exact f46_spec _ hg
  · cases h
/-! ### loop.example/g00465/spec.l1Bit -/
noncomputable def f44c : Code := (Try.f44.body).getD .skip
def f44k : Nat → Kp := kat [⟨[0], []⟩, ⟨[3], []⟩, ⟨[2], []⟩, ⟨[2], []⟩]
noncomputable def f44e : Env := tab.env []
theorem f44_run {R : Type} (n : Nat) (k : List Dt → Option R) (a0 : Bool) : evFn f44e f44k n f44c [.ro] [false] true [.tmp 2] [3] [.d .bool a0] k =
    (cond a0
    (k [.d (.i .i64) (1 : Int)])
    (k [.d (.i .i64) (0 : Int)])) := by kernel_rfl
theorem f44_spec (a0 : Bool) : ∃ keep rounds, ∀ {R : Type} (k : List Dt → Option R), evFn f44e keep rounds f44c [.ro] [false] true [.tmp 2] [3] [.d .bool a0] k = k [.d (.i .i64) (bitI a0)] := by
  refine ⟨f44k, 0, fun k => ?_⟩
  rw [f44_run]; unfold bitI; cases a0 <;> rfl

noncomputable def q44 : List Dt → Option (Bool × List Dt)
  | [.d .bool a0] => some (true, [.d (.i .i64) (bitI a0)])
  | _ => none
noncomputable def s44 : Gm.Spec := Gm.Spec.of [.ro] [false] true q44
theorem good44 : Gm.Good Try.prog (44, s44) := by
  have hl : ∀ x ∈ ([] : List (Nat × Gm.Spec)), Gm.Good Try.prog x := fun _ h => by cases h
  refine ⟨⟨spec_ok (tab_ok.env hl) (tab.natl hl) Try.func44 (by kernel_rfl : Try.f44.body = some f44c) [3] (by kernel_rfl) ?_, _, Try.func44, by kernel_rfl, of_decide_eq_true (by kernel_rfl)⟩, Gm.Spec.of_natl _ _ _ _⟩
  intro ds outs h
  unfold q44 at h
  split at h
  · cases h; exact f44_spec _
  · cases h
/-! ### loop.example/g00465/spec.l3Keys -/
noncomputable def f43c : Code := (Try.f43.body).getD .skip
def f43k : Nat → Kp := kat [⟨[0], []⟩, ⟨[0, 3], []⟩, ⟨[0, 3, 7], []⟩, ⟨[0, 3], []⟩, ⟨[0, 3, 31], []⟩, ⟨[2], []⟩, ⟨[2], []⟩]
noncomputable def f43e : Env := tab.env [(55, s55)]
noncomputable def f43L0 {R : Type} (n : Nat) (x0 : Option R) (x1 : Int → Bool → Option R) (vs0 : List ByteArray) : Nat → Int → Option R
  | 0, _ => none
  | m + 1, vs3 =>
    (cond (decide (vs3 < (vs0.length : Int)))
      (cond ((decide ((0 : Int) ≤ vs3)) && (decide (vs3 < (vs0.length : Int))))
        (cond (okStr (atI (t := .str) vs0 (Int.toNat vs3)))
          (cond (!(textOk (atI (t := .str) vs0 (Int.toNat vs3))))
            (x0)
            (cond (decide (vs3 > (0 : Int)))
              (cond ((decide ((0 : Int) ≤ (IntKind.wrap .i64 (vs3 - (1 : Int))))) && (decide ((IntKind.wrap .i64 (vs3 - (1 : Int))) < (vs0.length : Int))))
                (cond ((decide ((0 : Int) ≤ vs3)) && (decide (vs3 < (vs0.length : Int))))
                  (cond (!(sLt (atI (t := .str) vs0 (Int.toNat (IntKind.wrap .i64 (vs3 - (1 : Int))))) (atI (t := .str) vs0 (Int.toNat vs3))))
                    (x0)
                    (f43L0 n x0 x1 vs0 m (IntKind.wrap .i64 (vs3 + (1 : Int)))))
                  none)
                none)
              (f43L0 n x0 x1 vs0 m (IntKind.wrap .i64 (vs3 + (1 : Int))))))
          none)
        none)
      (x1 vs3 (decide (vs3 < (vs0.length : Int)))))
theorem f43L0_b {R : Type} (n : Nat) (k' : Ex → St → Option R) (vs0 : List ByteArray) (vs3 : Int) : ev f43e f43k n (cAt [1,0,1,0,0] f43c) ⟨[(0, .c (.one (.ro .str vs0))), (3, .c (.one (.v (.int .i64 vs3))))], [], []⟩ k' =
    (cond (decide (vs3 < (vs0.length : Int)))
    (cond ((decide ((0 : Int) ≤ vs3)) && (decide (vs3 < (vs0.length : Int))))
      (cond (okStr (atI (t := .str) vs0 (Int.toNat vs3)))
        (cond (!(textOk (atI (t := .str) vs0 (Int.toNat vs3))))
          (k' .ret ⟨[(2, .c (.one (.v (.bool false))))], [], []⟩)
          (cond (decide (vs3 > (0 : Int)))
            (cond ((decide ((0 : Int) ≤ (IntKind.wrap .i64 (vs3 - (1 : Int))))) && (decide ((IntKind.wrap .i64 (vs3 - (1 : Int))) < (vs0.length : Int))))
              (cond ((decide ((0 : Int) ≤ vs3)) && (decide (vs3 < (vs0.length : Int))))
                (cond (!(sLt (atI (t := .str) vs0 (Int.toNat (IntKind.wrap .i64 (vs3 - (1 : Int))))) (atI (t := .str) vs0 (Int.toNat vs3))))
                  (k' .ret ⟨[(2, .c (.one (.v (.bool false))))], [], []⟩)
                  (k' .normal ⟨[(0, .c (.one (.ro .str vs0))), (3, .c (.one (.v (.int .i64 (IntKind.wrap .i64 (vs3 + (1 : Int)))))))], [], []⟩))
                none)
              none)
            (k' .normal ⟨[(0, .c (.one (.ro .str vs0))), (3, .c (.one (.v (.int .i64 (IntKind.wrap .i64 (vs3 + (1 : Int)))))))], [], []⟩)))
        none)
      none)
    (k' (.exit 0) ⟨[(0, .c (.one (.ro .str vs0))), (3, .c (.one (.v (.int .i64 vs3)))), (7, .c (.one (.v (.bool (decide (vs3 < (vs0.length : Int)))))))], [], []⟩)) := by kernel_rfl
theorem f43L0_eq {R : Type} (n : Nat) (k' : Ex → St → Option R) (vs0 : List ByteArray) : ∀ (m : Nat) (vs3 : Int), iter (fun st k => ev f43e f43k n (cAt [1,0,1,0,0] f43c) st k) m ⟨[(0, .c (.one (.ro .str vs0))), (3, .c (.one (.v (.int .i64 vs3))))], [], []⟩ k' = f43L0 n (k' .ret ⟨[(2, .c (.one (.v (.bool false))))], [], []⟩) (fun (xvs3 : Int) (xvs7 : Bool) => k' (.exit 0) ⟨[(0, .c (.one (.ro .str vs0))), (3, .c (.one (.v (.int .i64 xvs3)))), (7, .c (.one (.v (.bool xvs7))))], [], []⟩) vs0 m vs3 := by
  intro m; induction m with
  | zero => intros; rfl
  | succ m ih =>
    intro vs3
    simp only [iter]
    rw [f43L0_b]
    simp only [ih, f43L0]

noncomputable def f43K0 {R : Type} (n : Nat) (k' : Ex → St → Option R) : Ex → St → Option R := (blockK 0 (seqK f43e f43k n (cAt [1,1] f43c) k'))
theorem f43K0_x0 {R : Type} (n : Nat) (k : List Dt → Option R) (a0 : List ByteArray)  : f43K0 n (exitK f43e [.ro] [false] true [.tmp 2] [4] [.d (.sl .str) a0] k) .ret ⟨[(2, .c (.one (.v (.bool false))))], [], []⟩ =
    (k [.d .bool false]) := by kernel_rfl
theorem f43K0_x1 {R : Type} (n : Nat) (k : List Dt → Option R) (a0 : List ByteArray) (vs0 : List ByteArray) (xvs3 : Int) (xvs7 : Bool) : f43K0 n (exitK f43e [.ro] [false] true [.tmp 2] [4] [.d (.sl .str) a0] k) (.exit 0) ⟨[(0, .c (.one (.ro .str vs0))), (3, .c (.one (.v (.int .i64 xvs3)))), (7, .c (.one (.v (.bool xvs7))))], [], []⟩ =
    (k [.d .bool true]) := by kernel_rfl

theorem f43_run {R : Type} (n : Nat) (k : List Dt → Option R) (a0 : List ByteArray) : evFn f43e f43k n f43c [.ro] [false] true [.tmp 2] [4] [.d (.sl .str) a0] k =
    (f43L0 n (k [.d .bool false]) (fun (xvs3 : Int) (xvs7 : Bool) =>
    (k [.d .bool true])) a0 n (0 : Int)) := by
  refine Eq.trans (b := (iter (fun st k => ev f43e f43k n (cAt [1,0,1,0,0] f43c) st k) n ⟨[(0, .c (.one (.ro .str a0))), (3, .c (.one (.v (.int .i64 (0 : Int)))))], [], []⟩ (f43K0 n (exitK f43e [.ro] [false] true [.tmp 2] [4] [.d (.sl .str) a0] k)))) (by kernel_rfl) ?_
  simp only [f43L0_eq, f43K0_x0, f43K0_x1]
theorem f43_spec (a0 : List ByteArray) (hg : gNames a0 = true) : ∃ keep rounds, ∀ {R : Type} (k : List Dt → Option R), evFn f43e keep rounds f43c [.ro] [false] true [.tmp 2] [4] [.d (.sl .str) a0] k = k [.d .bool (keysOk a0)] := by
  simp only [gNames, okL, Bool.and_eq_true] at hg
  obtain ⟨hl, hs⟩ := hg
  have hl : a0.length ≤ 9223372036854775807 := bleN hl
  refine ⟨f43k, a0.length + 1, fun {R} k => ?_⟩
  rw [f43_run]
  refine Eq.trans (loop_idx (n := a0.length) (F := fun m i => f43L0 (a0.length + 1) _ _ a0 m i) (p := keyC a0) (good := k [.d .bool true]) (bad := k [.d .bool false])
    (fun m j hj => ?_) (fun m => by simp only [f43L0, idxE, cond_false]) a0.length 0 (a0.length + 1) (by omega) (by omega)) ?_
  · obtain ⟨h1, h0, hw, ht⟩ := idx hj (by omega)
    simp only [f43L0, h1, h0, hw, ht, okStr_at hs hj, Bool.and_self, cond_true]
    unfold keyC
    cases textOk (atI (t := .str) a0 j)
    · rfl
    · by_cases hz : (j : Int) > 0
      · obtain ⟨h2, h3, _, h5⟩ := idx (show j - 1 < a0.length by omega) (by omega)
        simp only [hz, decide_true, cond_true, idxM hj (by omega) (by omega), h2, h3, h5, Bool.and_self]
        cases sLt (atI (t := .str) a0 (j - 1)) (atI (t := .str) a0 j) <;> rfl
      · simp only [hz, decide_false, cond_false]; rfl
  · unfold keysOk
    cases allN (keyC a0) 0 a0.length <;> rfl

noncomputable def q43 : List Dt → Option (Bool × List Dt)
  | [.d (.sl .str) a0] => some ((gNames a0), [.d .bool (keysOk a0)])
  | _ => none
noncomputable def s43 : Gm.Spec := Gm.Spec.of [.ro] [false] true q43
theorem good43 : Gm.Good Try.prog (43, s43) := by
  have hl : ∀ x ∈ [(55, s55)], Gm.Good Try.prog x := List.forall_mem_cons.2 ⟨good55, List.forall_mem_nil _⟩
  refine ⟨⟨spec_ok (tab_ok.env hl) (tab.natl hl) Try.func43 (by kernel_rfl : Try.f43.body = some f43c) [4] (by kernel_rfl) ?_, _, Try.func43, by kernel_rfl, of_decide_eq_true (by kernel_rfl)⟩, Gm.Spec.of_natl _ _ _ _⟩
  intro ds outs h
  unfold q43 at h
  split at h
  · simp only [Option.some.injEq, Prod.mk.injEq] at h; obtain ⟨hg, h⟩ := h; cases h; exact f43_spec _ hg
  · cases h
end Go.Proofs.Ytglijihijmkpaaa

/- x -/
namespace Go.Proofs.Ytglijihijmkpaaa
open Go Go.Gm
noncomputable def q21 : List Dt → Option (Bool × List Dt)
  | [.d .rule a0, .d (.i .i64) a1] => some ((gRule a0 a1), [.d .bool (ruleRight a0 a1)])
  | _ => none
noncomputable def mu21 : List Dt → Nat
  | [.d .rule a0, .d (.i .i64) a1] => (fun (r : RuleT) (_ : Int) => nd_rule r) a0 a1
  | _ => 0
noncomputable def s21r (N : Nat) : Gm.Spec := Gm.Spec.of [.ro, .ro] [false] true (qlt mu21 N q21)
/-! ### loop.example/g00465/spec.l24Right -/
noncomputable def f21c : Code := (Try.f21.body).getD .skip
def f21k : Nat → Kp := kat [⟨[1, 2], []⟩, ⟨[1, 2, 20], []⟩, ⟨[4], []⟩, ⟨[1, 2, 5], []⟩, ⟨[1, 2, 5, 25], []⟩, ⟨[1, 2, 5], []⟩, ⟨[1, 2, 5, 36], []⟩, ⟨[4], []⟩, ⟨[2, 59], []⟩, ⟨[4], []⟩, ⟨[2, 62], []⟩, ⟨[4], []⟩, ⟨[4], []⟩]
noncomputable def f21e (N : Nat) : Env := tab.env [(21, s21r N), (42, s42), (43, s43), (44, s44)]
noncomputable def f21L0 {R : Type} (N : Nat) (n : Nat) (x0 : Option R) (x1 : Int → Bool → Option R) (vs1 : Int) (vb2_0 : Int) (vb2_1 : List ByteArray) (vb2_2 : List RuleT) (vb2_3 : List Bool) (vb2_4 : Int) (vb2_5 : Int) : Nat → Int → Option R
  | 0, _ => none
  | m + 1, vs5 =>
    (cond (decide (vs5 < (vb2_2.length : Int)))
      (cond ((decide ((0 : Int) ≤ vs5)) && (decide (vs5 < (vb2_2.length : Int))))
        (cond ((gRule (⟨(RuleT.kind (atI (t := .rule) vb2_2 (Int.toNat vs5))), (RuleT.keys (atI (t := .rule) vb2_2 (Int.toNat vs5))), (RuleT.kids (atI (t := .rule) vb2_2 (Int.toNat vs5))), (RuleT.need (atI (t := .rule) vb2_2 (Int.toNat vs5))), (RuleT.low (atI (t := .rule) vb2_2 (Int.toNat vs5))), (RuleT.high (atI (t := .rule) vb2_2 (Int.toNat vs5)))⟩ : RuleT) (IntKind.wrap .i64 (vs1 - (1 : Int)))) && (Nat.blt ((fun (r : RuleT) (_ : Int) => nd_rule r) (⟨(RuleT.kind (atI (t := .rule) vb2_2 (Int.toNat vs5))), (RuleT.keys (atI (t := .rule) vb2_2 (Int.toNat vs5))), (RuleT.kids (atI (t := .rule) vb2_2 (Int.toNat vs5))), (RuleT.need (atI (t := .rule) vb2_2 (Int.toNat vs5))), (RuleT.low (atI (t := .rule) vb2_2 (Int.toNat vs5))), (RuleT.high (atI (t := .rule) vb2_2 (Int.toNat vs5)))⟩ : RuleT) (IntKind.wrap .i64 (vs1 - (1 : Int)))) N))
          (cond (!(ruleRight (⟨(RuleT.kind (atI (t := .rule) vb2_2 (Int.toNat vs5))), (RuleT.keys (atI (t := .rule) vb2_2 (Int.toNat vs5))), (RuleT.kids (atI (t := .rule) vb2_2 (Int.toNat vs5))), (RuleT.need (atI (t := .rule) vb2_2 (Int.toNat vs5))), (RuleT.low (atI (t := .rule) vb2_2 (Int.toNat vs5))), (RuleT.high (atI (t := .rule) vb2_2 (Int.toNat vs5)))⟩ : RuleT) (IntKind.wrap .i64 (vs1 - (1 : Int)))))
            (x0)
            (f21L0 N n x0 x1 vs1 vb2_0 vb2_1 vb2_2 vb2_3 vb2_4 vb2_5 m (IntKind.wrap .i64 (vs5 + (1 : Int)))))
          none)
        none)
      (x1 vs5 (decide (vs5 < (vb2_2.length : Int)))))
theorem f21L0_b {R : Type} (N : Nat) (n : Nat) (k' : Ex → St → Option R) (vs1 : Int) (vs5 : Int) (vb2_0 : Int) (vb2_1 : List ByteArray) (vb2_2 : List RuleT) (vb2_3 : List Bool) (vb2_4 : Int) (vb2_5 : Int) : ev (f21e N) f21k n (cAt [1,1,0,1,0,0] f21c) ⟨[(1, .c (.one (.v (.int .i64 vs1)))), (2, .c (.one (.pt 2 0))), (5, .c (.one (.v (.int .i64 vs5))))], [(2, ⟨.rule, [.v (.int .i64 vb2_0), .ro .str vb2_1, .ro .rule vb2_2, .ro .bool vb2_3, .v (.int .i64 vb2_4), .v (.int .i64 vb2_5)]⟩)], []⟩ k' =
    (cond (decide (vs5 < (vb2_2.length : Int)))
    (cond ((decide ((0 : Int) ≤ vs5)) && (decide (vs5 < (vb2_2.length : Int))))
      (cond ((gRule (⟨(RuleT.kind (atI (t := .rule) vb2_2 (Int.toNat vs5))), (RuleT.keys (atI (t := .rule) vb2_2 (Int.toNat vs5))), (RuleT.kids (atI (t := .rule) vb2_2 (Int.toNat vs5))), (RuleT.need (atI (t := .rule) vb2_2 (Int.toNat vs5))), (RuleT.low (atI (t := .rule) vb2_2 (Int.toNat vs5))), (RuleT.high (atI (t := .rule) vb2_2 (Int.toNat vs5)))⟩ : RuleT) (IntKind.wrap .i64 (vs1 - (1 : Int)))) && (Nat.blt ((fun (r : RuleT) (_ : Int) => nd_rule r) (⟨(RuleT.kind (atI (t := .rule) vb2_2 (Int.toNat vs5))), (RuleT.keys (atI (t := .rule) vb2_2 (Int.toNat vs5))), (RuleT.kids (atI (t := .rule) vb2_2 (Int.toNat vs5))), (RuleT.need (atI (t := .rule) vb2_2 (Int.toNat vs5))), (RuleT.low (atI (t := .rule) vb2_2 (Int.toNat vs5))), (RuleT.high (atI (t := .rule) vb2_2 (Int.toNat vs5)))⟩ : RuleT) (IntKind.wrap .i64 (vs1 - (1 : Int)))) N))
        (cond (!(ruleRight (⟨(RuleT.kind (atI (t := .rule) vb2_2 (Int.toNat vs5))), (RuleT.keys (atI (t := .rule) vb2_2 (Int.toNat vs5))), (RuleT.kids (atI (t := .rule) vb2_2 (Int.toNat vs5))), (RuleT.need (atI (t := .rule) vb2_2 (Int.toNat vs5))), (RuleT.low (atI (t := .rule) vb2_2 (Int.toNat vs5))), (RuleT.high (atI (t := .rule) vb2_2 (Int.toNat vs5)))⟩ : RuleT) (IntKind.wrap .i64 (vs1 - (1 : Int)))))
          (k' .ret ⟨[(4, .c (.one (.v (.bool false))))], [], []⟩)
          (k' .normal ⟨[(1, .c (.one (.v (.int .i64 vs1)))), (2, .c (.one (.pt 2 0))), (5, .c (.one (.v (.int .i64 (IntKind.wrap .i64 (vs5 + (1 : Int)))))))], [(2, ⟨.rule, [.v (.int .i64 vb2_0), .ro .str vb2_1, .ro .rule vb2_2, .ro .bool vb2_3, .v (.int .i64 vb2_4), .v (.int .i64 vb2_5)]⟩)], []⟩))
        none)
      none)
    (k' (.exit 0) ⟨[(1, .c (.one (.v (.int .i64 vs1)))), (2, .c (.one (.pt 2 0))), (5, .c (.one (.v (.int .i64 vs5)))), (25, .c (.one (.v (.bool (decide (vs5 < (vb2_2.length : Int)))))))], [(2, ⟨.rule, [.v (.int .i64 vb2_0), .ro .str vb2_1, .ro .rule vb2_2, .ro .bool vb2_3, .v (.int .i64 vb2_4), .v (.int .i64 vb2_5)]⟩)], []⟩)) := by kernel_rfl
theorem f21L0_eq {R : Type} (N : Nat) (n : Nat) (k' : Ex → St → Option R) (vs1 : Int) (vb2_0 : Int) (vb2_1 : List ByteArray) (vb2_2 : List RuleT) (vb2_3 : List Bool) (vb2_4 : Int) (vb2_5 : Int) : ∀ (m : Nat) (vs5 : Int), iter (fun st k => ev (f21e N) f21k n (cAt [1,1,0,1,0,0] f21c) st k) m ⟨[(1, .c (.one (.v (.int .i64 vs1)))), (2, .c (.one (.pt 2 0))), (5, .c (.one (.v (.int .i64 vs5))))], [(2, ⟨.rule, [.v (.int .i64 vb2_0), .ro .str vb2_1, .ro .rule vb2_2, .ro .bool vb2_3, .v (.int .i64 vb2_4), .v (.int .i64 vb2_5)]⟩)], []⟩ k' = f21L0 N n (k' .ret ⟨[(4, .c (.one (.v (.bool false))))], [], []⟩) (fun (xvs5 : Int) (xvs25 : Bool) => k' (.exit 0) ⟨[(1, .c (.one (.v (.int .i64 vs1)))), (2, .c (.one (.pt 2 0))), (5, .c (.one (.v (.int .i64 xvs5)))), (25, .c (.one (.v (.bool xvs25))))], [(2, ⟨.rule, [.v (.int .i64 vb2_0), .ro .str vb2_1, .ro .rule vb2_2, .ro .bool vb2_3, .v (.int .i64 vb2_4), .v (.int .i64 vb2_5)]⟩)], []⟩) vs1 vb2_0 vb2_1 vb2_2 vb2_3 vb2_4 vb2_5 m vs5 := by
  intro m; induction m with
  | zero => intros; rfl
  | succ m ih =>
    intro vs5
    simp only [iter]
    rw [f21L0_b]
    simp only [ih, f21L0]

noncomputable def f21K0 {R : Type} (N : Nat) (n : Nat) (k' : Ex → St → Option R) : Ex → St → Option R := (blockK 0 (seqK (f21e N) f21k n (cAt [1,1,1] f21c) k'))
theorem f21K0_x0 {R : Type} (N : Nat) (n : Nat) (k : List Dt → Option R) (a0 : RuleT) (a1 : Int)  : f21K0 N n (exitK (f21e N) [.ro, .ro] [false] true [.tmp 4] [4] [.d .rule a0, .d (.i .i64) a1] k) .ret ⟨[(4, .c (.one (.v (.bool false))))], [], []⟩ =
    (k [.d .bool false]) := by kernel_rfl
theorem f21K0_x1 {R : Type} (N : Nat) (n : Nat) (k : List Dt → Option R) (a0 : RuleT) (a1 : Int) (vs1 : Int) (vb2_0 : Int) (vb2_1 : List ByteArray) (vb2_2 : List RuleT) (vb2_3 : List Bool) (vb2_4 : Int) (vb2_5 : Int) (xvs5 : Int) (xvs25 : Bool) : f21K0 N n (exitK (f21e N) [.ro, .ro] [false] true [.tmp 4] [4] [.d .rule a0, .d (.i .i64) a1] k) (.exit 0) ⟨[(1, .c (.one (.v (.int .i64 vs1)))), (2, .c (.one (.pt 2 0))), (5, .c (.one (.v (.int .i64 xvs5)))), (25, .c (.one (.v (.bool xvs25))))], [(2, ⟨.rule, [.v (.int .i64 vb2_0), .ro .str vb2_1, .ro .rule vb2_2, .ro .bool vb2_3, .v (.int .i64 vb2_4), .v (.int .i64 vb2_5)]⟩)], []⟩ =
    (cond (vb2_0 != (2 : Int))
    (cond (vb2_0 != (3 : Int))
      (cond (vb2_0 != (4 : Int))
        (cond (vb2_4 != (0 : Int))
          (k [.d .bool false])
          (cond (vb2_5 != (0 : Int))
            (k [.d .bool false])
            (cond (vb2_0 == (5 : Int))
              (cond ((vb2_1.length : Int) == (vb2_2.length : Int))
                (cond ((vb2_3.length : Int) == (vb2_2.length : Int))
                  (cond (gNames vb2_1)
                    (k [.d .bool (keysOk vb2_1)])
                    none)
                  (k [.d .bool false]))
                (k [.d .bool false]))
              (cond ((vb2_1.length : Int) == (0 : Int))
                (cond ((vb2_3.length : Int) == (0 : Int))
                  (k [.d .bool ((vb2_2.length : Int) == (bitI (vb2_0 == (4 : Int))))])
                  (k [.d .bool false]))
                (k [.d .bool false])))))
        (cond (vb2_0 == (5 : Int))
          (cond ((vb2_1.length : Int) == (vb2_2.length : Int))
            (cond ((vb2_3.length : Int) == (vb2_2.length : Int))
              (cond (gNames vb2_1)
                (k [.d .bool (keysOk vb2_1)])
                none)
              (k [.d .bool false]))
            (k [.d .bool false]))
          (cond ((vb2_1.length : Int) == (0 : Int))
            (cond ((vb2_3.length : Int) == (0 : Int))
              (k [.d .bool ((vb2_2.length : Int) == (bitI (vb2_0 == (4 : Int))))])
              (k [.d .bool false]))
            (k [.d .bool false]))))
      (cond (vb2_0 == (5 : Int))
        (cond ((vb2_1.length : Int) == (vb2_2.length : Int))
          (cond ((vb2_3.length : Int) == (vb2_2.length : Int))
            (cond (gNames vb2_1)
              (k [.d .bool (keysOk vb2_1)])
              none)
            (k [.d .bool false]))
          (k [.d .bool false]))
        (cond ((vb2_1.length : Int) == (0 : Int))
          (cond ((vb2_3.length : Int) == (0 : Int))
            (k [.d .bool ((vb2_2.length : Int) == (bitI (vb2_0 == (4 : Int))))])
            (k [.d .bool false]))
          (k [.d .bool false]))))
    (cond (vb2_0 == (5 : Int))
      (cond ((vb2_1.length : Int) == (vb2_2.length : Int))
        (cond ((vb2_3.length : Int) == (vb2_2.length : Int))
          (cond (gNames vb2_1)
            (k [.d .bool (keysOk vb2_1)])
            none)
          (k [.d .bool false]))
        (k [.d .bool false]))
      (cond ((vb2_1.length : Int) == (0 : Int))
        (cond ((vb2_3.length : Int) == (0 : Int))
          (k [.d .bool ((vb2_2.length : Int) == (bitI (vb2_0 == (4 : Int))))])
          (k [.d .bool false]))
        (k [.d .bool false])))) := by kernel_rfl

theorem f21_run {R : Type} (N : Nat) (n : Nat) (k : List Dt → Option R) (a0 : RuleT) (a1 : Int) : evFn (f21e N) f21k n f21c [.ro, .ro] [false] true [.tmp 4] [4] [.d .rule a0, .d (.i .i64) a1] k =
    (cond (!(inR (RuleT.kind a0) (-1 : Int) (5 : Int)))
    (k [.d .bool false])
    (cond (decide ((RuleT.low a0) > (RuleT.high a0)))
      (k [.d .bool false])
      (cond (decide (a1 ≤ (0 : Int)))
        (k [.d .bool false])
        (f21L0 N n (k [.d .bool false]) (fun (xvs5 : Int) (xvs25 : Bool) =>
          (cond ((RuleT.kind a0) != (2 : Int))
            (cond ((RuleT.kind a0) != (3 : Int))
              (cond ((RuleT.kind a0) != (4 : Int))
                (cond ((RuleT.low a0) != (0 : Int))
                  (k [.d .bool false])
                  (cond ((RuleT.high a0) != (0 : Int))
                    (k [.d .bool false])
                    (cond ((RuleT.kind a0) == (5 : Int))
                      (cond (((RuleT.keys a0).length : Int) == ((RuleT.kids a0).length : Int))
                        (cond (((RuleT.need a0).length : Int) == ((RuleT.kids a0).length : Int))
                          (cond (gNames (RuleT.keys a0))
                            (k [.d .bool (keysOk (RuleT.keys a0))])
                            none)
                          (k [.d .bool false]))
                        (k [.d .bool false]))
                      (cond (((RuleT.keys a0).length : Int) == (0 : Int))
                        (cond (((RuleT.need a0).length : Int) == (0 : Int))
                          (k [.d .bool (((RuleT.kids a0).length : Int) == (bitI ((RuleT.kind a0) == (4 : Int))))])
                          (k [.d .bool false]))
                        (k [.d .bool false])))))
                (cond ((RuleT.kind a0) == (5 : Int))
                  (cond (((RuleT.keys a0).length : Int) == ((RuleT.kids a0).length : Int))
                    (cond (((RuleT.need a0).length : Int) == ((RuleT.kids a0).length : Int))
                      (cond (gNames (RuleT.keys a0))
                        (k [.d .bool (keysOk (RuleT.keys a0))])
                        none)
                      (k [.d .bool false]))
                    (k [.d .bool false]))
                  (cond (((RuleT.keys a0).length : Int) == (0 : Int))
                    (cond (((RuleT.need a0).length : Int) == (0 : Int))
                      (k [.d .bool (((RuleT.kids a0).length : Int) == (bitI ((RuleT.kind a0) == (4 : Int))))])
                      (k [.d .bool false]))
                    (k [.d .bool false]))))
              (cond ((RuleT.kind a0) == (5 : Int))
                (cond (((RuleT.keys a0).length : Int) == ((RuleT.kids a0).length : Int))
                  (cond (((RuleT.need a0).length : Int) == ((RuleT.kids a0).length : Int))
                    (cond (gNames (RuleT.keys a0))
                      (k [.d .bool (keysOk (RuleT.keys a0))])
                      none)
                    (k [.d .bool false]))
                  (k [.d .bool false]))
                (cond (((RuleT.keys a0).length : Int) == (0 : Int))
                  (cond (((RuleT.need a0).length : Int) == (0 : Int))
                    (k [.d .bool (((RuleT.kids a0).length : Int) == (bitI ((RuleT.kind a0) == (4 : Int))))])
                    (k [.d .bool false]))
                  (k [.d .bool false]))))
            (cond ((RuleT.kind a0) == (5 : Int))
              (cond (((RuleT.keys a0).length : Int) == ((RuleT.kids a0).length : Int))
                (cond (((RuleT.need a0).length : Int) == ((RuleT.kids a0).length : Int))
                  (cond (gNames (RuleT.keys a0))
                    (k [.d .bool (keysOk (RuleT.keys a0))])
                    none)
                  (k [.d .bool false]))
                (k [.d .bool false]))
              (cond (((RuleT.keys a0).length : Int) == (0 : Int))
                (cond (((RuleT.need a0).length : Int) == (0 : Int))
                  (k [.d .bool (((RuleT.kids a0).length : Int) == (bitI ((RuleT.kind a0) == (4 : Int))))])
                  (k [.d .bool false]))
                (k [.d .bool false]))))) a1 (RuleT.kind a0) (RuleT.keys a0) (RuleT.kids a0) (RuleT.need a0) (RuleT.low a0) (RuleT.high a0) n (0 : Int))))) := by
  refine Eq.trans (b := (cond (!(inR (RuleT.kind a0) (-1 : Int) (5 : Int)))
    (k [.d .bool false])
    (cond (decide ((RuleT.low a0) > (RuleT.high a0)))
      (k [.d .bool false])
      (cond (decide (a1 ≤ (0 : Int)))
        (k [.d .bool false])
        (iter (fun st k => ev (f21e N) f21k n (cAt [1,1,0,1,0,0] f21c) st k) n ⟨[(1, .c (.one (.v (.int .i64 a1)))), (2, .c (.one (.pt 2 0))), (5, .c (.one (.v (.int .i64 (0 : Int)))))], [(2, ⟨.rule, [.v (.int .i64 (RuleT.kind a0)), .ro .str (RuleT.keys a0), .ro .rule (RuleT.kids a0), .ro .bool (RuleT.need a0), .v (.int .i64 (RuleT.low a0)), .v (.int .i64 (RuleT.high a0))]⟩)], []⟩ (f21K0 N n (exitK (f21e N) [.ro, .ro] [false] true [.tmp 4] [4] [.d .rule a0, .d (.i .i64) a1] k))))))) (by kernel_rfl) ?_
  simp only [f21L0_eq, f21K0_x0, f21K0_x1]
theorem f21_spec (N : Nat) (a0 : RuleT) (a1 : Int) (hg : gRule a0 a1 = true) (hm : mu21 [.d .rule a0, .d (.i .i64) a1] = N) : ∃ keep rounds, ∀ {R : Type} (k : List Dt → Option R), evFn (f21e N) keep rounds f21c [.ro, .ro] [false] true [.tmp 4] [4] [.d .rule a0, .d (.i .i64) a1] k = k [.d .bool (ruleRight a0 a1)] := by
  have hm : nd_rule a0 = N := hm
  subst hm
  simp only [gRule, sm_rule_def, Bool.and_eq_true, decide_eq_true_eq] at hg
  obtain ⟨⟨_, hke, hki, _, _, _⟩, hd0, hd1⟩ := hg
  have gk : gNames a0.keys = true := okL_sms hke
  have lk := smL_len hke
  have li := smL_len hki
  refine ⟨f21k, a0.kids.length + 1, fun {R} k => ?_⟩
  rw [f21_run]
  show _ = k [.d .bool (ruleRight a0 a1)]
  rw [ruleRight_def]
  unfold ruleHead
  cases inR a0.kind (-1) 5
  · rfl
  cases decide (a0.low > a0.high)
  rotate_left
  · rfl
  by_cases hd : a1 ≤ 0
  · simp only [hd, decide_true, Bool.not_true, Bool.not_false, Bool.and_false, Bool.false_and, cond_true, cond_false]
  simp only [hd, decide_false, Bool.not_true, Bool.not_false, Bool.true_and, cond_false]
  generalize hX : (fun (xvs5 : Int) (xvs25 : Bool) => _) = X
  refine Eq.trans (loop_idx (n := a0.kids.length) (F := fun m i => f21L0 (nd_rule a0) (a0.kids.length + 1) _ X a1 a0.kind a0.keys a0.kids a0.need a0.low a0.high m i) (p := fun j => ruleRight (atI (t := .rule) a0.kids j) (a1 - 1)) (good := X (a0.kids.length : Int) false) (bad := k [.d .bool false])
    (fun m j hj => ?_) (fun m => by simp only [f21L0, idxE, cond_false]) a0.kids.length 0 (a0.kids.length + 1) (by omega) (by omega)) ?_
  · obtain ⟨h1, h0, hw, ht⟩ := idx hj (by omega)
    have hs := smL_at (t := .rule) hki hj
    have hg2 : gRule (atI (t := .rule) a0.kids j) (a1 - 1) = true := by
      unfold gRule; rw [hs, decide_eq_true (show 0 ≤ a1 - 1 by omega), decide_eq_true (show a1 - 1 ≤ 100 by omega)]; rfl
    have hb : Nat.blt (nd_rule (atI (t := .rule) a0.kids j)) (nd_rule a0) = true := by
      obtain ⟨x, hx, _⟩ := drop_get hj
      have := nd_rule_kid (x := a0) (List.mem_of_getElem? hx)
      rw [atI_of (t := .rule) hx, Nat.blt_eq]; exact this
    simp only [f21L0, h1, h0, hw, ht, eta_rule, wrap_id (x := a1 - 1) (by omega) (by omega), hg2, hb, Bool.and_self, cond_true]
    cases ruleRight (atI (t := .rule) a0.kids j) (a1 - 1) <;> rfl
  · rw [allN_all (q := fun x => ruleRight x (a1 - 1)) (fun j x hx => by rw [atI_of (t := .rule) hx]), ← hX]
    cases a0.kids.all fun x => ruleRight x (a1 - 1)
    · rfl
    simp only [cond_true, Bool.true_and, gk]
    unfold ruleShape
    simp only [bne]
    cases a0.kind == (2 : Int) <;> cases a0.kind == (3 : Int) <;> cases a0.kind == (4 : Int) <;> cases a0.low == (0 : Int) <;> cases a0.high == (0 : Int) <;> cases a0.kind == (5 : Int) <;> simp only [cond_true, cond_false, Bool.not_true, Bool.not_false, Bool.true_or, Bool.or_true, Bool.false_or, Bool.true_and, Bool.false_and, Bool.and_true, Bool.and_false] <;>
      first
        | rfl
        | (cases ((a0.keys.length : Int) == (a0.kids.length : Int)) <;> cases ((a0.need.length : Int) == (a0.kids.length : Int)) <;> rfl)
        | (cases ((a0.keys.length : Int) == (0 : Int)) <;> cases ((a0.need.length : Int) == (0 : Int)) <;> rfl)

noncomputable def s21 : Gm.Spec := Gm.Spec.of [.ro, .ro] [false] true q21
theorem good21 : Gm.Good Try.prog (21, s21) := by
  refine ⟨⟨spec_rec mu21 fun N hr => ?_, _, Try.func21, by kernel_rfl, of_decide_eq_true (by kernel_rfl)⟩, Gm.Spec.of_natl _ _ _ _⟩
  have hl : ∀ x ∈ [(21, s21r N), (42, s42), (43, s43), (44, s44)], Gm.Good Try.prog x := List.forall_mem_cons.2 ⟨⟨⟨hr, _, Try.func21, by kernel_rfl, of_decide_eq_true (by kernel_rfl)⟩, Gm.Spec.of_natl _ _ _ _⟩, List.forall_mem_cons.2 ⟨good42, List.forall_mem_cons.2 ⟨good43, List.forall_mem_cons.2 ⟨good44, List.forall_mem_nil _⟩⟩⟩⟩
  intro R
  refine spec_ok (E := f21e N) (tab_ok.env hl) (tab.natl hl) Try.func21 (by kernel_rfl : Try.f21.body = some f21c) [4] (by kernel_rfl) ?_
  intro ds outs h
  obtain ⟨h, hm⟩ := qeq_some h
  unfold q21 at h
  split at h
  · simp only [Option.some.injEq, Prod.mk.injEq] at h; obtain ⟨hg, h⟩ := h; cases h; exact f21_spec N _ _ hg hm
  · cases h
noncomputable def q25 : List Dt → Option (Bool × List Dt)
  | [.d .rule a0, .d (.i .i64) a1] => some ((gRule a0 a1), [.d .bool (ruleRight a0 a1)])
  | _ => none
noncomputable def mu25 : List Dt → Nat
  | [.d .rule a0, .d (.i .i64) a1] => mr0 a0 a1
  | _ => 0
noncomputable def s25r (N : Nat) : Gm.Spec := Gm.Spec.of [.ro, .ro] [false] true (qlt mu25 N q25)
noncomputable def s25 : Gm.Spec := Gm.Spec.of [.ro, .ro] [false] true q25
noncomputable def q48 : List Dt → Option (Bool × List Dt)
  | [.d .rule a0, .d (.i .i64) a1] => some ((gRule1 a0 a1), [.d .bool (ruleNot a0 a1)])
  | _ => none
noncomputable def mu48 : List Dt → Nat
  | [.d .rule a0, .d (.i .i64) a1] => mr1 a0 a1
  | _ => 0
noncomputable def s48r (N : Nat) : Gm.Spec := Gm.Spec.of [.ro, .pro] [false] true (qlt mu48 N q48)
noncomputable def s48 : Gm.Spec := Gm.Spec.of [.ro, .pro] [false] true q48
noncomputable def q47 : List Dt → Option (Bool × List Dt)
  | [.d (.sl .rule) a0, .clo 48 [⟨(.i .i64), a1⟩]] => some ((gRules a0 a1), [.d .bool (ruleNotAny a0 a1)])
  | _ => none
noncomputable def mu47 : List Dt → Nat
  | [.d (.sl .rule) a0, .clo 48 [⟨(.i .i64), a1⟩]] => mr3 a0 a1
  | _ => 0
noncomputable def s47r (N : Nat) : Gm.Spec := Gm.Spec.of [.ro, .fn] [false] true (qlt mu47 N q47)
noncomputable def s47 : Gm.Spec := Gm.Spec.of [.ro, .fn] [false] true q47
noncomputable def q56 : List Dt → Option (Bool × List Dt)
  | [.d (.sl .rule) a0, .clo 48 [⟨(.i .i64), a1⟩]] => some ((gRules a0 a1), [.d (.i .i64) (ruleNotAt a0 a1)])
  | _ => none
noncomputable def mu56 : List Dt → Nat
  | [.d (.sl .rule) a0, .clo 48 [⟨(.i .i64), a1⟩]] => mr2 a0 a1
  | _ => 0
noncomputable def s56r (N : Nat) : Gm.Spec := Gm.Spec.of [.ro, .fn] [false] true (qlt mu56 N q56)
noncomputable def s56 : Gm.Spec := Gm.Spec.of [.ro, .fn] [false] true q56
/-! ### loop.example/g00465/impl.ruleOk -/
noncomputable def f25c : Code := (Try.f25.body).getD .skip
def f25k : Nat → Kp := kat [⟨[2, 3], []⟩, ⟨[2, 3, 5], []⟩, ⟨[2, 3, 51], []⟩, ⟨[4], []⟩, ⟨[2, 3, 6, 7], []⟩, ⟨[2, 3, 6, 7, 53], []⟩, ⟨[2, 3, 6, 7, 53, 54], []⟩, ⟨[2, 3, 6, 7], []⟩, ⟨[2, 3, 6, 7, 62], []⟩, ⟨[2, 3, 6, 7], []⟩, ⟨[2, 3, 82], []⟩, ⟨[4], []⟩, ⟨[2, 3, 84, 85, 86], []⟩, ⟨[2, 3, 84, 85, 86, 87], []⟩, ⟨[2, 3, 8, 9, 84, 85, 86], []⟩, ⟨[2, 3, 84, 85, 86, 107], []⟩, ⟨[4], []⟩, ⟨[2, 3, 84, 85, 86], []⟩, ⟨[4], []⟩]
noncomputable def f25e (N : Nat) : Env := tab.env [(45, s45), (46, s46), (47, s47r N), (48, s48r N)]
noncomputable def f25L0 {R : Type} (N : Nat) (n : Nat) (x0 : Option R) (x1 : Int → Bool → Option R) (vs84 : List ByteArray) (vs85 : Int) (vb2_0 : Int) (vb2_1 : List ByteArray) (vb2_2 : List RuleT) (vb2_3 : List Bool) (vb2_4 : Int) (vb2_5 : Int) (vb3_0 : Int) : Nat → Int → Option R
  | 0, _ => none
  | m + 1, vs86 =>
    (cond (decide (vs86 < vs85))
      (cond ((decide ((0 : Int) ≤ vs86)) && (decide (vs86 < (vs84.length : Int))))
        (cond (okStr (atI (t := .str) vs84 (Int.toNat vs86)))
          (cond (!(textOk (atI (t := .str) vs84 (Int.toNat vs86))))
            (x0)
            (cond (decide (vs86 > (0 : Int)))
              (cond ((decide ((0 : Int) ≤ (IntKind.wrap .i64 (vs86 - (1 : Int))))) && (decide ((IntKind.wrap .i64 (vs86 - (1 : Int))) < (vb2_1.length : Int))))
                (cond (!(sLt (atI (t := .str) vb2_1 (Int.toNat (IntKind.wrap .i64 (vs86 - (1 : Int))))) (atI (t := .str) vs84 (Int.toNat vs86))))
                  (x0)
                  (f25L0 N n x0 x1 vs84 vs85 vb2_0 vb2_1 vb2_2 vb2_3 vb2_4 vb2_5 vb3_0 m (IntKind.wrap .i64 (vs86 + (1 : Int)))))
                none)
              (f25L0 N n x0 x1 vs84 vs85 vb2_0 vb2_1 vb2_2 vb2_3 vb2_4 vb2_5 vb3_0 m (IntKind.wrap .i64 (vs86 + (1 : Int))))))
          none)
        none)
      (x1 vs86 (decide (vs86 < vs85))))
theorem f25L0_b {R : Type} (N : Nat) (n : Nat) (k' : Ex → St → Option R) (vs84 : List ByteArray) (vs85 : Int) (vs86 : Int) (vb2_0 : Int) (vb2_1 : List ByteArray) (vb2_2 : List RuleT) (vb2_3 : List Bool) (vb2_4 : Int) (vb2_5 : Int) (vb3_0 : Int) : ev (f25e N) f25k n (cAt [1,1,1,1,1,1,0,1,0,0] f25c) ⟨[(2, .c (.one (.pt 2 0))), (3, .c (.one (.pt 3 0))), (84, .c (.one (.ro .str vs84))), (85, .c (.one (.v (.int .i64 vs85)))), (86, .c (.one (.v (.int .i64 vs86))))], [(2, ⟨.rule, [.v (.int .i64 vb2_0), .ro .str vb2_1, .ro .rule vb2_2, .ro .bool vb2_3, .v (.int .i64 vb2_4), .v (.int .i64 vb2_5)]⟩), (3, ⟨(.i .i64), [.v (.int .i64 vb3_0)]⟩)], []⟩ k' =
    (cond (decide (vs86 < vs85))
    (cond ((decide ((0 : Int) ≤ vs86)) && (decide (vs86 < (vs84.length : Int))))
      (cond (okStr (atI (t := .str) vs84 (Int.toNat vs86)))
        (cond (!(textOk (atI (t := .str) vs84 (Int.toNat vs86))))
          (k' .ret ⟨[(4, .c (.one (.v (.bool false))))], [], []⟩)
          (cond (decide (vs86 > (0 : Int)))
            (cond ((decide ((0 : Int) ≤ (IntKind.wrap .i64 (vs86 - (1 : Int))))) && (decide ((IntKind.wrap .i64 (vs86 - (1 : Int))) < (vb2_1.length : Int))))
              (cond (!(sLt (atI (t := .str) vb2_1 (Int.toNat (IntKind.wrap .i64 (vs86 - (1 : Int))))) (atI (t := .str) vs84 (Int.toNat vs86))))
                (k' .ret ⟨[(4, .c (.one (.v (.bool false))))], [], []⟩)
                (k' .normal ⟨[(2, .c (.one (.pt 2 0))), (3, .c (.one (.pt 3 0))), (84, .c (.one (.ro .str vs84))), (85, .c (.one (.v (.int .i64 vs85)))), (86, .c (.one (.v (.int .i64 (IntKind.wrap .i64 (vs86 + (1 : Int)))))))], [(2, ⟨.rule, [.v (.int .i64 vb2_0), .ro .str vb2_1, .ro .rule vb2_2, .ro .bool vb2_3, .v (.int .i64 vb2_4), .v (.int .i64 vb2_5)]⟩), (3, ⟨(.i .i64), [.v (.int .i64 vb3_0)]⟩)], []⟩))
              none)
            (k' .normal ⟨[(2, .c (.one (.pt 2 0))), (3, .c (.one (.pt 3 0))), (84, .c (.one (.ro .str vs84))), (85, .c (.one (.v (.int .i64 vs85)))), (86, .c (.one (.v (.int .i64 (IntKind.wrap .i64 (vs86 + (1 : Int)))))))], [(2, ⟨.rule, [.v (.int .i64 vb2_0), .ro .str vb2_1, .ro .rule vb2_2, .ro .bool vb2_3, .v (.int .i64 vb2_4), .v (.int .i64 vb2_5)]⟩), (3, ⟨(.i .i64), [.v (.int .i64 vb3_0)]⟩)], []⟩)))
        none)
      none)
    (k' (.exit 1) ⟨[(2, .c (.one (.pt 2 0))), (3, .c (.one (.pt 3 0))), (84, .c (.one (.ro .str vs84))), (85, .c (.one (.v (.int .i64 vs85)))), (86, .c (.one (.v (.int .i64 vs86)))), (87, .c (.one (.v (.bool (decide (vs86 < vs85))))))], [(2, ⟨.rule, [.v (.int .i64 vb2_0), .ro .str vb2_1, .ro .rule vb2_2, .ro .bool vb2_3, .v (.int .i64 vb2_4), .v (.int .i64 vb2_5)]⟩), (3, ⟨(.i .i64), [.v (.int .i64 vb3_0)]⟩)], []⟩)) := by kernel_rfl
theorem f25L0_eq {R : Type} (N : Nat) (n : Nat) (k' : Ex → St → Option R) (vs84 : List ByteArray) (vs85 : Int) (vb2_0 : Int) (vb2_1 : List ByteArray) (vb2_2 : List RuleT) (vb2_3 : List Bool) (vb2_4 : Int) (vb2_5 : Int) (vb3_0 : Int) : ∀ (m : Nat) (vs86 : Int), iter (fun st k => ev (f25e N) f25k n (cAt [1,1,1,1,1,1,0,1,0,0] f25c) st k) m ⟨[(2, .c (.one (.pt 2 0))), (3, .c (.one (.pt 3 0))), (84, .c (.one (.ro .str vs84))), (85, .c (.one (.v (.int .i64 vs85)))), (86, .c (.one (.v (.int .i64 vs86))))], [(2, ⟨.rule, [.v (.int .i64 vb2_0), .ro .str vb2_1, .ro .rule vb2_2, .ro .bool vb2_3, .v (.int .i64 vb2_4), .v (.int .i64 vb2_5)]⟩), (3, ⟨(.i .i64), [.v (.int .i64 vb3_0)]⟩)], []⟩ k' = f25L0 N n (k' .ret ⟨[(4, .c (.one (.v (.bool false))))], [], []⟩) (fun (xvs86 : Int) (xvs87 : Bool) => k' (.exit 1) ⟨[(2, .c (.one (.pt 2 0))), (3, .c (.one (.pt 3 0))), (84, .c (.one (.ro .str vs84))), (85, .c (.one (.v (.int .i64 vs85)))), (86, .c (.one (.v (.int .i64 xvs86)))), (87, .c (.one (.v (.bool xvs87))))], [(2, ⟨.rule, [.v (.int .i64 vb2_0), .ro .str vb2_1, .ro .rule vb2_2, .ro .bool vb2_3, .v (.int .i64 vb2_4), .v (.int .i64 vb2_5)]⟩), (3, ⟨(.i .i64), [.v (.int .i64 vb3_0)]⟩)], []⟩) vs84 vs85 vb2_0 vb2_1 vb2_2 vb2_3 vb2_4 vb2_5 vb3_0 m vs86 := by
  intro m; induction m with
  | zero => intros; rfl
  | succ m ih =>
    intro vs86
    simp only [iter]
    rw [f25L0_b]
    simp only [ih, f25L0]

noncomputable def f25K0 {R : Type} (N : Nat) (n : Nat) (k' : Ex → St → Option R) : Ex → St → Option R := (blockK 1 (seqK (f25e N) f25k n (cAt [1,1,1,1,1,1,1] f25c) k'))
theorem f25K0_x0 {R : Type} (N : Nat) (n : Nat) (k : List Dt → Option R) (a0 : RuleT) (a1 : Int)  : f25K0 N n (exitK (f25e N) [.ro, .ro] [false] true [.tmp 4] [4] [.d .rule a0, .d (.i .i64) a1] k) .ret ⟨[(4, .c (.one (.v (.bool false))))], [], []⟩ =
    (k [.d .bool false]) := by kernel_rfl
theorem f25K0_x1 {R : Type} (N : Nat) (n : Nat) (k : List Dt → Option R) (a0 : RuleT) (a1 : Int) (vs84 : List ByteArray) (vs85 : Int) (vb2_0 : Int) (vb2_1 : List ByteArray) (vb2_2 : List RuleT) (vb2_3 : List Bool) (vb2_4 : Int) (vb2_5 : Int) (vb3_0 : Int) (xvs86 : Int) (xvs87 : Bool) : f25K0 N n (exitK (f25e N) [.ro, .ro] [false] true [.tmp 4] [4] [.d .rule a0, .d (.i .i64) a1] k) (.exit 1) ⟨[(2, .c (.one (.pt 2 0))), (3, .c (.one (.pt 3 0))), (84, .c (.one (.ro .str vs84))), (85, .c (.one (.v (.int .i64 vs85)))), (86, .c (.one (.v (.int .i64 xvs86)))), (87, .c (.one (.v (.bool xvs87))))], [(2, ⟨.rule, [.v (.int .i64 vb2_0), .ro .str vb2_1, .ro .rule vb2_2, .ro .bool vb2_3, .v (.int .i64 vb2_4), .v (.int .i64 vb2_5)]⟩), (3, ⟨(.i .i64), [.v (.int .i64 vb3_0)]⟩)], []⟩ =
    (cond ((gRules vb2_2 vb3_0) && (Nat.blt (mr3 vb2_2 vb3_0) N))
    (k [.d .bool (!(ruleNotAny vb2_2 vb3_0))])
    none) := by kernel_rfl

theorem f25_run {R : Type} (N : Nat) (n : Nat) (k : List Dt → Option R) (a0 : RuleT) (a1 : Int) : evFn (f25e N) f25k n f25c [.ro, .ro] [false] true [.tmp 4] [4] [.d .rule a0, .d (.i .i64) a1] k =
    (cond ((RuleT.kind a0) == (2 : Int))
    (cond (a1 == (0 : Int))
      (k [.d .bool false])
      (cond (!(inR (RuleT.kind a0) (-1 : Int) (5 : Int)))
        (k [.d .bool false])
        (cond (decide ((RuleT.low a0) > (RuleT.high a0)))
          (k [.d .bool false])
          (cond ((RuleT.kind a0) == (5 : Int))
            (cond (((RuleT.kids a0).length : Int) != ((RuleT.keys a0).length : Int))
              (k [.d .bool false])
              (cond (((RuleT.keys a0).length : Int) != ((RuleT.keys a0).length : Int))
                (k [.d .bool false])
                (cond (((RuleT.need a0).length : Int) != ((RuleT.keys a0).length : Int))
                  (k [.d .bool false])
                  (f25L0 N n (k [.d .bool false]) (fun (xvs86 : Int) (xvs87 : Bool) =>
                    (cond ((gRules (RuleT.kids a0) a1) && (Nat.blt (mr3 (RuleT.kids a0) a1) N))
                      (k [.d .bool (!(ruleNotAny (RuleT.kids a0) a1))])
                      none)) (RuleT.keys a0) ((RuleT.keys a0).length : Int) (RuleT.kind a0) (RuleT.keys a0) (RuleT.kids a0) (RuleT.need a0) (RuleT.low a0) (RuleT.high a0) a1 n (0 : Int)))))
            (cond ((RuleT.kind a0) == (4 : Int))
              (cond (((RuleT.kids a0).length : Int) != (1 : Int))
                (k [.d .bool false])
                (cond (((RuleT.keys a0).length : Int) != (0 : Int))
                  (k [.d .bool false])
                  (cond (((RuleT.need a0).length : Int) != (0 : Int))
                    (k [.d .bool false])
                    (f25L0 N n (k [.d .bool false]) (fun (xvs86 : Int) (xvs87 : Bool) =>
                      (cond ((gRules (RuleT.kids a0) a1) && (Nat.blt (mr3 (RuleT.kids a0) a1) N))
                        (k [.d .bool (!(ruleNotAny (RuleT.kids a0) a1))])
                        none)) (RuleT.keys a0) ((RuleT.keys a0).length : Int) (RuleT.kind a0) (RuleT.keys a0) (RuleT.kids a0) (RuleT.need a0) (RuleT.low a0) (RuleT.high a0) a1 n (0 : Int)))))
              (cond (((RuleT.kids a0).length : Int) != (0 : Int))
                (k [.d .bool false])
                (cond (((RuleT.keys a0).length : Int) != (0 : Int))
                  (k [.d .bool false])
                  (cond (((RuleT.need a0).length : Int) != (0 : Int))
                    (k [.d .bool false])
                    (f25L0 N n (k [.d .bool false]) (fun (xvs86 : Int) (xvs87 : Bool) =>
                      (cond ((gRules (RuleT.kids a0) a1) && (Nat.blt (mr3 (RuleT.kids a0) a1) N))
                        (k [.d .bool (!(ruleNotAny (RuleT.kids a0) a1))])
                        none)) (RuleT.keys a0) ((RuleT.keys a0).length : Int) (RuleT.kind a0) (RuleT.keys a0) (RuleT.kids a0) (RuleT.need a0) (RuleT.low a0) (RuleT.high a0) a1 n (0 : Int))))))))))
    (cond ((RuleT.kind a0) == (3 : Int))
      (cond (a1 == (0 : Int))
        (k [.d .bool false])
        (cond (!(inR (RuleT.kind a0) (-1 : Int) (5 : Int)))
          (k [.d .bool false])
          (cond (decide ((RuleT.low a0) > (RuleT.high a0)))
            (k [.d .bool false])
            (cond ((RuleT.kind a0) == (5 : Int))
              (cond (((RuleT.kids a0).length : Int) != ((RuleT.keys a0).length : Int))
                (k [.d .bool false])
                (cond (((RuleT.keys a0).length : Int) != ((RuleT.keys a0).length : Int))
                  (k [.d .bool false])
                  (cond (((RuleT.need a0).length : Int) != ((RuleT.keys a0).length : Int))
                    (k [.d .bool false])
                    (f25L0 N n (k [.d .bool false]) (fun (xvs86 : Int) (xvs87 : Bool) =>
                      (cond ((gRules (RuleT.kids a0) a1) && (Nat.blt (mr3 (RuleT.kids a0) a1) N))
                        (k [.d .bool (!(ruleNotAny (RuleT.kids a0) a1))])
                        none)) (RuleT.keys a0) ((RuleT.keys a0).length : Int) (RuleT.kind a0) (RuleT.keys a0) (RuleT.kids a0) (RuleT.need a0) (RuleT.low a0) (RuleT.high a0) a1 n (0 : Int)))))
              (cond ((RuleT.kind a0) == (4 : Int))
                (cond (((RuleT.kids a0).length : Int) != (1 : Int))
                  (k [.d .bool false])
                  (cond (((RuleT.keys a0).length : Int) != (0 : Int))
                    (k [.d .bool false])
                    (cond (((RuleT.need a0).length : Int) != (0 : Int))
                      (k [.d .bool false])
                      (f25L0 N n (k [.d .bool false]) (fun (xvs86 : Int) (xvs87 : Bool) =>
                        (cond ((gRules (RuleT.kids a0) a1) && (Nat.blt (mr3 (RuleT.kids a0) a1) N))
                          (k [.d .bool (!(ruleNotAny (RuleT.kids a0) a1))])
                          none)) (RuleT.keys a0) ((RuleT.keys a0).length : Int) (RuleT.kind a0) (RuleT.keys a0) (RuleT.kids a0) (RuleT.need a0) (RuleT.low a0) (RuleT.high a0) a1 n (0 : Int)))))
                (cond (((RuleT.kids a0).length : Int) != (0 : Int))
                  (k [.d .bool false])
                  (cond (((RuleT.keys a0).length : Int) != (0 : Int))
                    (k [.d .bool false])
                    (cond (((RuleT.need a0).length : Int) != (0 : Int))
                      (k [.d .bool false])
                      (f25L0 N n (k [.d .bool false]) (fun (xvs86 : Int) (xvs87 : Bool) =>
                        (cond ((gRules (RuleT.kids a0) a1) && (Nat.blt (mr3 (RuleT.kids a0) a1) N))
                          (k [.d .bool (!(ruleNotAny (RuleT.kids a0) a1))])
                          none)) (RuleT.keys a0) ((RuleT.keys a0).length : Int) (RuleT.kind a0) (RuleT.keys a0) (RuleT.kids a0) (RuleT.need a0) (RuleT.low a0) (RuleT.high a0) a1 n (0 : Int))))))))))
      (cond (a1 == (0 : Int))
        (k [.d .bool false])
        (cond (!(inR (RuleT.kind a0) (-1 : Int) (5 : Int)))
          (k [.d .bool false])
          (cond (decide ((RuleT.low a0) > (RuleT.high a0)))
            (k [.d .bool false])
            (cond (!((RuleT.kind a0) == (4 : Int)))
              (cond ((RuleT.low a0) != (0 : Int))
                (k [.d .bool false])
                (cond ((RuleT.high a0) != (0 : Int))
                  (k [.d .bool false])
                  (cond ((RuleT.kind a0) == (5 : Int))
                    (cond (((RuleT.kids a0).length : Int) != ((RuleT.keys a0).length : Int))
                      (k [.d .bool false])
                      (cond (((RuleT.keys a0).length : Int) != ((RuleT.keys a0).length : Int))
                        (k [.d .bool false])
                        (cond (((RuleT.need a0).length : Int) != ((RuleT.keys a0).length : Int))
                          (k [.d .bool false])
                          (f25L0 N n (k [.d .bool false]) (fun (xvs86 : Int) (xvs87 : Bool) =>
                            (cond ((gRules (RuleT.kids a0) a1) && (Nat.blt (mr3 (RuleT.kids a0) a1) N))
                              (k [.d .bool (!(ruleNotAny (RuleT.kids a0) a1))])
                              none)) (RuleT.keys a0) ((RuleT.keys a0).length : Int) (RuleT.kind a0) (RuleT.keys a0) (RuleT.kids a0) (RuleT.need a0) (RuleT.low a0) (RuleT.high a0) a1 n (0 : Int)))))
                    (cond ((RuleT.kind a0) == (4 : Int))
                      (cond (((RuleT.kids a0).length : Int) != (1 : Int))
                        (k [.d .bool false])
                        (cond (((RuleT.keys a0).length : Int) != (0 : Int))
                          (k [.d .bool false])
                          (cond (((RuleT.need a0).length : Int) != (0 : Int))
                            (k [.d .bool false])
                            (f25L0 N n (k [.d .bool false]) (fun (xvs86 : Int) (xvs87 : Bool) =>
                              (cond ((gRules (RuleT.kids a0) a1) && (Nat.blt (mr3 (RuleT.kids a0) a1) N))
                                (k [.d .bool (!(ruleNotAny (RuleT.kids a0) a1))])
                                none)) (RuleT.keys a0) ((RuleT.keys a0).length : Int) (RuleT.kind a0) (RuleT.keys a0) (RuleT.kids a0) (RuleT.need a0) (RuleT.low a0) (RuleT.high a0) a1 n (0 : Int)))))
                      (cond (((RuleT.kids a0).length : Int) != (0 : Int))
                        (k [.d .bool false])
                        (cond (((RuleT.keys a0).length : Int) != (0 : Int))
                          (k [.d .bool false])
                          (cond (((RuleT.need a0).length : Int) != (0 : Int))
                            (k [.d .bool false])
                            (f25L0 N n (k [.d .bool false]) (fun (xvs86 : Int) (xvs87 : Bool) =>
                              (cond ((gRules (RuleT.kids a0) a1) && (Nat.blt (mr3 (RuleT.kids a0) a1) N))
                                (k [.d .bool (!(ruleNotAny (RuleT.kids a0) a1))])
                                none)) (RuleT.keys a0) ((RuleT.keys a0).length : Int) (RuleT.kind a0) (RuleT.keys a0) (RuleT.kids a0) (RuleT.need a0) (RuleT.low a0) (RuleT.high a0) a1 n (0 : Int)))))))))
              (cond ((RuleT.kind a0) == (5 : Int))
                (cond (((RuleT.kids a0).length : Int) != ((RuleT.keys a0).length : Int))
                  (k [.d .bool false])
                  (cond (((RuleT.keys a0).length : Int) != ((RuleT.keys a0).length : Int))
                    (k [.d .bool false])
                    (cond (((RuleT.need a0).length : Int) != ((RuleT.keys a0).length : Int))
                      (k [.d .bool false])
                      (f25L0 N n (k [.d .bool false]) (fun (xvs86 : Int) (xvs87 : Bool) =>
                        (cond ((gRules (RuleT.kids a0) a1) && (Nat.blt (mr3 (RuleT.kids a0) a1) N))
                          (k [.d .bool (!(ruleNotAny (RuleT.kids a0) a1))])
                          none)) (RuleT.keys a0) ((RuleT.keys a0).length : Int) (RuleT.kind a0) (RuleT.keys a0) (RuleT.kids a0) (RuleT.need a0) (RuleT.low a0) (RuleT.high a0) a1 n (0 : Int)))))
                (cond ((RuleT.kind a0) == (4 : Int))
                  (cond (((RuleT.kids a0).length : Int) != (1 : Int))
                    (k [.d .bool false])
                    (cond (((RuleT.keys a0).length : Int) != (0 : Int))
                      (k [.d .bool false])
                      (cond (((RuleT.need a0).length : Int) != (0 : Int))
                        (k [.d .bool false])
                        (f25L0 N n (k [.d .bool false]) (fun (xvs86 : Int) (xvs87 : Bool) =>
                          (cond ((gRules (RuleT.kids a0) a1) && (Nat.blt (mr3 (RuleT.kids a0) a1) N))
                            (k [.d .bool (!(ruleNotAny (RuleT.kids a0) a1))])
                            none)) (RuleT.keys a0) ((RuleT.keys a0).length : Int) (RuleT.kind a0) (RuleT.keys a0) (RuleT.kids a0) (RuleT.need a0) (RuleT.low a0) (RuleT.high a0) a1 n (0 : Int)))))
                  (cond (((RuleT.kids a0).length : Int) != (0 : Int))
                    (k [.d .bool false])
                    (cond (((RuleT.keys a0).length : Int) != (0 : Int))
                      (k [.d .bool false])
                      (cond (((RuleT.need a0).length : Int) != (0 : Int))
                        (k [.d .bool false])
                        (f25L0 N n (k [.d .bool false]) (fun (xvs86 : Int) (xvs87 : Bool) =>
                          (cond ((gRules (RuleT.kids a0) a1) && (Nat.blt (mr3 (RuleT.kids a0) a1) N))
                            (k [.d .bool (!(ruleNotAny (RuleT.kids a0) a1))])
                            none)) (RuleT.keys a0) ((RuleT.keys a0).length : Int) (RuleT.kind a0) (RuleT.keys a0) (RuleT.kids a0) (RuleT.need a0) (RuleT.low a0) (RuleT.high a0) a1 n (0 : Int))))))))))))) := by
  refine Eq.trans (b := (cond ((RuleT.kind a0) == (2 : Int))
    (cond (a1 == (0 : Int))
      (k [.d .bool false])
      (cond (!(inR (RuleT.kind a0) (-1 : Int) (5 : Int)))
        (k [.d .bool false])
        (cond (decide ((RuleT.low a0) > (RuleT.high a0)))
          (k [.d .bool false])
          (cond ((RuleT.kind a0) == (5 : Int))
            (cond (((RuleT.kids a0).length : Int) != ((RuleT.keys a0).length : Int))
              (k [.d .bool false])
              (cond (((RuleT.keys a0).length : Int) != ((RuleT.keys a0).length : Int))
                (k [.d .bool false])
                (cond (((RuleT.need a0).length : Int) != ((RuleT.keys a0).length : Int))
                  (k [.d .bool false])
                  (iter (fun st k => ev (f25e N) f25k n (cAt [1,1,1,1,1,1,0,1,0,0] f25c) st k) n ⟨[(2, .c (.one (.pt 2 0))), (3, .c (.one (.pt 3 0))), (84, .c (.one (.ro .str (RuleT.keys a0)))), (85, .c (.one (.v (.int .i64 ((RuleT.keys a0).length : Int))))), (86, .c (.one (.v (.int .i64 (0 : Int)))))], [(2, ⟨.rule, [.v (.int .i64 (RuleT.kind a0)), .ro .str (RuleT.keys a0), .ro .rule (RuleT.kids a0), .ro .bool (RuleT.need a0), .v (.int .i64 (RuleT.low a0)), .v (.int .i64 (RuleT.high a0))]⟩), (3, ⟨(.i .i64), [.v (.int .i64 a1)]⟩)], []⟩ (f25K0 N n (exitK (f25e N) [.ro, .ro] [false] true [.tmp 4] [4] [.d .rule a0, .d (.i .i64) a1] k))))))
            (cond ((RuleT.kind a0) == (4 : Int))
              (cond (((RuleT.kids a0).length : Int) != (1 : Int))
                (k [.d .bool false])
                (cond (((RuleT.keys a0).length : Int) != (0 : Int))
                  (k [.d .bool false])
                  (cond (((RuleT.need a0).length : Int) != (0 : Int))
                    (k [.d .bool false])
                    (iter (fun st k => ev (f25e N) f25k n (cAt [1,1,1,1,1,1,0,1,0,0] f25c) st k) n ⟨[(2, .c (.one (.pt 2 0))), (3, .c (.one (.pt 3 0))), (84, .c (.one (.ro .str (RuleT.keys a0)))), (85, .c (.one (.v (.int .i64 ((RuleT.keys a0).length : Int))))), (86, .c (.one (.v (.int .i64 (0 : Int)))))], [(2, ⟨.rule, [.v (.int .i64 (RuleT.kind a0)), .ro .str (RuleT.keys a0), .ro .rule (RuleT.kids a0), .ro .bool (RuleT.need a0), .v (.int .i64 (RuleT.low a0)), .v (.int .i64 (RuleT.high a0))]⟩), (3, ⟨(.i .i64), [.v (.int .i64 a1)]⟩)], []⟩ (f25K0 N n (exitK (f25e N) [.ro, .ro] [false] true [.tmp 4] [4] [.d .rule a0, .d (.i .i64) a1] k))))))
              (cond (((RuleT.kids a0).length : Int) != (0 : Int))
                (k [.d .bool false])
                (cond (((RuleT.keys a0).length : Int) != (0 : Int))
                  (k [.d .bool false])
                  (cond (((RuleT.need a0).length : Int) != (0 : Int))
                    (k [.d .bool false])
                    (iter (fun st k => ev (f25e N) f25k n (cAt [1,1,1,1,1,1,0,1,0,0] f25c) st k) n ⟨[(2, .c (.one (.pt 2 0))), (3, .c (.one (.pt 3 0))), (84, .c (.one (.ro .str (RuleT.keys a0)))), (85, .c (.one (.v (.int .i64 ((RuleT.keys a0).length : Int))))), (86, .c (.one (.v (.int .i64 (0 : Int)))))], [(2, ⟨.rule, [.v (.int .i64 (RuleT.kind a0)), .ro .str (RuleT.keys a0), .ro .rule (RuleT.kids a0), .ro .bool (RuleT.need a0), .v (.int .i64 (RuleT.low a0)), .v (.int .i64 (RuleT.high a0))]⟩), (3, ⟨(.i .i64), [.v (.int .i64 a1)]⟩)], []⟩ (f25K0 N n (exitK (f25e N) [.ro, .ro] [false] true [.tmp 4] [4] [.d .rule a0, .d (.i .i64) a1] k)))))))))))
    (cond ((RuleT.kind a0) == (3 : Int))
      (cond (a1 == (0 : Int))
        (k [.d .bool false])
        (cond (!(inR (RuleT.kind a0) (-1 : Int) (5 : Int)))
          (k [.d .bool false])
          (cond (decide ((RuleT.low a0) > (RuleT.high a0)))
            (k [.d .bool false])
            (cond ((RuleT.kind a0) == (5 : Int))
              (cond (((RuleT.kids a0).length : Int) != ((RuleT.keys a0).length : Int))
                (k [.d .bool false])
                (cond (((RuleT.keys a0).length : Int) != ((RuleT.keys a0).length : Int))
                  (k [.d .bool false])
                  (cond (((RuleT.need a0).length : Int) != ((RuleT.keys a0).length : Int))
                    (k [.d .bool false])
                    (iter (fun st k => ev (f25e N) f25k n (cAt [1,1,1,1,1,1,0,1,0,0] f25c) st k) n ⟨[(2, .c (.one (.pt 2 0))), (3, .c (.one (.pt 3 0))), (84, .c (.one (.ro .str (RuleT.keys a0)))), (85, .c (.one (.v (.int .i64 ((RuleT.keys a0).length : Int))))), (86, .c (.one (.v (.int .i64 (0 : Int)))))], [(2, ⟨.rule, [.v (.int .i64 (RuleT.kind a0)), .ro .str (RuleT.keys a0), .ro .rule (RuleT.kids a0), .ro .bool (RuleT.need a0), .v (.int .i64 (RuleT.low a0)), .v (.int .i64 (RuleT.high a0))]⟩), (3, ⟨(.i .i64), [.v (.int .i64 a1)]⟩)], []⟩ (f25K0 N n (exitK (f25e N) [.ro, .ro] [false] true [.tmp 4] [4] [.d .rule a0, .d (.i .i64) a1] k))))))
              (cond ((RuleT.kind a0) == (4 : Int))
                (cond (((RuleT.kids a0).length : Int) != (1 : Int))
                  (k [.d .bool false])
                  (cond (((RuleT.keys a0).length : Int) != (0 : Int))
                    (k [.d .bool false])
                    (cond (((RuleT.need a0).length : Int) != (0 : Int))
                      (k [.d .bool false])
                      (iter (fun st k => ev (f25e N) f25k n (cAt [1,1,1,1,1,1,0,1,0,0] f25c) st k) n ⟨[(2, .c (.one (.pt 2 0))), (3, .c (.one (.pt 3 0))), (84, .c (.one (.ro .str (RuleT.keys a0)))), (85, .c (.one (.v (.int .i64 ((RuleT.keys a0).length : Int))))), (86, .c (.one (.v (.int .i64 (0 : Int)))))], [(2, ⟨.rule, [.v (.int .i64 (RuleT.kind a0)), .ro .str (RuleT.keys a0), .ro .rule (RuleT.kids a0), .ro .bool (RuleT.need a0), .v (.int .i64 (RuleT.low a0)), .v (.int .i64 (RuleT.high a0))]⟩), (3, ⟨(.i .i64), [.v (.int .i64 a1)]⟩)], []⟩ (f25K0 N n (exitK (f25e N) [.ro, .ro] [false] true [.tmp 4] [4] [.d .rule a0, .d (.i .i64) a1] k))))))
                (cond (((RuleT.kids a0).length : Int) != (0 : Int))
                  (k [.d .bool false])
                  (cond (((RuleT.keys a0).length : Int) != (0 : Int))
                    (k [.d .bool false])
                    (cond (((RuleT.need a0).length : Int) != (0 : Int))
                      (k [.d .bool false])
                      (iter (fun st k => ev (f25e N) f25k n (cAt [1,1,1,1,1,1,0,1,0,0] f25c) st k) n ⟨[(2, .c (.one (.pt 2 0))), (3, .c (.one (.pt 3 0))), (84, .c (.one (.ro .str (RuleT.keys a0)))), (85, .c (.one (.v (.int .i64 ((RuleT.keys a0).length : Int))))), (86, .c (.one (.v (.int .i64 (0 : Int)))))], [(2, ⟨.rule, [.v (.int .i64 (RuleT.kind a0)), .ro .str (RuleT.keys a0), .ro .rule (RuleT.kids a0), .ro .bool (RuleT.need a0), .v (.int .i64 (RuleT.low a0)), .v (.int .i64 (RuleT.high a0))]⟩), (3, ⟨(.i .i64), [.v (.int .i64 a1)]⟩)], []⟩ (f25K0 N n (exitK (f25e N) [.ro, .ro] [false] true [.tmp 4] [4] [.d .rule a0, .d (.i .i64) a1] k)))))))))))
      (cond (a1 == (0 : Int))
        (k [.d .bool false])
        (cond (!(inR (RuleT.kind a0) (-1 : Int) (5 : Int)))
          (k [.d .bool false])
          (cond (decide ((RuleT.low a0) > (RuleT.high a0)))
            (k [.d .bool false])
            (cond (!((RuleT.kind a0) == (4 : Int)))
              (cond ((RuleT.low a0) != (0 : Int))
                (k [.d .bool false])
                (cond ((RuleT.high a0) != (0 : Int))
                  (k [.d .bool false])
                  (cond ((RuleT.kind a0) == (5 : Int))
                    (cond (((RuleT.kids a0).length : Int) != ((RuleT.keys a0).length : Int))
                      (k [.d .bool false])
                      (cond (((RuleT.keys a0).length : Int) != ((RuleT.keys a0).length : Int))
                        (k [.d .bool false])
                        (cond (((RuleT.need a0).length : Int) != ((RuleT.keys a0).length : Int))
                          (k [.d .bool false])
                          (iter (fun st k => ev (f25e N) f25k n (cAt [1,1,1,1,1,1,0,1,0,0] f25c) st k) n ⟨[(2, .c (.one (.pt 2 0))), (3, .c (.one (.pt 3 0))), (84, .c (.one (.ro .str (RuleT.keys a0)))), (85, .c (.one (.v (.int .i64 ((RuleT.keys a0).length : Int))))), (86, .c (.one (.v (.int .i64 (0 : Int)))))], [(2, ⟨.rule, [.v (.int .i64 (RuleT.kind a0)), .ro .str (RuleT.keys a0), .ro .rule (RuleT.kids a0), .ro .bool (RuleT.need a0), .v (.int .i64 (RuleT.low a0)), .v (.int .i64 (RuleT.high a0))]⟩), (3, ⟨(.i .i64), [.v (.int .i64 a1)]⟩)], []⟩ (f25K0 N n (exitK (f25e N) [.ro, .ro] [false] true [.tmp 4] [4] [.d .rule a0, .d (.i .i64) a1] k))))))
                    (cond ((RuleT.kind a0) == (4 : Int))
                      (cond (((RuleT.kids a0).length : Int) != (1 : Int))
                        (k [.d .bool false])
                        (cond (((RuleT.keys a0).length : Int) != (0 : Int))
                          (k [.d .bool false])
                          (cond (((RuleT.need a0).length : Int) != (0 : Int))
                            (k [.d .bool false])
                            (iter (fun st k => ev (f25e N) f25k n (cAt [1,1,1,1,1,1,0,1,0,0] f25c) st k) n ⟨[(2, .c (.one (.pt 2 0))), (3, .c (.one (.pt 3 0))), (84, .c (.one (.ro .str (RuleT.keys a0)))), (85, .c (.one (.v (.int .i64 ((RuleT.keys a0).length : Int))))), (86, .c (.one (.v (.int .i64 (0 : Int)))))], [(2, ⟨.rule, [.v (.int .i64 (RuleT.kind a0)), .ro .str (RuleT.keys a0), .ro .rule (RuleT.kids a0), .ro .bool (RuleT.need a0), .v (.int .i64 (RuleT.low a0)), .v (.int .i64 (RuleT.high a0))]⟩), (3, ⟨(.i .i64), [.v (.int .i64 a1)]⟩)], []⟩ (f25K0 N n (exitK (f25e N) [.ro, .ro] [false] true [.tmp 4] [4] [.d .rule a0, .d (.i .i64) a1] k))))))
                      (cond (((RuleT.kids a0).length : Int) != (0 : Int))
                        (k [.d .bool false])
                        (cond (((RuleT.keys a0).length : Int) != (0 : Int))
                          (k [.d .bool false])
                          (cond (((RuleT.need a0).length : Int) != (0 : Int))
                            (k [.d .bool false])
                            (iter (fun st k => ev (f25e N) f25k n (cAt [1,1,1,1,1,1,0,1,0,0] f25c) st k) n ⟨[(2, .c (.one (.pt 2 0))), (3, .c (.one (.pt 3 0))), (84, .c (.one (.ro .str (RuleT.keys a0)))), (85, .c (.one (.v (.int .i64 ((RuleT.keys a0).length : Int))))), (86, .c (.one (.v (.int .i64 (0 : Int)))))], [(2, ⟨.rule, [.v (.int .i64 (RuleT.kind a0)), .ro .str (RuleT.keys a0), .ro .rule (RuleT.kids a0), .ro .bool (RuleT.need a0), .v (.int .i64 (RuleT.low a0)), .v (.int .i64 (RuleT.high a0))]⟩), (3, ⟨(.i .i64), [.v (.int .i64 a1)]⟩)], []⟩ (f25K0 N n (exitK (f25e N) [.ro, .ro] [false] true [.tmp 4] [4] [.d .rule a0, .d (.i .i64) a1] k))))))))))
              (cond ((RuleT.kind a0) == (5 : Int))
                (cond (((RuleT.kids a0).length : Int) != ((RuleT.keys a0).length : Int))
                  (k [.d .bool false])
                  (cond (((RuleT.keys a0).length : Int) != ((RuleT.keys a0).length : Int))
                    (k [.d .bool false])
                    (cond (((RuleT.need a0).length : Int) != ((RuleT.keys a0).length : Int))
                      (k [.d .bool false])
                      (iter (fun st k => ev (f25e N) f25k n (cAt [1,1,1,1,1,1,0,1,0,0] f25c) st k) n ⟨[(2, .c (.one (.pt 2 0))), (3, .c (.one (.pt 3 0))), (84, .c (.one (.ro .str (RuleT.keys a0)))), (85, .c (.one (.v (.int .i64 ((RuleT.keys a0).length : Int))))), (86, .c (.one (.v (.int .i64 (0 : Int)))))], [(2, ⟨.rule, [.v (.int .i64 (RuleT.kind a0)), .ro .str (RuleT.keys a0), .ro .rule (RuleT.kids a0), .ro .bool (RuleT.need a0), .v (.int .i64 (RuleT.low a0)), .v (.int .i64 (RuleT.high a0))]⟩), (3, ⟨(.i .i64), [.v (.int .i64 a1)]⟩)], []⟩ (f25K0 N n (exitK (f25e N) [.ro, .ro] [false] true [.tmp 4] [4] [.d .rule a0, .d (.i .i64) a1] k))))))
                (cond ((RuleT.kind a0) == (4 : Int))
                  (cond (((RuleT.kids a0).length : Int) != (1 : Int))
                    (k [.d .bool false])
                    (cond (((RuleT.keys a0).length : Int) != (0 : Int))
                      (k [.d .bool false])
                      (cond (((RuleT.need a0).length : Int) != (0 : Int))
                        (k [.d .bool false])
                        (iter (fun st k => ev (f25e N) f25k n (cAt [1,1,1,1,1,1,0,1,0,0] f25c) st k) n ⟨[(2, .c (.one (.pt 2 0))), (3, .c (.one (.pt 3 0))), (84, .c (.one (.ro .str (RuleT.keys a0)))), (85, .c (.one (.v (.int .i64 ((RuleT.keys a0).length : Int))))), (86, .c (.one (.v (.int .i64 (0 : Int)))))], [(2, ⟨.rule, [.v (.int .i64 (RuleT.kind a0)), .ro .str (RuleT.keys a0), .ro .rule (RuleT.kids a0), .ro .bool (RuleT.need a0), .v (.int .i64 (RuleT.low a0)), .v (.int .i64 (RuleT.high a0))]⟩), (3, ⟨(.i .i64), [.v (.int .i64 a1)]⟩)], []⟩ (f25K0 N n (exitK (f25e N) [.ro, .ro] [false] true [.tmp 4] [4] [.d .rule a0, .d (.i .i64) a1] k))))))
                  (cond (((RuleT.kids a0).length : Int) != (0 : Int))
                    (k [.d .bool false])
                    (cond (((RuleT.keys a0).length : Int) != (0 : Int))
                      (k [.d .bool false])
                      (cond (((RuleT.need a0).length : Int) != (0 : Int))
                        (k [.d .bool false])
                        (iter (fun st k => ev (f25e N) f25k n (cAt [1,1,1,1,1,1,0,1,0,0] f25c) st k) n ⟨[(2, .c (.one (.pt 2 0))), (3, .c (.one (.pt 3 0))), (84, .c (.one (.ro .str (RuleT.keys a0)))), (85, .c (.one (.v (.int .i64 ((RuleT.keys a0).length : Int))))), (86, .c (.one (.v (.int .i64 (0 : Int)))))], [(2, ⟨.rule, [.v (.int .i64 (RuleT.kind a0)), .ro .str (RuleT.keys a0), .ro .rule (RuleT.kids a0), .ro .bool (RuleT.need a0), .v (.int .i64 (RuleT.low a0)), .v (.int .i64 (RuleT.high a0))]⟩), (3, ⟨(.i .i64), [.v (.int .i64 a1)]⟩)], []⟩ (f25K0 N n (exitK (f25e N) [.ro, .ro] [false] true [.tmp 4] [4] [.d .rule a0, .d (.i .i64) a1] k))))))))))))))) (by kernel_rfl) ?_
  simp only [f25L0_eq, f25K0_x0, f25K0_x1]
theorem f25_spec (N : Nat) (a0 : RuleT) (a1 : Int) (hg : gRule a0 a1 = true) (hm : mu25 [.d .rule a0, .d (.i .i64) a1] = N) : ∃ keep rounds, ∀ {R : Type} (k : List Dt → Option R), evFn (f25e N) keep rounds f25c [.ro, .ro] [false] true [.tmp 4] [4] [.d .rule a0, .d (.i .i64) a1] k = k [.d .bool (ruleRight a0 a1)] := by
  have hm : mr0 a0 a1 = N := hm
  subst hm
  simp only [gRule, sm_rule_def, Bool.and_eq_true, decide_eq_true_eq] at hg
  obtain ⟨⟨_, hke, hki, _, _, _⟩, hd0, hd1⟩ := hg
  have gk : gNames a0.keys = true := okL_sms hke
  have lk := smL_len hke
  have li := smL_len hki
  have hs : a0.keys.all okStr = true := by have := okL_sms hke; simp only [okL, Bool.and_eq_true] at this; exact this.2
  refine ⟨f25k, a0.keys.length + 1, fun {R} k => ?_⟩
  rw [f25_run]
  show _ = k [.d .bool (ruleRight a0 a1)]
  rw [ruleRight_def]
  by_cases hd : a1 = 0
  · subst hd
    unfold ruleHead
    simp only [beq_self_eq_true, cond_true]
    cases inR a0.kind (-1) 5 <;> cases decide (a0.low > a0.high) <;> cases a0.kind == (2 : Int) <;> cases a0.kind == (3 : Int) <;> rfl
  have hd1 : (a1 == (0 : Int)) = false := beq_eq_false_iff_ne.2 hd
  have hd2 : decide (a1 ≤ 0) = false := decide_eq_false (by omega)
  have hb : Nat.blt (mr3 a0.kids a1) (mr0 a0 a1) = true := by rw [Nat.blt_eq]; simp only [mr3, mr0, nd_rule_def]; omega
  have hgr : gRules a0.kids a1 = true := by unfold gRules; rw [hki, decide_eq_true (show 1 ≤ a1 by omega), decide_eq_true (show a1 ≤ 100 by omega)]; rfl
  have hL : f25L0 (mr0 a0 a1) (a0.keys.length + 1) (k [.d .bool false]) (fun (_ : Int) (_ : Bool) => cond (gRules a0.kids a1 && Nat.blt (mr3 a0.kids a1) (mr0 a0 a1)) (k [.d .bool (!(ruleNotAny a0.kids a1))]) none) a0.keys (a0.keys.length : Int) a0.kind a0.keys a0.kids a0.need a0.low a0.high a1 (a0.keys.length + 1) (0 : Int)
      = k [.d .bool (keysOk a0.keys && (a0.kids.all fun x => ruleRight x (a1 - 1)))] := by
    refine Eq.trans (loop_idx (n := a0.keys.length) (F := fun m i => f25L0 (mr0 a0 a1) (a0.keys.length + 1) _ _ a0.keys (a0.keys.length : Int) a0.kind a0.keys a0.kids a0.need a0.low a0.high a1 m i) (p := keyC a0.keys) (good := k [.d .bool (!(ruleNotAny a0.kids a1))]) (bad := k [.d .bool false])
      (fun m j hj => ?_) (fun m => by simp only [f25L0, idxE, cond_false, hgr, hb, Bool.and_self, cond_true]) a0.keys.length 0 (a0.keys.length + 1) (by omega) (by omega)) ?_
    · obtain ⟨h1, h0, hw, ht⟩ := idx hj (by omega)
      simp only [f25L0, h1, h0, hw, ht, okStr_at hs hj, Bool.and_self, cond_true]
      unfold keyC
      cases textOk (atI (t := .str) a0.keys j)
      · rfl
      · by_cases hz : (j : Int) > 0
        · obtain ⟨h2, h3, _, h5⟩ := idx (show j - 1 < a0.keys.length by omega) (by omega)
          simp only [hz, decide_true, cond_true, idxM hj (by omega) (by omega), h2, h3, h5, Bool.and_self]
          cases sLt (atI (t := .str) a0.keys (j - 1)) (atI (t := .str) a0.keys j) <;> rfl
        · simp only [hz, decide_false, cond_false]; rfl
    · rw [ruleNotAny_eq]
      unfold keysOk
      cases allN (keyC a0.keys) 0 a0.keys.length <;> rfl
  simp only [hd1, hL, cond_false]
  unfold ruleHead ruleShape
  rw [hd2]
  cases inR a0.kind (-1) 5
  · cases a0.kind == (2 : Int) <;> cases a0.kind == (3 : Int) <;> rfl
  cases decide (a0.low > a0.high)
  rotate_left
  · cases a0.kind == (2 : Int) <;> cases a0.kind == (3 : Int) <;> rfl
  generalize (a0.kids.all fun x => ruleRight x (a1 - 1)) = kk
  have e1 : ((a0.kids.length : Int) == (a0.keys.length : Int)) = ((a0.keys.length : Int) == (a0.kids.length : Int)) := beq_comm' _ _
  simp only [bne, beq_self_eq_true, e1, Bool.not_true, Bool.not_false, cond_true, cond_false, Bool.true_and]
  cases h2 : (a0.kind == (2 : Int)) <;> cases h3 : (a0.kind == (3 : Int)) <;> cases h4 : (a0.kind == (4 : Int)) <;> cases h5 : (a0.kind == (5 : Int)) <;>
    first
      | (exfalso; simp only [beq_iff_eq] at h2 h3 h4 h5; omega)
      | skip
  all_goals simp only [cond_true, cond_false, Bool.not_true, Bool.not_false, Bool.true_or, Bool.or_true, Bool.false_or, Bool.true_and, Bool.false_and, Bool.and_true, Bool.and_false, bitI]
  all_goals
    first
      | (cases hkk : ((a0.keys.length : Int) == (a0.kids.length : Int))
         · (cases a0.low == (0 : Int) <;> cases a0.high == (0 : Int) <;> cases kk <;> rfl)
         · have e2 : (a0.keys.length : Int) = (a0.kids.length : Int) := beq_iff_eq.1 hkk
           rw [← e2]
           cases a0.low == (0 : Int) <;> cases a0.high == (0 : Int) <;> cases ((a0.need.length : Int) == (a0.keys.length : Int)) <;> cases keysOk a0.keys <;> cases kk <;> rfl)
      | (cases hk0 : ((a0.keys.length : Int) == (0 : Int))
         · (cases a0.low == (0 : Int) <;> cases a0.high == (0 : Int) <;> cases ((a0.kids.length : Int) == (1 : Int)) <;> cases ((a0.kids.length : Int) == (0 : Int)) <;> cases kk <;> rfl)
         · rw [keysOk_nil (beq_iff_eq.1 hk0)]
           cases a0.low == (0 : Int) <;> cases a0.high == (0 : Int) <;> cases ((a0.kids.length : Int) == (1 : Int)) <;> cases ((a0.kids.length : Int) == (0 : Int)) <;> cases ((a0.need.length : Int) == (0 : Int)) <;> cases kk <;> rfl)


/-! ### loop.example/g00465/impl.ruleOk$1 -/
noncomputable def f48c : Code := (Try.f48.body).getD .skip
def f48k : Nat → Kp := kat [⟨[1, 2], []⟩, ⟨[3], []⟩]
noncomputable def f48e (N : Nat) : Env := tab.env [(25, s25r N)]
theorem f48_run {R : Type} (N : Nat) (n : Nat) (k : List Dt → Option R) (a0 : RuleT) (a1 : Int) : evFn (f48e N) f48k n f48c [.ro, .pro] [false] true [.tmp 3] [4] [.d .rule a0, .d (.i .i64) a1] k =
    (cond ((gRule (⟨(RuleT.kind a0), (RuleT.keys a0), (RuleT.kids a0), (RuleT.need a0), (RuleT.low a0), (RuleT.high a0)⟩ : RuleT) (IntKind.wrap .i64 (a1 - (1 : Int)))) && (Nat.blt (mr0 (⟨(RuleT.kind a0), (RuleT.keys a0), (RuleT.kids a0), (RuleT.need a0), (RuleT.low a0), (RuleT.high a0)⟩ : RuleT) (IntKind.wrap .i64 (a1 - (1 : Int)))) N))
    (k [.d .bool (!(ruleRight (⟨(RuleT.kind a0), (RuleT.keys a0), (RuleT.kids a0), (RuleT.need a0), (RuleT.low a0), (RuleT.high a0)⟩ : RuleT) (IntKind.wrap .i64 (a1 - (1 : Int)))))])
    none) := by kernel_rfl
theorem f48_spec (N : Nat) (a0 : RuleT) (a1 : Int) (hg : gRule1 a0 a1 = true) (hm : mu48 [.d .rule a0, .d (.i .i64) a1] = N) : ∃ keep rounds, ∀ {R : Type} (k : List Dt → Option R), evFn (f48e N) keep rounds f48c [.ro, .pro] [false] true [.tmp 3] [4] [.d .rule a0, .d (.i .i64) a1] k = k [.d .bool (ruleNot a0 a1)] := by
  have hm : mr1 a0 a1 = N := hm
  subst hm
  simp only [gRule1, Bool.and_eq_true, decide_eq_true_eq] at hg
  obtain ⟨hs, hd0, hd1⟩ := hg
  have hb : Nat.blt (mr0 a0 (a1 - 1)) (mr1 a0 a1) = true := by rw [Nat.blt_eq]; simp only [mr0, mr1]; omega
  have hg2 : gRule a0 (a1 - 1) = true := by
    unfold gRule; rw [hs, decide_eq_true (show 0 ≤ a1 - 1 by omega), decide_eq_true (show a1 - 1 ≤ 100 by omega)]; rfl
  refine ⟨f48k, 0, fun {R} k => ?_⟩
  rw [f48_run]
  simp only [eta_rule, wrap_id (x := a1 - 1) (by omega) (by omega), hg2, hb, Bool.and_self, cond_true]
  rfl


/-! ### slices.ContainsFunc[[]loop.example/g00465/impl.Rule,loop.example/g00465/impl.Rule] -/
noncomputable def f47c : Code := (Try.f47.body).getD .skip
def f47k : Nat → Kp := kat [⟨[0, 1], []⟩, ⟨[4], []⟩]
noncomputable def f47e (N : Nat) : Env := tab.env [(48, s48r N), (56, s56r N)]
theorem f47_run {R : Type} (N : Nat) (n : Nat) (k : List Dt → Option R) (a0 : List RuleT) (a1 : Int) : evFn (f47e N) f47k n f47c [.ro, .fn] [false] true [.tmp 4] [4] [.d (.sl .rule) a0, .clo 48 [⟨(.i .i64), a1⟩]] k =
    (cond ((gRules a0 a1) && (Nat.blt (mr2 a0 a1) N))
    (k [.d .bool (decide ((ruleNotAt a0 a1) ≥ (0 : Int)))])
    none) := by kernel_rfl
theorem f47_spec (N : Nat) (a0 : List RuleT) (a1 : Int) (hg : gRules a0 a1 = true) (hm : mu47 [.d (.sl .rule) a0, .clo 48 [⟨(.i .i64), a1⟩]] = N) : ∃ keep rounds, ∀ {R : Type} (k : List Dt → Option R), evFn (f47e N) keep rounds f47c [.ro, .fn] [false] true [.tmp 4] [4] [.d (.sl .rule) a0, .clo 48 [⟨(.i .i64), a1⟩]] k = k [.d .bool (ruleNotAny a0 a1)] := by
  have hm : mr3 a0 a1 = N := hm
  subst hm
  have hb : Nat.blt (mr2 a0 a1) (mr3 a0 a1) = true := by rw [Nat.blt_eq]; simp only [mr2, mr3]; omega
  refine ⟨f47k, 0, fun {R} k => ?_⟩
  rw [f47_run]
  simp only [hg, hb, Bool.and_self, cond_true]
  unfold ruleNotAt
  rw [findI_ge]; rfl


/-! ### slices.IndexFunc[[]loop.example/g00465/impl.Rule,loop.example/g00465/impl.Rule] -/
noncomputable def f56c : Code := (Try.f56.body).getD .skip
def f56k : Nat → Kp := kat [⟨[0, 1], []⟩, ⟨[0, 1, 7, 8], []⟩, ⟨[0, 1, 7, 8, 9], []⟩, ⟨[0, 1, 5, 7, 8], []⟩, ⟨[0, 1, 5, 7, 8, 16], []⟩, ⟨[4], []⟩, ⟨[0, 1, 7, 8], []⟩, ⟨[4], []⟩]
noncomputable def f56e (N : Nat) : Env := tab.env [(48, s48r N)]
noncomputable def f56L0 {R : Type} (N : Nat) (n : Nat) (x0 : Int → Option R) (x1 : Int → Bool → Option R) (vs0 : List RuleT) (vs1c0 : Int) (vs7 : Int) : Nat → Int → Option R
  | 0, _ => none
  | m + 1, vs8 =>
    (cond (decide (vs8 < vs7))
      (cond ((decide ((0 : Int) ≤ vs8)) && (decide (vs8 < (vs0.length : Int))))
        (cond ((gRule1 (⟨(RuleT.kind (atI (t := .rule) vs0 (Int.toNat vs8))), (RuleT.keys (atI (t := .rule) vs0 (Int.toNat vs8))), (RuleT.kids (atI (t := .rule) vs0 (Int.toNat vs8))), (RuleT.need (atI (t := .rule) vs0 (Int.toNat vs8))), (RuleT.low (atI (t := .rule) vs0 (Int.toNat vs8))), (RuleT.high (atI (t := .rule) vs0 (Int.toNat vs8)))⟩ : RuleT) vs1c0) && (Nat.blt (mr1 (⟨(RuleT.kind (atI (t := .rule) vs0 (Int.toNat vs8))), (RuleT.keys (atI (t := .rule) vs0 (Int.toNat vs8))), (RuleT.kids (atI (t := .rule) vs0 (Int.toNat vs8))), (RuleT.need (atI (t := .rule) vs0 (Int.toNat vs8))), (RuleT.low (atI (t := .rule) vs0 (Int.toNat vs8))), (RuleT.high (atI (t := .rule) vs0 (Int.toNat vs8)))⟩ : RuleT) vs1c0) N))
          (cond (ruleNot (⟨(RuleT.kind (atI (t := .rule) vs0 (Int.toNat vs8))), (RuleT.keys (atI (t := .rule) vs0 (Int.toNat vs8))), (RuleT.kids (atI (t := .rule) vs0 (Int.toNat vs8))), (RuleT.need (atI (t := .rule) vs0 (Int.toNat vs8))), (RuleT.low (atI (t := .rule) vs0 (Int.toNat vs8))), (RuleT.high (atI (t := .rule) vs0 (Int.toNat vs8)))⟩ : RuleT) vs1c0)
            (x0 vs8)
            (f56L0 N n x0 x1 vs0 vs1c0 vs7 m (IntKind.wrap .i64 (vs8 + (1 : Int)))))
          none)
        none)
      (x1 vs8 (decide (vs8 < vs7))))
theorem f56L0_b {R : Type} (N : Nat) (n : Nat) (k' : Ex → St → Option R) (vs0 : List RuleT) (vs1c0 : Int) (vs7 : Int) (vs8 : Int) : ev (f56e N) f56k n (cAt [1,0,1,0,0] f56c) ⟨[(0, .c (.one (.ro .rule vs0))), (1, .c (.one (.cloR 48 [⟨(.i .i64), vs1c0⟩]))), (7, .c (.one (.v (.int .i64 vs7)))), (8, .c (.one (.v (.int .i64 vs8))))], [], []⟩ k' =
    (cond (decide (vs8 < vs7))
    (cond ((decide ((0 : Int) ≤ vs8)) && (decide (vs8 < (vs0.length : Int))))
      (cond ((gRule1 (⟨(RuleT.kind (atI (t := .rule) vs0 (Int.toNat vs8))), (RuleT.keys (atI (t := .rule) vs0 (Int.toNat vs8))), (RuleT.kids (atI (t := .rule) vs0 (Int.toNat vs8))), (RuleT.need (atI (t := .rule) vs0 (Int.toNat vs8))), (RuleT.low (atI (t := .rule) vs0 (Int.toNat vs8))), (RuleT.high (atI (t := .rule) vs0 (Int.toNat vs8)))⟩ : RuleT) vs1c0) && (Nat.blt (mr1 (⟨(RuleT.kind (atI (t := .rule) vs0 (Int.toNat vs8))), (RuleT.keys (atI (t := .rule) vs0 (Int.toNat vs8))), (RuleT.kids (atI (t := .rule) vs0 (Int.toNat vs8))), (RuleT.need (atI (t := .rule) vs0 (Int.toNat vs8))), (RuleT.low (atI (t := .rule) vs0 (Int.toNat vs8))), (RuleT.high (atI (t := .rule) vs0 (Int.toNat vs8)))⟩ : RuleT) vs1c0) N))
        (cond (ruleNot (⟨(RuleT.kind (atI (t := .rule) vs0 (Int.toNat vs8))), (RuleT.keys (atI (t := .rule) vs0 (Int.toNat vs8))), (RuleT.kids (atI (t := .rule) vs0 (Int.toNat vs8))), (RuleT.need (atI (t := .rule) vs0 (Int.toNat vs8))), (RuleT.low (atI (t := .rule) vs0 (Int.toNat vs8))), (RuleT.high (atI (t := .rule) vs0 (Int.toNat vs8)))⟩ : RuleT) vs1c0)
          (k' .ret ⟨[(4, .c (.one (.v (.int .i64 vs8))))], [], []⟩)
          (k' .normal ⟨[(0, .c (.one (.ro .rule vs0))), (1, .c (.one (.cloR 48 [⟨(.i .i64), vs1c0⟩]))), (7, .c (.one (.v (.int .i64 vs7)))), (8, .c (.one (.v (.int .i64 (IntKind.wrap .i64 (vs8 + (1 : Int)))))))], [], []⟩))
        none)
      none)
    (k' (.exit 0) ⟨[(0, .c (.one (.ro .rule vs0))), (1, .c (.one (.cloR 48 [⟨(.i .i64), vs1c0⟩]))), (7, .c (.one (.v (.int .i64 vs7)))), (8, .c (.one (.v (.int .i64 vs8)))), (9, .c (.one (.v (.bool (decide (vs8 < vs7))))))], [], []⟩)) := by kernel_rfl
theorem f56L0_eq {R : Type} (N : Nat) (n : Nat) (k' : Ex → St → Option R) (vs0 : List RuleT) (vs1c0 : Int) (vs7 : Int) : ∀ (m : Nat) (vs8 : Int), iter (fun st k => ev (f56e N) f56k n (cAt [1,0,1,0,0] f56c) st k) m ⟨[(0, .c (.one (.ro .rule vs0))), (1, .c (.one (.cloR 48 [⟨(.i .i64), vs1c0⟩]))), (7, .c (.one (.v (.int .i64 vs7)))), (8, .c (.one (.v (.int .i64 vs8))))], [], []⟩ k' = f56L0 N n (fun (xvs4 : Int) => k' .ret ⟨[(4, .c (.one (.v (.int .i64 xvs4))))], [], []⟩) (fun (xvs8 : Int) (xvs9 : Bool) => k' (.exit 0) ⟨[(0, .c (.one (.ro .rule vs0))), (1, .c (.one (.cloR 48 [⟨(.i .i64), vs1c0⟩]))), (7, .c (.one (.v (.int .i64 vs7)))), (8, .c (.one (.v (.int .i64 xvs8)))), (9, .c (.one (.v (.bool xvs9))))], [], []⟩) vs0 vs1c0 vs7 m vs8 := by
  intro m; induction m with
  | zero => intros; rfl
  | succ m ih =>
    intro vs8
    simp only [iter]
    rw [f56L0_b]
    simp only [ih, f56L0]

noncomputable def f56K0 {R : Type} (N : Nat) (n : Nat) (k' : Ex → St → Option R) : Ex → St → Option R := (blockK 0 (seqK (f56e N) f56k n (cAt [1,1] f56c) k'))
theorem f56K0_x0 {R : Type} (N : Nat) (n : Nat) (k : List Dt → Option R) (a0 : List RuleT) (a1 : Int) (xvs4 : Int) : f56K0 N n (exitK (f56e N) [.ro, .fn] [false] true [.tmp 4] [3] [.d (.sl .rule) a0, .clo 48 [⟨(.i .i64), a1⟩]] k) .ret ⟨[(4, .c (.one (.v (.int .i64 xvs4))))], [], []⟩ =
    (k [.d (.i .i64) xvs4]) := by kernel_rfl
theorem f56K0_x1 {R : Type} (N : Nat) (n : Nat) (k : List Dt → Option R) (a0 : List RuleT) (a1 : Int) (vs0 : List RuleT) (vs1c0 : Int) (vs7 : Int) (xvs8 : Int) (xvs9 : Bool) : f56K0 N n (exitK (f56e N) [.ro, .fn] [false] true [.tmp 4] [3] [.d (.sl .rule) a0, .clo 48 [⟨(.i .i64), a1⟩]] k) (.exit 0) ⟨[(0, .c (.one (.ro .rule vs0))), (1, .c (.one (.cloR 48 [⟨(.i .i64), vs1c0⟩]))), (7, .c (.one (.v (.int .i64 vs7)))), (8, .c (.one (.v (.int .i64 xvs8)))), (9, .c (.one (.v (.bool xvs9))))], [], []⟩ =
    (k [.d (.i .i64) (-1 : Int)]) := by kernel_rfl

theorem f56_run {R : Type} (N : Nat) (n : Nat) (k : List Dt → Option R) (a0 : List RuleT) (a1 : Int) : evFn (f56e N) f56k n f56c [.ro, .fn] [false] true [.tmp 4] [3] [.d (.sl .rule) a0, .clo 48 [⟨(.i .i64), a1⟩]] k =
    (f56L0 N n (fun (xvs4 : Int) =>
    (k [.d (.i .i64) xvs4])) (fun (xvs8 : Int) (xvs9 : Bool) =>
    (k [.d (.i .i64) (-1 : Int)])) a0 a1 (a0.length : Int) n (0 : Int)) := by
  refine Eq.trans (b := (iter (fun st k => ev (f56e N) f56k n (cAt [1,0,1,0,0] f56c) st k) n ⟨[(0, .c (.one (.ro .rule a0))), (1, .c (.one (.cloR 48 [⟨(.i .i64), a1⟩]))), (7, .c (.one (.v (.int .i64 (a0.length : Int))))), (8, .c (.one (.v (.int .i64 (0 : Int)))))], [], []⟩ (f56K0 N n (exitK (f56e N) [.ro, .fn] [false] true [.tmp 4] [3] [.d (.sl .rule) a0, .clo 48 [⟨(.i .i64), a1⟩]] k)))) (by kernel_rfl) ?_
  simp only [f56L0_eq, f56K0_x0, f56K0_x1]
theorem f56_spec (N : Nat) (a0 : List RuleT) (a1 : Int) (hg : gRules a0 a1 = true) (hm : mu56 [.d (.sl .rule) a0, .clo 48 [⟨(.i .i64), a1⟩]] = N) : ∃ keep rounds, ∀ {R : Type} (k : List Dt → Option R), evFn (f56e N) keep rounds f56c [.ro, .fn] [false] true [.tmp 4] [3] [.d (.sl .rule) a0, .clo 48 [⟨(.i .i64), a1⟩]] k = k [.d (.i .i64) (ruleNotAt a0 a1)] := by
  have hm : mr2 a0 a1 = N := hm
  subst hm
  simp only [gRules, Bool.and_eq_true, decide_eq_true_eq] at hg
  obtain ⟨hs, hd0, hd1⟩ := hg
  have hl := smL_len hs
  refine ⟨f56k, a0.length + 1, fun k => ?_⟩
  rw [f56_run]
  refine Eq.trans (loop_find (n := a0.length) (F := fun m i => f56L0 (mr2 a0 a1) (a0.length + 1) _ _ a0 a1 (a0.length : Int) m i) (p := fun j => ruleNot (atI (t := .rule) a0 j) a1) (hit := fun i => k [.d (.i .i64) i]) (miss := k [.d (.i .i64) (-1 : Int)])
    (fun m j hj => ?_) (fun m => by simp only [f56L0, idxE, cond_false]) a0.length 0 (a0.length + 1) (by omega) (by omega)) ?_
  · obtain ⟨h1, h0, hw, ht⟩ := idx hj (by omega)
    have hg2 : gRule1 (atI (t := .rule) a0 j) a1 = true := by unfold gRule1; rw [smL_at (t := .rule) hs hj, decide_eq_true hd0, decide_eq_true hd1]; rfl
    have hb : Nat.blt (mr1 (atI (t := .rule) a0 j) a1) (mr2 a0 a1) = true := by
      obtain ⟨x, hx, _⟩ := drop_get hj
      have := ndL_mem (f := nd_rule) (List.mem_of_getElem? hx)
      rw [atI_of (t := .rule) hx, Nat.blt_eq]; simp only [mr1, mr2]; omega
    simp only [f56L0, h1, h0, hw, ht, Bool.and_self, cond_true, eta_rule, hg2, hb]
  · show _ = k [.d (.i .i64) (plc _)]
    cases firstN (fun j => ruleNot (atI (t := .rule) a0 j) a1) 0 a0.length <;> rfl


theorem goods25 : ∀ x ∈ ([⟨25, [.ro, .ro], [false], true, mu25, q25⟩, ⟨48, [.ro, .pro], [false], true, mu48, q48⟩, ⟨47, [.ro, .fn], [false], true, mu47, q47⟩, ⟨56, [.ro, .fn], [false], true, mu56, q56⟩] : List Rc), Gm.SpecOk Try.prog x.f (Gm.Spec.of x.ms x.rs x.ow x.q) := by
  refine spec_recs _ fun N hr => ?_
  have hr1 : Gm.SpecOk Try.prog 25 (Gm.Spec.of [.ro, .ro] [false] true (qlt mu25 N q25)) := fun {R} => hr _ (.head _)
  have hr2 : Gm.SpecOk Try.prog 48 (Gm.Spec.of [.ro, .pro] [false] true (qlt mu48 N q48)) := fun {R} => hr _ (.tail _ (.head _))
  have hr3 : Gm.SpecOk Try.prog 47 (Gm.Spec.of [.ro, .fn] [false] true (qlt mu47 N q47)) := fun {R} => hr _ (.tail _ (.tail _ (.head _)))
  have hr4 : Gm.SpecOk Try.prog 56 (Gm.Spec.of [.ro, .fn] [false] true (qlt mu56 N q56)) := fun {R} => hr _ (.tail _ (.tail _ (.tail _ (.head _))))
  refine List.forall_mem_cons.2 ⟨?_, List.forall_mem_cons.2 ⟨?_, List.forall_mem_cons.2 ⟨?_, List.forall_mem_cons.2 ⟨?_, List.forall_mem_nil _⟩⟩⟩⟩
  · have hl : ∀ x ∈ ([(45, s45), (46, s46), (47, s47r N), (48, s48r N)] : List (Nat × Gm.Spec)), Gm.Good Try.prog x := List.forall_mem_cons.2 ⟨good45, List.forall_mem_cons.2 ⟨good46, List.forall_mem_cons.2 ⟨⟨⟨hr3, _, Try.func47, by kernel_rfl, of_decide_eq_true (by kernel_rfl)⟩, Gm.Spec.of_natl _ _ _ _⟩, List.forall_mem_cons.2 ⟨⟨⟨hr2, _, Try.func48, by kernel_rfl, of_decide_eq_true (by kernel_rfl)⟩, Gm.Spec.of_natl _ _ _ _⟩, List.forall_mem_nil _⟩⟩⟩⟩
    show Gm.SpecOk Try.prog 25 (Gm.Spec.of [.ro, .ro] [false] true (qeq mu25 N q25))
    intro R
    refine spec_ok (E := f25e N) (tab_ok.env hl) (tab.natl hl) Try.func25 (by kernel_rfl : Try.f25.body = some f25c) [4] (by kernel_rfl) ?_
    intro ds outs h
    obtain ⟨h, hm⟩ := qeq_some h
    unfold q25 at h
    split at h
    · simp only [Option.some.injEq, Prod.mk.injEq] at h; obtain ⟨hg, h⟩ := h; cases h; exact f25_spec N _ _ hg hm
    · cases h
  · have hl : ∀ x ∈ ([(25, s25r N)] : List (Nat × Gm.Spec)), Gm.Good Try.prog x := List.forall_mem_cons.2 ⟨⟨⟨hr1, _, Try.func25, by kernel_rfl, of_decide_eq_true (by kernel_rfl)⟩, Gm.Spec.of_natl _ _ _ _⟩, List.forall_mem_nil _⟩
    show Gm.SpecOk Try.prog 48 (Gm.Spec.of [.ro, .pro] [false] true (qeq mu48 N q48))
    intro R
    refine spec_ok (E := f48e N) (tab_ok.env hl) (tab.natl hl) Try.func48 (by kernel_rfl : Try.f48.body = some f48c) [4] (by kernel_rfl) ?_
    intro ds outs h
    obtain ⟨h, hm⟩ := qeq_some h
    unfold q48 at h
    split at h
    · simp only [Option.some.injEq, Prod.mk.injEq] at h; obtain ⟨hg, h⟩ := h; cases h; exact f48_spec N _ _ hg hm
    · cases h
  · have hl : ∀ x ∈ ([(48, s48r N), (56, s56r N)] : List (Nat × Gm.Spec)), Gm.Good Try.prog x := List.forall_mem_cons.2 ⟨⟨⟨hr2, _, Try.func48, by kernel_rfl, of_decide_eq_true (by kernel_rfl)⟩, Gm.Spec.of_natl _ _ _ _⟩, List.forall_mem_cons.2 ⟨⟨⟨hr4, _, Try.func56, by kernel_rfl, of_decide_eq_true (by kernel_rfl)⟩, Gm.Spec.of_natl _ _ _ _⟩, List.forall_mem_nil _⟩⟩
    show Gm.SpecOk Try.prog 47 (Gm.Spec.of [.ro, .fn] [false] true (qeq mu47 N q47))
    intro R
    refine spec_ok (E := f47e N) (tab_ok.env hl) (tab.natl hl) Try.func47 (by kernel_rfl : Try.f47.body = some f47c) [4] (by kernel_rfl) ?_
    intro ds outs h
    obtain ⟨h, hm⟩ := qeq_some h
    unfold q47 at h
    split at h
    · simp only [Option.some.injEq, Prod.mk.injEq] at h; obtain ⟨hg, h⟩ := h; cases h; exact f47_spec N _ _ hg hm
    · cases h
  · have hl : ∀ x ∈ ([(48, s48r N)] : List (Nat × Gm.Spec)), Gm.Good Try.prog x := List.forall_mem_cons.2 ⟨⟨⟨hr2, _, Try.func48, by kernel_rfl, of_decide_eq_true (by kernel_rfl)⟩, Gm.Spec.of_natl _ _ _ _⟩, List.forall_mem_nil _⟩
    show Gm.SpecOk Try.prog 56 (Gm.Spec.of [.ro, .fn] [false] true (qeq mu56 N q56))
    intro R
    refine spec_ok (E := f56e N) (tab_ok.env hl) (tab.natl hl) Try.func56 (by kernel_rfl : Try.f56.body = some f56c) [3] (by kernel_rfl) ?_
    intro ds outs h
    obtain ⟨h, hm⟩ := qeq_some h
    unfold q56 at h
    split at h
    · simp only [Option.some.injEq, Prod.mk.injEq] at h; obtain ⟨hg, h⟩ := h; cases h; exact f56_spec N _ _ hg hm
    · cases h
theorem good25 : Gm.Good Try.prog (25, s25) := ⟨⟨fun {R} => goods25 _ (.head _), _, Try.func25, by kernel_rfl, of_decide_eq_true (by kernel_rfl)⟩, Gm.Spec.of_natl _ _ _ _⟩
theorem good48 : Gm.Good Try.prog (48, s48) := ⟨⟨fun {R} => goods25 _ (.tail _ (.head _)), _, Try.func48, by kernel_rfl, of_decide_eq_true (by kernel_rfl)⟩, Gm.Spec.of_natl _ _ _ _⟩
theorem good47 : Gm.Good Try.prog (47, s47) := ⟨⟨fun {R} => goods25 _ (.tail _ (.tail _ (.head _))), _, Try.func47, by kernel_rfl, of_decide_eq_true (by kernel_rfl)⟩, Gm.Spec.of_natl _ _ _ _⟩
theorem good56 : Gm.Good Try.prog (56, s56) := ⟨⟨fun {R} => goods25 _ (.tail _ (.tail _ (.tail _ (.head _)))), _, Try.func56, by kernel_rfl, of_decide_eq_true (by kernel_rfl)⟩, Gm.Spec.of_natl _ _ _ _⟩
/-! ### loop.example/g00465/spec.RuleOk -/
noncomputable def f6c : Code := (Try.f6.body).getD .skip
def f6k : Nat → Kp := kat [⟨[1], []⟩, ⟨[2], []⟩]
noncomputable def f6e : Env := tab.env [(21, s21)]
theorem f6_run {R : Type} (n : Nat) (k : List Dt → Option R) (a0 : RuleT) : evFn f6e f6k n f6c [.ro] [false] true [.tmp 2] [4] [.d .rule a0] k =
    (cond (gRule (⟨(RuleT.kind a0), (RuleT.keys a0), (RuleT.kids a0), (RuleT.need a0), (RuleT.low a0), (RuleT.high a0)⟩ : RuleT) (8 : Int))
    (k [.d .bool (ruleRight (⟨(RuleT.kind a0), (RuleT.keys a0), (RuleT.kids a0), (RuleT.need a0), (RuleT.low a0), (RuleT.high a0)⟩ : RuleT) (8 : Int))])
    none) := by kernel_rfl
theorem f6_spec (a0 : RuleT) (hg : sm_rule a0 = true) : ∃ keep rounds, ∀ {R : Type} (k : List Dt → Option R), evFn f6e keep rounds f6c [.ro] [false] true [.tmp 2] [4] [.d .rule a0] k = k [.d .bool (ruleOk a0)] := by
  have hg2 : gRule a0 8 = true := by unfold gRule; rw [hg]; rfl
  refine ⟨f6k, 0, fun {R} k => ?_⟩
  rw [f6_run]
  simp only [eta_rule, hg2, cond_true]
  rfl

noncomputable def q6 : List Dt → Option (Bool × List Dt)
  | [.d .rule a0] => some ((sm_rule a0), [.d .bool (ruleOk a0)])
  | _ => none
noncomputable def s6 : Gm.Spec := Gm.Spec.of [.ro] [false] true q6
theorem good6 : Gm.Good Try.prog (6, s6) := by
  have hl : ∀ x ∈ [(21, s21)], Gm.Good Try.prog x := List.forall_mem_cons.2 ⟨good21, List.forall_mem_nil _⟩
  refine ⟨⟨spec_ok (tab_ok.env hl) (tab.natl hl) Try.func6 (by kernel_rfl : Try.f6.body = some f6c) [4] (by kernel_rfl) ?_, _, Try.func6, by kernel_rfl, of_decide_eq_true (by kernel_rfl)⟩, Gm.Spec.of_natl _ _ _ _⟩
  intro ds outs h
  unfold q6 at h
  split at h
  · simp only [Option.some.injEq, Prod.mk.injEq] at h; obtain ⟨hg, h⟩ := h; cases h; exact f6_spec _ hg
  · cases h
/-! ### loop.example/g00465/impl.RuleOk -/
noncomputable def f8c : Code := (Try.f8.body).getD .skip
def f8k : Nat → Kp := kat [⟨[1], []⟩, ⟨[2], []⟩]
noncomputable def f8e : Env := tab.env [(25, s25)]
theorem f8_run {R : Type} (n : Nat) (k : List Dt → Option R) (a0 : RuleT) : evFn f8e f8k n f8c [.ro] [false] true [.tmp 2] [4] [.d .rule a0] k =
    (cond (gRule (⟨(RuleT.kind a0), (RuleT.keys a0), (RuleT.kids a0), (RuleT.need a0), (RuleT.low a0), (RuleT.high a0)⟩ : RuleT) (8 : Int))
    (k [.d .bool (ruleRight (⟨(RuleT.kind a0), (RuleT.keys a0), (RuleT.kids a0), (RuleT.need a0), (RuleT.low a0), (RuleT.high a0)⟩ : RuleT) (8 : Int))])
    none) := by kernel_rfl
theorem f8_spec (a0 : RuleT) (hg : sm_rule a0 = true) : ∃ keep rounds, ∀ {R : Type} (k : List Dt → Option R), evFn f8e keep rounds f8c [.ro] [false] true [.tmp 2] [4] [.d .rule a0] k = k [.d .bool (ruleOk a0)] := by
  have hg2 : gRule a0 8 = true := by unfold gRule; rw [hg]; rfl
  refine ⟨f8k, 0, fun {R} k => ?_⟩
  rw [f8_run]
  simp only [eta_rule, hg2, cond_true]
  rfl

noncomputable def q8 : List Dt → Option (Bool × List Dt)
  | [.d .rule a0] => some ((sm_rule a0), [.d .bool (ruleOk a0)])
  | _ => none
noncomputable def s8 : Gm.Spec := Gm.Spec.of [.ro] [false] true q8
theorem good8 : Gm.Good Try.prog (8, s8) := by
  have hl : ∀ x ∈ [(25, s25)], Gm.Good Try.prog x := List.forall_mem_cons.2 ⟨good25, List.forall_mem_nil _⟩
  refine ⟨⟨spec_ok (tab_ok.env hl) (tab.natl hl) Try.func8 (by kernel_rfl : Try.f8.body = some f8c) [4] (by kernel_rfl) ?_, _, Try.func8, by kernel_rfl, of_decide_eq_true (by kernel_rfl)⟩, Gm.Spec.of_natl _ _ _ _⟩
  intro ds outs h
  unfold q8 at h
  split at h
  · simp only [Option.some.injEq, Prod.mk.injEq] at h; obtain ⟨hg, h⟩ := h; cases h; exact f8_spec _ hg
  · cases h
end Go.Proofs.Ytglijihijmkpaaa

/- What the functions compute, part 1. No conditions. -/
import Derived.Test.YtmeeoilfnahihaaGm3
import Derived.Test.YtmeeoilfnahihaaRows
/- The table of types of the program, and that it is the program's. Printed by gev.py of this session. -/
namespace Go.Proofs.Ytmeeoilfnahihaa
open Go Go.Gm
def tab : Tab := { code := [(2, (.i .i64)), (3, (.i .i64)), (4, .bool), (5, (.i .u8)), (6, (.i .u8)), (9, .str), (10, .str), (11, .str), (12, (.i .u64)), (21, (.i .i32)), (22, (.sl .str)), (23, (.sl .fail)), (25, .work), (28, (.sl .fail)), (30, .work), (34, (.sl (.i .u8))), (57, .fail), (78, .fail), (90, .cur), (92, (.sl (.i .i64))), (94, (.i .u64)), (102, (.i .u32)), (103, (.i .u8)), (104, (.i .u8)), (107, (.i .i32)), (108, (.i .i32))], eqs := [], fld := [(25, [(0, 22), (1, 22), (2, 22), (3, 23)]), (30, [(0, 22), (1, 22), (2, 22), (3, 28)]), (57, [(0, 9), (1, 3)]), (78, [(0, 9), (1, 3)]), (90, [(0, 34), (1, 3), (2, 3)])] }
theorem und2 : UndOk (tab.env []) Try.prog 2 (.i .i64) := (by kernel_rfl : Try.prog.underlying 2 = some (.int .i64))
theorem und3 : UndOk (tab.env []) Try.prog 3 (.i .i64) := (by kernel_rfl : Try.prog.underlying 3 = some (.int .i64))
theorem und4 : UndOk (tab.env []) Try.prog 4 .bool := (by kernel_rfl : Try.prog.underlying 4 = some .bool)
theorem und5 : UndOk (tab.env []) Try.prog 5 (.i .u8) := (by kernel_rfl : Try.prog.underlying 5 = some (.int .u8))
theorem und6 : UndOk (tab.env []) Try.prog 6 (.i .u8) := (by kernel_rfl : Try.prog.underlying 6 = some (.int .u8))
theorem und9 : UndOk (tab.env []) Try.prog 9 .str := (by kernel_rfl : Try.prog.underlying 9 = some .string)
theorem und10 : UndOk (tab.env []) Try.prog 10 .str := (by kernel_rfl : Try.prog.underlying 10 = some .string)
theorem und11 : UndOk (tab.env []) Try.prog 11 .str := (by kernel_rfl : Try.prog.underlying 11 = some .string)
theorem und12 : UndOk (tab.env []) Try.prog 12 (.i .u64) := (by kernel_rfl : Try.prog.underlying 12 = some (.int .u64))
theorem und21 : UndOk (tab.env []) Try.prog 21 (.i .i32) := (by kernel_rfl : Try.prog.underlying 21 = some (.int .i32))
theorem und22 : UndOk (tab.env []) Try.prog 22 (.sl .str) := ⟨9, by kernel_rfl, by kernel_rfl⟩
theorem und23 : UndOk (tab.env []) Try.prog 23 (.sl .fail) := ⟨78, by kernel_rfl, by kernel_rfl⟩
theorem und25 : UndOk (tab.env []) Try.prog 25 .work := ⟨_, Try.underlying25⟩
theorem und28 : UndOk (tab.env []) Try.prog 28 (.sl .fail) := ⟨57, by kernel_rfl, by kernel_rfl⟩
theorem und30 : UndOk (tab.env []) Try.prog 30 .work := ⟨_, Try.underlying30⟩
theorem und34 : UndOk (tab.env []) Try.prog 34 (.sl (.i .u8)) := ⟨5, by kernel_rfl, by kernel_rfl⟩
theorem und57 : UndOk (tab.env []) Try.prog 57 .fail := ⟨_, Try.underlying57⟩
theorem und78 : UndOk (tab.env []) Try.prog 78 .fail := ⟨_, Try.underlying78⟩
theorem und90 : UndOk (tab.env []) Try.prog 90 .cur := ⟨_, Try.underlying90⟩
theorem und92 : UndOk (tab.env []) Try.prog 92 (.sl (.i .i64)) := ⟨3, by kernel_rfl, by kernel_rfl⟩
theorem und94 : UndOk (tab.env []) Try.prog 94 (.i .u64) := (by kernel_rfl : Try.prog.underlying 94 = some (.int .u64))
theorem und102 : UndOk (tab.env []) Try.prog 102 (.i .u32) := (by kernel_rfl : Try.prog.underlying 102 = some (.int .u32))
theorem und103 : UndOk (tab.env []) Try.prog 103 (.i .u8) := (by kernel_rfl : Try.prog.underlying 103 = some (.int .u8))
theorem und104 : UndOk (tab.env []) Try.prog 104 (.i .u8) := (by kernel_rfl : Try.prog.underlying 104 = some (.int .u8))
theorem und107 : UndOk (tab.env []) Try.prog 107 (.i .i32) := (by kernel_rfl : Try.prog.underlying 107 = some (.int .i32))
theorem und108 : UndOk (tab.env []) Try.prog 108 (.i .i32) := (by kernel_rfl : Try.prog.underlying 108 = some (.int .i32))
theorem fld25 : ∃ fs : Array Field, Try.prog.underlying 25 = some (.struct fs) ∧ [(0, 22), (1, 22), (2, 22), (3, 23)] = fs.toList.map (fun f => (f.offset, f.type)) ∧ (∀ y ∈ ([(0, 22), (1, 22), (2, 22), (3, 23)] : List (Nat × Nat)), (aget tab.code y.2).isSome) ∧ (fs.toList.mapM (fun f => (Try.prog.info? f.type).map fun i => (f.offset, i.size))).isSome :=
  ⟨_, Try.underlying25, by kernel_rfl, List.all_eq_true.1 (by kernel_rfl), by kernel_rfl⟩
theorem fld30 : ∃ fs : Array Field, Try.prog.underlying 30 = some (.struct fs) ∧ [(0, 22), (1, 22), (2, 22), (3, 28)] = fs.toList.map (fun f => (f.offset, f.type)) ∧ (∀ y ∈ ([(0, 22), (1, 22), (2, 22), (3, 28)] : List (Nat × Nat)), (aget tab.code y.2).isSome) ∧ (fs.toList.mapM (fun f => (Try.prog.info? f.type).map fun i => (f.offset, i.size))).isSome :=
  ⟨_, Try.underlying30, by kernel_rfl, List.all_eq_true.1 (by kernel_rfl), by kernel_rfl⟩
theorem fld57 : ∃ fs : Array Field, Try.prog.underlying 57 = some (.struct fs) ∧ [(0, 9), (1, 3)] = fs.toList.map (fun f => (f.offset, f.type)) ∧ (∀ y ∈ ([(0, 9), (1, 3)] : List (Nat × Nat)), (aget tab.code y.2).isSome) ∧ (fs.toList.mapM (fun f => (Try.prog.info? f.type).map fun i => (f.offset, i.size))).isSome :=
  ⟨_, Try.underlying57, by kernel_rfl, List.all_eq_true.1 (by kernel_rfl), by kernel_rfl⟩
theorem fld78 : ∃ fs : Array Field, Try.prog.underlying 78 = some (.struct fs) ∧ [(0, 9), (1, 3)] = fs.toList.map (fun f => (f.offset, f.type)) ∧ (∀ y ∈ ([(0, 9), (1, 3)] : List (Nat × Nat)), (aget tab.code y.2).isSome) ∧ (fs.toList.mapM (fun f => (Try.prog.info? f.type).map fun i => (f.offset, i.size))).isSome :=
  ⟨_, Try.underlying78, by kernel_rfl, List.all_eq_true.1 (by kernel_rfl), by kernel_rfl⟩
theorem fld90 : ∃ fs : Array Field, Try.prog.underlying 90 = some (.struct fs) ∧ [(0, 34), (1, 3), (2, 3)] = fs.toList.map (fun f => (f.offset, f.type)) ∧ (∀ y ∈ ([(0, 34), (1, 3), (2, 3)] : List (Nat × Nat)), (aget tab.code y.2).isSome) ∧ (fs.toList.mapM (fun f => (Try.prog.info? f.type).map fun i => (f.offset, i.size))).isSome :=
  ⟨_, Try.underlying90, by kernel_rfl, List.all_eq_true.1 (by kernel_rfl), by kernel_rfl⟩
theorem tab_ok : tab.Ok Try.prog where
  info := infoChk_ok (by kernel_rfl)
  und := List.forall_mem_cons.2 ⟨und2, List.forall_mem_cons.2 ⟨und3, List.forall_mem_cons.2 ⟨und4, List.forall_mem_cons.2 ⟨und5, List.forall_mem_cons.2 ⟨und6, List.forall_mem_cons.2 ⟨und9, List.forall_mem_cons.2 ⟨und10, List.forall_mem_cons.2 ⟨und11, List.forall_mem_cons.2 ⟨und12, List.forall_mem_cons.2 ⟨und21, List.forall_mem_cons.2 ⟨und22, List.forall_mem_cons.2 ⟨und23, List.forall_mem_cons.2 ⟨und25, List.forall_mem_cons.2 ⟨und28, List.forall_mem_cons.2 ⟨und30, List.forall_mem_cons.2 ⟨und34, List.forall_mem_cons.2 ⟨und57, List.forall_mem_cons.2 ⟨und78, List.forall_mem_cons.2 ⟨und90, List.forall_mem_cons.2 ⟨und92, List.forall_mem_cons.2 ⟨und94, List.forall_mem_cons.2 ⟨und102, List.forall_mem_cons.2 ⟨und103, List.forall_mem_cons.2 ⟨und104, List.forall_mem_cons.2 ⟨und107, List.forall_mem_cons.2 ⟨und108, List.forall_mem_nil _⟩⟩⟩⟩⟩⟩⟩⟩⟩⟩⟩⟩⟩⟩⟩⟩⟩⟩⟩⟩⟩⟩⟩⟩⟩⟩
  fld := List.forall_mem_cons.2 ⟨fld25, List.forall_mem_cons.2 ⟨fld30, List.forall_mem_cons.2 ⟨fld57, List.forall_mem_cons.2 ⟨fld78, List.forall_mem_cons.2 ⟨fld90, List.forall_mem_nil _⟩⟩⟩⟩⟩
  sts := List.forall_mem_cons.2 ⟨fun h => by first | (cases h; done) | (simp; done), List.forall_mem_cons.2 ⟨fun h => by first | (cases h; done) | (simp; done), List.forall_mem_cons.2 ⟨fun h => by first | (cases h; done) | (simp; done), List.forall_mem_cons.2 ⟨fun h => by first | (cases h; done) | (simp; done), List.forall_mem_cons.2 ⟨fun h => by first | (cases h; done) | (simp; done), List.forall_mem_cons.2 ⟨fun h => by first | (cases h; done) | (simp; done), List.forall_mem_cons.2 ⟨fun h => by first | (cases h; done) | (simp; done), List.forall_mem_cons.2 ⟨fun h => by first | (cases h; done) | (simp; done), List.forall_mem_cons.2 ⟨fun h => by first | (cases h; done) | (simp; done), List.forall_mem_cons.2 ⟨fun h => by first | (cases h; done) | (simp; done), List.forall_mem_cons.2 ⟨fun h => by first | (cases h; done) | (simp; done), List.forall_mem_cons.2 ⟨fun h => by first | (cases h; done) | (simp; done), List.forall_mem_cons.2 ⟨fun _ => by simp [tab], List.forall_mem_cons.2 ⟨fun h => by first | (cases h; done) | (simp; done), List.forall_mem_cons.2 ⟨fun _ => by simp [tab], List.forall_mem_cons.2 ⟨fun h => by first | (cases h; done) | (simp; done), List.forall_mem_cons.2 ⟨fun _ => by simp [tab], List.forall_mem_cons.2 ⟨fun _ => by simp [tab], List.forall_mem_cons.2 ⟨fun _ => by simp [tab], List.forall_mem_cons.2 ⟨fun h => by first | (cases h; done) | (simp; done), List.forall_mem_cons.2 ⟨fun h => by first | (cases h; done) | (simp; done), List.forall_mem_cons.2 ⟨fun h => by first | (cases h; done) | (simp; done), List.forall_mem_cons.2 ⟨fun h => by first | (cases h; done) | (simp; done), List.forall_mem_cons.2 ⟨fun h => by first | (cases h; done) | (simp; done), List.forall_mem_cons.2 ⟨fun h => by first | (cases h; done) | (simp; done), List.forall_mem_cons.2 ⟨fun h => by first | (cases h; done) | (simp; done), List.forall_mem_nil _⟩⟩⟩⟩⟩⟩⟩⟩⟩⟩⟩⟩⟩⟩⟩⟩⟩⟩⟩⟩⟩⟩⟩⟩⟩⟩
  eqs := List.forall_mem_nil _
  ord := by kernel_rfl
end Go.Proofs.Ytmeeoilfnahihaa

/- x -/
namespace Go.Proofs.Ytmeeoilfnahihaa
open Go Go.Gm
/-! ### loop.example/g00465/laws.szStringS -/
noncomputable def f36c : Code := (Try.f36.body).getD .skip
def f36k : Nat → Kp := kat [⟨[0, 1], []⟩, ⟨[0, 1], []⟩, ⟨[0, 1, 11], []⟩, ⟨[4], []⟩, ⟨[0, 1, 5], []⟩, ⟨[0, 1, 5, 15], []⟩, ⟨[0, 1, 5], []⟩, ⟨[0, 1, 5], []⟩, ⟨[0, 1, 5, 26], []⟩, ⟨[4], []⟩, ⟨[4], []⟩]
noncomputable def f36e : Env := tab.env []
noncomputable def f36L0 {R : Type} (n : Nat) (x0 : Option R) (x1 : Int → Int → Bool → Option R) (vs0 : List ByteArray) : Nat → Int → Int → Option R
  | 0, _, _ => none
  | m + 1, vs1, vs5 =>
    (cond (decide (vs5 < (vs0.length : Int)))
      (cond ((decide ((0 : Int) ≤ vs5)) && (decide (vs5 < (vs0.length : Int))))
        (cond (decide ((IntKind.wrap .i64 (vs1 - (ByteArray.size (atI (t := .str) vs0 (Int.toNat vs5)) : Int))) < (0 : Int)))
          (x0)
          (f36L0 n x0 x1 vs0 m (IntKind.wrap .i64 (vs1 - (ByteArray.size (atI (t := .str) vs0 (Int.toNat vs5)) : Int))) (IntKind.wrap .i64 (vs5 + (1 : Int)))))
        none)
      (x1 vs1 vs5 (decide (vs5 < (vs0.length : Int)))))
theorem f36L0_b {R : Type} (n : Nat) (k' : Ex → St → Option R) (vs0 : List ByteArray) (vs1 : Int) (vs5 : Int) : ev f36e f36k n (cAt [1,1,1,0,1,0,0] f36c) ⟨[(0, .c (.one (.ro .str vs0))), (1, .c (.one (.v (.int .i64 vs1)))), (5, .c (.one (.v (.int .i64 vs5))))], [], []⟩ k' =
    (cond (decide (vs5 < (vs0.length : Int)))
    (cond ((decide ((0 : Int) ≤ vs5)) && (decide (vs5 < (vs0.length : Int))))
      (cond (decide ((IntKind.wrap .i64 (vs1 - (ByteArray.size (atI (t := .str) vs0 (Int.toNat vs5)) : Int))) < (0 : Int)))
        (k' .ret ⟨[(4, .c (.one (.v (.int .i64 (-1 : Int)))))], [], []⟩)
        (k' .normal ⟨[(0, .c (.one (.ro .str vs0))), (1, .c (.one (.v (.int .i64 (IntKind.wrap .i64 (vs1 - (ByteArray.size (atI (t := .str) vs0 (Int.toNat vs5)) : Int))))))), (5, .c (.one (.v (.int .i64 (IntKind.wrap .i64 (vs5 + (1 : Int)))))))], [], []⟩))
      none)
    (k' (.exit 0) ⟨[(0, .c (.one (.ro .str vs0))), (1, .c (.one (.v (.int .i64 vs1)))), (5, .c (.one (.v (.int .i64 vs5)))), (15, .c (.one (.v (.bool (decide (vs5 < (vs0.length : Int)))))))], [], []⟩)) := by kernel_rfl
theorem f36L0_eq {R : Type} (n : Nat) (k' : Ex → St → Option R) (vs0 : List ByteArray) : ∀ (m : Nat) (vs1 : Int) (vs5 : Int), iter (fun st k => ev f36e f36k n (cAt [1,1,1,0,1,0,0] f36c) st k) m ⟨[(0, .c (.one (.ro .str vs0))), (1, .c (.one (.v (.int .i64 vs1)))), (5, .c (.one (.v (.int .i64 vs5))))], [], []⟩ k' = f36L0 n (k' .ret ⟨[(4, .c (.one (.v (.int .i64 (-1 : Int)))))], [], []⟩) (fun (xvs1 : Int) (xvs5 : Int) (xvs15 : Bool) => k' (.exit 0) ⟨[(0, .c (.one (.ro .str vs0))), (1, .c (.one (.v (.int .i64 xvs1)))), (5, .c (.one (.v (.int .i64 xvs5)))), (15, .c (.one (.v (.bool xvs15))))], [], []⟩) vs0 m vs1 vs5 := by
  intro m; induction m with
  | zero => intros; rfl
  | succ m ih =>
    intro vs1 vs5
    simp only [iter]
    rw [f36L0_b]
    simp only [ih, f36L0]

noncomputable def f36K0 {R : Type} (n : Nat) (k' : Ex → St → Option R) : Ex → St → Option R := (blockK 0 (seqK f36e f36k n (cAt [1,1,1,1] f36c) k'))
theorem f36K0_x0 {R : Type} (n : Nat) (k : List Dt → Option R) (a0 : List ByteArray) (a1 : Int)  : f36K0 n (exitK f36e [.ro, .ro] [false] true [.tmp 4] [3] [.d (.sl .str) a0, .d (.i .i64) a1] k) .ret ⟨[(4, .c (.one (.v (.int .i64 (-1 : Int)))))], [], []⟩ =
    (k [.d (.i .i64) (-1 : Int)]) := by kernel_rfl
theorem f36K0_x1 {R : Type} (n : Nat) (k : List Dt → Option R) (a0 : List ByteArray) (a1 : Int) (vs0 : List ByteArray) (xvs1 : Int) (xvs5 : Int) (xvs15 : Bool) : f36K0 n (exitK f36e [.ro, .ro] [false] true [.tmp 4] [3] [.d (.sl .str) a0, .d (.i .i64) a1] k) (.exit 0) ⟨[(0, .c (.one (.ro .str vs0))), (1, .c (.one (.v (.int .i64 xvs1)))), (5, .c (.one (.v (.int .i64 xvs5)))), (15, .c (.one (.v (.bool xvs15))))], [], []⟩ =
    (k [.d (.i .i64) xvs1]) := by kernel_rfl

theorem f36_run {R : Type} (n : Nat) (k : List Dt → Option R) (a0 : List ByteArray) (a1 : Int) : evFn f36e f36k n f36c [.ro, .ro] [false] true [.tmp 4] [3] [.d (.sl .str) a0, .d (.i .i64) a1] k =
    (cond (decide ((IntKind.wrap .i64 (a1 - (a0.length : Int))) < (0 : Int)))
    (k [.d (.i .i64) (-1 : Int)])
    (f36L0 n (k [.d (.i .i64) (-1 : Int)]) (fun (xvs1 : Int) (xvs5 : Int) (xvs15 : Bool) =>
      (k [.d (.i .i64) xvs1])) a0 n (IntKind.wrap .i64 (a1 - (a0.length : Int))) (0 : Int))) := by
  refine Eq.trans (b := (cond (decide ((IntKind.wrap .i64 (a1 - (a0.length : Int))) < (0 : Int)))
    (k [.d (.i .i64) (-1 : Int)])
    (iter (fun st k => ev f36e f36k n (cAt [1,1,1,0,1,0,0] f36c) st k) n ⟨[(0, .c (.one (.ro .str a0))), (1, .c (.one (.v (.int .i64 (IntKind.wrap .i64 (a1 - (a0.length : Int))))))), (5, .c (.one (.v (.int .i64 (0 : Int)))))], [], []⟩ (f36K0 n (exitK f36e [.ro, .ro] [false] true [.tmp 4] [3] [.d (.sl .str) a0, .d (.i .i64) a1] k))))) (by kernel_rfl) ?_
  simp only [f36L0_eq, f36K0_x0, f36K0_x1]
theorem f36_spec (a0 : List ByteArray) (a1 : Int) (hg : gzL_str a0 a1 = true) : ∃ keep rounds, ∀ {R : Type} (k : List Dt → Option R), evFn f36e keep rounds f36c [.ro, .ro] [false] true [.tmp 4] [3] [.d (.sl .str) a0, .d (.i .i64) a1] k = k [.d (.i .i64) (zL_str a0 a1)] := by
  simp only [gzL_str, okL, Bool.and_eq_true, okN_iff] at hg
  obtain ⟨⟨hl, hs⟩, hn⟩ := hg
  have hl : a0.length ≤ 9223372036854775807 := bleN hl
  refine ⟨f36k, a0.length + 1, fun k => ?_⟩
  rw [f36_run, wrap_id (x := a1 - (a0.length : Int)) (by omega) (by omega)]
  show _ = k [.d (.i .i64) (zL_str a0 a1)]
  unfold zL_str
  have eL : szL ByteArray.size a0 = a0.length + (a0.map ByteArray.size).sum := rfl
  by_cases hc : a1 - (a0.length : Int) < 0
  · simp only [hc, decide_true, cond_true]
    rw [szI_neg (by omega)]
  · simp only [hc, decide_false, cond_false]
    refine Eq.trans (loop_fold (xs := a0) (F := fun m j left => f36L0 (a0.length + 1) _ _ a0 m left (j : Int)) (step := szStep ByteArray.size)
      (out := fun _ => k [.d (.i .i64) (-1 : Int)]) (good := fun left => k [.d (.i .i64) left]) (fun n => 0 ≤ n ∧ n ≤ 1048576)
      (fun x n n' hx hn h => by
        unfold szStep at h
        split at h
        · cases h
        · cases h; omega)
      (fun m j n x hx hn => ?_)
      (fun m n hn => by simp only [f36L0, idxE, cond_false]) a0.length 0 (a0.length + 1) (a1 - (a0.length : Int)) (by omega) (by omega) (by omega)) ?_
    · obtain ⟨h1, h0, hw, ht⟩ := idx (lt_of_get hx) (by omega)
      have hx2 := List.all_eq_true.1 hs x (List.mem_of_getElem? hx)
      have hx2 : x.size ≤ 9223372036854775807 := bleN hx2
      simp only [f36L0, h1, h0, hw, ht, atI_of (t := .str) hx, Bool.and_self, cond_true]
      rw [wrap_id (x := n - (x.size : Int)) (by omega) (by omega)]
      unfold szStep
      by_cases h : n - (x.size : Int) < 0
      · simp only [h, decide_true, cond_true, if_true, Sum.elim_inl]
      · simp only [h, decide_false, cond_false, if_false, Sum.elim_inr]
    · rw [List.drop_zero, sz_fold _ _ _ (by omega)]
      by_cases h2 : a1 - (a0.length : Int) - ((a0.map ByteArray.size).sum : Nat) < 0
      · rw [if_pos h2, szI_neg (by omega)]; rfl
      · rw [if_neg h2, szI_pos (by omega)]
        simp only [Sum.elim_inr]
        rw [show a1 - (a0.length : Int) - ((a0.map ByteArray.size).sum : Nat) = a1 - (szL ByteArray.size a0 : Nat) by omega]

noncomputable def q36 : List Dt → Option (Bool × List Dt)
  | [.d (.sl .str) a0, .d (.i .i64) a1] => some ((gzL_str a0 a1), [.d (.i .i64) (zL_str a0 a1)])
  | _ => none
noncomputable def s36 : Gm.Spec := Gm.Spec.of [.ro, .ro] [false] true q36
theorem good36 : Gm.Good Try.prog (36, s36) := by
  have hl : ∀ x ∈ ([] : List (Nat × Gm.Spec)), Gm.Good Try.prog x := fun _ h => by cases h
  refine ⟨⟨spec_ok (tab_ok.env hl) (tab.natl hl) Try.func36 (by kernel_rfl : Try.f36.body = some f36c) [3] (by kernel_rfl) ?_, _, Try.func36, by kernel_rfl, of_decide_eq_true (by kernel_rfl)⟩, Gm.Spec.of_natl _ _ _ _⟩
  intro ds outs h
  unfold q36 at h
  split at h
  · simp only [Option.some.injEq, Prod.mk.injEq] at h; obtain ⟨hg, h⟩ := h; cases h; exact f36_spec _ _ hg
  · cases h
/-! ### loop.example/g00465/laws.szFail -/
noncomputable def f73c : Code := (Try.f73.body).getD .skip
def f73k : Nat → Kp := kat [⟨[1, 2], []⟩, ⟨[1], []⟩, ⟨[1, 11], []⟩, ⟨[4], []⟩, ⟨[4], []⟩]
noncomputable def f73e : Env := tab.env []
theorem f73_run {R : Type} (n : Nat) (k : List Dt → Option R) (a0 : FailT) (a1 : Int) : evFn f73e f73k n f73c [.ro, .ro] [false] true [.tmp 4] [3] [.d .fail a0, .d (.i .i64) a1] k =
    (cond (decide ((IntKind.wrap .i64 (a1 - (ByteArray.size (FailT.name a0) : Int))) < (0 : Int)))
    (k [.d (.i .i64) (-1 : Int)])
    (k [.d (.i .i64) (IntKind.wrap .i64 (a1 - (ByteArray.size (FailT.name a0) : Int)))])) := by kernel_rfl
theorem f73_spec (a0 : FailT) (a1 : Int) (hg : gz_fail a0 a1 = true) : ∃ keep rounds, ∀ {R : Type} (k : List Dt → Option R), evFn f73e keep rounds f73c [.ro, .ro] [false] true [.tmp 4] [3] [.d .fail a0, .d (.i .i64) a1] k = k [.d (.i .i64) (z_fail a0 a1)] := by
  simp only [gz_fail, ok_fail, Bool.and_eq_true, okN_iff] at hg
  obtain ⟨hf_name, hn1, hn2⟩ := hg
  have hf_nameb : a0.name.size ≤ 9223372036854775807 := bleN hf_name
  have eN : szN_fail a0 = a0.name.size := rfl
  refine ⟨f73k, 0, fun k => ?_⟩
  rw [f73_run]
  show _ = k [.d (.i .i64) (z_fail a0 a1)]
  unfold z_fail
  rw [wrap_id (x := a1 - ((a0.name.size : Nat) : Int)) (by omega) (by omega)]
  by_cases h1 : a1 - ((a0.name.size : Nat) : Int) < 0
  · simp only [h1, decide_true, cond_true]; rw [szI_neg (by omega)]
  simp only [h1, decide_false, cond_false]
  rw [szI_pos (by omega)]
  first
    | rfl
    | rw [show (a1 - ((a0.name.size : Nat) : Int)) = a1 - ((szN_fail a0 : Nat) : Int) by omega]

noncomputable def q73 : List Dt → Option (Bool × List Dt)
  | [.d .fail a0, .d (.i .i64) a1] => some ((gz_fail a0 a1), [.d (.i .i64) (z_fail a0 a1)])
  | _ => none
noncomputable def s73 : Gm.Spec := Gm.Spec.of [.ro, .ro] [false] true q73
theorem good73 : Gm.Good Try.prog (73, s73) := by
  have hl : ∀ x ∈ ([] : List (Nat × Gm.Spec)), Gm.Good Try.prog x := fun _ h => by cases h
  refine ⟨⟨spec_ok (tab_ok.env hl) (tab.natl hl) Try.func73 (by kernel_rfl : Try.f73.body = some f73c) [3] (by kernel_rfl) ?_, _, Try.func73, by kernel_rfl, of_decide_eq_true (by kernel_rfl)⟩, Gm.Spec.of_natl _ _ _ _⟩
  intro ds outs h
  unfold q73 at h
  split at h
  · simp only [Option.some.injEq, Prod.mk.injEq] at h; obtain ⟨hg, h⟩ := h; cases h; exact f73_spec _ _ hg
  · cases h
/-! ### loop.example/g00465/laws.szFailS -/
noncomputable def f37c : Code := (Try.f37.body).getD .skip
def f37k : Nat → Kp := kat [⟨[0, 1], []⟩, ⟨[0, 1], []⟩, ⟨[0, 1, 11], []⟩, ⟨[4], []⟩, ⟨[0, 1, 5], []⟩, ⟨[0, 1, 5, 15], []⟩, ⟨[0, 1, 5], []⟩, ⟨[0, 1, 5], []⟩, ⟨[0, 1, 5, 25], []⟩, ⟨[4], []⟩, ⟨[4], []⟩]
noncomputable def f37e : Env := tab.env [(73, s73)]
noncomputable def f37L0 {R : Type} (n : Nat) (x0 : Option R) (x1 : Int → Int → Bool → Option R) (vs0 : List FailT) : Nat → Int → Int → Option R
  | 0, _, _ => none
  | m + 1, vs1, vs5 =>
    (cond (decide (vs5 < (vs0.length : Int)))
      (cond ((decide ((0 : Int) ≤ vs5)) && (decide (vs5 < (vs0.length : Int))))
        (cond (gz_fail (atI (t := .fail) vs0 (Int.toNat vs5)) vs1)
          (cond (decide ((z_fail (atI (t := .fail) vs0 (Int.toNat vs5)) vs1) < (0 : Int)))
            (x0)
            (f37L0 n x0 x1 vs0 m (z_fail (atI (t := .fail) vs0 (Int.toNat vs5)) vs1) (IntKind.wrap .i64 (vs5 + (1 : Int)))))
          none)
        none)
      (x1 vs1 vs5 (decide (vs5 < (vs0.length : Int)))))
theorem f37L0_b {R : Type} (n : Nat) (k' : Ex → St → Option R) (vs0 : List FailT) (vs1 : Int) (vs5 : Int) : ev f37e f37k n (cAt [1,1,1,0,1,0,0] f37c) ⟨[(0, .c (.one (.ro .fail vs0))), (1, .c (.one (.v (.int .i64 vs1)))), (5, .c (.one (.v (.int .i64 vs5))))], [], []⟩ k' =
    (cond (decide (vs5 < (vs0.length : Int)))
    (cond ((decide ((0 : Int) ≤ vs5)) && (decide (vs5 < (vs0.length : Int))))
      (cond (gz_fail (atI (t := .fail) vs0 (Int.toNat vs5)) vs1)
        (cond (decide ((z_fail (atI (t := .fail) vs0 (Int.toNat vs5)) vs1) < (0 : Int)))
          (k' .ret ⟨[(4, .c (.one (.v (.int .i64 (-1 : Int)))))], [], []⟩)
          (k' .normal ⟨[(0, .c (.one (.ro .fail vs0))), (1, .c (.one (.v (.int .i64 (z_fail (atI (t := .fail) vs0 (Int.toNat vs5)) vs1))))), (5, .c (.one (.v (.int .i64 (IntKind.wrap .i64 (vs5 + (1 : Int)))))))], [], []⟩))
        none)
      none)
    (k' (.exit 0) ⟨[(0, .c (.one (.ro .fail vs0))), (1, .c (.one (.v (.int .i64 vs1)))), (5, .c (.one (.v (.int .i64 vs5)))), (15, .c (.one (.v (.bool (decide (vs5 < (vs0.length : Int)))))))], [], []⟩)) := by kernel_rfl
theorem f37L0_eq {R : Type} (n : Nat) (k' : Ex → St → Option R) (vs0 : List FailT) : ∀ (m : Nat) (vs1 : Int) (vs5 : Int), iter (fun st k => ev f37e f37k n (cAt [1,1,1,0,1,0,0] f37c) st k) m ⟨[(0, .c (.one (.ro .fail vs0))), (1, .c (.one (.v (.int .i64 vs1)))), (5, .c (.one (.v (.int .i64 vs5))))], [], []⟩ k' = f37L0 n (k' .ret ⟨[(4, .c (.one (.v (.int .i64 (-1 : Int)))))], [], []⟩) (fun (xvs1 : Int) (xvs5 : Int) (xvs15 : Bool) => k' (.exit 0) ⟨[(0, .c (.one (.ro .fail vs0))), (1, .c (.one (.v (.int .i64 xvs1)))), (5, .c (.one (.v (.int .i64 xvs5)))), (15, .c (.one (.v (.bool xvs15))))], [], []⟩) vs0 m vs1 vs5 := by
  intro m; induction m with
  | zero => intros; rfl
  | succ m ih =>
    intro vs1 vs5
    simp only [iter]
    rw [f37L0_b]
    simp only [ih, f37L0]

noncomputable def f37K0 {R : Type} (n : Nat) (k' : Ex → St → Option R) : Ex → St → Option R := (blockK 0 (seqK f37e f37k n (cAt [1,1,1,1] f37c) k'))
theorem f37K0_x0 {R : Type} (n : Nat) (k : List Dt → Option R) (a0 : List FailT) (a1 : Int)  : f37K0 n (exitK f37e [.ro, .ro] [false] true [.tmp 4] [3] [.d (.sl .fail) a0, .d (.i .i64) a1] k) .ret ⟨[(4, .c (.one (.v (.int .i64 (-1 : Int)))))], [], []⟩ =
    (k [.d (.i .i64) (-1 : Int)]) := by kernel_rfl
theorem f37K0_x1 {R : Type} (n : Nat) (k : List Dt → Option R) (a0 : List FailT) (a1 : Int) (vs0 : List FailT) (xvs1 : Int) (xvs5 : Int) (xvs15 : Bool) : f37K0 n (exitK f37e [.ro, .ro] [false] true [.tmp 4] [3] [.d (.sl .fail) a0, .d (.i .i64) a1] k) (.exit 0) ⟨[(0, .c (.one (.ro .fail vs0))), (1, .c (.one (.v (.int .i64 xvs1)))), (5, .c (.one (.v (.int .i64 xvs5)))), (15, .c (.one (.v (.bool xvs15))))], [], []⟩ =
    (k [.d (.i .i64) xvs1]) := by kernel_rfl

theorem f37_run {R : Type} (n : Nat) (k : List Dt → Option R) (a0 : List FailT) (a1 : Int) : evFn f37e f37k n f37c [.ro, .ro] [false] true [.tmp 4] [3] [.d (.sl .fail) a0, .d (.i .i64) a1] k =
    (cond (decide ((IntKind.wrap .i64 (a1 - (a0.length : Int))) < (0 : Int)))
    (k [.d (.i .i64) (-1 : Int)])
    (f37L0 n (k [.d (.i .i64) (-1 : Int)]) (fun (xvs1 : Int) (xvs5 : Int) (xvs15 : Bool) =>
      (k [.d (.i .i64) xvs1])) a0 n (IntKind.wrap .i64 (a1 - (a0.length : Int))) (0 : Int))) := by
  refine Eq.trans (b := (cond (decide ((IntKind.wrap .i64 (a1 - (a0.length : Int))) < (0 : Int)))
    (k [.d (.i .i64) (-1 : Int)])
    (iter (fun st k => ev f37e f37k n (cAt [1,1,1,0,1,0,0] f37c) st k) n ⟨[(0, .c (.one (.ro .fail a0))), (1, .c (.one (.v (.int .i64 (IntKind.wrap .i64 (a1 - (a0.length : Int))))))), (5, .c (.one (.v (.int .i64 (0 : Int)))))], [], []⟩ (f37K0 n (exitK f37e [.ro, .ro] [false] true [.tmp 4] [3] [.d (.sl .fail) a0, .d (.i .i64) a1] k))))) (by kernel_rfl) ?_
  simp only [f37L0_eq, f37K0_x0, f37K0_x1]
theorem f37_spec (a0 : List FailT) (a1 : Int) (hg : gzL_fail a0 a1 = true) : ∃ keep rounds, ∀ {R : Type} (k : List Dt → Option R), evFn f37e keep rounds f37c [.ro, .ro] [false] true [.tmp 4] [3] [.d (.sl .fail) a0, .d (.i .i64) a1] k = k [.d (.i .i64) (zL_fail a0 a1)] := by
  simp only [gzL_fail, okL, Bool.and_eq_true, okN_iff] at hg
  obtain ⟨⟨hl, hs⟩, hn⟩ := hg
  have hl : a0.length ≤ 9223372036854775807 := bleN hl
  refine ⟨f37k, a0.length + 1, fun k => ?_⟩
  rw [f37_run, wrap_id (x := a1 - (a0.length : Int)) (by omega) (by omega)]
  show _ = k [.d (.i .i64) (zL_fail a0 a1)]
  unfold zL_fail
  have eL : szL szN_fail a0 = a0.length + (a0.map szN_fail).sum := rfl
  by_cases hc : a1 - (a0.length : Int) < 0
  · simp only [hc, decide_true, cond_true]
    rw [szI_neg (by omega)]
  · simp only [hc, decide_false, cond_false]
    refine Eq.trans (loop_fold (xs := a0) (F := fun m j left => f37L0 (a0.length + 1) _ _ a0 m left (j : Int)) (step := szStep szN_fail)
      (out := fun _ => k [.d (.i .i64) (-1 : Int)]) (good := fun left => k [.d (.i .i64) left]) (fun n => 0 ≤ n ∧ n ≤ 1048576)
      (fun x n n' hx hn h => by
        unfold szStep at h
        split at h
        · cases h
        · cases h; omega)
      (fun m j n x hx hn => ?_)
      (fun m n hn => by simp only [f37L0, idxE, cond_false]) a0.length 0 (a0.length + 1) (a1 - (a0.length : Int)) (by omega) (by omega) (by omega)) ?_
    · obtain ⟨h1, h0, hw, ht⟩ := idx (lt_of_get hx) (by omega)
      have hx2 := List.all_eq_true.1 hs x (List.mem_of_getElem? hx)
      have hg2 : gz_fail x n = true := by simp only [gz_fail, Bool.and_eq_true, okN_iff]; exact ⟨hx2, by omega, by omega⟩
      have hz : z_fail x n = szI (szN_fail x) n := rfl
      simp only [f37L0, h1, h0, hw, ht, atI_of (t := .fail) hx, Bool.and_self, cond_true, hg2, hz]
      unfold szStep
      by_cases h : n - (szN_fail x : Int) < 0
      · rw [szI_neg h]; simp only [h, if_true, Sum.elim_inl]; rfl
      · rw [szI_pos h]; simp only [h, decide_false, cond_false, if_false, Sum.elim_inr]
    · rw [List.drop_zero, sz_fold _ _ _ (by omega)]
      by_cases h2 : a1 - (a0.length : Int) - ((a0.map szN_fail).sum : Nat) < 0
      · rw [if_pos h2, szI_neg (by omega)]; rfl
      · rw [if_neg h2, szI_pos (by omega)]
        simp only [Sum.elim_inr]
        rw [show a1 - (a0.length : Int) - ((a0.map szN_fail).sum : Nat) = a1 - (szL szN_fail a0 : Nat) by omega]

noncomputable def q37 : List Dt → Option (Bool × List Dt)
  | [.d (.sl .fail) a0, .d (.i .i64) a1] => some ((gzL_fail a0 a1), [.d (.i .i64) (zL_fail a0 a1)])
  | _ => none
noncomputable def s37 : Gm.Spec := Gm.Spec.of [.ro, .ro] [false] true q37
theorem good37 : Gm.Good Try.prog (37, s37) := by
  have hl : ∀ x ∈ [(73, s73)], Gm.Good Try.prog x := List.forall_mem_cons.2 ⟨good73, List.forall_mem_nil _⟩
  refine ⟨⟨spec_ok (tab_ok.env hl) (tab.natl hl) Try.func37 (by kernel_rfl : Try.f37.body = some f37c) [3] (by kernel_rfl) ?_, _, Try.func37, by kernel_rfl, of_decide_eq_true (by kernel_rfl)⟩, Gm.Spec.of_natl _ _ _ _⟩
  intro ds outs h
  unfold q37 at h
  split at h
  · simp only [Option.some.injEq, Prod.mk.injEq] at h; obtain ⟨hg, h⟩ := h; cases h; exact f37_spec _ _ hg
  · cases h
/-! ### loop.example/g00465/laws.szWork -/
noncomputable def f11c : Code := (Try.f11.body).getD .skip
def f11k : Nat → Kp := kat [⟨[1, 2], []⟩, ⟨[1, 2], []⟩, ⟨[1, 2, 10], []⟩, ⟨[4], []⟩, ⟨[1, 2], []⟩, ⟨[1, 2, 16], []⟩, ⟨[4], []⟩, ⟨[1, 2], []⟩, ⟨[1, 2, 22], []⟩, ⟨[4], []⟩, ⟨[1], []⟩, ⟨[1, 28], []⟩, ⟨[4], []⟩, ⟨[4], []⟩]
noncomputable def f11e : Env := tab.env [(36, s36), (37, s37)]
theorem f11_run {R : Type} (n : Nat) (k : List Dt → Option R) (a0 : WorkT) (a1 : Int) : evFn f11e f11k n f11c [.ro, .ro] [false] true [.tmp 4] [3] [.d .work a0, .d (.i .i64) a1] k =
    (cond (gzL_str (WorkT.list a0) a1)
    (cond (decide ((zL_str (WorkT.list a0) a1) < (0 : Int)))
      (k [.d (.i .i64) (-1 : Int)])
      (cond (gzL_str (WorkT.busy a0) (zL_str (WorkT.list a0) a1))
        (cond (decide ((zL_str (WorkT.busy a0) (zL_str (WorkT.list a0) a1)) < (0 : Int)))
          (k [.d (.i .i64) (-1 : Int)])
          (cond (gzL_str (WorkT.again a0) (zL_str (WorkT.busy a0) (zL_str (WorkT.list a0) a1)))
            (cond (decide ((zL_str (WorkT.again a0) (zL_str (WorkT.busy a0) (zL_str (WorkT.list a0) a1))) < (0 : Int)))
              (k [.d (.i .i64) (-1 : Int)])
              (cond (gzL_fail (WorkT.fails a0) (zL_str (WorkT.again a0) (zL_str (WorkT.busy a0) (zL_str (WorkT.list a0) a1))))
                (cond (decide ((zL_fail (WorkT.fails a0) (zL_str (WorkT.again a0) (zL_str (WorkT.busy a0) (zL_str (WorkT.list a0) a1)))) < (0 : Int)))
                  (k [.d (.i .i64) (-1 : Int)])
                  (k [.d (.i .i64) (zL_fail (WorkT.fails a0) (zL_str (WorkT.again a0) (zL_str (WorkT.busy a0) (zL_str (WorkT.list a0) a1))))]))
                none))
            none))
        none))
    none) := by kernel_rfl
theorem f11_spec (a0 : WorkT) (a1 : Int) (hg : gz_work a0 a1 = true) : ∃ keep rounds, ∀ {R : Type} (k : List Dt → Option R), evFn f11e keep rounds f11c [.ro, .ro] [false] true [.tmp 4] [3] [.d .work a0, .d (.i .i64) a1] k = k [.d (.i .i64) (z_work a0 a1)] := by
  simp only [gz_work, ok_work, Bool.and_eq_true, okN_iff] at hg
  obtain ⟨⟨hf_list, hf_busy, hf_again, hf_fails⟩, hn1, hn2⟩ := hg
  have eN : szN_work a0 = szL ByteArray.size a0.list + szL ByteArray.size a0.busy + szL ByteArray.size a0.again + szL szN_fail a0.fails := rfl
  refine ⟨f11k, 0, fun k => ?_⟩
  rw [f11_run]
  show _ = k [.d (.i .i64) (z_work a0 a1)]
  unfold z_work
  have g1 : gzL_str a0.list a1 = true := by simp only [gzL_str, Bool.and_eq_true, okN_iff]; exact ⟨hf_list, by omega, by omega⟩
  have z2 : zL_str a0.list a1 = szI (szL ByteArray.size a0.list) a1 := rfl
  rw [g1, z2]
  by_cases h2 : a1 - ((szL ByteArray.size a0.list : Nat) : Int) < 0
  · rw [szI_neg h2, szI_neg (by omega)]; rfl
  rw [szI_pos h2]
  simp only [cond_true, h2, decide_false, cond_false]
  have g3 : gzL_str a0.busy (a1 - ((szL ByteArray.size a0.list : Nat) : Int)) = true := by simp only [gzL_str, Bool.and_eq_true, okN_iff]; exact ⟨hf_busy, by omega, by omega⟩
  have z4 : zL_str a0.busy (a1 - ((szL ByteArray.size a0.list : Nat) : Int)) = szI (szL ByteArray.size a0.busy) (a1 - ((szL ByteArray.size a0.list : Nat) : Int)) := rfl
  rw [g3, z4]
  by_cases h4 : (a1 - ((szL ByteArray.size a0.list : Nat) : Int)) - ((szL ByteArray.size a0.busy : Nat) : Int) < 0
  · rw [szI_neg h4, szI_neg (by omega)]; rfl
  rw [szI_pos h4]
  simp only [cond_true, h4, decide_false, cond_false]
  have g5 : gzL_str a0.again ((a1 - ((szL ByteArray.size a0.list : Nat) : Int)) - ((szL ByteArray.size a0.busy : Nat) : Int)) = true := by simp only [gzL_str, Bool.and_eq_true, okN_iff]; exact ⟨hf_again, by omega, by omega⟩
  have z6 : zL_str a0.again ((a1 - ((szL ByteArray.size a0.list : Nat) : Int)) - ((szL ByteArray.size a0.busy : Nat) : Int)) = szI (szL ByteArray.size a0.again) ((a1 - ((szL ByteArray.size a0.list : Nat) : Int)) - ((szL ByteArray.size a0.busy : Nat) : Int)) := rfl
  rw [g5, z6]
  by_cases h6 : ((a1 - ((szL ByteArray.size a0.list : Nat) : Int)) - ((szL ByteArray.size a0.busy : Nat) : Int)) - ((szL ByteArray.size a0.again : Nat) : Int) < 0
  · rw [szI_neg h6, szI_neg (by omega)]; rfl
  rw [szI_pos h6]
  simp only [cond_true, h6, decide_false, cond_false]
  have g7 : gzL_fail a0.fails (((a1 - ((szL ByteArray.size a0.list : Nat) : Int)) - ((szL ByteArray.size a0.busy : Nat) : Int)) - ((szL ByteArray.size a0.again : Nat) : Int)) = true := by simp only [gzL_fail, Bool.and_eq_true, okN_iff]; exact ⟨hf_fails, by omega, by omega⟩
  have z8 : zL_fail a0.fails (((a1 - ((szL ByteArray.size a0.list : Nat) : Int)) - ((szL ByteArray.size a0.busy : Nat) : Int)) - ((szL ByteArray.size a0.again : Nat) : Int)) = szI (szL szN_fail a0.fails) (((a1 - ((szL ByteArray.size a0.list : Nat) : Int)) - ((szL ByteArray.size a0.busy : Nat) : Int)) - ((szL ByteArray.size a0.again : Nat) : Int)) := rfl
  rw [g7, z8]
  by_cases h8 : (((a1 - ((szL ByteArray.size a0.list : Nat) : Int)) - ((szL ByteArray.size a0.busy : Nat) : Int)) - ((szL ByteArray.size a0.again : Nat) : Int)) - ((szL szN_fail a0.fails : Nat) : Int) < 0
  · rw [szI_neg h8, szI_neg (by omega)]; rfl
  rw [szI_pos h8]
  simp only [cond_true, h8, decide_false, cond_false]
  rw [szI_pos (by omega)]
  first
    | rfl
    | rw [show ((((a1 - ((szL ByteArray.size a0.list : Nat) : Int)) - ((szL ByteArray.size a0.busy : Nat) : Int)) - ((szL ByteArray.size a0.again : Nat) : Int)) - ((szL szN_fail a0.fails : Nat) : Int)) = a1 - ((szN_work a0 : Nat) : Int) by omega]

noncomputable def q11 : List Dt → Option (Bool × List Dt)
  | [.d .work a0, .d (.i .i64) a1] => some ((gz_work a0 a1), [.d (.i .i64) (z_work a0 a1)])
  | _ => none
noncomputable def s11 : Gm.Spec := Gm.Spec.of [.ro, .ro] [false] true q11
theorem good11 : Gm.Good Try.prog (11, s11) := by
  have hl : ∀ x ∈ [(36, s36), (37, s37)], Gm.Good Try.prog x := List.forall_mem_cons.2 ⟨good36, List.forall_mem_cons.2 ⟨good37, List.forall_mem_nil _⟩⟩
  refine ⟨⟨spec_ok (tab_ok.env hl) (tab.natl hl) Try.func11 (by kernel_rfl : Try.f11.body = some f11c) [3] (by kernel_rfl) ?_, _, Try.func11, by kernel_rfl, of_decide_eq_true (by kernel_rfl)⟩, Gm.Spec.of_natl _ _ _ _⟩
  intro ds outs h
  unfold q11 at h
  split at h
  · simp only [Option.some.injEq, Prod.mk.injEq] at h; obtain ⟨hg, h⟩ := h; cases h; exact f11_spec _ _ hg
  · cases h
/-! ### loop.example/g00465/laws.toStringS -/
noncomputable def f40c : Code := (Try.f40.body).getD .skip
def f40k : Nat → Kp := kat [⟨[0], []⟩, ⟨[0, 3], []⟩, ⟨[0, 3, 4], []⟩, ⟨[0, 3, 4, 11], []⟩, ⟨[0, 3, 4], []⟩, ⟨[0, 3, 4], []⟩, ⟨[2], []⟩]
noncomputable def f40e : Env := tab.env []
noncomputable def f40L0 {R : Type} (n : Nat) (x0 : Int → Bool → (List ByteArray) → Option R) (vs0 : List ByteArray) : Nat → Int → (List ByteArray) → Option R
  | 0, _, _ => none
  | m + 1, vs4, vr448 =>
    (cond (decide (vs4 < (vs0.length : Int)))
      (cond ((decide ((0 : Int) ≤ vs4)) && (decide (vs4 < (vs0.length : Int))))
        (cond ((decide ((0 : Int) ≤ vs4)) && (decide (vs4 < (vr448.length : Int))))
          (f40L0 n x0 vs0 m (IntKind.wrap .i64 (vs4 + (1 : Int))) (vr448.set (Int.toNat vs4) (atI (t := .str) vs0 (Int.toNat vs4))))
          none)
        none)
      (x0 vs4 (decide (vs4 < (vs0.length : Int))) vr448))
theorem f40L0_b {R : Type} (n : Nat) (k' : Ex → St → Option R) (vs0 : List ByteArray) (vs4 : Int) (vr448 : List ByteArray) : ev f40e f40k n (cAt [1,1,0,1,0,0] f40c) ⟨[(0, .c (.one (.ro .str vs0))), (3, .c (.one (.h 448 0 0 []))), (4, .c (.one (.v (.int .i64 vs4))))], [], [(448, .live ⟨.str, .deep, 0, [], vr448⟩)]⟩ k' =
    (cond (decide (vs4 < (vs0.length : Int)))
    (cond ((decide ((0 : Int) ≤ vs4)) && (decide (vs4 < (vs0.length : Int))))
      (cond ((decide ((0 : Int) ≤ vs4)) && (decide (vs4 < (vr448.length : Int))))
        (k' .normal ⟨[(0, .c (.one (.ro .str vs0))), (3, .c (.one (.h 448 0 0 []))), (4, .c (.one (.v (.int .i64 (IntKind.wrap .i64 (vs4 + (1 : Int)))))))], [], [(448, .live ⟨.str, .deep, 0, [], (vr448.set (Int.toNat vs4) (atI (t := .str) vs0 (Int.toNat vs4)))⟩)]⟩)
        none)
      none)
    (k' (.exit 0) ⟨[(0, .c (.one (.ro .str vs0))), (3, .c (.one (.h 448 0 0 []))), (4, .c (.one (.v (.int .i64 vs4)))), (11, .c (.one (.v (.bool (decide (vs4 < (vs0.length : Int)))))))], [], [(448, .live ⟨.str, .deep, 0, [], vr448⟩)]⟩)) := by kernel_rfl
theorem f40L0_eq {R : Type} (n : Nat) (k' : Ex → St → Option R) (vs0 : List ByteArray) : ∀ (m : Nat) (vs4 : Int) (vr448 : List ByteArray), iter (fun st k => ev f40e f40k n (cAt [1,1,0,1,0,0] f40c) st k) m ⟨[(0, .c (.one (.ro .str vs0))), (3, .c (.one (.h 448 0 0 []))), (4, .c (.one (.v (.int .i64 vs4))))], [], [(448, .live ⟨.str, .deep, 0, [], vr448⟩)]⟩ k' = f40L0 n (fun (xvs4 : Int) (xvs11 : Bool) (xvr448 : List ByteArray) => k' (.exit 0) ⟨[(0, .c (.one (.ro .str vs0))), (3, .c (.one (.h 448 0 0 []))), (4, .c (.one (.v (.int .i64 xvs4)))), (11, .c (.one (.v (.bool xvs11))))], [], [(448, .live ⟨.str, .deep, 0, [], xvr448⟩)]⟩) vs0 m vs4 vr448 := by
  intro m; induction m with
  | zero => intros; rfl
  | succ m ih =>
    intro vs4 vr448
    simp only [iter]
    rw [f40L0_b]
    simp only [ih, f40L0]

noncomputable def f40K0 {R : Type} (n : Nat) (k' : Ex → St → Option R) : Ex → St → Option R := (blockK 0 (seqK f40e f40k n (cAt [1,1,1] f40c) k'))
theorem f40K0_x0 {R : Type} (n : Nat) (k : List Dt → Option R) (a0 : List ByteArray) (vs0 : List ByteArray) (xvs4 : Int) (xvs11 : Bool) (xvr448 : List ByteArray) : f40K0 n (exitK f40e [.ro] [false] true [.tmp 2] [22] [.d (.sl .str) a0] k) (.exit 0) ⟨[(0, .c (.one (.ro .str vs0))), (3, .c (.one (.h 448 0 0 []))), (4, .c (.one (.v (.int .i64 xvs4)))), (11, .c (.one (.v (.bool xvs11))))], [], [(448, .live ⟨.str, .deep, 0, [], xvr448⟩)]⟩ =
    (k [.d (.sl .str) xvr448]) := by kernel_rfl

theorem f40_run {R : Type} (n : Nat) (k : List Dt → Option R) (a0 : List ByteArray) : evFn f40e f40k n f40c [.ro] [false] true [.tmp 2] [22] [.d (.sl .str) a0] k =
    (cond ((decide ((a0.length : Int) = (a0.length : Int))) && ((decide ((0 : Int) ≤ (a0.length : Int))) && (decide ((a0.length : Int) ≤ (LIM : Int)))))
    (f40L0 n (fun (xvs4 : Int) (xvs11 : Bool) (xvr448 : List ByteArray) =>
      (k [.d (.sl .str) xvr448])) a0 n (0 : Int) (List.replicate (Int.toNat (a0.length : Int)) ByteArray.empty))
    none) := by
  refine Eq.trans (b := (cond ((decide ((a0.length : Int) = (a0.length : Int))) && ((decide ((0 : Int) ≤ (a0.length : Int))) && (decide ((a0.length : Int) ≤ (LIM : Int)))))
    (iter (fun st k => ev f40e f40k n (cAt [1,1,0,1,0,0] f40c) st k) n ⟨[(0, .c (.one (.ro .str a0))), (3, .c (.one (.h 448 0 0 []))), (4, .c (.one (.v (.int .i64 (0 : Int)))))], [], [(448, .live ⟨.str, .deep, 0, [], (List.replicate (Int.toNat (a0.length : Int)) ByteArray.empty)⟩)]⟩ (f40K0 n (exitK f40e [.ro] [false] true [.tmp 2] [22] [.d (.sl .str) a0] k)))
    none)) (by kernel_rfl) ?_
  simp only [f40L0_eq, f40K0_x0]
theorem f40_spec (a0 : List ByteArray) (hg : smL smStr a0 = true) : ∃ keep rounds, ∀ {R : Type} (k : List Dt → Option R), evFn f40e keep rounds f40c [.ro] [false] true [.tmp 2] [22] [.d (.sl .str) a0] k = k [.d (.sl .str) a0] := by
  have hl : a0.length ≤ 1048576 := smL_len hg
  have hs := smL_all hg
  refine ⟨f40k, a0.length + 1, fun k => ?_⟩
  rw [f40_run, mkOk hl]
  simp only [cond_true]
  have := loop_copy (xs := a0) (f := fun x => x) (F := fun m j out => f40L0 (a0.length + 1) (fun (xvs4 : Int) (xvs11 : Bool) (xvr448 : List ByteArray) => (k [.d (.sl .str) xvr448])) a0 m (j : Int) out) (good := fun out => k [.d (.sl .str) out]) ByteArray.empty
    (fun m j out x hx hl' => by
      obtain ⟨h1, h0, hw, ht⟩ := idx (lt_of_get hx) (by omega)
      obtain ⟨h2, _, _, _⟩ := idx (show j < out.length by rw [hl']; exact lt_of_get hx) (by omega)
      have hx2 := List.all_eq_true.1 hs x (List.mem_of_getElem? hx)
      simp only [f40L0, h1, h0, h2, hw, ht, atI_of (t := .str) hx, Bool.and_self, cond_true])
    (fun m out => by simp only [f40L0, idxE, cond_false]) a0.length 0 (a0.length + 1) (by omega) (by omega)
  simpa using this

noncomputable def q40 : List Dt → Option (Bool × List Dt)
  | [.d (.sl .str) a0] => some ((smL smStr a0), [.d (.sl .str) a0])
  | _ => none
noncomputable def s40 : Gm.Spec := Gm.Spec.of [.ro] [false] true q40
theorem good40 : Gm.Good Try.prog (40, s40) := by
  have hl : ∀ x ∈ ([] : List (Nat × Gm.Spec)), Gm.Good Try.prog x := fun _ h => by cases h
  refine ⟨⟨spec_ok (tab_ok.env hl) (tab.natl hl) Try.func40 (by kernel_rfl : Try.f40.body = some f40c) [22] (by kernel_rfl) ?_, _, Try.func40, by kernel_rfl, of_decide_eq_true (by kernel_rfl)⟩, Gm.Spec.of_natl _ _ _ _⟩
  intro ds outs h
  unfold q40 at h
  split at h
  · simp only [Option.some.injEq, Prod.mk.injEq] at h; obtain ⟨hg, h⟩ := h; cases h; exact f40_spec _ hg
  · cases h
/-! ### loop.example/g00465/laws.toFail -/
noncomputable def f74c : Code := (Try.f74.body).getD .skip
def f74k : Nat → Kp := kat [⟨[1, 2], []⟩, ⟨[1, 2, 3], []⟩, ⟨[1, 2, 3], []⟩, ⟨[2, 3], []⟩, ⟨[2], []⟩]
noncomputable def f74e : Env := tab.env []
theorem f74_run {R : Type} (n : Nat) (k : List Dt → Option R) (a0 : FailT) : evFn f74e f74k n f74c [.ro] [false] true [.cell 2 57] [57] [.d .fail a0] k =
    (k [.d .fail a0]) := by kernel_rfl
theorem f74_spec (a0 : FailT) (hg : sm_fail a0 = true) : ∃ keep rounds, ∀ {R : Type} (k : List Dt → Option R), evFn f74e keep rounds f74c [.ro] [false] true [.cell 2 57] [57] [.d .fail a0] k = k [.d .fail a0] := by
  exact ⟨f74k, 0, fun k => f74_run 0 k a0⟩

noncomputable def q74 : List Dt → Option (Bool × List Dt)
  | [.d .fail a0] => some ((sm_fail a0), [.d .fail a0])
  | _ => none
noncomputable def s74 : Gm.Spec := Gm.Spec.of [.ro] [false] true q74
theorem good74 : Gm.Good Try.prog (74, s74) := by
  have hl : ∀ x ∈ ([] : List (Nat × Gm.Spec)), Gm.Good Try.prog x := fun _ h => by cases h
  refine ⟨⟨spec_ok (tab_ok.env hl) (tab.natl hl) Try.func74 (by kernel_rfl : Try.f74.body = some f74c) [57] (by kernel_rfl) ?_, _, Try.func74, by kernel_rfl, of_decide_eq_true (by kernel_rfl)⟩, Gm.Spec.of_natl _ _ _ _⟩
  intro ds outs h
  unfold q74 at h
  split at h
  · simp only [Option.some.injEq, Prod.mk.injEq] at h; obtain ⟨hg, h⟩ := h; cases h; exact f74_spec _ hg
  · cases h
/-! ### loop.example/g00465/laws.toFailS -/
noncomputable def f41c : Code := (Try.f41.body).getD .skip
def f41k : Nat → Kp := kat [⟨[0], []⟩, ⟨[0, 3], []⟩, ⟨[0, 3, 4], []⟩, ⟨[0, 3, 4, 11], []⟩, ⟨[0, 3, 4], []⟩, ⟨[0, 3, 4], []⟩, ⟨[2], []⟩]
noncomputable def f41e : Env := tab.env [(74, s74)]
noncomputable def f41L0 {R : Type} (n : Nat) (x0 : Int → Bool → (List FailT) → Option R) (vs0 : List FailT) : Nat → Int → (List FailT) → Option R
  | 0, _, _ => none
  | m + 1, vs4, vr448 =>
    (cond (decide (vs4 < (vs0.length : Int)))
      (cond ((decide ((0 : Int) ≤ vs4)) && (decide (vs4 < (vs0.length : Int))))
        (cond (sm_fail (atI (t := .fail) vs0 (Int.toNat vs4)))
          (cond ((decide ((0 : Int) ≤ vs4)) && (decide (vs4 < (vr448.length : Int))))
            (f41L0 n x0 vs0 m (IntKind.wrap .i64 (vs4 + (1 : Int))) (vr448.set (Int.toNat vs4) (atI (t := .fail) vs0 (Int.toNat vs4))))
            none)
          none)
        none)
      (x0 vs4 (decide (vs4 < (vs0.length : Int))) vr448))
theorem f41L0_b {R : Type} (n : Nat) (k' : Ex → St → Option R) (vs0 : List FailT) (vs4 : Int) (vr448 : List FailT) : ev f41e f41k n (cAt [1,1,0,1,0,0] f41c) ⟨[(0, .c (.one (.ro .fail vs0))), (3, .c (.one (.h 448 0 0 []))), (4, .c (.one (.v (.int .i64 vs4))))], [], [(448, .live ⟨.fail, .deep, 0, [], vr448⟩)]⟩ k' =
    (cond (decide (vs4 < (vs0.length : Int)))
    (cond ((decide ((0 : Int) ≤ vs4)) && (decide (vs4 < (vs0.length : Int))))
      (cond (sm_fail (atI (t := .fail) vs0 (Int.toNat vs4)))
        (cond ((decide ((0 : Int) ≤ vs4)) && (decide (vs4 < (vr448.length : Int))))
          (k' .normal ⟨[(0, .c (.one (.ro .fail vs0))), (3, .c (.one (.h 448 0 0 []))), (4, .c (.one (.v (.int .i64 (IntKind.wrap .i64 (vs4 + (1 : Int)))))))], [], [(448, .live ⟨.fail, .deep, 0, [], (vr448.set (Int.toNat vs4) (atI (t := .fail) vs0 (Int.toNat vs4)))⟩)]⟩)
          none)
        none)
      none)
    (k' (.exit 0) ⟨[(0, .c (.one (.ro .fail vs0))), (3, .c (.one (.h 448 0 0 []))), (4, .c (.one (.v (.int .i64 vs4)))), (11, .c (.one (.v (.bool (decide (vs4 < (vs0.length : Int)))))))], [], [(448, .live ⟨.fail, .deep, 0, [], vr448⟩)]⟩)) := by kernel_rfl
theorem f41L0_eq {R : Type} (n : Nat) (k' : Ex → St → Option R) (vs0 : List FailT) : ∀ (m : Nat) (vs4 : Int) (vr448 : List FailT), iter (fun st k => ev f41e f41k n (cAt [1,1,0,1,0,0] f41c) st k) m ⟨[(0, .c (.one (.ro .fail vs0))), (3, .c (.one (.h 448 0 0 []))), (4, .c (.one (.v (.int .i64 vs4))))], [], [(448, .live ⟨.fail, .deep, 0, [], vr448⟩)]⟩ k' = f41L0 n (fun (xvs4 : Int) (xvs11 : Bool) (xvr448 : List FailT) => k' (.exit 0) ⟨[(0, .c (.one (.ro .fail vs0))), (3, .c (.one (.h 448 0 0 []))), (4, .c (.one (.v (.int .i64 xvs4)))), (11, .c (.one (.v (.bool xvs11))))], [], [(448, .live ⟨.fail, .deep, 0, [], xvr448⟩)]⟩) vs0 m vs4 vr448 := by
  intro m; induction m with
  | zero => intros; rfl
  | succ m ih =>
    intro vs4 vr448
    simp only [iter]
    rw [f41L0_b]
    simp only [ih, f41L0]

noncomputable def f41K0 {R : Type} (n : Nat) (k' : Ex → St → Option R) : Ex → St → Option R := (blockK 0 (seqK f41e f41k n (cAt [1,1,1] f41c) k'))
theorem f41K0_x0 {R : Type} (n : Nat) (k : List Dt → Option R) (a0 : List FailT) (vs0 : List FailT) (xvs4 : Int) (xvs11 : Bool) (xvr448 : List FailT) : f41K0 n (exitK f41e [.ro] [false] true [.tmp 2] [28] [.d (.sl .fail) a0] k) (.exit 0) ⟨[(0, .c (.one (.ro .fail vs0))), (3, .c (.one (.h 448 0 0 []))), (4, .c (.one (.v (.int .i64 xvs4)))), (11, .c (.one (.v (.bool xvs11))))], [], [(448, .live ⟨.fail, .deep, 0, [], xvr448⟩)]⟩ =
    (k [.d (.sl .fail) xvr448]) := by kernel_rfl

theorem f41_run {R : Type} (n : Nat) (k : List Dt → Option R) (a0 : List FailT) : evFn f41e f41k n f41c [.ro] [false] true [.tmp 2] [28] [.d (.sl .fail) a0] k =
    (cond ((decide ((a0.length : Int) = (a0.length : Int))) && ((decide ((0 : Int) ≤ (a0.length : Int))) && (decide ((a0.length : Int) ≤ (LIM : Int)))))
    (f41L0 n (fun (xvs4 : Int) (xvs11 : Bool) (xvr448 : List FailT) =>
      (k [.d (.sl .fail) xvr448])) a0 n (0 : Int) (List.replicate (Int.toNat (a0.length : Int)) (⟨ByteArray.empty, (0 : Int)⟩ : FailT)))
    none) := by
  refine Eq.trans (b := (cond ((decide ((a0.length : Int) = (a0.length : Int))) && ((decide ((0 : Int) ≤ (a0.length : Int))) && (decide ((a0.length : Int) ≤ (LIM : Int)))))
    (iter (fun st k => ev f41e f41k n (cAt [1,1,0,1,0,0] f41c) st k) n ⟨[(0, .c (.one (.ro .fail a0))), (3, .c (.one (.h 448 0 0 []))), (4, .c (.one (.v (.int .i64 (0 : Int)))))], [], [(448, .live ⟨.fail, .deep, 0, [], (List.replicate (Int.toNat (a0.length : Int)) (⟨ByteArray.empty, (0 : Int)⟩ : FailT))⟩)]⟩ (f41K0 n (exitK f41e [.ro] [false] true [.tmp 2] [28] [.d (.sl .fail) a0] k)))
    none)) (by kernel_rfl) ?_
  simp only [f41L0_eq, f41K0_x0]
theorem f41_spec (a0 : List FailT) (hg : smL sm_fail a0 = true) : ∃ keep rounds, ∀ {R : Type} (k : List Dt → Option R), evFn f41e keep rounds f41c [.ro] [false] true [.tmp 2] [28] [.d (.sl .fail) a0] k = k [.d (.sl .fail) a0] := by
  have hl : a0.length ≤ 1048576 := smL_len hg
  have hs := smL_all hg
  refine ⟨f41k, a0.length + 1, fun k => ?_⟩
  rw [f41_run, mkOk hl]
  simp only [cond_true]
  have := loop_copy (xs := a0) (f := fun x => x) (F := fun m j out => f41L0 (a0.length + 1) (fun (xvs4 : Int) (xvs11 : Bool) (xvr448 : List FailT) => (k [.d (.sl .fail) xvr448])) a0 m (j : Int) out) (good := fun out => k [.d (.sl .fail) out]) (⟨ByteArray.empty, (0 : Int)⟩ : FailT)
    (fun m j out x hx hl' => by
      obtain ⟨h1, h0, hw, ht⟩ := idx (lt_of_get hx) (by omega)
      obtain ⟨h2, _, _, _⟩ := idx (show j < out.length by rw [hl']; exact lt_of_get hx) (by omega)
      have hx2 := List.all_eq_true.1 hs x (List.mem_of_getElem? hx)
      simp only [f41L0, h1, h0, h2, hw, ht, atI_of (t := .fail) hx, Bool.and_self, cond_true, hx2])
    (fun m out => by simp only [f41L0, idxE, cond_false]) a0.length 0 (a0.length + 1) (by omega) (by omega)
  simpa using this

noncomputable def q41 : List Dt → Option (Bool × List Dt)
  | [.d (.sl .fail) a0] => some ((smL sm_fail a0), [.d (.sl .fail) a0])
  | _ => none
noncomputable def s41 : Gm.Spec := Gm.Spec.of [.ro] [false] true q41
theorem good41 : Gm.Good Try.prog (41, s41) := by
  have hl : ∀ x ∈ [(74, s74)], Gm.Good Try.prog x := List.forall_mem_cons.2 ⟨good74, List.forall_mem_nil _⟩
  refine ⟨⟨spec_ok (tab_ok.env hl) (tab.natl hl) Try.func41 (by kernel_rfl : Try.f41.body = some f41c) [28] (by kernel_rfl) ?_, _, Try.func41, by kernel_rfl, of_decide_eq_true (by kernel_rfl)⟩, Gm.Spec.of_natl _ _ _ _⟩
  intro ds outs h
  unfold q41 at h
  split at h
  · simp only [Option.some.injEq, Prod.mk.injEq] at h; obtain ⟨hg, h⟩ := h; cases h; exact f41_spec _ hg
  · cases h
/-! ### loop.example/g00465/laws.toWork -/
noncomputable def f13c : Code := (Try.f13.body).getD .skip
def f13k : Nat → Kp := kat [⟨[1, 2], []⟩, ⟨[1, 2, 3], []⟩, ⟨[1, 2, 3], []⟩, ⟨[1, 2, 3], []⟩, ⟨[1, 2, 3], []⟩, ⟨[2, 3], []⟩, ⟨[2], []⟩]
noncomputable def f13e : Env := tab.env [(40, s40), (41, s41)]
theorem f13_run {R : Type} (n : Nat) (k : List Dt → Option R) (a0 : WorkT) : evFn f13e f13k n f13c [.ro] [false] true [.cell 2 30] [30] [.d .work a0] k =
    (cond (smL smStr (WorkT.list a0))
    (cond (smL smStr (WorkT.busy a0))
      (cond (smL smStr (WorkT.again a0))
        (cond (smL sm_fail (WorkT.fails a0))
          (k [.d .work a0])
          none)
        none)
      none)
    none) := by kernel_rfl
theorem f13_spec (a0 : WorkT) (hg : sm_work a0 = true) : ∃ keep rounds, ∀ {R : Type} (k : List Dt → Option R), evFn f13e keep rounds f13c [.ro] [false] true [.cell 2 30] [30] [.d .work a0] k = k [.d .work a0] := by
  simp only [sm_work, Bool.and_eq_true] at hg
  refine ⟨f13k, 0, fun k => ?_⟩
  rw [f13_run]
  simp only [hg, cond_true]

noncomputable def q13 : List Dt → Option (Bool × List Dt)
  | [.d .work a0] => some ((sm_work a0), [.d .work a0])
  | _ => none
noncomputable def s13 : Gm.Spec := Gm.Spec.of [.ro] [false] true q13
theorem good13 : Gm.Good Try.prog (13, s13) := by
  have hl : ∀ x ∈ [(40, s40), (41, s41)], Gm.Good Try.prog x := List.forall_mem_cons.2 ⟨good40, List.forall_mem_cons.2 ⟨good41, List.forall_mem_nil _⟩⟩
  refine ⟨⟨spec_ok (tab_ok.env hl) (tab.natl hl) Try.func13 (by kernel_rfl : Try.f13.body = some f13c) [30] (by kernel_rfl) ?_, _, Try.func13, by kernel_rfl, of_decide_eq_true (by kernel_rfl)⟩, Gm.Spec.of_natl _ _ _ _⟩
  intro ds outs h
  unfold q13 at h
  split at h
  · simp only [Option.some.injEq, Prod.mk.injEq] at h; obtain ⟨hg, h⟩ := h; cases h; exact f13_spec _ hg
  · cases h
/-! ### loop.example/g00465/laws.eqStringS -/
noncomputable def f43c : Code := (Try.f43.body).getD .skip
def f43k : Nat → Kp := kat [⟨[0, 1], []⟩, ⟨[0, 1, 10], []⟩, ⟨[4], []⟩, ⟨[0, 1, 5], []⟩, ⟨[0, 1, 5, 14], []⟩, ⟨[0, 1, 5], []⟩, ⟨[0, 1, 5, 25], []⟩, ⟨[4], []⟩, ⟨[4], []⟩]
noncomputable def f43e : Env := tab.env []
noncomputable def f43L0 {R : Type} (n : Nat) (x0 : Option R) (x1 : Int → Bool → Option R) (vs0 : List ByteArray) (vs1 : List ByteArray) : Nat → Int → Option R
  | 0, _ => none
  | m + 1, vs5 =>
    (cond (decide (vs5 < (vs0.length : Int)))
      (cond ((decide ((0 : Int) ≤ vs5)) && (decide (vs5 < (vs0.length : Int))))
        (cond ((decide ((0 : Int) ≤ vs5)) && (decide (vs5 < (vs1.length : Int))))
          (cond (!(sEq (atI (t := .str) vs0 (Int.toNat vs5)) (atI (t := .str) vs1 (Int.toNat vs5))))
            (x0)
            (f43L0 n x0 x1 vs0 vs1 m (IntKind.wrap .i64 (vs5 + (1 : Int)))))
          none)
        none)
      (x1 vs5 (decide (vs5 < (vs0.length : Int)))))
theorem f43L0_b {R : Type} (n : Nat) (k' : Ex → St → Option R) (vs0 : List ByteArray) (vs1 : List ByteArray) (vs5 : Int) : ev f43e f43k n (cAt [1,1,0,1,0,0] f43c) ⟨[(0, .c (.one (.ro .str vs0))), (1, .c (.one (.ro .str vs1))), (5, .c (.one (.v (.int .i64 vs5))))], [], []⟩ k' =
    (cond (decide (vs5 < (vs0.length : Int)))
    (cond ((decide ((0 : Int) ≤ vs5)) && (decide (vs5 < (vs0.length : Int))))
      (cond ((decide ((0 : Int) ≤ vs5)) && (decide (vs5 < (vs1.length : Int))))
        (cond (!(sEq (atI (t := .str) vs0 (Int.toNat vs5)) (atI (t := .str) vs1 (Int.toNat vs5))))
          (k' .ret ⟨[(4, .c (.one (.v (.bool false))))], [], []⟩)
          (k' .normal ⟨[(0, .c (.one (.ro .str vs0))), (1, .c (.one (.ro .str vs1))), (5, .c (.one (.v (.int .i64 (IntKind.wrap .i64 (vs5 + (1 : Int)))))))], [], []⟩))
        none)
      none)
    (k' (.exit 0) ⟨[(0, .c (.one (.ro .str vs0))), (1, .c (.one (.ro .str vs1))), (5, .c (.one (.v (.int .i64 vs5)))), (14, .c (.one (.v (.bool (decide (vs5 < (vs0.length : Int)))))))], [], []⟩)) := by kernel_rfl
theorem f43L0_eq {R : Type} (n : Nat) (k' : Ex → St → Option R) (vs0 : List ByteArray) (vs1 : List ByteArray) : ∀ (m : Nat) (vs5 : Int), iter (fun st k => ev f43e f43k n (cAt [1,1,0,1,0,0] f43c) st k) m ⟨[(0, .c (.one (.ro .str vs0))), (1, .c (.one (.ro .str vs1))), (5, .c (.one (.v (.int .i64 vs5))))], [], []⟩ k' = f43L0 n (k' .ret ⟨[(4, .c (.one (.v (.bool false))))], [], []⟩) (fun (xvs5 : Int) (xvs14 : Bool) => k' (.exit 0) ⟨[(0, .c (.one (.ro .str vs0))), (1, .c (.one (.ro .str vs1))), (5, .c (.one (.v (.int .i64 xvs5)))), (14, .c (.one (.v (.bool xvs14))))], [], []⟩) vs0 vs1 m vs5 := by
  intro m; induction m with
  | zero => intros; rfl
  | succ m ih =>
    intro vs5
    simp only [iter]
    rw [f43L0_b]
    simp only [ih, f43L0]

noncomputable def f43K0 {R : Type} (n : Nat) (k' : Ex → St → Option R) : Ex → St → Option R := (blockK 0 (seqK f43e f43k n (cAt [1,1,1] f43c) k'))
theorem f43K0_x0 {R : Type} (n : Nat) (k : List Dt → Option R) (a0 : List ByteArray) (a1 : List ByteArray)  : f43K0 n (exitK f43e [.ro, .ro] [false] true [.tmp 4] [4] [.d (.sl .str) a0, .d (.sl .str) a1] k) .ret ⟨[(4, .c (.one (.v (.bool false))))], [], []⟩ =
    (k [.d .bool false]) := by kernel_rfl
theorem f43K0_x1 {R : Type} (n : Nat) (k : List Dt → Option R) (a0 : List ByteArray) (a1 : List ByteArray) (vs0 : List ByteArray) (vs1 : List ByteArray) (xvs5 : Int) (xvs14 : Bool) : f43K0 n (exitK f43e [.ro, .ro] [false] true [.tmp 4] [4] [.d (.sl .str) a0, .d (.sl .str) a1] k) (.exit 0) ⟨[(0, .c (.one (.ro .str vs0))), (1, .c (.one (.ro .str vs1))), (5, .c (.one (.v (.int .i64 xvs5)))), (14, .c (.one (.v (.bool xvs14))))], [], []⟩ =
    (k [.d .bool true]) := by kernel_rfl

theorem f43_run {R : Type} (n : Nat) (k : List Dt → Option R) (a0 : List ByteArray) (a1 : List ByteArray) : evFn f43e f43k n f43c [.ro, .ro] [false] true [.tmp 4] [4] [.d (.sl .str) a0, .d (.sl .str) a1] k =
    (cond ((a0.length : Int) != (a1.length : Int))
    (k [.d .bool false])
    (f43L0 n (k [.d .bool false]) (fun (xvs5 : Int) (xvs14 : Bool) =>
      (k [.d .bool true])) a0 a1 n (0 : Int))) := by
  refine Eq.trans (b := (cond ((a0.length : Int) != (a1.length : Int))
    (k [.d .bool false])
    (iter (fun st k => ev f43e f43k n (cAt [1,1,0,1,0,0] f43c) st k) n ⟨[(0, .c (.one (.ro .str a0))), (1, .c (.one (.ro .str a1))), (5, .c (.one (.v (.int .i64 (0 : Int)))))], [], []⟩ (f43K0 n (exitK f43e [.ro, .ro] [false] true [.tmp 4] [4] [.d (.sl .str) a0, .d (.sl .str) a1] k))))) (by kernel_rfl) ?_
  simp only [f43L0_eq, f43K0_x0, f43K0_x1]
theorem f43_spec (a0 : List ByteArray) (a1 : List ByteArray) (hg : sm2 (smL smStr) a0 a1 = true) : ∃ keep rounds, ∀ {R : Type} (k : List Dt → Option R), evFn f43e keep rounds f43c [.ro, .ro] [false] true [.tmp 4] [4] [.d (.sl .str) a0, .d (.sl .str) a1] k = k [.d .bool (eqD a0 a1)] := by
  simp only [sm2, Bool.and_eq_true] at hg
  obtain ⟨hg0, hg1⟩ := hg
  have hl : a0.length ≤ 1048576 := smL_len hg0
  refine ⟨f43k, a0.length + 1, fun k => ?_⟩
  rw [f43_run]
  by_cases hc : a0.length = a1.length
  · have hc' : ((a0.length : Int) != (a1.length : Int)) = false := by simp [hc]
    simp only [hc', cond_false]
    refine Eq.trans (loop_idx (n := a0.length) (F := fun m i => f43L0 (a0.length + 1) _ _ a0 a1 m i) (p := fun j => sEq (atI (t := .str) a0 j) (atI (t := .str) a1 j)) (good := k [.d .bool true]) (bad := k [.d .bool false])
      (fun m j hj => ?_) (fun m => by simp only [f43L0, idxE, cond_false]) a0.length 0 (a0.length + 1) (by omega) (by omega)) ?_
    · obtain ⟨h1, h0, hw, ht⟩ := idx hj (by omega)
      obtain ⟨h2, _, _, _⟩ := idx (show j < a1.length by omega) (by omega)
      simp only [f43L0, h1, h0, h2, hw, ht, Bool.and_self, cond_true]
      cases sEq (atI (t := .str) a0 j) (atI (t := .str) a1 j) <;> rfl
    · rw [allN_eq hc (fun j x y hx hy => by rw [atI_of (t := .str) hx, atI_of (t := .str) hy, ← eqD_str])]
      cases eqD a0 a1 <;> rfl
  · simp only [bneLen hc, cond_true]
    rw [eqD_ne (fun e => hc (by rw [e]))]

noncomputable def q43 : List Dt → Option (Bool × List Dt)
  | [.d (.sl .str) a0, .d (.sl .str) a1] => some ((sm2 (smL smStr) a0 a1), [.d .bool (eqD a0 a1)])
  | _ => none
noncomputable def s43 : Gm.Spec := Gm.Spec.of [.ro, .ro] [false] true q43
theorem good43 : Gm.Good Try.prog (43, s43) := by
  have hl : ∀ x ∈ ([] : List (Nat × Gm.Spec)), Gm.Good Try.prog x := fun _ h => by cases h
  refine ⟨⟨spec_ok (tab_ok.env hl) (tab.natl hl) Try.func43 (by kernel_rfl : Try.f43.body = some f43c) [4] (by kernel_rfl) ?_, _, Try.func43, by kernel_rfl, of_decide_eq_true (by kernel_rfl)⟩, Gm.Spec.of_natl _ _ _ _⟩
  intro ds outs h
  unfold q43 at h
  split at h
  · simp only [Option.some.injEq, Prod.mk.injEq] at h; obtain ⟨hg, h⟩ := h; cases h; exact f43_spec _ _ hg
  · cases h
/-! ### loop.example/g00465/laws.eqFail -/
noncomputable def f77c : Code := (Try.f77.body).getD .skip
def f77k : Nat → Kp := kat [⟨[2, 3], []⟩, ⟨[2, 3, 9], []⟩, ⟨[4], []⟩, ⟨[14], []⟩, ⟨[4], []⟩, ⟨[4], []⟩]
noncomputable def f77e : Env := tab.env []
theorem f77_run {R : Type} (n : Nat) (k : List Dt → Option R) (a0 : FailT) (a1 : FailT) : evFn f77e f77k n f77c [.ro, .ro] [false] true [.tmp 4] [4] [.d .fail a0, .d .fail a1] k =
    (cond (!(sEq (FailT.name a0) (FailT.name a1)))
    (k [.d .bool false])
    (cond ((FailT.n a0) != (FailT.n a1))
      (k [.d .bool false])
      (k [.d .bool true]))) := by kernel_rfl
theorem f77_spec (a0 : FailT) (a1 : FailT) (hg : sm2 sm_fail a0 a1 = true) : ∃ keep rounds, ∀ {R : Type} (k : List Dt → Option R), evFn f77e keep rounds f77c [.ro, .ro] [false] true [.tmp 4] [4] [.d .fail a0, .d .fail a1] k = k [.d .bool (eqD a0 a1)] := by
  simp only [sm2, sm_fail, Bool.and_eq_true] at hg
  refine ⟨f77k, 0, fun k => ?_⟩
  rw [f77_run, eqD_fail]
  simp only [bne]
  cases sEq a0.name a1.name <;> cases (a0.n == a1.n) <;> rfl

noncomputable def q77 : List Dt → Option (Bool × List Dt)
  | [.d .fail a0, .d .fail a1] => some ((sm2 sm_fail a0 a1), [.d .bool (eqD a0 a1)])
  | _ => none
noncomputable def s77 : Gm.Spec := Gm.Spec.of [.ro, .ro] [false] true q77
theorem good77 : Gm.Good Try.prog (77, s77) := by
  have hl : ∀ x ∈ ([] : List (Nat × Gm.Spec)), Gm.Good Try.prog x := fun _ h => by cases h
  refine ⟨⟨spec_ok (tab_ok.env hl) (tab.natl hl) Try.func77 (by kernel_rfl : Try.f77.body = some f77c) [4] (by kernel_rfl) ?_, _, Try.func77, by kernel_rfl, of_decide_eq_true (by kernel_rfl)⟩, Gm.Spec.of_natl _ _ _ _⟩
  intro ds outs h
  unfold q77 at h
  split at h
  · simp only [Option.some.injEq, Prod.mk.injEq] at h; obtain ⟨hg, h⟩ := h; cases h; exact f77_spec _ _ hg
  · cases h
/-! ### loop.example/g00465/laws.eqFailS -/
noncomputable def f44c : Code := (Try.f44.body).getD .skip
def f44k : Nat → Kp := kat [⟨[0, 1], []⟩, ⟨[0, 1, 10], []⟩, ⟨[4], []⟩, ⟨[0, 1, 5], []⟩, ⟨[0, 1, 5, 14], []⟩, ⟨[0, 1, 5], []⟩, ⟨[0, 1, 5, 26], []⟩, ⟨[4], []⟩, ⟨[4], []⟩]
noncomputable def f44e : Env := tab.env [(77, s77)]
noncomputable def f44L0 {R : Type} (n : Nat) (x0 : Option R) (x1 : Int → Bool → Option R) (vs0 : List FailT) (vs1 : List FailT) : Nat → Int → Option R
  | 0, _ => none
  | m + 1, vs5 =>
    (cond (decide (vs5 < (vs0.length : Int)))
      (cond ((decide ((0 : Int) ≤ vs5)) && (decide (vs5 < (vs0.length : Int))))
        (cond ((decide ((0 : Int) ≤ vs5)) && (decide (vs5 < (vs1.length : Int))))
          (cond (sm2 sm_fail (atI (t := .fail) vs0 (Int.toNat vs5)) (atI (t := .fail) vs1 (Int.toNat vs5)))
            (cond (!(eqD (atI (t := .fail) vs0 (Int.toNat vs5)) (atI (t := .fail) vs1 (Int.toNat vs5))))
              (x0)
              (f44L0 n x0 x1 vs0 vs1 m (IntKind.wrap .i64 (vs5 + (1 : Int)))))
            none)
          none)
        none)
      (x1 vs5 (decide (vs5 < (vs0.length : Int)))))
theorem f44L0_b {R : Type} (n : Nat) (k' : Ex → St → Option R) (vs0 : List FailT) (vs1 : List FailT) (vs5 : Int) : ev f44e f44k n (cAt [1,1,0,1,0,0] f44c) ⟨[(0, .c (.one (.ro .fail vs0))), (1, .c (.one (.ro .fail vs1))), (5, .c (.one (.v (.int .i64 vs5))))], [], []⟩ k' =
    (cond (decide (vs5 < (vs0.length : Int)))
    (cond ((decide ((0 : Int) ≤ vs5)) && (decide (vs5 < (vs0.length : Int))))
      (cond ((decide ((0 : Int) ≤ vs5)) && (decide (vs5 < (vs1.length : Int))))
        (cond (sm2 sm_fail (atI (t := .fail) vs0 (Int.toNat vs5)) (atI (t := .fail) vs1 (Int.toNat vs5)))
          (cond (!(eqD (atI (t := .fail) vs0 (Int.toNat vs5)) (atI (t := .fail) vs1 (Int.toNat vs5))))
            (k' .ret ⟨[(4, .c (.one (.v (.bool false))))], [], []⟩)
            (k' .normal ⟨[(0, .c (.one (.ro .fail vs0))), (1, .c (.one (.ro .fail vs1))), (5, .c (.one (.v (.int .i64 (IntKind.wrap .i64 (vs5 + (1 : Int)))))))], [], []⟩))
          none)
        none)
      none)
    (k' (.exit 0) ⟨[(0, .c (.one (.ro .fail vs0))), (1, .c (.one (.ro .fail vs1))), (5, .c (.one (.v (.int .i64 vs5)))), (14, .c (.one (.v (.bool (decide (vs5 < (vs0.length : Int)))))))], [], []⟩)) := by kernel_rfl
theorem f44L0_eq {R : Type} (n : Nat) (k' : Ex → St → Option R) (vs0 : List FailT) (vs1 : List FailT) : ∀ (m : Nat) (vs5 : Int), iter (fun st k => ev f44e f44k n (cAt [1,1,0,1,0,0] f44c) st k) m ⟨[(0, .c (.one (.ro .fail vs0))), (1, .c (.one (.ro .fail vs1))), (5, .c (.one (.v (.int .i64 vs5))))], [], []⟩ k' = f44L0 n (k' .ret ⟨[(4, .c (.one (.v (.bool false))))], [], []⟩) (fun (xvs5 : Int) (xvs14 : Bool) => k' (.exit 0) ⟨[(0, .c (.one (.ro .fail vs0))), (1, .c (.one (.ro .fail vs1))), (5, .c (.one (.v (.int .i64 xvs5)))), (14, .c (.one (.v (.bool xvs14))))], [], []⟩) vs0 vs1 m vs5 := by
  intro m; induction m with
  | zero => intros; rfl
  | succ m ih =>
    intro vs5
    simp only [iter]
    rw [f44L0_b]
    simp only [ih, f44L0]

noncomputable def f44K0 {R : Type} (n : Nat) (k' : Ex → St → Option R) : Ex → St → Option R := (blockK 0 (seqK f44e f44k n (cAt [1,1,1] f44c) k'))
theorem f44K0_x0 {R : Type} (n : Nat) (k : List Dt → Option R) (a0 : List FailT) (a1 : List FailT)  : f44K0 n (exitK f44e [.ro, .ro] [false] true [.tmp 4] [4] [.d (.sl .fail) a0, .d (.sl .fail) a1] k) .ret ⟨[(4, .c (.one (.v (.bool false))))], [], []⟩ =
    (k [.d .bool false]) := by kernel_rfl
theorem f44K0_x1 {R : Type} (n : Nat) (k : List Dt → Option R) (a0 : List FailT) (a1 : List FailT) (vs0 : List FailT) (vs1 : List FailT) (xvs5 : Int) (xvs14 : Bool) : f44K0 n (exitK f44e [.ro, .ro] [false] true [.tmp 4] [4] [.d (.sl .fail) a0, .d (.sl .fail) a1] k) (.exit 0) ⟨[(0, .c (.one (.ro .fail vs0))), (1, .c (.one (.ro .fail vs1))), (5, .c (.one (.v (.int .i64 xvs5)))), (14, .c (.one (.v (.bool xvs14))))], [], []⟩ =
    (k [.d .bool true]) := by kernel_rfl

theorem f44_run {R : Type} (n : Nat) (k : List Dt → Option R) (a0 : List FailT) (a1 : List FailT) : evFn f44e f44k n f44c [.ro, .ro] [false] true [.tmp 4] [4] [.d (.sl .fail) a0, .d (.sl .fail) a1] k =
    (cond ((a0.length : Int) != (a1.length : Int))
    (k [.d .bool false])
    (f44L0 n (k [.d .bool false]) (fun (xvs5 : Int) (xvs14 : Bool) =>
      (k [.d .bool true])) a0 a1 n (0 : Int))) := by
  refine Eq.trans (b := (cond ((a0.length : Int) != (a1.length : Int))
    (k [.d .bool false])
    (iter (fun st k => ev f44e f44k n (cAt [1,1,0,1,0,0] f44c) st k) n ⟨[(0, .c (.one (.ro .fail a0))), (1, .c (.one (.ro .fail a1))), (5, .c (.one (.v (.int .i64 (0 : Int)))))], [], []⟩ (f44K0 n (exitK f44e [.ro, .ro] [false] true [.tmp 4] [4] [.d (.sl .fail) a0, .d (.sl .fail) a1] k))))) (by kernel_rfl) ?_
  simp only [f44L0_eq, f44K0_x0, f44K0_x1]
theorem f44_spec (a0 : List FailT) (a1 : List FailT) (hg : sm2 (smL sm_fail) a0 a1 = true) : ∃ keep rounds, ∀ {R : Type} (k : List Dt → Option R), evFn f44e keep rounds f44c [.ro, .ro] [false] true [.tmp 4] [4] [.d (.sl .fail) a0, .d (.sl .fail) a1] k = k [.d .bool (eqD a0 a1)] := by
  simp only [sm2, Bool.and_eq_true] at hg
  obtain ⟨hg0, hg1⟩ := hg
  have hl : a0.length ≤ 1048576 := smL_len hg0
  refine ⟨f44k, a0.length + 1, fun k => ?_⟩
  rw [f44_run]
  by_cases hc : a0.length = a1.length
  · have hc' : ((a0.length : Int) != (a1.length : Int)) = false := by simp [hc]
    simp only [hc', cond_false]
    refine Eq.trans (loop_idx (n := a0.length) (F := fun m i => f44L0 (a0.length + 1) _ _ a0 a1 m i) (p := fun j => eqD (atI (t := .fail) a0 j) (atI (t := .fail) a1 j)) (good := k [.d .bool true]) (bad := k [.d .bool false])
      (fun m j hj => ?_) (fun m => by simp only [f44L0, idxE, cond_false]) a0.length 0 (a0.length + 1) (by omega) (by omega)) ?_
    · obtain ⟨h1, h0, hw, ht⟩ := idx hj (by omega)
      obtain ⟨h2, _, _, _⟩ := idx (show j < a1.length by omega) (by omega)
      have ha := smL_at (t := .fail) hg0 hj
      have hb := smL_at (t := .fail) hg1 (show j < a1.length by omega)
      simp only [f44L0, h1, h0, h2, hw, ht, Bool.and_self, cond_true, sm2, ha, hb]
      cases eqD (atI (t := .fail) a0 j) (atI (t := .fail) a1 j) <;> rfl
    · rw [allN_eq hc (fun j x y hx hy => by rw [atI_of (t := .fail) hx, atI_of (t := .fail) hy])]
      cases eqD a0 a1 <;> rfl
  · simp only [bneLen hc, cond_true]
    rw [eqD_ne (fun e => hc (by rw [e]))]

noncomputable def q44 : List Dt → Option (Bool × List Dt)
  | [.d (.sl .fail) a0, .d (.sl .fail) a1] => some ((sm2 (smL sm_fail) a0 a1), [.d .bool (eqD a0 a1)])
  | _ => none
noncomputable def s44 : Gm.Spec := Gm.Spec.of [.ro, .ro] [false] true q44
theorem good44 : Gm.Good Try.prog (44, s44) := by
  have hl : ∀ x ∈ [(77, s77)], Gm.Good Try.prog x := List.forall_mem_cons.2 ⟨good77, List.forall_mem_nil _⟩
  refine ⟨⟨spec_ok (tab_ok.env hl) (tab.natl hl) Try.func44 (by kernel_rfl : Try.f44.body = some f44c) [4] (by kernel_rfl) ?_, _, Try.func44, by kernel_rfl, of_decide_eq_true (by kernel_rfl)⟩, Gm.Spec.of_natl _ _ _ _⟩
  intro ds outs h
  unfold q44 at h
  split at h
  · simp only [Option.some.injEq, Prod.mk.injEq] at h; obtain ⟨hg, h⟩ := h; cases h; exact f44_spec _ _ hg
  · cases h
/-! ### loop.example/g00465/laws.eqWork -/
noncomputable def f15c : Code := (Try.f15.body).getD .skip
def f15k : Nat → Kp := kat [⟨[2, 3], []⟩, ⟨[2, 3, 10], []⟩, ⟨[4], []⟩, ⟨[2, 3, 16], []⟩, ⟨[4], []⟩, ⟨[2, 3, 22], []⟩, ⟨[4], []⟩, ⟨[28], []⟩, ⟨[4], []⟩, ⟨[4], []⟩]
noncomputable def f15e : Env := tab.env [(43, s43), (44, s44)]
theorem f15_run {R : Type} (n : Nat) (k : List Dt → Option R) (a0 : WorkT) (a1 : WorkT) : evFn f15e f15k n f15c [.ro, .ro] [false] true [.tmp 4] [4] [.d .work a0, .d .work a1] k =
    (cond (sm2 (smL smStr) (WorkT.list a0) (WorkT.list a1))
    (cond (!(eqD (WorkT.list a0) (WorkT.list a1)))
      (k [.d .bool false])
      (cond (sm2 (smL smStr) (WorkT.busy a0) (WorkT.busy a1))
        (cond (!(eqD (WorkT.busy a0) (WorkT.busy a1)))
          (k [.d .bool false])
          (cond (sm2 (smL smStr) (WorkT.again a0) (WorkT.again a1))
            (cond (!(eqD (WorkT.again a0) (WorkT.again a1)))
              (k [.d .bool false])
              (cond (sm2 (smL sm_fail) (WorkT.fails a0) (WorkT.fails a1))
                (cond (!(eqD (WorkT.fails a0) (WorkT.fails a1)))
                  (k [.d .bool false])
                  (k [.d .bool true]))
                none))
            none))
        none))
    none) := by kernel_rfl
theorem f15_spec (a0 : WorkT) (a1 : WorkT) (hg : sm2 sm_work a0 a1 = true) : ∃ keep rounds, ∀ {R : Type} (k : List Dt → Option R), evFn f15e keep rounds f15c [.ro, .ro] [false] true [.tmp 4] [4] [.d .work a0, .d .work a1] k = k [.d .bool (eqD a0 a1)] := by
  simp only [sm2, sm_work, Bool.and_eq_true] at hg
  refine ⟨f15k, 0, fun k => ?_⟩
  rw [f15_run, eqD_work]
  simp only [bne, sm2, hg, Bool.and_self, Bool.true_and, cond_true]
  cases eqD a0.list a1.list <;> cases eqD a0.busy a1.busy <;> cases eqD a0.again a1.again <;> cases eqD a0.fails a1.fails <;> rfl

noncomputable def q15 : List Dt → Option (Bool × List Dt)
  | [.d .work a0, .d .work a1] => some ((sm2 sm_work a0 a1), [.d .bool (eqD a0 a1)])
  | _ => none
noncomputable def s15 : Gm.Spec := Gm.Spec.of [.ro, .ro] [false] true q15
theorem good15 : Gm.Good Try.prog (15, s15) := by
  have hl : ∀ x ∈ [(43, s43), (44, s44)], Gm.Good Try.prog x := List.forall_mem_cons.2 ⟨good43, List.forall_mem_cons.2 ⟨good44, List.forall_mem_nil _⟩⟩
  refine ⟨⟨spec_ok (tab_ok.env hl) (tab.natl hl) Try.func15 (by kernel_rfl : Try.f15.body = some f15c) [4] (by kernel_rfl) ?_, _, Try.func15, by kernel_rfl, of_decide_eq_true (by kernel_rfl)⟩, Gm.Spec.of_natl _ _ _ _⟩
  intro ds outs h
  unfold q15 at h
  split at h
  · simp only [Option.some.injEq, Prod.mk.injEq] at h; obtain ⟨hg, h⟩ := h; cases h; exact f15_spec _ _ hg
  · cases h
end Go.Proofs.Ytmeeoilfnahihaa

/- x -/
namespace Go.Proofs.Ytmeeoilfnahihaa
open Go Go.Gm
/-! ### loop.example/g00465/spec.l27Fail -/
noncomputable def f38c : Code := (Try.f38.body).getD .skip
def f38k : Nat → Kp := kat [⟨[0, 1], []⟩, ⟨[0, 1, 5], []⟩, ⟨[0, 1, 5, 9], []⟩, ⟨[0, 1, 5], []⟩, ⟨[0, 1, 5, 18], []⟩, ⟨[4], []⟩, ⟨[4], []⟩]
noncomputable def f38e : Env := tab.env []
noncomputable def f38L0 {R : Type} (n : Nat) (x0 : Int → Option R) (x1 : Int → Bool → Option R) (vs0 : List FailT) (vs1 : ByteArray) : Nat → Int → Option R
  | 0, _ => none
  | m + 1, vs5 =>
    (cond (decide (vs5 < (vs0.length : Int)))
      (cond ((decide ((0 : Int) ≤ vs5)) && (decide (vs5 < (vs0.length : Int))))
        (cond (sEq (FailT.name (atI (t := .fail) vs0 (Int.toNat vs5))) vs1)
          (x0 vs5)
          (f38L0 n x0 x1 vs0 vs1 m (IntKind.wrap .i64 (vs5 + (1 : Int)))))
        none)
      (x1 vs5 (decide (vs5 < (vs0.length : Int)))))
theorem f38L0_b {R : Type} (n : Nat) (k' : Ex → St → Option R) (vs0 : List FailT) (vs1 : ByteArray) (vs5 : Int) : ev f38e f38k n (cAt [1,0,1,0,0] f38c) ⟨[(0, .c (.one (.ro .fail vs0))), (1, .c (.one (.v (.string vs1)))), (5, .c (.one (.v (.int .i64 vs5))))], [], []⟩ k' =
    (cond (decide (vs5 < (vs0.length : Int)))
    (cond ((decide ((0 : Int) ≤ vs5)) && (decide (vs5 < (vs0.length : Int))))
      (cond (sEq (FailT.name (atI (t := .fail) vs0 (Int.toNat vs5))) vs1)
        (k' .ret ⟨[(4, .c (.one (.v (.int .i64 vs5))))], [], []⟩)
        (k' .normal ⟨[(0, .c (.one (.ro .fail vs0))), (1, .c (.one (.v (.string vs1)))), (5, .c (.one (.v (.int .i64 (IntKind.wrap .i64 (vs5 + (1 : Int)))))))], [], []⟩))
      none)
    (k' (.exit 0) ⟨[(0, .c (.one (.ro .fail vs0))), (1, .c (.one (.v (.string vs1)))), (5, .c (.one (.v (.int .i64 vs5)))), (9, .c (.one (.v (.bool (decide (vs5 < (vs0.length : Int)))))))], [], []⟩)) := by kernel_rfl
theorem f38L0_eq {R : Type} (n : Nat) (k' : Ex → St → Option R) (vs0 : List FailT) (vs1 : ByteArray) : ∀ (m : Nat) (vs5 : Int), iter (fun st k => ev f38e f38k n (cAt [1,0,1,0,0] f38c) st k) m ⟨[(0, .c (.one (.ro .fail vs0))), (1, .c (.one (.v (.string vs1)))), (5, .c (.one (.v (.int .i64 vs5))))], [], []⟩ k' = f38L0 n (fun (xvs4 : Int) => k' .ret ⟨[(4, .c (.one (.v (.int .i64 xvs4))))], [], []⟩) (fun (xvs5 : Int) (xvs9 : Bool) => k' (.exit 0) ⟨[(0, .c (.one (.ro .fail vs0))), (1, .c (.one (.v (.string vs1)))), (5, .c (.one (.v (.int .i64 xvs5)))), (9, .c (.one (.v (.bool xvs9))))], [], []⟩) vs0 vs1 m vs5 := by
  intro m; induction m with
  | zero => intros; rfl
  | succ m ih =>
    intro vs5
    simp only [iter]
    rw [f38L0_b]
    simp only [ih, f38L0]

noncomputable def f38K0 {R : Type} (n : Nat) (k' : Ex → St → Option R) : Ex → St → Option R := (blockK 0 (seqK f38e f38k n (cAt [1,1] f38c) k'))
theorem f38K0_x0 {R : Type} (n : Nat) (k : List Dt → Option R) (a0 : List FailT) (a1 : ByteArray) (xvs4 : Int) : f38K0 n (exitK f38e [.ro, .ro] [false] true [.tmp 4] [3] [.d (.sl .fail) a0, .d .str a1] k) .ret ⟨[(4, .c (.one (.v (.int .i64 xvs4))))], [], []⟩ =
    (k [.d (.i .i64) xvs4]) := by kernel_rfl
theorem f38K0_x1 {R : Type} (n : Nat) (k : List Dt → Option R) (a0 : List FailT) (a1 : ByteArray) (vs0 : List FailT) (vs1 : ByteArray) (xvs5 : Int) (xvs9 : Bool) : f38K0 n (exitK f38e [.ro, .ro] [false] true [.tmp 4] [3] [.d (.sl .fail) a0, .d .str a1] k) (.exit 0) ⟨[(0, .c (.one (.ro .fail vs0))), (1, .c (.one (.v (.string vs1)))), (5, .c (.one (.v (.int .i64 xvs5)))), (9, .c (.one (.v (.bool xvs9))))], [], []⟩ =
    (k [.d (.i .i64) (-1 : Int)]) := by kernel_rfl

theorem f38_run {R : Type} (n : Nat) (k : List Dt → Option R) (a0 : List FailT) (a1 : ByteArray) : evFn f38e f38k n f38c [.ro, .ro] [false] true [.tmp 4] [3] [.d (.sl .fail) a0, .d .str a1] k =
    (f38L0 n (fun (xvs4 : Int) =>
    (k [.d (.i .i64) xvs4])) (fun (xvs5 : Int) (xvs9 : Bool) =>
    (k [.d (.i .i64) (-1 : Int)])) a0 a1 n (0 : Int)) := by
  refine Eq.trans (b := (iter (fun st k => ev f38e f38k n (cAt [1,0,1,0,0] f38c) st k) n ⟨[(0, .c (.one (.ro .fail a0))), (1, .c (.one (.v (.string a1)))), (5, .c (.one (.v (.int .i64 (0 : Int)))))], [], []⟩ (f38K0 n (exitK f38e [.ro, .ro] [false] true [.tmp 4] [3] [.d (.sl .fail) a0, .d .str a1] k)))) (by kernel_rfl) ?_
  simp only [f38L0_eq, f38K0_x0, f38K0_x1]
theorem f38_spec (a0 : List FailT) (a1 : ByteArray) (hg : smL sm_fail a0 = true) : ∃ keep rounds, ∀ {R : Type} (k : List Dt → Option R), evFn f38e keep rounds f38c [.ro, .ro] [false] true [.tmp 4] [3] [.d (.sl .fail) a0, .d .str a1] k = k [.d (.i .i64) (failAt a0 a1)] := by
  have hl : a0.length ≤ 1048576 := smL_len hg
  refine ⟨f38k, a0.length + 1, fun k => ?_⟩
  rw [f38_run]
  refine Eq.trans (loop_find (n := a0.length) (F := fun m i => f38L0 (a0.length + 1) _ _ a0 a1 m i) (p := fun j => failEq (atI (t := .fail) a0 j) a1) (hit := fun i => k [.d (.i .i64) i]) (miss := k [.d (.i .i64) (-1 : Int)])
    (fun m j hj => ?_) (fun m => by simp only [f38L0, idxE, cond_false]) a0.length 0 (a0.length + 1) (by omega) (by omega)) ?_
  · obtain ⟨h1, h0, hw, ht⟩ := idx hj (by omega)
    simp only [f38L0, h1, h0, hw, ht, Bool.and_self, cond_true]
    rfl
  · show _ = k [.d (.i .i64) (plc _)]
    unfold failO
    cases firstN (fun j => failEq (atI (t := .fail) a0 j) a1) 0 a0.length <;> rfl

noncomputable def q38 : List Dt → Option (Bool × List Dt)
  | [.d (.sl .fail) a0, .d .str a1] => some (((fun (x : List FailT) (_ : ByteArray) => smL sm_fail x) a0 a1), [.d (.i .i64) (failAt a0 a1)])
  | _ => none
noncomputable def s38 : Gm.Spec := Gm.Spec.of [.ro, .ro] [false] true q38
theorem good38 : Gm.Good Try.prog (38, s38) := by
  have hl : ∀ x ∈ ([] : List (Nat × Gm.Spec)), Gm.Good Try.prog x := fun _ h => by cases h
  refine ⟨⟨spec_ok (tab_ok.env hl) (tab.natl hl) Try.func38 (by kernel_rfl : Try.f38.body = some f38c) [3] (by kernel_rfl) ?_, _, Try.func38, by kernel_rfl, of_decide_eq_true (by kernel_rfl)⟩, Gm.Spec.of_natl _ _ _ _⟩
  intro ds outs h
  unfold q38 at h
  split at h
  · simp only [Option.some.injEq, Prod.mk.injEq] at h; obtain ⟨hg, h⟩ := h; cases h; exact f38_spec _ _ hg
  · cases h
/-! ### loop.example/g00465/impl.failAt$1 -/
noncomputable def f76c : Code := (Try.f76.body).getD .skip
def f76k : Nat → Kp := kat [⟨[1, 2], []⟩, ⟨[3], []⟩]
noncomputable def f76e : Env := tab.env []
theorem f76_run {R : Type} (n : Nat) (k : List Dt → Option R) (a0 : FailT) (a1 : ByteArray) : evFn f76e f76k n f76c [.ro, .pro] [false] true [.tmp 3] [4] [.d .fail a0, .d .str a1] k =
    (k [.d .bool (sEq (FailT.name a0) a1)]) := by kernel_rfl
theorem f76_spec (a0 : FailT) (a1 : ByteArray) : ∃ keep rounds, ∀ {R : Type} (k : List Dt → Option R), evFn f76e keep rounds f76c [.ro, .pro] [false] true [.tmp 3] [4] [.d .fail a0, .d .str a1] k = k [.d .bool (failEq a0 a1)] := by
  exact ⟨f76k, 0, fun k => f76_run 0 k a0 a1⟩

noncomputable def q76 : List Dt → Option (Bool × List Dt)
  | [.d .fail a0, .d .str a1] => some (true, [.d .bool (failEq a0 a1)])
  | _ => none
noncomputable def s76 : Gm.Spec := Gm.Spec.of [.ro, .pro] [false] true q76
theorem good76 : Gm.Good Try.prog (76, s76) := by
  have hl : ∀ x ∈ ([] : List (Nat × Gm.Spec)), Gm.Good Try.prog x := fun _ h => by cases h
  refine ⟨⟨spec_ok (tab_ok.env hl) (tab.natl hl) Try.func76 (by kernel_rfl : Try.f76.body = some f76c) [4] (by kernel_rfl) ?_, _, Try.func76, by kernel_rfl, of_decide_eq_true (by kernel_rfl)⟩, Gm.Spec.of_natl _ _ _ _⟩
  intro ds outs h
  unfold q76 at h
  split at h
  · cases h; exact f76_spec _ _
  · cases h
/-! ### slices.IndexFunc[[]loop.example/g00465/impl.Fail,loop.example/g00465/impl.Fail] -/
noncomputable def f75c : Code := (Try.f75.body).getD .skip
def f75k : Nat → Kp := kat [⟨[0, 1], []⟩, ⟨[0, 1, 7, 8], []⟩, ⟨[0, 1, 7, 8, 9], []⟩, ⟨[0, 1, 5, 7, 8], []⟩, ⟨[0, 1, 5, 7, 8, 16], []⟩, ⟨[4], []⟩, ⟨[0, 1, 7, 8], []⟩, ⟨[4], []⟩]
noncomputable def f75e : Env := tab.env [(76, s76)]
noncomputable def f75L0 {R : Type} (n : Nat) (x0 : Int → Option R) (x1 : Int → Bool → Option R) (vs0 : List FailT) (vs1c0 : ByteArray) (vs7 : Int) : Nat → Int → Option R
  | 0, _ => none
  | m + 1, vs8 =>
    (cond (decide (vs8 < vs7))
      (cond ((decide ((0 : Int) ≤ vs8)) && (decide (vs8 < (vs0.length : Int))))
        (cond (failEq (atI (t := .fail) vs0 (Int.toNat vs8)) vs1c0)
          (x0 vs8)
          (f75L0 n x0 x1 vs0 vs1c0 vs7 m (IntKind.wrap .i64 (vs8 + (1 : Int)))))
        none)
      (x1 vs8 (decide (vs8 < vs7))))
theorem f75L0_b {R : Type} (n : Nat) (k' : Ex → St → Option R) (vs0 : List FailT) (vs1c0 : ByteArray) (vs7 : Int) (vs8 : Int) : ev f75e f75k n (cAt [1,0,1,0,0] f75c) ⟨[(0, .c (.one (.ro .fail vs0))), (1, .c (.one (.cloR 76 [⟨.str, vs1c0⟩]))), (7, .c (.one (.v (.int .i64 vs7)))), (8, .c (.one (.v (.int .i64 vs8))))], [], []⟩ k' =
    (cond (decide (vs8 < vs7))
    (cond ((decide ((0 : Int) ≤ vs8)) && (decide (vs8 < (vs0.length : Int))))
      (cond (failEq (atI (t := .fail) vs0 (Int.toNat vs8)) vs1c0)
        (k' .ret ⟨[(4, .c (.one (.v (.int .i64 vs8))))], [], []⟩)
        (k' .normal ⟨[(0, .c (.one (.ro .fail vs0))), (1, .c (.one (.cloR 76 [⟨.str, vs1c0⟩]))), (7, .c (.one (.v (.int .i64 vs7)))), (8, .c (.one (.v (.int .i64 (IntKind.wrap .i64 (vs8 + (1 : Int)))))))], [], []⟩))
      none)
    (k' (.exit 0) ⟨[(0, .c (.one (.ro .fail vs0))), (1, .c (.one (.cloR 76 [⟨.str, vs1c0⟩]))), (7, .c (.one (.v (.int .i64 vs7)))), (8, .c (.one (.v (.int .i64 vs8)))), (9, .c (.one (.v (.bool (decide (vs8 < vs7))))))], [], []⟩)) := by kernel_rfl
theorem f75L0_eq {R : Type} (n : Nat) (k' : Ex → St → Option R) (vs0 : List FailT) (vs1c0 : ByteArray) (vs7 : Int) : ∀ (m : Nat) (vs8 : Int), iter (fun st k => ev f75e f75k n (cAt [1,0,1,0,0] f75c) st k) m ⟨[(0, .c (.one (.ro .fail vs0))), (1, .c (.one (.cloR 76 [⟨.str, vs1c0⟩]))), (7, .c (.one (.v (.int .i64 vs7)))), (8, .c (.one (.v (.int .i64 vs8))))], [], []⟩ k' = f75L0 n (fun (xvs4 : Int) => k' .ret ⟨[(4, .c (.one (.v (.int .i64 xvs4))))], [], []⟩) (fun (xvs8 : Int) (xvs9 : Bool) => k' (.exit 0) ⟨[(0, .c (.one (.ro .fail vs0))), (1, .c (.one (.cloR 76 [⟨.str, vs1c0⟩]))), (7, .c (.one (.v (.int .i64 vs7)))), (8, .c (.one (.v (.int .i64 xvs8)))), (9, .c (.one (.v (.bool xvs9))))], [], []⟩) vs0 vs1c0 vs7 m vs8 := by
  intro m; induction m with
  | zero => intros; rfl
  | succ m ih =>
    intro vs8
    simp only [iter]
    rw [f75L0_b]
    simp only [ih, f75L0]

noncomputable def f75K0 {R : Type} (n : Nat) (k' : Ex → St → Option R) : Ex → St → Option R := (blockK 0 (seqK f75e f75k n (cAt [1,1] f75c) k'))
theorem f75K0_x0 {R : Type} (n : Nat) (k : List Dt → Option R) (a0 : List FailT) (a1 : ByteArray) (xvs4 : Int) : f75K0 n (exitK f75e [.ro, .fn] [false] true [.tmp 4] [3] [.d (.sl .fail) a0, .clo 76 [⟨.str, a1⟩]] k) .ret ⟨[(4, .c (.one (.v (.int .i64 xvs4))))], [], []⟩ =
    (k [.d (.i .i64) xvs4]) := by kernel_rfl
theorem f75K0_x1 {R : Type} (n : Nat) (k : List Dt → Option R) (a0 : List FailT) (a1 : ByteArray) (vs0 : List FailT) (vs1c0 : ByteArray) (vs7 : Int) (xvs8 : Int) (xvs9 : Bool) : f75K0 n (exitK f75e [.ro, .fn] [false] true [.tmp 4] [3] [.d (.sl .fail) a0, .clo 76 [⟨.str, a1⟩]] k) (.exit 0) ⟨[(0, .c (.one (.ro .fail vs0))), (1, .c (.one (.cloR 76 [⟨.str, vs1c0⟩]))), (7, .c (.one (.v (.int .i64 vs7)))), (8, .c (.one (.v (.int .i64 xvs8)))), (9, .c (.one (.v (.bool xvs9))))], [], []⟩ =
    (k [.d (.i .i64) (-1 : Int)]) := by kernel_rfl

theorem f75_run {R : Type} (n : Nat) (k : List Dt → Option R) (a0 : List FailT) (a1 : ByteArray) : evFn f75e f75k n f75c [.ro, .fn] [false] true [.tmp 4] [3] [.d (.sl .fail) a0, .clo 76 [⟨.str, a1⟩]] k =
    (f75L0 n (fun (xvs4 : Int) =>
    (k [.d (.i .i64) xvs4])) (fun (xvs8 : Int) (xvs9 : Bool) =>
    (k [.d (.i .i64) (-1 : Int)])) a0 a1 (a0.length : Int) n (0 : Int)) := by
  refine Eq.trans (b := (iter (fun st k => ev f75e f75k n (cAt [1,0,1,0,0] f75c) st k) n ⟨[(0, .c (.one (.ro .fail a0))), (1, .c (.one (.cloR 76 [⟨.str, a1⟩]))), (7, .c (.one (.v (.int .i64 (a0.length : Int))))), (8, .c (.one (.v (.int .i64 (0 : Int)))))], [], []⟩ (f75K0 n (exitK f75e [.ro, .fn] [false] true [.tmp 4] [3] [.d (.sl .fail) a0, .clo 76 [⟨.str, a1⟩]] k)))) (by kernel_rfl) ?_
  simp only [f75L0_eq, f75K0_x0, f75K0_x1]
theorem f75_spec (a0 : List FailT) (a1 : ByteArray) (hg : smL sm_fail a0 = true) : ∃ keep rounds, ∀ {R : Type} (k : List Dt → Option R), evFn f75e keep rounds f75c [.ro, .fn] [false] true [.tmp 4] [3] [.d (.sl .fail) a0, .clo 76 [⟨.str, a1⟩]] k = k [.d (.i .i64) (failAt a0 a1)] := by
  have hl : a0.length ≤ 1048576 := smL_len hg
  refine ⟨f75k, a0.length + 1, fun k => ?_⟩
  rw [f75_run]
  refine Eq.trans (loop_find (n := a0.length) (F := fun m i => f75L0 (a0.length + 1) _ _ a0 a1 (a0.length : Int) m i) (p := fun j => failEq (atI (t := .fail) a0 j) a1) (hit := fun i => k [.d (.i .i64) i]) (miss := k [.d (.i .i64) (-1 : Int)])
    (fun m j hj => ?_) (fun m => by simp only [f75L0, idxE, cond_false]) a0.length 0 (a0.length + 1) (by omega) (by omega)) ?_
  · obtain ⟨h1, h0, hw, ht⟩ := idx hj (by omega)
    simp only [f75L0, h1, h0, hw, ht, Bool.and_self, cond_true]
  · show _ = k [.d (.i .i64) (plc _)]
    unfold failO
    cases firstN (fun j => failEq (atI (t := .fail) a0 j) a1) 0 a0.length <;> rfl

noncomputable def q75 : List Dt → Option (Bool × List Dt)
  | [.d (.sl .fail) a0, .clo 76 [⟨.str, a1⟩]] => some (((fun (x : List FailT) (_ : ByteArray) => smL sm_fail x) a0 a1), [.d (.i .i64) (failAt a0 a1)])
  | _ => none
noncomputable def s75 : Gm.Spec := Gm.Spec.of [.ro, .fn] [false] true q75
theorem good75 : Gm.Good Try.prog (75, s75) := by
  have hl : ∀ x ∈ [(76, s76)], Gm.Good Try.prog x := List.forall_mem_cons.2 ⟨good76, List.forall_mem_nil _⟩
  refine ⟨⟨spec_ok (tab_ok.env hl) (tab.natl hl) Try.func75 (by kernel_rfl : Try.f75.body = some f75c) [3] (by kernel_rfl) ?_, _, Try.func75, by kernel_rfl, of_decide_eq_true (by kernel_rfl)⟩, Gm.Spec.of_natl _ _ _ _⟩
  intro ds outs h
  unfold q75 at h
  split at h
  · simp only [Option.some.injEq, Prod.mk.injEq] at h; obtain ⟨hg, h⟩ := h; cases h; exact f75_spec _ _ hg
  · cases h
/-! ### loop.example/g00465/impl.failAt -/
noncomputable def f42c : Code := (Try.f42.body).getD .skip
def f42k : Nat → Kp := kat [⟨[0, 3], []⟩, ⟨[4], []⟩]
noncomputable def f42e : Env := tab.env [(75, s75), (76, s76)]
theorem f42_run {R : Type} (n : Nat) (k : List Dt → Option R) (a0 : List FailT) (a1 : ByteArray) : evFn f42e f42k n f42c [.ro, .ro] [false] true [.tmp 4] [3] [.d (.sl .fail) a0, .d .str a1] k =
    (cond ((fun (x : List FailT) (_ : ByteArray) => smL sm_fail x) a0 a1)
    (k [.d (.i .i64) (failAt a0 a1)])
    none) := by kernel_rfl
theorem f42_spec (a0 : List FailT) (a1 : ByteArray) (hg : smL sm_fail a0 = true) : ∃ keep rounds, ∀ {R : Type} (k : List Dt → Option R), evFn f42e keep rounds f42c [.ro, .ro] [false] true [.tmp 4] [3] [.d (.sl .fail) a0, .d .str a1] k = k [.d (.i .i64) (failAt a0 a1)] := by
  refine ⟨f42k, 0, fun k => ?_⟩
  rw [f42_run]; simp only [hg, cond_true]

noncomputable def q42 : List Dt → Option (Bool × List Dt)
  | [.d (.sl .fail) a0, .d .str a1] => some (((fun (x : List FailT) (_ : ByteArray) => smL sm_fail x) a0 a1), [.d (.i .i64) (failAt a0 a1)])
  | _ => none
noncomputable def s42 : Gm.Spec := Gm.Spec.of [.ro, .ro] [false] true q42
theorem good42 : Gm.Good Try.prog (42, s42) := by
  have hl : ∀ x ∈ [(75, s75), (76, s76)], Gm.Good Try.prog x := List.forall_mem_cons.2 ⟨good75, List.forall_mem_cons.2 ⟨good76, List.forall_mem_nil _⟩⟩
  refine ⟨⟨spec_ok (tab_ok.env hl) (tab.natl hl) Try.func42 (by kernel_rfl : Try.f42.body = some f42c) [3] (by kernel_rfl) ?_, _, Try.func42, by kernel_rfl, of_decide_eq_true (by kernel_rfl)⟩, Gm.Spec.of_natl _ _ _ _⟩
  intro ds outs h
  unfold q42 at h
  split at h
  · simp only [Option.some.injEq, Prod.mk.injEq] at h; obtain ⟨hg, h⟩ := h; cases h; exact f42_spec _ _ hg
  · cases h
/-! ### loop.example/g00465/spec.l1Min -/
noncomputable def f39c : Code := (Try.f39.body).getD .skip
def f39k : Nat → Kp := kat [⟨[0, 1], []⟩, ⟨[0, 1, 7], []⟩, ⟨[4], []⟩, ⟨[4], []⟩]
noncomputable def f39e : Env := tab.env []
theorem f39_run {R : Type} (n : Nat) (k : List Dt → Option R) (a0 : Int) (a1 : Int) : evFn f39e f39k n f39c [.ro, .ro] [false] true [.tmp 4] [3] [.d (.i .i64) a0, .d (.i .i64) a1] k =
    (cond (decide (a0 < a1))
    (k [.d (.i .i64) a0])
    (k [.d (.i .i64) a1])) := by kernel_rfl
theorem f39_spec (a0 : Int) (a1 : Int) : ∃ keep rounds, ∀ {R : Type} (k : List Dt → Option R), evFn f39e keep rounds f39c [.ro, .ro] [false] true [.tmp 4] [3] [.d (.i .i64) a0, .d (.i .i64) a1] k = k [.d (.i .i64) (minI a0 a1)] := by
  refine ⟨f39k, 0, fun k => ?_⟩
  rw [f39_run]; unfold minI
  by_cases h : a0 < a1
  · rw [if_pos h]; simp only [h, decide_true, cond_true]
  · rw [if_neg h]; simp only [h, decide_false, cond_false]

noncomputable def q39 : List Dt → Option (Bool × List Dt)
  | [.d (.i .i64) a0, .d (.i .i64) a1] => some (true, [.d (.i .i64) (minI a0 a1)])
  | _ => none
noncomputable def s39 : Gm.Spec := Gm.Spec.of [.ro, .ro] [false] true q39
theorem good39 : Gm.Good Try.prog (39, s39) := by
  have hl : ∀ x ∈ ([] : List (Nat × Gm.Spec)), Gm.Good Try.prog x := fun _ h => by cases h
  refine ⟨⟨spec_ok (tab_ok.env hl) (tab.natl hl) Try.func39 (by kernel_rfl : Try.f39.body = some f39c) [3] (by kernel_rfl) ?_, _, Try.func39, by kernel_rfl, of_decide_eq_true (by kernel_rfl)⟩, Gm.Spec.of_natl _ _ _ _⟩
  intro ds outs h
  unfold q39 at h
  split at h
  · cases h; exact f39_spec _ _
  · cases h
/-! ### loop.example/g00465/spec.WaitOf -/
noncomputable def f12c : Code := (Try.f12.body).getD .skip
def f12k : Nat → Kp := kat [⟨[1, 2], []⟩, ⟨[2, 5], []⟩, ⟨[2, 5, 13], []⟩, ⟨[4], []⟩, ⟨[2, 5, 6], []⟩, ⟨[2, 5, 6, 7], []⟩, ⟨[2, 5, 6, 7, 22], []⟩, ⟨[2, 5, 6, 7], []⟩, ⟨[2, 5, 6, 7], []⟩, ⟨[4], []⟩]
noncomputable def f12e : Env := tab.env [(38, s38), (39, s39)]
noncomputable def f12L0 {R : Type} (n : Nat) (x0 : Int → Int → Bool → Option R) (vs5 : Int) (vb2_0 : List ByteArray) (vb2_1 : List ByteArray) (vb2_2 : List ByteArray) (vb2_3 : List FailT) : Nat → Int → Int → Option R
  | 0, _, _ => none
  | m + 1, vs6, vs7 =>
    (cond ((decide ((0 : Int) ≤ vs5)) && (decide (vs5 < (vb2_3.length : Int))))
      (cond (decide (vs7 < (minI (FailT.n (atI (t := .fail) vb2_3 (Int.toNat vs5))) (20 : Int))))
        (f12L0 n x0 vs5 vb2_0 vb2_1 vb2_2 vb2_3 m (IntKind.wrap .i64 (vs6 * (2 : Int))) (IntKind.wrap .i64 (vs7 + (1 : Int))))
        (x0 vs6 vs7 (decide (vs7 < (minI (FailT.n (atI (t := .fail) vb2_3 (Int.toNat vs5))) (20 : Int))))))
      none)
theorem f12L0_b {R : Type} (n : Nat) (k' : Ex → St → Option R) (vs5 : Int) (vs6 : Int) (vs7 : Int) (vb2_0 : List ByteArray) (vb2_1 : List ByteArray) (vb2_2 : List ByteArray) (vb2_3 : List FailT) : ev f12e f12k n (cAt [1,1,1,1,0,1,0,0] f12c) ⟨[(2, .c (.one (.pt 2 0))), (5, .c (.one (.v (.int .i64 vs5)))), (6, .c (.one (.v (.int .i64 vs6)))), (7, .c (.one (.v (.int .i64 vs7))))], [(2, ⟨.work, [.ro .str vb2_0, .ro .str vb2_1, .ro .str vb2_2, .ro .fail vb2_3]⟩)], []⟩ k' =
    (cond ((decide ((0 : Int) ≤ vs5)) && (decide (vs5 < (vb2_3.length : Int))))
    (cond (decide (vs7 < (minI (FailT.n (atI (t := .fail) vb2_3 (Int.toNat vs5))) (20 : Int))))
      (k' .normal ⟨[(2, .c (.one (.pt 2 0))), (5, .c (.one (.v (.int .i64 vs5)))), (6, .c (.one (.v (.int .i64 (IntKind.wrap .i64 (vs6 * (2 : Int))))))), (7, .c (.one (.v (.int .i64 (IntKind.wrap .i64 (vs7 + (1 : Int)))))))], [(2, ⟨.work, [.ro .str vb2_0, .ro .str vb2_1, .ro .str vb2_2, .ro .fail vb2_3]⟩)], []⟩)
      (k' (.exit 0) ⟨[(2, .c (.one (.pt 2 0))), (5, .c (.one (.v (.int .i64 vs5)))), (6, .c (.one (.v (.int .i64 vs6)))), (7, .c (.one (.v (.int .i64 vs7)))), (22, .c (.one (.v (.bool (decide (vs7 < (minI (FailT.n (atI (t := .fail) vb2_3 (Int.toNat vs5))) (20 : Int))))))))], [(2, ⟨.work, [.ro .str vb2_0, .ro .str vb2_1, .ro .str vb2_2, .ro .fail vb2_3]⟩)], []⟩))
    none) := by kernel_rfl
theorem f12L0_eq {R : Type} (n : Nat) (k' : Ex → St → Option R) (vs5 : Int) (vb2_0 : List ByteArray) (vb2_1 : List ByteArray) (vb2_2 : List ByteArray) (vb2_3 : List FailT) : ∀ (m : Nat) (vs6 : Int) (vs7 : Int), iter (fun st k => ev f12e f12k n (cAt [1,1,1,1,0,1,0,0] f12c) st k) m ⟨[(2, .c (.one (.pt 2 0))), (5, .c (.one (.v (.int .i64 vs5)))), (6, .c (.one (.v (.int .i64 vs6)))), (7, .c (.one (.v (.int .i64 vs7))))], [(2, ⟨.work, [.ro .str vb2_0, .ro .str vb2_1, .ro .str vb2_2, .ro .fail vb2_3]⟩)], []⟩ k' = f12L0 n (fun (xvs6 : Int) (xvs7 : Int) (xvs22 : Bool) => k' (.exit 0) ⟨[(2, .c (.one (.pt 2 0))), (5, .c (.one (.v (.int .i64 vs5)))), (6, .c (.one (.v (.int .i64 xvs6)))), (7, .c (.one (.v (.int .i64 xvs7)))), (22, .c (.one (.v (.bool xvs22))))], [(2, ⟨.work, [.ro .str vb2_0, .ro .str vb2_1, .ro .str vb2_2, .ro .fail vb2_3]⟩)], []⟩) vs5 vb2_0 vb2_1 vb2_2 vb2_3 m vs6 vs7 := by
  intro m; induction m with
  | zero => intros; rfl
  | succ m ih =>
    intro vs6 vs7
    simp only [iter]
    rw [f12L0_b]
    simp only [ih, f12L0]

noncomputable def f12K0 {R : Type} (n : Nat) (k' : Ex → St → Option R) : Ex → St → Option R := (blockK 0 (seqK f12e f12k n (cAt [1,1,1,1,1] f12c) k'))
theorem f12K0_x0 {R : Type} (n : Nat) (k : List Dt → Option R) (a0 : WorkT) (a1 : ByteArray) (vs5 : Int) (vb2_0 : List ByteArray) (vb2_1 : List ByteArray) (vb2_2 : List ByteArray) (vb2_3 : List FailT) (xvs6 : Int) (xvs7 : Int) (xvs22 : Bool) : f12K0 n (exitK f12e [.ro, .ro] [false] true [.tmp 4] [3] [.d .work a0, .d .str a1] k) (.exit 0) ⟨[(2, .c (.one (.pt 2 0))), (5, .c (.one (.v (.int .i64 vs5)))), (6, .c (.one (.v (.int .i64 xvs6)))), (7, .c (.one (.v (.int .i64 xvs7)))), (22, .c (.one (.v (.bool xvs22))))], [(2, ⟨.work, [.ro .str vb2_0, .ro .str vb2_1, .ro .str vb2_2, .ro .fail vb2_3]⟩)], []⟩ =
    (k [.d (.i .i64) (minI xvs6 (300 : Int))]) := by kernel_rfl

theorem f12_run {R : Type} (n : Nat) (k : List Dt → Option R) (a0 : WorkT) (a1 : ByteArray) : evFn f12e f12k n f12c [.ro, .ro] [false] true [.tmp 4] [3] [.d .work a0, .d .str a1] k =
    (cond ((fun (x : List FailT) (_ : ByteArray) => smL sm_fail x) (WorkT.fails a0) a1)
    (cond (decide ((failAt (WorkT.fails a0) a1) < (0 : Int)))
      (k [.d (.i .i64) (0 : Int)])
      (f12L0 n (fun (xvs6 : Int) (xvs7 : Int) (xvs22 : Bool) =>
        (k [.d (.i .i64) (minI xvs6 (300 : Int))])) (failAt (WorkT.fails a0) a1) (WorkT.list a0) (WorkT.busy a0) (WorkT.again a0) (WorkT.fails a0) n (1 : Int) (1 : Int)))
    none) := by
  refine Eq.trans (b := (cond ((fun (x : List FailT) (_ : ByteArray) => smL sm_fail x) (WorkT.fails a0) a1)
    (cond (decide ((failAt (WorkT.fails a0) a1) < (0 : Int)))
      (k [.d (.i .i64) (0 : Int)])
      (iter (fun st k => ev f12e f12k n (cAt [1,1,1,1,0,1,0,0] f12c) st k) n ⟨[(2, .c (.one (.pt 2 0))), (5, .c (.one (.v (.int .i64 (failAt (WorkT.fails a0) a1))))), (6, .c (.one (.v (.int .i64 (1 : Int))))), (7, .c (.one (.v (.int .i64 (1 : Int)))))], [(2, ⟨.work, [.ro .str (WorkT.list a0), .ro .str (WorkT.busy a0), .ro .str (WorkT.again a0), .ro .fail (WorkT.fails a0)]⟩)], []⟩ (f12K0 n (exitK f12e [.ro, .ro] [false] true [.tmp 4] [3] [.d .work a0, .d .str a1] k))))
    none)) (by kernel_rfl) ?_
  simp only [f12L0_eq, f12K0_x0]
theorem f12_spec (a0 : WorkT) (a1 : ByteArray) (hg : sm_work a0 = true) : ∃ keep rounds, ∀ {R : Type} (k : List Dt → Option R), evFn f12e keep rounds f12c [.ro, .ro] [false] true [.tmp 4] [3] [.d .work a0, .d .str a1] k = k [.d (.i .i64) (waitOf a0 a1)] := by
  simp only [sm_work, Bool.and_eq_true] at hg
  obtain ⟨_, _, _, hf⟩ := hg
  refine ⟨f12k, 30, fun k => ?_⟩
  rw [f12_run]
  simp only [hf, cond_true]
  unfold waitOf
  cases ho : failO a0.fails a1 with
  | none =>
    have hfa : failAt a0.fails a1 = -1 := by unfold failAt; rw [ho]; rfl
    rw [hfa]; rfl
  | some i =>
    have hfa : failAt a0.fails a1 = (i : Int) := by unfold failAt; rw [ho]; rfl
    rw [hfa]
    have hi := failO_lt ho
    have hl := smL_len hf
    obtain ⟨h1, h0, _, ht⟩ := idx hi (by omega)
    have hd : decide ((i : Int) < (0 : Int)) = false := by simp
    simp only [Option.elim_some, hd, cond_false]
    generalize hN : (atI (t := .fail) a0.fails i).n = N
    have key : ∀ (d m : Nat) (j : Int), 1 ≤ j → j + d = lowN (capN N) → d < m → f12L0 30 (fun (xvs6 : Int) (xvs7 : Int) (xvs22 : Bool) => (k [.d (.i .i64) (minI xvs6 (300 : Int))])) (i : Int) a0.list a0.busy a0.again a0.fails m (2 ^ Int.toNat (j - 1)) j = k [.d (.i .i64) (waitN N)] := by
      have hlow : 1 ≤ lowN (capN N) ∧ lowN (capN N) ≤ 20 := by unfold lowN capN; split <;> split <;> omega
      have hmin : minI N 20 = capN N := by unfold minI capN; split <;> split <;> omega
      intro d
      induction d with
      | zero =>
        intro m j hj he hm
        obtain ⟨m, rfl⟩ : ∃ m', m = m' + 1 := ⟨m - 1, by omega⟩
        have hc : decide (j < minI N 20) = false := by
          rw [hmin]; simp only [decide_eq_false_iff_not]
          unfold lowN at he; split at he <;> omega
        simp only [f12L0, h1, h0, ht, hN, hc, Bool.and_self, cond_true, cond_false]
        unfold waitN
        rw [show lowN (capN N) = j by omega]
      | succ d ih =>
        intro m j hj he hm
        obtain ⟨m, rfl⟩ : ∃ m', m = m' + 1 := ⟨m - 1, by omega⟩
        have hc : decide (j < minI N 20) = true := by
          rw [hmin]; simp only [decide_eq_true_eq]
          unfold lowN at he; split at he <;> omega
        have hp := pow_le (e := Int.toNat (j - 1)) (by omega)
        simp only [f12L0, h1, h0, ht, hN, hc, Bool.and_self, cond_true]
        rw [wrap_id (by omega) (by omega), wrap_id (x := j + 1) (by omega) (by omega)]
        rw [show (2 : Int) ^ Int.toNat (j - 1) * 2 = 2 ^ Int.toNat (j + 1 - 1) by
          rw [show Int.toNat (j + 1 - 1) = Int.toNat (j - 1) + 1 by omega, Int.pow_succ]]
        exact ih m (j + 1) (by omega) (by omega) (by omega)
    have hlow : 1 ≤ lowN (capN N) ∧ lowN (capN N) ≤ 20 := by unfold lowN capN; split <;> split <;> omega
    exact key (Int.toNat (lowN (capN N) - 1)) 30 1 (by omega) (by omega) (by omega)

noncomputable def q12 : List Dt → Option (Bool × List Dt)
  | [.d .work a0, .d .str a1] => some (((fun (x : WorkT) (_ : ByteArray) => sm_work x) a0 a1), [.d (.i .i64) (waitOf a0 a1)])
  | _ => none
noncomputable def s12 : Gm.Spec := Gm.Spec.of [.ro, .ro] [false] true q12
theorem good12 : Gm.Good Try.prog (12, s12) := by
  have hl : ∀ x ∈ [(38, s38), (39, s39)], Gm.Good Try.prog x := List.forall_mem_cons.2 ⟨good38, List.forall_mem_cons.2 ⟨good39, List.forall_mem_nil _⟩⟩
  refine ⟨⟨spec_ok (tab_ok.env hl) (tab.natl hl) Try.func12 (by kernel_rfl : Try.f12.body = some f12c) [3] (by kernel_rfl) ?_, _, Try.func12, by kernel_rfl, of_decide_eq_true (by kernel_rfl)⟩, Gm.Spec.of_natl _ _ _ _⟩
  intro ds outs h
  unfold q12 at h
  split at h
  · simp only [Option.some.injEq, Prod.mk.injEq] at h; obtain ⟨hg, h⟩ := h; cases h; exact f12_spec _ _ hg
  · cases h
/-! ### loop.example/g00465/impl.WaitOf -/
noncomputable def f14c : Code := (Try.f14.body).getD .skip
def f14k : Nat → Kp := kat [⟨[1, 2], []⟩, ⟨[2, 5], []⟩, ⟨[2, 5, 11], []⟩, ⟨[4], []⟩, ⟨[4], []⟩]
noncomputable def f14e : Env := tab.env [(42, s42)]
theorem f14_run {R : Type} (n : Nat) (k : List Dt → Option R) (a0 : WorkT) (a1 : ByteArray) : evFn f14e f14k n f14c [.ro, .ro] [false] true [.tmp 4] [3] [.d .work a0, .d .str a1] k =
    (cond ((fun (x : List FailT) (_ : ByteArray) => smL sm_fail x) (WorkT.fails a0) a1)
    (cond (decide ((failAt (WorkT.fails a0) a1) < (0 : Int)))
      (k [.d (.i .i64) (0 : Int)])
      (cond ((decide ((0 : Int) ≤ (failAt (WorkT.fails a0) a1))) && (decide ((failAt (WorkT.fails a0) a1) < ((WorkT.fails a0).length : Int))))
        (cond (decide ((IntKind.wrap .i64 ((if (if (20 : Int) < (FailT.n (atI (t := .fail) (WorkT.fails a0) (Int.toNat (failAt (WorkT.fails a0) a1)))) then (20 : Int) else (FailT.n (atI (t := .fail) (WorkT.fails a0) (Int.toNat (failAt (WorkT.fails a0) a1))))) > (1 : Int) then (if (20 : Int) < (FailT.n (atI (t := .fail) (WorkT.fails a0) (Int.toNat (failAt (WorkT.fails a0) a1)))) then (20 : Int) else (FailT.n (atI (t := .fail) (WorkT.fails a0) (Int.toNat (failAt (WorkT.fails a0) a1))))) else (1 : Int)) - (1 : Int))) < (0 : Int)))
          none
          (k [.d (.i .i64) (if (300 : Int) < (IntKind.wrap .i64 ((1 : Int) * 2 ^ (min (Int.toNat (IntKind.wrap .i64 ((if (if (20 : Int) < (FailT.n (atI (t := .fail) (WorkT.fails a0) (Int.toNat (failAt (WorkT.fails a0) a1)))) then (20 : Int) else (FailT.n (atI (t := .fail) (WorkT.fails a0) (Int.toNat (failAt (WorkT.fails a0) a1))))) > (1 : Int) then (if (20 : Int) < (FailT.n (atI (t := .fail) (WorkT.fails a0) (Int.toNat (failAt (WorkT.fails a0) a1)))) then (20 : Int) else (FailT.n (atI (t := .fail) (WorkT.fails a0) (Int.toNat (failAt (WorkT.fails a0) a1))))) else (1 : Int)) - (1 : Int)))) (IntKind.bits .i64)))) then (300 : Int) else (IntKind.wrap .i64 ((1 : Int) * 2 ^ (min (Int.toNat (IntKind.wrap .i64 ((if (if (20 : Int) < (FailT.n (atI (t := .fail) (WorkT.fails a0) (Int.toNat (failAt (WorkT.fails a0) a1)))) then (20 : Int) else (FailT.n (atI (t := .fail) (WorkT.fails a0) (Int.toNat (failAt (WorkT.fails a0) a1))))) > (1 : Int) then (if (20 : Int) < (FailT.n (atI (t := .fail) (WorkT.fails a0) (Int.toNat (failAt (WorkT.fails a0) a1)))) then (20 : Int) else (FailT.n (atI (t := .fail) (WorkT.fails a0) (Int.toNat (failAt (WorkT.fails a0) a1))))) else (1 : Int)) - (1 : Int)))) (IntKind.bits .i64)))))]))
        none))
    none) := by kernel_rfl
theorem f14_spec (a0 : WorkT) (a1 : ByteArray) (hg : sm_work a0 = true) : ∃ keep rounds, ∀ {R : Type} (k : List Dt → Option R), evFn f14e keep rounds f14c [.ro, .ro] [false] true [.tmp 4] [3] [.d .work a0, .d .str a1] k = k [.d (.i .i64) (waitOf a0 a1)] := by
  simp only [sm_work, Bool.and_eq_true] at hg
  obtain ⟨_, _, _, hf⟩ := hg
  refine ⟨f14k, 30, fun k => ?_⟩
  rw [f14_run]
  simp only [hf, cond_true]
  unfold waitOf
  cases ho : failO a0.fails a1 with
  | none =>
    have hfa : failAt a0.fails a1 = -1 := by unfold failAt; rw [ho]; rfl
    rw [hfa]; rfl
  | some i =>
    have hfa : failAt a0.fails a1 = (i : Int) := by unfold failAt; rw [ho]; rfl
    rw [hfa]
    have hi := failO_lt ho
    have hl := smL_len hf
    obtain ⟨h1, h0, _, ht⟩ := idx hi (by omega)
    have hd : decide ((i : Int) < (0 : Int)) = false := by simp
    simp only [Option.elim_some, hd, cond_false, h1, h0, ht, Bool.and_self, cond_true]
    generalize hN : (atI (t := .fail) a0.fails i).n = N
    have e1 : (if (20 : Int) < N then (20 : Int) else N) = capN N := rfl
    rw [e1]
    have e2 : (if capN N > (1 : Int) then capN N else (1 : Int)) = lowN (capN N) := rfl
    rw [e2]
    have hlow : 1 ≤ lowN (capN N) ∧ lowN (capN N) ≤ 20 := by unfold lowN capN; split <;> split <;> omega
    rw [wrap_id (x := lowN (capN N) - 1) (by omega) (by omega)]
    have hd2 : decide (lowN (capN N) - 1 < (0 : Int)) = false := by simp; omega
    simp only [hd2, cond_false]
    have hb : min (Int.toNat (lowN (capN N) - 1)) (IntKind.bits .i64) = Int.toNat (lowN (capN N) - 1) := by
      have : IntKind.bits .i64 = 64 := rfl
      omega
    have hp := pow_le (e := Int.toNat (lowN (capN N) - 1)) (by omega)
    rw [hb, Int.one_mul, wrap_id (x := 2 ^ Int.toNat (lowN (capN N) - 1)) (by omega) (by omega)]
    unfold waitN minI
    generalize (2 : Int) ^ Int.toNat (lowN (capN N) - 1) = z
    rw [show (if (300 : Int) < z then (300 : Int) else z) = (if z < 300 then z else 300) by split <;> split <;> omega]

noncomputable def q14 : List Dt → Option (Bool × List Dt)
  | [.d .work a0, .d .str a1] => some (((fun (x : WorkT) (_ : ByteArray) => sm_work x) a0 a1), [.d (.i .i64) (waitOf a0 a1)])
  | _ => none
noncomputable def s14 : Gm.Spec := Gm.Spec.of [.ro, .ro] [false] true q14
theorem good14 : Gm.Good Try.prog (14, s14) := by
  have hl : ∀ x ∈ [(42, s42)], Gm.Good Try.prog x := List.forall_mem_cons.2 ⟨good42, List.forall_mem_nil _⟩
  refine ⟨⟨spec_ok (tab_ok.env hl) (tab.natl hl) Try.func14 (by kernel_rfl : Try.f14.body = some f14c) [3] (by kernel_rfl) ?_, _, Try.func14, by kernel_rfl, of_decide_eq_true (by kernel_rfl)⟩, Gm.Spec.of_natl _ _ _ _⟩
  intro ds outs h
  unfold q14 at h
  split at h
  · simp only [Option.some.injEq, Prod.mk.injEq] at h; obtain ⟨hg, h⟩ := h; cases h; exact f14_spec _ _ hg
  · cases h
end Go.Proofs.Ytmeeoilfnahihaa

/- x -/
namespace Go.Proofs.Ytmeeoilfnahihaa
open Go Go.Gm
/-! ### loop.example/g00465/laws.FnExactWaitOf -/
noncomputable def f3c : Code := (Try.f3.body).getD .skip
def f3k : Nat → Kp := kat [⟨[1, 2], []⟩, ⟨[1, 2, 11], []⟩, ⟨[4], []⟩, ⟨[1, 2, 5], []⟩, ⟨[1, 2, 5], []⟩, ⟨[1, 2, 16], []⟩, ⟨[4], []⟩, ⟨[1, 2, 6], []⟩, ⟨[1, 2, 6, 7], []⟩, ⟨[2, 6, 7, 8], []⟩, ⟨[2, 7, 28], []⟩, ⟨[4], []⟩, ⟨[33], []⟩, ⟨[4], []⟩, ⟨[4], []⟩]
noncomputable def f3e : Env := tab.env [(11, s11), (12, s12), (13, s13), (14, s14), (15, s15)]
theorem f3_run {R : Type} (n : Nat) (k : List Dt → Option R) (a0 : WorkT) (a1 : ByteArray) : evFn f3e f3k n f3c [.ro, .ro] [false] true [.tmp 4] [4] [.d .work a0, .d .str a1] k =
    (cond (decide ((ByteArray.size a1 : Int) > (1048576 : Int)))
    (k [.d .bool true])
    (cond (gz_work a0 (1048576 : Int))
      (cond (decide ((z_work a0 (1048576 : Int)) < (0 : Int)))
        (k [.d .bool true])
        (cond (sm_work a0)
          (cond ((fun (x : WorkT) (_ : ByteArray) => sm_work x) a0 a1)
            (cond (sm_work a0)
              (cond ((fun (x : WorkT) (_ : ByteArray) => sm_work x) a0 a1)
                (cond ((waitOf a0 a1) != (waitOf a0 a1))
                  (k [.d .bool false])
                  (cond (sm_work a0)
                    (cond (sm2 sm_work a0 a0)
                      (cond (!(eqD a0 a0))
                        (k [.d .bool false])
                        (k [.d .bool true]))
                      none)
                    none))
                none)
              none)
            none)
          none))
      none)) := by kernel_rfl
theorem f3_spec (a0 : WorkT) (a1 : ByteArray) (hg : (ok_work a0 && okStr a1) = true) : ∃ keep rounds, ∀ {R : Type} (k : List Dt → Option R), evFn f3e keep rounds f3c [.ro, .ro] [false] true [.tmp 4] [4] [.d .work a0, .d .str a1] k = k [.d .bool ((fun (_ : WorkT) (_ : ByteArray) => true) a0 a1)] := by
  simp only [Bool.and_eq_true] at hg
  obtain ⟨hg0, hg1⟩ := hg
  refine ⟨f3k, 0, fun k => ?_⟩
  rw [f3_run]
  have h1 : gz_work a0 (1048576 : Int) = true := by unfold gz_work; rw [hg0]; rfl
  by_cases ha : (a1.size : Int) > 1048576
  · simp only [ha, decide_true, cond_true]
  · by_cases hc : z_work a0 (1048576 : Int) < 0
    · simp only [ha, h1, hc, decide_true, decide_false, cond_true, cond_false]
    · have hs := sm_work_of (small_of (m := szN_work a0) hc)
      simp only [ha, h1, hc, hs, sm2, decide_false, cond_true, cond_false, Bool.and_self, bne_self_eq_false, eqD_self, Bool.not_true]

noncomputable def q3 : List Dt → Option (Bool × List Dt)
  | [.d .work a0, .d .str a1] => some (((fun (x : WorkT) (y : ByteArray) => ok_work x && okStr y) a0 a1), [.d .bool ((fun (_ : WorkT) (_ : ByteArray) => true) a0 a1)])
  | _ => none
noncomputable def s3 : Gm.Spec := Gm.Spec.of [.ro, .ro] [false] true q3
theorem good3 : Gm.Good Try.prog (3, s3) := by
  have hl : ∀ x ∈ [(11, s11), (12, s12), (13, s13), (14, s14), (15, s15)], Gm.Good Try.prog x := List.forall_mem_cons.2 ⟨good11, List.forall_mem_cons.2 ⟨good12, List.forall_mem_cons.2 ⟨good13, List.forall_mem_cons.2 ⟨good14, List.forall_mem_cons.2 ⟨good15, List.forall_mem_nil _⟩⟩⟩⟩⟩
  refine ⟨⟨spec_ok (tab_ok.env hl) (tab.natl hl) Try.func3 (by kernel_rfl : Try.f3.body = some f3c) [4] (by kernel_rfl) ?_, _, Try.func3, by kernel_rfl, of_decide_eq_true (by kernel_rfl)⟩, Gm.Spec.of_natl _ _ _ _⟩
  intro ds outs h
  unfold q3 at h
  split at h
  · simp only [Option.some.injEq, Prod.mk.injEq] at h; obtain ⟨hg, h⟩ := h; cases h; exact f3_spec _ _ hg
  · cases h
end Go.Proofs.Ytmeeoilfnahihaa

/- What the functions compute, part 1. No conditions. -/
import Derived.Test.YtinbejnakemfjaaDoorGm4
import Derived.Test.YtinbejnakemfjaaDoorRows
import Derived.Ground.NamesProg
import Derived.Shelf.Strings.SplitShaped
/- The table of types of the program, and that it is the program's. Printed by gev.py of this session. -/
namespace Go.Proofs.YtinbejnakemfjaaDoor
open Go Go.Gm
def tab : Tab := { code := [(2, (.i .i64)), (3, (.i .i64)), (4, .bool), (5, (.i .u8)), (6, (.i .u8)), (9, .str), (10, .str), (11, .str), (12, (.i .u64)), (21, (.i .i32)), (22, (.sl .str)), (31, (.sl (.i .u8))), (45, .cur), (60, (.i .u64)), (72, (.i .u32)), (81, (.i .u8)), (82, (.i .u8)), (84, (.i .i32)), (85, (.i .i32))], eqs := [], fld := [(45, [(0, 31), (1, 3), (2, 3)])] }
theorem und2 : UndOk (tab.env []) Tryd.prog 2 (.i .i64) := (by kernel_rfl : Tryd.prog.underlying 2 = some (.int .i64))
theorem und3 : UndOk (tab.env []) Tryd.prog 3 (.i .i64) := (by kernel_rfl : Tryd.prog.underlying 3 = some (.int .i64))
theorem und4 : UndOk (tab.env []) Tryd.prog 4 .bool := (by kernel_rfl : Tryd.prog.underlying 4 = some .bool)
theorem und5 : UndOk (tab.env []) Tryd.prog 5 (.i .u8) := (by kernel_rfl : Tryd.prog.underlying 5 = some (.int .u8))
theorem und6 : UndOk (tab.env []) Tryd.prog 6 (.i .u8) := (by kernel_rfl : Tryd.prog.underlying 6 = some (.int .u8))
theorem und9 : UndOk (tab.env []) Tryd.prog 9 .str := (by kernel_rfl : Tryd.prog.underlying 9 = some .string)
theorem und10 : UndOk (tab.env []) Tryd.prog 10 .str := (by kernel_rfl : Tryd.prog.underlying 10 = some .string)
theorem und11 : UndOk (tab.env []) Tryd.prog 11 .str := (by kernel_rfl : Tryd.prog.underlying 11 = some .string)
theorem und12 : UndOk (tab.env []) Tryd.prog 12 (.i .u64) := (by kernel_rfl : Tryd.prog.underlying 12 = some (.int .u64))
theorem und21 : UndOk (tab.env []) Tryd.prog 21 (.i .i32) := (by kernel_rfl : Tryd.prog.underlying 21 = some (.int .i32))
theorem und22 : UndOk (tab.env []) Tryd.prog 22 (.sl .str) := ⟨9, by kernel_rfl, by kernel_rfl⟩
theorem und31 : UndOk (tab.env []) Tryd.prog 31 (.sl (.i .u8)) := ⟨5, by kernel_rfl, by kernel_rfl⟩
theorem und45 : UndOk (tab.env []) Tryd.prog 45 .cur := ⟨_, Tryd.underlying45⟩
theorem und60 : UndOk (tab.env []) Tryd.prog 60 (.i .u64) := (by kernel_rfl : Tryd.prog.underlying 60 = some (.int .u64))
theorem und72 : UndOk (tab.env []) Tryd.prog 72 (.i .u32) := (by kernel_rfl : Tryd.prog.underlying 72 = some (.int .u32))
theorem und81 : UndOk (tab.env []) Tryd.prog 81 (.i .u8) := (by kernel_rfl : Tryd.prog.underlying 81 = some (.int .u8))
theorem und82 : UndOk (tab.env []) Tryd.prog 82 (.i .u8) := (by kernel_rfl : Tryd.prog.underlying 82 = some (.int .u8))
theorem und84 : UndOk (tab.env []) Tryd.prog 84 (.i .i32) := (by kernel_rfl : Tryd.prog.underlying 84 = some (.int .i32))
theorem und85 : UndOk (tab.env []) Tryd.prog 85 (.i .i32) := (by kernel_rfl : Tryd.prog.underlying 85 = some (.int .i32))
theorem fld45 : ∃ fs : Array Field, Tryd.prog.underlying 45 = some (.struct fs) ∧ [(0, 31), (1, 3), (2, 3)] = fs.toList.map (fun f => (f.offset, f.type)) ∧ (∀ y ∈ ([(0, 31), (1, 3), (2, 3)] : List (Nat × Nat)), (aget tab.code y.2).isSome) ∧ (fs.toList.mapM (fun f => (Tryd.prog.info? f.type).map fun i => (f.offset, i.size))).isSome :=
  ⟨_, Tryd.underlying45, by kernel_rfl, List.all_eq_true.1 (by kernel_rfl), by kernel_rfl⟩
theorem tab_ok : tab.Ok Tryd.prog := {
  info := infoChk_ok (by kernel_rfl)
  und := List.forall_mem_cons.2 ⟨und2, List.forall_mem_cons.2 ⟨und3, List.forall_mem_cons.2 ⟨und4, List.forall_mem_cons.2 ⟨und5, List.forall_mem_cons.2 ⟨und6, List.forall_mem_cons.2 ⟨und9, List.forall_mem_cons.2 ⟨und10, List.forall_mem_cons.2 ⟨und11, List.forall_mem_cons.2 ⟨und12, List.forall_mem_cons.2 ⟨und21, List.forall_mem_cons.2 ⟨und22, List.forall_mem_cons.2 ⟨und31, List.forall_mem_cons.2 ⟨und45, List.forall_mem_cons.2 ⟨und60, List.forall_mem_cons.2 ⟨und72, List.forall_mem_cons.2 ⟨und81, List.forall_mem_cons.2 ⟨und82, List.forall_mem_cons.2 ⟨und84, List.forall_mem_cons.2 ⟨und85, List.forall_mem_nil _⟩⟩⟩⟩⟩⟩⟩⟩⟩⟩⟩⟩⟩⟩⟩⟩⟩⟩⟩
  fld := List.forall_mem_cons.2 ⟨fld45, List.forall_mem_nil _⟩
  sts := List.forall_mem_cons.2 ⟨fun h => by first | (cases h; done) | (simp; done), List.forall_mem_cons.2 ⟨fun h => by first | (cases h; done) | (simp; done), List.forall_mem_cons.2 ⟨fun h => by first | (cases h; done) | (simp; done), List.forall_mem_cons.2 ⟨fun h => by first | (cases h; done) | (simp; done), List.forall_mem_cons.2 ⟨fun h => by first | (cases h; done) | (simp; done), List.forall_mem_cons.2 ⟨fun h => by first | (cases h; done) | (simp; done), List.forall_mem_cons.2 ⟨fun h => by first | (cases h; done) | (simp; done), List.forall_mem_cons.2 ⟨fun h => by first | (cases h; done) | (simp; done), List.forall_mem_cons.2 ⟨fun h => by first | (cases h; done) | (simp; done), List.forall_mem_cons.2 ⟨fun h => by first | (cases h; done) | (simp; done), List.forall_mem_cons.2 ⟨fun h => by first | (cases h; done) | (simp; done), List.forall_mem_cons.2 ⟨fun h => by first | (cases h; done) | (simp; done), List.forall_mem_cons.2 ⟨fun _ => by simp [tab], List.forall_mem_cons.2 ⟨fun h => by first | (cases h; done) | (simp; done), List.forall_mem_cons.2 ⟨fun h => by first | (cases h; done) | (simp; done), List.forall_mem_cons.2 ⟨fun h => by first | (cases h; done) | (simp; done), List.forall_mem_cons.2 ⟨fun h => by first | (cases h; done) | (simp; done), List.forall_mem_cons.2 ⟨fun h => by first | (cases h; done) | (simp; done), List.forall_mem_cons.2 ⟨fun h => by first | (cases h; done) | (simp; done), List.forall_mem_nil _⟩⟩⟩⟩⟩⟩⟩⟩⟩⟩⟩⟩⟩⟩⟩⟩⟩⟩⟩
  eqs := List.forall_mem_nil _
  ord := by kernel_rfl }
end Go.Proofs.YtinbejnakemfjaaDoor

/- x -/
namespace Go.Proofs.YtinbejnakemfjaaDoor
open Go Go.Gm
/-! ### loop.example/g00465/spec.l1New -/
noncomputable def f22c : Code := (Tryd.f22.body).getD .skip
def f22k : Nat → Kp := kat [⟨[0], [], [], []⟩, ⟨[0, 3], [], [], []⟩, ⟨[0, 3, 4], [], [], []⟩, ⟨[0, 3, 4, 15], [], [], []⟩, ⟨[0, 3, 4], [], [], []⟩, ⟨[0, 3, 4], [], [], []⟩, ⟨[2], [], [], []⟩]
noncomputable def f22e : Env := tab.env []
noncomputable def f22L0 {R : Type} (n : Nat) (x0 : Int → Int → Bool → Option R) (x1 : Int → Int → Option R) (vs0 : List Int) : Nat → Int → Int → Option R
  | 0, _, _ => none
  | m + 1, vs3, vs4 =>
    (cond (decide (vs4 < (vs0.length : Int)))
      (cond (decide (vs4 < (4000 : Int)))
        (cond ((decide ((0 : Int) ≤ vs4)) && (decide (vs4 < (vs0.length : Int))))
          (f22L0 n x0 x1 vs0 m (IntKind.wrap .i64 ((BitVec.toNat (BitVec.ofInt (IntKind.bits .i64) (IntKind.wrap .i64 ((IntKind.wrap .i64 ((IntKind.wrap .i64 (vs3 * (131 : Int))) + (IntKind.wrap .i64 (atI (t := (.i .u8)) vs0 (Int.toNat vs4))))) + (7 : Int))) &&& BitVec.ofInt (IntKind.bits .i64) (1073741823 : Int)) : Nat) : Int)) (IntKind.wrap .i64 (vs4 + (1 : Int))))
          none)
        (x0 vs3 vs4 (decide (vs4 < (4000 : Int)))))
      (x1 vs3 vs4))
theorem f22L0_b {R : Type} (n : Nat) (k' : Ex → St → Option R) (vs0 : List Int) (vs3 : Int) (vs4 : Int) : ev f22e f22k n (cAt [1,1,0,1,0,0] f22c) ⟨[(0, .c (.one (.rk (.i .u8) vs0))), (3, .c (.one (.v (.int .i64 vs3)))), (4, .c (.one (.v (.int .i64 vs4))))], [], []⟩ k' =
    (cond (decide (vs4 < (vs0.length : Int)))
    (cond (decide (vs4 < (4000 : Int)))
      (cond ((decide ((0 : Int) ≤ vs4)) && (decide (vs4 < (vs0.length : Int))))
        (k' .normal ⟨[(0, .c (.one (.rk (.i .u8) vs0))), (3, .c (.one (.v (.int .i64 (IntKind.wrap .i64 ((BitVec.toNat (BitVec.ofInt (IntKind.bits .i64) (IntKind.wrap .i64 ((IntKind.wrap .i64 ((IntKind.wrap .i64 (vs3 * (131 : Int))) + (IntKind.wrap .i64 (atI (t := (.i .u8)) vs0 (Int.toNat vs4))))) + (7 : Int))) &&& BitVec.ofInt (IntKind.bits .i64) (1073741823 : Int)) : Nat) : Int)))))), (4, .c (.one (.v (.int .i64 (IntKind.wrap .i64 (vs4 + (1 : Int)))))))], [], []⟩)
        none)
      (k' (.exit 0) ⟨[(0, .c (.one (.rk (.i .u8) vs0))), (3, .c (.one (.v (.int .i64 vs3)))), (4, .c (.one (.v (.int .i64 vs4)))), (15, .c (.one (.v (.bool (decide (vs4 < (4000 : Int)))))))], [], []⟩))
    (k' (.exit 0) ⟨[(0, .c (.one (.rk (.i .u8) vs0))), (3, .c (.one (.v (.int .i64 vs3)))), (4, .c (.one (.v (.int .i64 vs4)))), (15, .c (.one (.v (.bool false))))], [], []⟩)) := by kernel_rfl
theorem f22L0_eq {R : Type} (n : Nat) (k' : Ex → St → Option R) (vs0 : List Int) : ∀ (m : Nat) (vs3 : Int) (vs4 : Int), iter (fun st k => ev f22e f22k n (cAt [1,1,0,1,0,0] f22c) st k) m ⟨[(0, .c (.one (.rk (.i .u8) vs0))), (3, .c (.one (.v (.int .i64 vs3)))), (4, .c (.one (.v (.int .i64 vs4))))], [], []⟩ k' = f22L0 n (fun (xvs3 : Int) (xvs4 : Int) (xvs15 : Bool) => k' (.exit 0) ⟨[(0, .c (.one (.rk (.i .u8) vs0))), (3, .c (.one (.v (.int .i64 xvs3)))), (4, .c (.one (.v (.int .i64 xvs4)))), (15, .c (.one (.v (.bool xvs15))))], [], []⟩) (fun (xvs3 : Int) (xvs4 : Int) => k' (.exit 0) ⟨[(0, .c (.one (.rk (.i .u8) vs0))), (3, .c (.one (.v (.int .i64 xvs3)))), (4, .c (.one (.v (.int .i64 xvs4)))), (15, .c (.one (.v (.bool false))))], [], []⟩) vs0 m vs3 vs4 := by
  intro m; induction m with
  | zero => intros; rfl
  | succ m ih =>
    intro vs3 vs4
    simp only [iter]
    rw [f22L0_b]
    simp only [ih, f22L0]

noncomputable def f22K0 {R : Type} (n : Nat) (k' : Ex → St → Option R) : Ex → St → Option R := (blockK 0 (seqK f22e f22k n (cAt [1,1,1] f22c) k'))
theorem f22K0_x0 {R : Type} (n : Nat) (k : List Dt → Option R) (a0 : List Int) (vs0 : List Int) (xvs3 : Int) (xvs4 : Int) (xvs15 : Bool) : f22K0 n (exitK f22e [.kp] [true] true [.tmp 2] [38] [.d (.sl (.i .u8)) a0] k) (.exit 0) ⟨[(0, .c (.one (.rk (.i .u8) vs0))), (3, .c (.one (.v (.int .i64 xvs3)))), (4, .c (.one (.v (.int .i64 xvs4)))), (15, .c (.one (.v (.bool xvs15))))], [], []⟩ =
    (k [.d .cur (⟨vs0, (0 : Int), xvs3⟩ : CurT)]) := by kernel_rfl
theorem f22K0_x1 {R : Type} (n : Nat) (k : List Dt → Option R) (a0 : List Int) (vs0 : List Int) (xvs3 : Int) (xvs4 : Int) : f22K0 n (exitK f22e [.kp] [true] true [.tmp 2] [38] [.d (.sl (.i .u8)) a0] k) (.exit 0) ⟨[(0, .c (.one (.rk (.i .u8) vs0))), (3, .c (.one (.v (.int .i64 xvs3)))), (4, .c (.one (.v (.int .i64 xvs4)))), (15, .c (.one (.v (.bool false))))], [], []⟩ =
    (k [.d .cur (⟨vs0, (0 : Int), xvs3⟩ : CurT)]) := by kernel_rfl

theorem f22_run {R : Type} (n : Nat) (k : List Dt → Option R) (a0 : List Int) : evFn f22e f22k n f22c [.kp] [true] true [.tmp 2] [38] [.d (.sl (.i .u8)) a0] k =
    (f22L0 n (fun (xvs3 : Int) (xvs4 : Int) (xvs15 : Bool) =>
    (k [.d .cur (⟨a0, (0 : Int), xvs3⟩ : CurT)])) (fun (xvs3 : Int) (xvs4 : Int) =>
    (k [.d .cur (⟨a0, (0 : Int), xvs3⟩ : CurT)])) a0 n (IntKind.wrap .i64 ((27212 : Int) + (a0.length : Int))) (0 : Int)) := by
  refine Eq.trans (b := (iter (fun st k => ev f22e f22k n (cAt [1,1,0,1,0,0] f22c) st k) n ⟨[(0, .c (.one (.rk (.i .u8) a0))), (3, .c (.one (.v (.int .i64 (IntKind.wrap .i64 ((27212 : Int) + (a0.length : Int))))))), (4, .c (.one (.v (.int .i64 (0 : Int)))))], [], []⟩ (f22K0 n (exitK f22e [.kp] [true] true [.tmp 2] [38] [.d (.sl (.i .u8)) a0] k)))) (by kernel_rfl) ?_
  simp only [f22L0_eq, f22K0_x0, f22K0_x1]
def f22_P (a0 : List Int) (o : CurT) : Prop := (fun _ o => gCur o = true) a0 o ∧ ∃ n : Nat, ∀ {R : Type} (k : List Dt → Option R), evFn f22e f22k n f22c [.kp] [true] true [.tmp 2] [38] [.d (.sl (.i .u8)) a0] k = k [.d .cur o]
theorem f22_ex (a0 : List Int) (hg : gCode a0 = true) : ∃ o : CurT, (fun _ o => gCur o = true) a0 o ∧ ∃ n : Nat, ∀ {R : Type} (k : List Dt → Option R), evFn f22e f22k n f22c [.kp] [true] true [.tmp 2] [38] [.d (.sl (.i .u8)) a0] k = k [.d .cur o] := by
  have hl : a0.length ≤ 1048576 := bleN hg
  have key : ∀ (d : Nat) (m : Nat) (h : Int) (i : Nat), i + d = 4000 → d < m → ∃ h' : Int, ∀ {R : Type} (X : Int → Int → Bool → Option R) (Y : Int → Int → Option R) (Z : Int → Option R), (∀ x y z, X x y z = Z x) → (∀ x y, Y x y = Z x) → f22L0 4001 X Y a0 m h (i : Int) = Z h' := by
    intro d
    induction d with
    | zero =>
      intro m h i hi hm
      obtain ⟨m, rfl⟩ : ∃ m', m = m' + 1 := ⟨m - 1, by omega⟩
      refine ⟨h, fun {R} X Y Z hX hY => ?_⟩
      simp only [f22L0, decide_eq_false (show ¬ ((i : Int) < 4000) by omega), cond_false]
      cases decide ((i : Int) < (a0.length : Int)) <;> simp only [cond_true, cond_false, hX, hY]
    | succ d ih =>
      intro m h i hi hm
      obtain ⟨m, rfl⟩ : ∃ m', m = m' + 1 := ⟨m - 1, by omega⟩
      cases hd : decide ((i : Int) < (a0.length : Int))
      · refine ⟨h, fun {R} X Y Z hX hY => ?_⟩
        simp only [f22L0, hd, cond_false, hY]
      · obtain ⟨h', hh⟩ := ih m _ (i + 1) (by omega) (by omega)
        refine ⟨h', fun {R} X Y Z hX hY => ?_⟩
        simp only [f22L0, hd, decide_eq_true (show (i : Int) < 4000 by omega), decide_eq_true (show (0 : Int) ≤ (i : Int) by omega), Bool.and_self, cond_true, wrap_id (x := (i : Int) + 1) (by omega) (by omega)]
        exact hh X Y Z hX hY
  obtain ⟨h', hh⟩ := key 4000 4001 (IntKind.wrap .i64 ((27212 : Int) + (a0.length : Int))) 0 rfl (by omega)
  refine ⟨⟨a0, 0, h'⟩, gCur_iff.2 ⟨Int.le_refl _, hl⟩, 4001, fun {R} k => ?_⟩
  rw [f22_run]
  exact hh _ _ (fun x => k [.d .cur ⟨a0, 0, x⟩]) (fun _ _ _ => rfl) (fun _ _ => rfl)

theorem f22_ne (a0 : List Int) : Nonempty {o : CurT // gCode a0 = true → f22_P a0 o} := by
  by_cases hg : gCode a0 = true
  · obtain ⟨o, ho⟩ := f22_ex a0 hg
    exact ⟨⟨o, fun _ => ho⟩⟩
  · exact ⟨⟨((zero .cur)), fun h => absurd h hg⟩⟩
noncomputable def curNew (a0 : List Int) : CurT := (Classical.choice (f22_ne a0)).val
theorem f22_sp (a0 : List Int) (hg : gCode a0 = true) : f22_P a0 (curNew a0) := (Classical.choice (f22_ne a0)).property hg
theorem curNew_ok (a0 : List Int) (hg : gCode a0 = true) : (fun _ o => gCur o = true) a0 (curNew a0) := (f22_sp a0 hg).1
theorem f22_spec (a0 : List Int) (hg : gCode a0 = true) : ∃ keep rounds, ∀ {R : Type} (k : List Dt → Option R), evFn f22e keep rounds f22c [.kp] [true] true [.tmp 2] [38] [.d (.sl (.i .u8)) a0] k = k [.d .cur (curNew a0)] := by
  obtain ⟨n, hn⟩ := (f22_sp a0 hg).2
  exact ⟨f22k, n, hn⟩

noncomputable def q22 : List Dt → Option (Bool × List Dt)
  | [.d (.sl (.i .u8)) a0] => some ((gCode a0), [.d .cur (curNew a0)])
  | _ => none
noncomputable def s22 : Gm.Spec := Gm.Spec.of [.kp] [true] true q22
theorem good22 : Gm.Good Tryd.prog (22, s22) := by
  have hl : ∀ x ∈ ([] : List (Nat × Gm.Spec)), Gm.Good Tryd.prog x := fun _ h => by cases h
  refine ⟨⟨spec_ok (tab_ok.env hl) (tab.natl hl) Tryd.func22 (by kernel_rfl : Tryd.f22.body = some f22c) [38] (by kernel_rfl) ?_, _, Tryd.func22, by kernel_rfl, of_decide_eq_true (by kernel_rfl)⟩, Gm.Spec.of_natl _ _ _ _⟩
  intro ds outs h
  unfold q22 at h
  split at h
  · simp only [Option.some.injEq, Prod.mk.injEq] at h; obtain ⟨hg, h⟩ := h; cases h; exact f22_spec _ hg
  · cases h
/-! ### loop.example/g00465/spec.l1Byte -/
noncomputable def f27c : Code := (Tryd.f27.body).getD .skip
def f27k : Nat → Kp := kat [⟨[0], [], [], []⟩, ⟨[0], [], [], []⟩, ⟨[0, 3], [], [], []⟩, ⟨[0, 3, 34], [], [], []⟩, ⟨[0, 3], [], [], []⟩, ⟨[0, 3], [], [], []⟩, ⟨[0, 2], [], [], []⟩]
noncomputable def f27e : Env := tab.env []
theorem f27_run {R : Type} (n : Nat) (k : List Dt → Option R) (a0 : CurT) : evFn f27e f27k n f27c [.pmut] [false] true [.tmp 2] [3] [.d .cur a0] k =
    (cond (decide ((CurT.i a0) < ((CurT.b a0).length : Int)))
    (cond ((decide ((0 : Int) ≤ (CurT.i a0))) && (decide ((CurT.i a0) < ((CurT.b a0).length : Int))))
      (k [.d (.i .i64) (IntKind.wrap .i64 ((BitVec.toNat (BitVec.ofInt (IntKind.bits .i64) (IntKind.wrap .i64 ((IntKind.wrap .i64 ((BitVec.toNat (BitVec.ofInt (IntKind.bits .i64) (IntKind.wrap .i64 ((BitVec.toNat (BitVec.ofInt (IntKind.bits .i64) (Int.fdiv (IntKind.wrap .i64 ((IntKind.wrap .i64 ((CurT.h a0) * (6364136223846793005 : Int))) + (1442695040888963407 : Int))) (2 ^ (min (Int.toNat (33 : Int)) (IntKind.bits .i64)))) ^^^ BitVec.ofInt (IntKind.bits .i64) (Int.fdiv (IntKind.wrap .i64 ((IntKind.wrap .i64 ((CurT.h a0) * (6364136223846793005 : Int))) + (1442695040888963407 : Int))) (2 ^ (min (Int.toNat (45 : Int)) (IntKind.bits .i64))))) : Nat) : Int)) &&& BitVec.ofInt (IntKind.bits .i64) (255 : Int)) : Nat) : Int)) + (IntKind.wrap .i64 (atI (t := (.i .u8)) (CurT.b a0) (Int.toNat (CurT.i a0)))))) &&& BitVec.ofInt (IntKind.bits .i64) (255 : Int)) : Nat) : Int)), .d .cur (⟨(CurT.b a0), (IntKind.wrap .i64 ((CurT.i a0) + (1 : Int))), (IntKind.wrap .i64 ((IntKind.wrap .i64 ((CurT.h a0) * (6364136223846793005 : Int))) + (1442695040888963407 : Int)))⟩ : CurT)])
      none)
    (k [.d (.i .i64) (IntKind.wrap .i64 ((BitVec.toNat (BitVec.ofInt (IntKind.bits .i64) (IntKind.wrap .i64 ((BitVec.toNat (BitVec.ofInt (IntKind.bits .i64) (Int.fdiv (IntKind.wrap .i64 ((IntKind.wrap .i64 ((CurT.h a0) * (6364136223846793005 : Int))) + (1442695040888963407 : Int))) (2 ^ (min (Int.toNat (33 : Int)) (IntKind.bits .i64)))) ^^^ BitVec.ofInt (IntKind.bits .i64) (Int.fdiv (IntKind.wrap .i64 ((IntKind.wrap .i64 ((CurT.h a0) * (6364136223846793005 : Int))) + (1442695040888963407 : Int))) (2 ^ (min (Int.toNat (45 : Int)) (IntKind.bits .i64))))) : Nat) : Int)) &&& BitVec.ofInt (IntKind.bits .i64) (255 : Int)) : Nat) : Int)), .d .cur (⟨(CurT.b a0), (CurT.i a0), (IntKind.wrap .i64 ((IntKind.wrap .i64 ((CurT.h a0) * (6364136223846793005 : Int))) + (1442695040888963407 : Int)))⟩ : CurT)])) := by kernel_rfl
def f27_P (a0 : CurT) (o : Int × CurT) : Prop := (fun _ o => (0 ≤ o.1 ∧ o.1 ≤ 255) ∧ gCur o.2 = true) a0 o ∧ ∃ n : Nat, ∀ {R : Type} (k : List Dt → Option R), evFn f27e f27k n f27c [.pmut] [false] true [.tmp 2] [3] [.d .cur a0] k = k [.d (.i .i64) o.1, .d .cur o.2]
theorem f27_ex (a0 : CurT) (hg : gCur a0 = true) : ∃ o : Int × CurT, (fun _ o => (0 ≤ o.1 ∧ o.1 ≤ 255) ∧ gCur o.2 = true) a0 o ∧ ∃ n : Nat, ∀ {R : Type} (k : List Dt → Option R), evFn f27e f27k n f27c [.pmut] [false] true [.tmp 2] [3] [.d .cur a0] k = k [.d (.i .i64) o.1, .d .cur o.2] := by
  obtain ⟨h0, hl⟩ := gCur_iff.1 hg
  cases hd : decide (CurT.i a0 < ((CurT.b a0).length : Int))
  · refine ⟨(?az0, ?bz0), ?gz0, 0, ?rz0⟩
    case rz0 =>
      intro R k
      rw [f27_run]
      simp only [hd, Bool.and_self, cond_true, cond_false]
      exact rfl
    case gz0 => exact ⟨and255w _, gCur_iff.2 ⟨h0, hl⟩⟩
  · have hlt := of_decide_eq_true hd
    refine ⟨(?az1, ?bz1), ?gz1, 0, ?rz1⟩
    case rz1 =>
      intro R k
      rw [f27_run]
      simp only [hd, decide_eq_true h0, Bool.and_self, cond_true, cond_false]
      exact rfl
    case gz1 =>
      refine ⟨and255w _, gCur_iff.2 ⟨?_, hl⟩⟩
      show 0 ≤ IntKind.wrap .i64 (CurT.i a0 + 1)
      rw [wrap_id (by omega) (by omega)]; omega

theorem f27_ne (a0 : CurT) : Nonempty {o : Int × CurT // gCur a0 = true → f27_P a0 o} := by
  by_cases hg : gCur a0 = true
  · obtain ⟨o, ho⟩ := f27_ex a0 hg
    exact ⟨⟨o, fun _ => ho⟩⟩
  · exact ⟨⟨((zero (.i .i64)), (zero .cur)), fun h => absurd h hg⟩⟩
noncomputable def curByte (a0 : CurT) : Int × CurT := (Classical.choice (f27_ne a0)).val
theorem f27_sp (a0 : CurT) (hg : gCur a0 = true) : f27_P a0 (curByte a0) := (Classical.choice (f27_ne a0)).property hg
theorem curByte_ok (a0 : CurT) (hg : gCur a0 = true) : (fun _ o => (0 ≤ o.1 ∧ o.1 ≤ 255) ∧ gCur o.2 = true) a0 (curByte a0) := (f27_sp a0 hg).1
theorem f27_spec (a0 : CurT) (hg : gCur a0 = true) : ∃ keep rounds, ∀ {R : Type} (k : List Dt → Option R), evFn f27e keep rounds f27c [.pmut] [false] true [.tmp 2] [3] [.d .cur a0] k = k [.d (.i .i64) ((curByte a0).1), .d .cur ((curByte a0).2)] := by
  obtain ⟨n, hn⟩ := (f27_sp a0 hg).2
  exact ⟨f27k, n, hn⟩

noncomputable def q27 : List Dt → Option (Bool × List Dt)
  | [.d .cur a0] => some ((gCur a0), [.d (.i .i64) ((curByte a0).1), .d .cur ((curByte a0).2)])
  | _ => none
noncomputable def s27 : Gm.Spec := Gm.Spec.of [.pmut] [false] true q27
theorem good27 : Gm.Good Tryd.prog (27, s27) := by
  have hl : ∀ x ∈ ([] : List (Nat × Gm.Spec)), Gm.Good Tryd.prog x := fun _ h => by cases h
  refine ⟨⟨spec_ok (tab_ok.env hl) (tab.natl hl) Tryd.func27 (by kernel_rfl : Tryd.f27.body = some f27c) [3] (by kernel_rfl) ?_, _, Tryd.func27, by kernel_rfl, of_decide_eq_true (by kernel_rfl)⟩, Gm.Spec.of_natl _ _ _ _⟩
  intro ds outs h
  unfold q27 at h
  split at h
  · simp only [Option.some.injEq, Prod.mk.injEq] at h; obtain ⟨hg, h⟩ := h; cases h; exact f27_spec _ hg
  · cases h
/-! ### loop.example/g00465/spec.l1Below -/
noncomputable def f23c : Code := (Tryd.f23.body).getD .skip
def f23k : Nat → Kp := kat [⟨[0, 1], [], [], []⟩, ⟨[0, 1, 10], [], [], []⟩, ⟨[0, 4], [], [], []⟩, ⟨[0, 1, 12], [], [], []⟩, ⟨[0, 4], [], [], []⟩, ⟨[0, 1, 5], [], [], []⟩, ⟨[0, 1, 5, 6], [], [], []⟩, ⟨[0, 1, 5, 6, 7], [], [], []⟩, ⟨[0, 1, 5, 6, 7, 8], [], [], []⟩, ⟨[0, 4], [], [], []⟩]
noncomputable def f23e : Env := tab.env [(27, s27)]
theorem f23_run {R : Type} (n : Nat) (k : List Dt → Option R) (a0 : CurT) (a1 : Int) : evFn f23e f23k n f23c [.pmut, .ro] [false] true [.tmp 4] [3] [.d .cur a0, .d (.i .i64) a1] k =
    (cond (decide (a1 ≤ (0 : Int)))
    (k [.d (.i .i64) (0 : Int), .d .cur a0])
    (cond (decide (a1 ≤ (256 : Int)))
      (cond (gCur a0)
        (cond (decide (a1 = 0))
          none
          (k [.d (.i .i64) (Int.tmod ((curByte a0).1) a1), .d .cur ((curByte a0).2)]))
        none)
      (cond (gCur a0)
        (cond (gCur ((curByte a0).2))
          (cond (gCur ((curByte ((curByte a0).2)).2))
            (cond (gCur ((curByte ((curByte ((curByte a0).2)).2)).2))
              (cond (decide (a1 = 0))
                none
                (k [.d (.i .i64) (Int.tmod (IntKind.wrap .i64 ((IntKind.wrap .i64 ((IntKind.wrap .i64 ((IntKind.wrap .i64 (((curByte a0).1) * (16777216 : Int))) + (IntKind.wrap .i64 (((curByte ((curByte a0).2)).1) * (65536 : Int))))) + (IntKind.wrap .i64 (((curByte ((curByte ((curByte a0).2)).2)).1) * (256 : Int))))) + ((curByte ((curByte ((curByte ((curByte a0).2)).2)).2)).1))) a1), .d .cur ((curByte ((curByte ((curByte ((curByte a0).2)).2)).2)).2)]))
              none)
            none)
          none)
        none))) := by kernel_rfl
def f23_P (a0 : CurT) (a1 : Int) (o : Int × CurT) : Prop := (fun _ n o => 0 ≤ o.1 ∧ (0 < n → o.1 < n) ∧ gCur o.2 = true) a0 a1 o ∧ ∃ n : Nat, ∀ {R : Type} (k : List Dt → Option R), evFn f23e f23k n f23c [.pmut, .ro] [false] true [.tmp 4] [3] [.d .cur a0, .d (.i .i64) a1] k = k [.d (.i .i64) o.1, .d .cur o.2]
theorem f23_ex (a0 : CurT) (a1 : Int) (hg : (fun c _ => gCur c) a0 a1 = true) : ∃ o : Int × CurT, (fun _ n o => 0 ≤ o.1 ∧ (0 < n → o.1 < n) ∧ gCur o.2 = true) a0 a1 o ∧ ∃ n : Nat, ∀ {R : Type} (k : List Dt → Option R), evFn f23e f23k n f23c [.pmut, .ro] [false] true [.tmp 4] [3] [.d .cur a0, .d (.i .i64) a1] k = k [.d (.i .i64) o.1, .d .cur o.2] := by
  have hg : gCur a0 = true := hg
  cases h1 : decide (a1 ≤ (0 : Int))
  · have hn := of_decide_eq_false h1
    have hz : decide (a1 = 0) = false := decide_eq_false (by omega)
    obtain ⟨b1, g1⟩ := curByte_ok a0 hg
    cases h2 : decide (a1 ≤ (256 : Int))
    · obtain ⟨b2, g2⟩ := curByte_ok _ g1
      obtain ⟨b3, g3⟩ := curByte_ok _ g2
      obtain ⟨b4, g4⟩ := curByte_ok _ g3
      refine ⟨(?az0, ?bz0), ?gz0, 0, ?rz0⟩
      case rz0 =>
        intro R k
        rw [f23_run]
        simp only [h1, h2, hz, hg, g1, g2, g3, Bool.and_self, cond_true, cond_false]
        exact rfl
      case gz0 =>
        have := tmod_bd (below4 b1 b2 b3 b4) (show 0 < a1 by omega)
        exact ⟨this.1, fun _ => this.2, g4⟩
    · refine ⟨(?az1, ?bz1), ?gz1, 0, ?rz1⟩
      case rz1 =>
        intro R k
        rw [f23_run]
        simp only [h1, h2, hz, hg, Bool.and_self, cond_true, cond_false]
        exact rfl
      case gz1 =>
        have := tmod_bd b1.1 (show 0 < a1 by omega)
        exact ⟨this.1, fun _ => this.2, g1⟩
  · have hn := of_decide_eq_true h1
    refine ⟨(?az2, ?bz2), ?gz2, 0, ?rz2⟩
    case rz2 =>
      intro R k
      rw [f23_run]
      simp only [h1, Bool.and_self, cond_true, cond_false]
      exact rfl
    case gz2 => exact ⟨Int.le_refl _, fun h => by omega, hg⟩

theorem f23_ne (a0 : CurT) (a1 : Int) : Nonempty {o : Int × CurT // (fun c _ => gCur c) a0 a1 = true → f23_P a0 a1 o} := by
  by_cases hg : (fun c _ => gCur c) a0 a1 = true
  · obtain ⟨o, ho⟩ := f23_ex a0 a1 hg
    exact ⟨⟨o, fun _ => ho⟩⟩
  · exact ⟨⟨((zero (.i .i64)), (zero .cur)), fun h => absurd h hg⟩⟩
noncomputable def curBelow (a0 : CurT) (a1 : Int) : Int × CurT := (Classical.choice (f23_ne a0 a1)).val
theorem f23_sp (a0 : CurT) (a1 : Int) (hg : (fun c _ => gCur c) a0 a1 = true) : f23_P a0 a1 (curBelow a0 a1) := (Classical.choice (f23_ne a0 a1)).property hg
theorem curBelow_ok (a0 : CurT) (a1 : Int) (hg : (fun c _ => gCur c) a0 a1 = true) : (fun _ n o => 0 ≤ o.1 ∧ (0 < n → o.1 < n) ∧ gCur o.2 = true) a0 a1 (curBelow a0 a1) := (f23_sp a0 a1 hg).1
theorem f23_spec (a0 : CurT) (a1 : Int) (hg : (fun c _ => gCur c) a0 a1 = true) : ∃ keep rounds, ∀ {R : Type} (k : List Dt → Option R), evFn f23e keep rounds f23c [.pmut, .ro] [false] true [.tmp 4] [3] [.d .cur a0, .d (.i .i64) a1] k = k [.d (.i .i64) ((curBelow a0 a1).1), .d .cur ((curBelow a0 a1).2)] := by
  obtain ⟨n, hn⟩ := (f23_sp a0 a1 hg).2
  exact ⟨f23k, n, hn⟩

noncomputable def q23 : List Dt → Option (Bool × List Dt)
  | [.d .cur a0, .d (.i .i64) a1] => some (((fun c _ => gCur c) a0 a1), [.d (.i .i64) ((curBelow a0 a1).1), .d .cur ((curBelow a0 a1).2)])
  | _ => none
noncomputable def s23 : Gm.Spec := Gm.Spec.of [.pmut, .ro] [false] true q23
theorem good23 : Gm.Good Tryd.prog (23, s23) := by
  have hl : ∀ x ∈ [(27, s27)], Gm.Good Tryd.prog x := List.forall_mem_cons.2 ⟨good27, List.forall_mem_nil _⟩
  refine ⟨⟨spec_ok (tab_ok.env hl) (tab.natl hl) Tryd.func23 (by kernel_rfl : Tryd.f23.body = some f23c) [3] (by kernel_rfl) ?_, _, Tryd.func23, by kernel_rfl, of_decide_eq_true (by kernel_rfl)⟩, Gm.Spec.of_natl _ _ _ _⟩
  intro ds outs h
  unfold q23 at h
  split at h
  · simp only [Option.some.injEq, Prod.mk.injEq] at h; obtain ⟨hg, h⟩ := h; cases h; exact f23_spec _ _ hg
  · cases h
/-! ### loop.example/g00465/spec.l1Pick -/
noncomputable def f24c : Code := (Tryd.f24.body).getD .skip
def f24k : Nat → Kp := kat [⟨[0, 1], [], [], []⟩, ⟨[0, 4], [], [], []⟩]
noncomputable def f24e : Env := tab.env [(23, s23)]
theorem f24_run {R : Type} (n : Nat) (k : List Dt → Option R) (a0 : CurT) (a1 : List ByteArray) : evFn f24e f24k n f24c [.pmut, .ro] [false] true [.tmp 4] [9] [.d .cur a0, .d (.sl .str) a1] k =
    (cond ((fun c _ => gCur c) a0 (a1.length : Int))
    (cond ((decide ((0 : Int) ≤ ((curBelow a0 (a1.length : Int)).1))) && (decide (((curBelow a0 (a1.length : Int)).1) < (a1.length : Int))))
      (k [.d .str (atI (t := .str) a1 (Int.toNat ((curBelow a0 (a1.length : Int)).1))), .d .cur ((curBelow a0 (a1.length : Int)).2)])
      none)
    none) := by kernel_rfl
def f24_P (a0 : CurT) (a1 : List ByteArray) (o : ByteArray × CurT) : Prop := (fun _ l o => o.1 ∈ l ∧ gCur o.2 = true) a0 a1 o ∧ ∃ n : Nat, ∀ {R : Type} (k : List Dt → Option R), evFn f24e f24k n f24c [.pmut, .ro] [false] true [.tmp 4] [9] [.d .cur a0, .d (.sl .str) a1] k = k [.d .str o.1, .d .cur o.2]
theorem f24_ex (a0 : CurT) (a1 : List ByteArray) (hg : gPickS a0 a1 = true) : ∃ o : ByteArray × CurT, (fun _ l o => o.1 ∈ l ∧ gCur o.2 = true) a0 a1 o ∧ ∃ n : Nat, ∀ {R : Type} (k : List Dt → Option R), evFn f24e f24k n f24c [.pmut, .ro] [false] true [.tmp 4] [9] [.d .cur a0, .d (.sl .str) a1] k = k [.d .str o.1, .d .cur o.2] := by
  obtain ⟨hg, hne⟩ := Bool.and_eq_true_iff.1 hg
  obtain ⟨hne, hl⟩ := Bool.and_eq_true_iff.1 hne
  obtain ⟨h0, h1, g1⟩ := curBelow_ok a0 (a1.length : Int) hg
  have h1 := h1 (lenPos hne)
  refine ⟨(?az0, ?bz0), ?gz0, 0, ?rz0⟩
  case rz0 =>
    intro R k
    rw [f24_run]
    simp only [hg, idxOk h0 h1, cond_true]
    exact rfl
  case gz0 => exact ⟨mem_atI (t := .str) h0 h1, g1⟩

theorem f24_ne (a0 : CurT) (a1 : List ByteArray) : Nonempty {o : ByteArray × CurT // gPickS a0 a1 = true → f24_P a0 a1 o} := by
  by_cases hg : gPickS a0 a1 = true
  · obtain ⟨o, ho⟩ := f24_ex a0 a1 hg
    exact ⟨⟨o, fun _ => ho⟩⟩
  · exact ⟨⟨((zero .str), (zero .cur)), fun h => absurd h hg⟩⟩
noncomputable def curPick (a0 : CurT) (a1 : List ByteArray) : ByteArray × CurT := (Classical.choice (f24_ne a0 a1)).val
theorem f24_sp (a0 : CurT) (a1 : List ByteArray) (hg : gPickS a0 a1 = true) : f24_P a0 a1 (curPick a0 a1) := (Classical.choice (f24_ne a0 a1)).property hg
theorem curPick_ok (a0 : CurT) (a1 : List ByteArray) (hg : gPickS a0 a1 = true) : (fun _ l o => o.1 ∈ l ∧ gCur o.2 = true) a0 a1 (curPick a0 a1) := (f24_sp a0 a1 hg).1
theorem f24_spec (a0 : CurT) (a1 : List ByteArray) (hg : gPickS a0 a1 = true) : ∃ keep rounds, ∀ {R : Type} (k : List Dt → Option R), evFn f24e keep rounds f24c [.pmut, .ro] [false] true [.tmp 4] [9] [.d .cur a0, .d (.sl .str) a1] k = k [.d .str ((curPick a0 a1).1), .d .cur ((curPick a0 a1).2)] := by
  obtain ⟨n, hn⟩ := (f24_sp a0 a1 hg).2
  exact ⟨f24k, n, hn⟩

noncomputable def q24 : List Dt → Option (Bool × List Dt)
  | [.d .cur a0, .d (.sl .str) a1] => some ((gPickS a0 a1), [.d .str ((curPick a0 a1).1), .d .cur ((curPick a0 a1).2)])
  | _ => none
noncomputable def s24 : Gm.Spec := Gm.Spec.of [.pmut, .ro] [false] true q24
theorem good24 : Gm.Good Tryd.prog (24, s24) := by
  have hl : ∀ x ∈ [(23, s23)], Gm.Good Tryd.prog x := List.forall_mem_cons.2 ⟨good23, List.forall_mem_nil _⟩
  refine ⟨⟨spec_ok (tab_ok.env hl) (tab.natl hl) Tryd.func24 (by kernel_rfl : Tryd.f24.body = some f24c) [9] (by kernel_rfl) ?_, _, Tryd.func24, by kernel_rfl, of_decide_eq_true (by kernel_rfl)⟩, Gm.Spec.of_natl _ _ _ _⟩
  intro ds outs h
  unfold q24 at h
  split at h
  · simp only [Option.some.injEq, Prod.mk.injEq] at h; obtain ⟨hg, h⟩ := h; cases h; exact f24_spec _ _ hg
  · cases h
end Go.Proofs.YtinbejnakemfjaaDoor

/- x -/
namespace Go.Proofs
open Go.Shelf Go.RowKit
def Tryd.laysRepl_ren : Go.Shelf.Ren := ⟨fun | 155 => 19 | 154 => 25 | 138 => 28 | 165 => 29 | 143 => 30 | 166 => 31 | 197 => 32 | 169 => 33 | 195 => 35 | 218 => 36 | 240 => 37 | 241 => 38 | 219 => 39 | 260 => 40 | 276 => 41 | 277 => 42 | 217 => 43 | 225 => 44 | 224 => 45 | 267 => 46 | 266 => 47 | 314 => 48 | n => n, fun | 9 => 9 | 3 => 3 | 4 => 4 | 72 => 50 | 0 => 0 | 76 => 54 | 105 => 56 | 21 => 21 | 5 => 5 | 70 => 48 | 20 => 20 | 37 => 31 | 75 => 53 | 127 => 63 | 164 => 64 | 46 => 60 | 119 => 68 | 139 => 71 | 138 => 70 | 146 => 73 | 51 => 72 | 80 => 58 | n => n, fun | 1 => 0 | 3 => 1 | 4 => 2 | n => n⟩
theorem Tryd.laysRepl : Go.Proofs.LaysM.n155 Tryd.prog Tryd.laysRepl_ren := {
  mixed := by kernel_rfl
  f138 := Tryd.func28.trans (congrArg some (by kernel_rfl))
  f143 := Tryd.func30.trans (congrArg some (by kernel_rfl))
  f154 := Tryd.func25.trans (congrArg some (by kernel_rfl))
  f155 := Tryd.func19.trans (congrArg some (by kernel_rfl))
  f165 := Tryd.func29.trans (congrArg some (by kernel_rfl))
  f166 := Tryd.func31.trans (congrArg some (by kernel_rfl))
  f169 := Tryd.func33.trans (congrArg some (by kernel_rfl))
  f195 := Tryd.func35.trans (congrArg some (by kernel_rfl))
  f197 := Tryd.func32.trans (congrArg some (by kernel_rfl))
  f217 := Tryd.func43.trans (congrArg some (by kernel_rfl))
  f218 := Tryd.func36.trans (congrArg some (by kernel_rfl))
  f219 := Tryd.func39.trans (congrArg some (by kernel_rfl))
  f224 := Tryd.func45.trans (congrArg some (by kernel_rfl))
  f225 := Tryd.func44.trans (congrArg some (by kernel_rfl))
  f240 := Tryd.func37.trans (congrArg some (by kernel_rfl))
  f241 := Tryd.func38.trans (congrArg some (by kernel_rfl))
  f260 := Tryd.func40.trans (congrArg some (by kernel_rfl))
  f266 := Tryd.func47.trans (congrArg some (by kernel_rfl))
  f267 := Tryd.func46.trans (congrArg some (by kernel_rfl))
  f276 := Tryd.func41.trans (congrArg some (by kernel_rfl))
  f277 := Tryd.func42.trans (congrArg some (by kernel_rfl))
  f314 := Tryd.func48.trans (congrArg some (by kernel_rfl))
  t0 := Tryd.underlying0
  a0 := Tryd.isAgg0
  z0 := Tryd.sizeOf0
  v0 := Tryd.zeroValue0
  t3 := Tryd.underlying3
  a3 := Tryd.isAgg3
  z3 := Tryd.sizeOf3
  v3 := Tryd.zeroValue3
  t4 := Tryd.underlying4
  a4 := Tryd.isAgg4
  z4 := Tryd.sizeOf4
  v4 := Tryd.zeroValue4
  t5 := Tryd.underlying5
  a5 := Tryd.isAgg5
  z5 := Tryd.sizeOf5
  v5 := Tryd.zeroValue5
  t9 := Tryd.underlying9
  a9 := Tryd.isAgg9
  z9 := Tryd.sizeOf9
  v9 := Tryd.zeroValue9
  t20 := Tryd.underlying20
  a20 := Tryd.isAgg20
  z20 := Tryd.sizeOf20
  v20 := Tryd.zeroValue20
  t21 := Tryd.underlying21
  a21 := Tryd.isAgg21
  z21 := Tryd.sizeOf21
  v21 := Tryd.zeroValue21
  t37 := Tryd.underlying31
  a37 := Tryd.isAgg31
  z37 := Tryd.sizeOf31
  v37 := Tryd.zeroValue31
  t46 := Tryd.underlying60
  a46 := Tryd.isAgg60
  z46 := Tryd.sizeOf60
  v46 := Tryd.zeroValue60
  t51 := Tryd.underlying72
  a51 := Tryd.isAgg72
  z51 := Tryd.sizeOf72
  v51 := Tryd.zeroValue72
  t70 := Tryd.underlying48
  a70 := Tryd.isAgg48
  z70 := Tryd.sizeOf48
  v70 := Tryd.zeroValue48
  t72 := Tryd.underlying50
  a72 := Tryd.isAgg50
  z72 := Tryd.sizeOf50
  v72 := Tryd.zeroValue50
  t75 := Tryd.underlying53
  a75 := Tryd.isAgg53
  z75 := Tryd.sizeOf53
  v75 := Tryd.zeroValue53
  t76 := Tryd.underlying54
  a76 := Tryd.isAgg54
  z76 := Tryd.sizeOf54
  v76 := Tryd.zeroValue54
  t105 := Tryd.underlying56
  a105 := Tryd.isAgg56
  z105 := Tryd.sizeOf56
  v105 := Tryd.zeroValue56
  t119 := Tryd.underlying68
  a119 := Tryd.isAgg68
  z119 := Tryd.sizeOf68
  t127 := Tryd.underlying63
  a127 := Tryd.isAgg63
  z127 := Tryd.sizeOf63
  v127 := Tryd.zeroValue63
  t138 := Tryd.underlying70
  a138 := Tryd.isAgg70
  z138 := Tryd.sizeOf70
  v138 := Tryd.zeroValue70
  t139 := Tryd.underlying71
  a139 := Tryd.isAgg71
  z139 := Tryd.sizeOf71
  v139 := Tryd.zeroValue71
  t146 := Tryd.underlying73
  a146 := Tryd.isAgg73
  z146 := Tryd.sizeOf73
  v146 := Tryd.zeroValue73
  t164 := Tryd.underlying64
  a164 := Tryd.isAgg64
  z164 := Tryd.sizeOf64
  v164 := Tryd.zeroValue64
  g1 := by kernel_rfl
  g3 := by kernel_rfl
  g4 := by kernel_rfl
  t80 := Tryd.underlying58
  a80 := Tryd.isAgg58
  z80 := Tryd.sizeOf58
  v80 := Tryd.zeroValue58
  i0 := by kernel_rfl
  i3 := by kernel_rfl
  i4 := by kernel_rfl
  i5 := by kernel_rfl
  i9 := by kernel_rfl
  i20 := by kernel_rfl
  i21 := by kernel_rfl
  i37 := by kernel_rfl
  i46 := by kernel_rfl
  i51 := by kernel_rfl
  i70 := by kernel_rfl
  i72 := by kernel_rfl
  i75 := by kernel_rfl
  i76 := by kernel_rfl
  i80 := by kernel_rfl
  i105 := by kernel_rfl
  i127 := by kernel_rfl
  i138 := by kernel_rfl
  i139 := by kernel_rfl
  i146 := by kernel_rfl
  i164 := by kernel_rfl
  m1 := by kernel_rfl
  s1_3 := fun w h => Go.Proofs.cell_of_shapedOpen_int (zero := #[.int .i64 0]) (t := 3) h (of_decide_eq_true (by kernel_rfl)) (by kernel_rfl) rfl (by kernel_rfl) (by kernel_rfl) Tryd.underlying3
  m3 := by kernel_rfl
  m4 := by kernel_rfl }

theorem Tryd.extra : Builder.Extra Tryd.prog Tryd.laysRepl_ren := {
  sizeBuilder := by kernel_rfl
  liesBuilder := by kernel_rfl
  t5 := Tryd.underlying5
  a5 := Tryd.isAgg5
  z5 := Tryd.sizeOf5
  v5 := Tryd.zeroValue5
  infoByte := by kernel_rfl
  cellsByte := by kernel_rfl
  sizeByte := by kernel_rfl
  neB5 := by decide }
end Go.Proofs
namespace Go.Proofs.YtinbejnakemfjaaDoor
open Go Go.Gm Go.RowKit
noncomputable def q19 : List Dt → Option (Bool × List Dt)
  | [.d .str a0, .d .str a1, .d .str a2] => some (gRepl a0 a1 a2, [.d .str (replS a0 a1 a2)])
  | _ => none
noncomputable def s19 : Gm.Spec := Gm.Spec.of [.ro, .ro, .ro] [false] true q19
theorem good19 : Gm.Good Tryd.prog (19, s19) := by
  refine ⟨⟨spec_growW rfl ?_, _, Tryd.func19, by kernel_rfl, of_decide_eq_true (by kernel_rfl)⟩, Gm.Spec.of_natl _ _ _ _⟩
  intro ds outs h
  unfold q19 at h
  split at h
  · rename_i a0 a1 a2
    simp only [Option.some.injEq, Prod.mk.injEq] at h
    obtain ⟨hg, h⟩ := h
    cases h
    refine ⟨_, _, .string (replS a0 a1 a2), rfl, rfl, rfl, rfl, fun w us ROa Fs hW hB hA hlt => ?_⟩
    cases hA with
    | cons h1 hA =>
      cases hA with
      | cons h2 hA =>
        cases hA with
        | cons h3 hA =>
        cases hA
        have e1 := valRd_v (t := .str) (v := .string a0) rfl rfl h1
        have e2 := valRd_v (t := .str) (v := .string a1) rfl rfl h2
        have e3 := valRd_v (t := .str) (v := .string a2) rfl rfl h3
        subst e1; subst e2; subst e3
        obtain ⟨g1, g2, g3⟩ := gRepl_iff hg
        obtain ⟨m, hm⟩ := Go.Proofs.Tryd.laysRepl.s1_3 _ hW
        exact Go.Proofs.Any.strings_ReplaceAll { Go.Proofs.Tryd.laysRepl with } Go.Proofs.Tryd.extra a0 a1 a2 m w g1 (hB.cell hm) g2 g3
  · cases h
end Go.Proofs.YtinbejnakemfjaaDoor

/- x -/
namespace Go.Proofs.YtinbejnakemfjaaDoor
open Go Go.Gm
/-! ### loop.example/g00465/spec.PtrText -/
noncomputable def f7c : Code := (Tryd.f7.body).getD .skip
def f7k : Nat → Kp := kat [⟨[0], [], [], []⟩, ⟨[0, 3], [], [], []⟩, ⟨[0, 3, 4], [], [], []⟩, ⟨[0, 3, 4, 10], [], [], []⟩, ⟨[0, 3, 4], [], [], []⟩, ⟨[0, 3, 4], [], [], []⟩, ⟨[0, 3, 4, 5], [], [], []⟩, ⟨[0, 3, 4, 5, 22], [], [], []⟩, ⟨[0, 3, 4, 5], [], [], []⟩, ⟨[0, 3, 4, 5, 30], [], [], []⟩, ⟨[0, 3, 4, 5], [], [], []⟩, ⟨[0, 3, 4, 5, 30, 40], [], [], []⟩, ⟨[0, 3, 4, 5], [], [], []⟩, ⟨[0, 3, 4, 5, 45], [], [], []⟩, ⟨[0, 3, 4, 5], [], [], []⟩, ⟨[2], [], [], []⟩]
noncomputable def f7e : Env := tab.env []
noncomputable def f7L0 {R : Type} (n : Nat) (x0 : Int → Bool → (List Int) → Option R) (vs0 : List ByteArray) (vs4 : Int) : Nat → Int → (List Int) → Option R
  | 0, _, _ => none
  | m + 1, vs5, vr384 =>
    (cond ((decide ((0 : Int) ≤ vs4)) && (decide (vs4 < (vs0.length : Int))))
      (cond (decide (vs5 < (ByteArray.size (atI (t := .str) vs0 (Int.toNat vs4)) : Int)))
        (cond ((decide ((0 : Int) ≤ vs4)) && (decide (vs4 < (vs0.length : Int))))
          (cond ((decide ((0 : Int) ≤ vs5)) && (decide (vs5 < (ByteArray.size (atI (t := .str) vs0 (Int.toNat vs4)) : Int))))
            (cond ((((ByteArray.data (atI (t := .str) vs0 (Int.toNat vs4))).getD (Int.toNat vs5) 0).toNat : Int) == (126 : Int))
              (cond (Nat.ble (vr384.length + 2) LIM)
                (f7L0 n x0 vs0 vs4 m (IntKind.wrap .i64 (vs5 + (1 : Int))) (vr384 ++ ([(126 : Int), (48 : Int)] : List Int)))
                none)
              (cond ((((ByteArray.data (atI (t := .str) vs0 (Int.toNat vs4))).getD (Int.toNat vs5) 0).toNat : Int) == (47 : Int))
                (cond (Nat.ble (vr384.length + 2) LIM)
                  (f7L0 n x0 vs0 vs4 m (IntKind.wrap .i64 (vs5 + (1 : Int))) (vr384 ++ ([(126 : Int), (49 : Int)] : List Int)))
                  none)
                (cond ((decide ((0 : Int) ≤ vs4)) && (decide (vs4 < (vs0.length : Int))))
                  (cond ((decide ((0 : Int) ≤ vs5)) && (decide (vs5 < (ByteArray.size (atI (t := .str) vs0 (Int.toNat vs4)) : Int))))
                    (cond (Nat.ble (vr384.length + 1) LIM)
                      (f7L0 n x0 vs0 vs4 m (IntKind.wrap .i64 (vs5 + (1 : Int))) (vr384 ++ ([(((ByteArray.data (atI (t := .str) vs0 (Int.toNat vs4))).getD (Int.toNat vs5) 0).toNat : Int)] : List Int)))
                      none)
                    none)
                  none)))
            none)
          none)
        (x0 vs5 (decide (vs5 < (ByteArray.size (atI (t := .str) vs0 (Int.toNat vs4)) : Int))) vr384))
      none)
theorem f7L0_b {R : Type} (n : Nat) (k' : Ex → St → Option R) (vs0 : List ByteArray) (vs4 : Int) (vs5 : Int) (vr384 : List Int) : ev f7e f7k n (cAt [1,1,0,1,0,0,1,0,0,1,1,0,0] f7c) ⟨[(0, .c (.one (.ro .str vs0))), (3, .c (.one (.h 384 0 0 []))), (4, .c (.one (.v (.int .i64 vs4)))), (5, .c (.one (.v (.int .i64 vs5))))], [], [(384, .live ⟨(.i .u8), .deep, 0, [], vr384⟩)]⟩ k' =
    (cond ((decide ((0 : Int) ≤ vs4)) && (decide (vs4 < (vs0.length : Int))))
    (cond (decide (vs5 < (ByteArray.size (atI (t := .str) vs0 (Int.toNat vs4)) : Int)))
      (cond ((decide ((0 : Int) ≤ vs4)) && (decide (vs4 < (vs0.length : Int))))
        (cond ((decide ((0 : Int) ≤ vs5)) && (decide (vs5 < (ByteArray.size (atI (t := .str) vs0 (Int.toNat vs4)) : Int))))
          (cond ((((ByteArray.data (atI (t := .str) vs0 (Int.toNat vs4))).getD (Int.toNat vs5) 0).toNat : Int) == (126 : Int))
            (cond (Nat.ble (vr384.length + 2) LIM)
              (k' .normal ⟨[(0, .c (.one (.ro .str vs0))), (3, .c (.one (.h 384 0 0 []))), (4, .c (.one (.v (.int .i64 vs4)))), (5, .c (.one (.v (.int .i64 (IntKind.wrap .i64 (vs5 + (1 : Int)))))))], [], [(384, .live ⟨(.i .u8), .deep, 0, [], (vr384 ++ ([(126 : Int), (48 : Int)] : List Int))⟩)]⟩)
              none)
            (cond ((((ByteArray.data (atI (t := .str) vs0 (Int.toNat vs4))).getD (Int.toNat vs5) 0).toNat : Int) == (47 : Int))
              (cond (Nat.ble (vr384.length + 2) LIM)
                (k' .normal ⟨[(0, .c (.one (.ro .str vs0))), (3, .c (.one (.h 384 0 0 []))), (4, .c (.one (.v (.int .i64 vs4)))), (5, .c (.one (.v (.int .i64 (IntKind.wrap .i64 (vs5 + (1 : Int)))))))], [], [(384, .live ⟨(.i .u8), .deep, 0, [], (vr384 ++ ([(126 : Int), (49 : Int)] : List Int))⟩)]⟩)
                none)
              (cond ((decide ((0 : Int) ≤ vs4)) && (decide (vs4 < (vs0.length : Int))))
                (cond ((decide ((0 : Int) ≤ vs5)) && (decide (vs5 < (ByteArray.size (atI (t := .str) vs0 (Int.toNat vs4)) : Int))))
                  (cond (Nat.ble (vr384.length + 1) LIM)
                    (k' .normal ⟨[(0, .c (.one (.ro .str vs0))), (3, .c (.one (.h 384 0 0 []))), (4, .c (.one (.v (.int .i64 vs4)))), (5, .c (.one (.v (.int .i64 (IntKind.wrap .i64 (vs5 + (1 : Int)))))))], [], [(384, .live ⟨(.i .u8), .deep, 0, [], (vr384 ++ ([(((ByteArray.data (atI (t := .str) vs0 (Int.toNat vs4))).getD (Int.toNat vs5) 0).toNat : Int)] : List Int))⟩)]⟩)
                    none)
                  none)
                none)))
          none)
        none)
      (k' (.exit 2) ⟨[(0, .c (.one (.ro .str vs0))), (3, .c (.one (.h 384 0 0 []))), (4, .c (.one (.v (.int .i64 vs4)))), (5, .c (.one (.v (.int .i64 vs5)))), (22, .c (.one (.v (.bool (decide (vs5 < (ByteArray.size (atI (t := .str) vs0 (Int.toNat vs4)) : Int)))))))], [], [(384, .live ⟨(.i .u8), .deep, 0, [], vr384⟩)]⟩))
    none) := by kernel_rfl
theorem f7L0_eq {R : Type} (n : Nat) (k' : Ex → St → Option R) (vs0 : List ByteArray) (vs4 : Int) : ∀ (m : Nat) (vs5 : Int) (vr384 : List Int), iter (fun st k => ev f7e f7k n (cAt [1,1,0,1,0,0,1,0,0,1,1,0,0] f7c) st k) m ⟨[(0, .c (.one (.ro .str vs0))), (3, .c (.one (.h 384 0 0 []))), (4, .c (.one (.v (.int .i64 vs4)))), (5, .c (.one (.v (.int .i64 vs5))))], [], [(384, .live ⟨(.i .u8), .deep, 0, [], vr384⟩)]⟩ k' = f7L0 n (fun (xvs5 : Int) (xvs22 : Bool) (xvr384 : List Int) => k' (.exit 2) ⟨[(0, .c (.one (.ro .str vs0))), (3, .c (.one (.h 384 0 0 []))), (4, .c (.one (.v (.int .i64 vs4)))), (5, .c (.one (.v (.int .i64 xvs5)))), (22, .c (.one (.v (.bool xvs22))))], [], [(384, .live ⟨(.i .u8), .deep, 0, [], xvr384⟩)]⟩) vs0 vs4 m vs5 vr384 := by
  intro m; induction m with
  | zero => intros; rfl
  | succ m ih =>
    intro vs5 vr384
    simp only [iter]
    rw [f7L0_b]
    simp only [ih, f7L0]

noncomputable def f7K0 {R : Type} (n : Nat) (k' : Ex → St → Option R) : Ex → St → Option R := (blockK 2 (blockK 1 (seqK f7e f7k n (cAt [1,1,0,1,0,0,1,1] f7c) k')))
theorem f7K0_x0 {R : Type} (n : Nat) (k' : Ex → St → Option R) (vs0 : List ByteArray) (vs4 : Int) (xvs5 : Int) (xvs22 : Bool) (xvr384 : List Int) : f7K0 n k' (.exit 2) ⟨[(0, .c (.one (.ro .str vs0))), (3, .c (.one (.h 384 0 0 []))), (4, .c (.one (.v (.int .i64 vs4)))), (5, .c (.one (.v (.int .i64 xvs5)))), (22, .c (.one (.v (.bool xvs22))))], [], [(384, .live ⟨(.i .u8), .deep, 0, [], xvr384⟩)]⟩ =
    (k' .normal ⟨[(0, .c (.one (.ro .str vs0))), (3, .c (.one (.h 384 0 0 []))), (4, .c (.one (.v (.int .i64 (IntKind.wrap .i64 (vs4 + (1 : Int)))))))], [], [(384, .live ⟨(.i .u8), .deep, 0, [], xvr384⟩)]⟩) := by kernel_rfl

noncomputable def f7L1 {R : Type} (n : Nat) (x0 : Int → Bool → (List Int) → Option R) (vs0 : List ByteArray) : Nat → Int → (List Int) → Option R
  | 0, _, _ => none
  | m + 1, vs4, vr384 =>
    (cond (decide (vs4 < (vs0.length : Int)))
      (cond (Nat.ble (vr384.length + 1) LIM)
        (f7L0 n (fun (xvs5 : Int) (xvs22 : Bool) (xvr384 : List Int) =>
          (f7L1 n x0 vs0 m (IntKind.wrap .i64 (vs4 + (1 : Int))) xvr384)) vs0 vs4 n (0 : Int) (vr384 ++ ([(47 : Int)] : List Int)))
        none)
      (x0 vs4 (decide (vs4 < (vs0.length : Int))) vr384))
theorem f7L1_b {R : Type} (n : Nat) (k' : Ex → St → Option R) (vs0 : List ByteArray) (vs4 : Int) (vr384 : List Int) : ev f7e f7k n (cAt [1,1,0,1,0,0] f7c) ⟨[(0, .c (.one (.ro .str vs0))), (3, .c (.one (.h 384 0 0 []))), (4, .c (.one (.v (.int .i64 vs4))))], [], [(384, .live ⟨(.i .u8), .deep, 0, [], vr384⟩)]⟩ k' =
    (cond (decide (vs4 < (vs0.length : Int)))
    (cond (Nat.ble (vr384.length + 1) LIM)
      (f7L0 n (fun (xvs5 : Int) (xvs22 : Bool) (xvr384 : List Int) =>
        (k' .normal ⟨[(0, .c (.one (.ro .str vs0))), (3, .c (.one (.h 384 0 0 []))), (4, .c (.one (.v (.int .i64 (IntKind.wrap .i64 (vs4 + (1 : Int)))))))], [], [(384, .live ⟨(.i .u8), .deep, 0, [], xvr384⟩)]⟩)) vs0 vs4 n (0 : Int) (vr384 ++ ([(47 : Int)] : List Int)))
      none)
    (k' (.exit 0) ⟨[(0, .c (.one (.ro .str vs0))), (3, .c (.one (.h 384 0 0 []))), (4, .c (.one (.v (.int .i64 vs4)))), (10, .c (.one (.v (.bool (decide (vs4 < (vs0.length : Int)))))))], [], [(384, .live ⟨(.i .u8), .deep, 0, [], vr384⟩)]⟩)) := by
  refine Eq.trans (b := (cond (decide (vs4 < (vs0.length : Int)))
    (cond (Nat.ble (vr384.length + 1) LIM)
      (iter (fun st k => ev f7e f7k n (cAt [1,1,0,1,0,0,1,0,0,1,1,0,0] f7c) st k) n ⟨[(0, .c (.one (.ro .str vs0))), (3, .c (.one (.h 384 0 0 []))), (4, .c (.one (.v (.int .i64 vs4)))), (5, .c (.one (.v (.int .i64 (0 : Int)))))], [], [(384, .live ⟨(.i .u8), .deep, 0, [], (vr384 ++ ([(47 : Int)] : List Int))⟩)]⟩ (f7K0 n k'))
      none)
    (k' (.exit 0) ⟨[(0, .c (.one (.ro .str vs0))), (3, .c (.one (.h 384 0 0 []))), (4, .c (.one (.v (.int .i64 vs4)))), (10, .c (.one (.v (.bool (decide (vs4 < (vs0.length : Int)))))))], [], [(384, .live ⟨(.i .u8), .deep, 0, [], vr384⟩)]⟩))) (by kernel_rfl) ?_
  simp only [f7L0_eq, f7K0_x0]
theorem f7L1_eq {R : Type} (n : Nat) (k' : Ex → St → Option R) (vs0 : List ByteArray) : ∀ (m : Nat) (vs4 : Int) (vr384 : List Int), iter (fun st k => ev f7e f7k n (cAt [1,1,0,1,0,0] f7c) st k) m ⟨[(0, .c (.one (.ro .str vs0))), (3, .c (.one (.h 384 0 0 []))), (4, .c (.one (.v (.int .i64 vs4))))], [], [(384, .live ⟨(.i .u8), .deep, 0, [], vr384⟩)]⟩ k' = f7L1 n (fun (xvs4 : Int) (xvs10 : Bool) (xvr384 : List Int) => k' (.exit 0) ⟨[(0, .c (.one (.ro .str vs0))), (3, .c (.one (.h 384 0 0 []))), (4, .c (.one (.v (.int .i64 xvs4)))), (10, .c (.one (.v (.bool xvs10))))], [], [(384, .live ⟨(.i .u8), .deep, 0, [], xvr384⟩)]⟩) vs0 m vs4 vr384 := by
  intro m; induction m with
  | zero => intros; rfl
  | succ m ih =>
    intro vs4 vr384
    simp only [iter]
    rw [f7L1_b]
    simp only [ih, f7L1]

noncomputable def f7K1 {R : Type} (n : Nat) (k' : Ex → St → Option R) : Ex → St → Option R := (blockK 0 (seqK f7e f7k n (cAt [1,1,1] f7c) k'))
theorem f7K1_x0 {R : Type} (n : Nat) (k : List Dt → Option R) (a0 : List ByteArray) (vs0 : List ByteArray) (xvs4 : Int) (xvs10 : Bool) (xvr384 : List Int) : f7K1 n (exitK f7e [.ro] [false] true [.tmp 2] [9] [.d (.sl .str) a0] k) (.exit 0) ⟨[(0, .c (.one (.ro .str vs0))), (3, .c (.one (.h 384 0 0 []))), (4, .c (.one (.v (.int .i64 xvs4)))), (10, .c (.one (.v (.bool xvs10))))], [], [(384, .live ⟨(.i .u8), .deep, 0, [], xvr384⟩)]⟩ =
    (k [.d .str (bytesOf xvr384)]) := by kernel_rfl

theorem f7_run {R : Type} (n : Nat) (k : List Dt → Option R) (a0 : List ByteArray) : evFn f7e f7k n f7c [.ro] [false] true [.tmp 2] [9] [.d (.sl .str) a0] k =
    (f7L1 n (fun (xvs4 : Int) (xvs10 : Bool) (xvr384 : List Int) =>
    (k [.d .str (bytesOf xvr384)])) a0 n (0 : Int) ([] : List Int)) := by
  refine Eq.trans (b := (iter (fun st k => ev f7e f7k n (cAt [1,1,0,1,0,0] f7c) st k) n ⟨[(0, .c (.one (.ro .str a0))), (3, .c (.one (.h 384 0 0 []))), (4, .c (.one (.v (.int .i64 (0 : Int)))))], [], [(384, .live ⟨(.i .u8), .deep, 0, [], ([] : List Int)⟩)]⟩ (f7K1 n (exitK f7e [.ro] [false] true [.tmp 2] [9] [.d (.sl .str) a0] k)))) (by kernel_rfl) ?_
  simp only [f7L1_eq, f7K1_x0]
theorem f7_spec (a0 : List ByteArray) (hg : gPtrT a0 = true) : ∃ keep rounds, ∀ {R : Type} (k : List Dt → Option R), evFn f7e keep rounds f7c [.ro] [false] true [.tmp 2] [9] [.d (.sl .str) a0] k = k [.d .str (ptrText a0)] := by
  have hl : szL ByteArray.size a0 ≤ 2097152 := bleN hg
  have hn := szL_ge ByteArray.size a0
  refine ⟨f7k, 2097153, fun {R} k => ?_⟩
  rw [f7_run]
  generalize hN : (2097153 : Nat) = N
  have inner : ∀ (i : Nat) (s : ByteArray), a0[i]? = some s → ∀ (X : Int → Bool → List Int → Option R) (Y : List Int → Option R), (∀ j b l, X j b l = Y l) → ∀ (d j m : Nat) (acc : List Int), j + d = s.size → d < m → acc.length + 2 * d ≤ 1000000000 →
      f7L0 N X a0 (i : Int) m (j : Int) acc = Y (acc ++ toI ((s.data.toList.drop j).flatMap escB)) := by
    intro i s hs X Y hX d
    obtain ⟨h1, h0, hw, ht⟩ := idx (lt_of_get hs) (by omega)
    have hss := sizes_at hs
    induction d with
    | zero =>
      intro j m acc hj hm ha
      obtain ⟨m, rfl⟩ : ∃ m', m = m' + 1 := ⟨m - 1, by omega⟩
      simp only [f7L0, h1, h0, ht, atI_of (t := .str) hs, Bool.and_self, cond_true, decide_eq_false (show ¬ ((j : Int) < (s.size : Int)) by omega), cond_false, hX]
      rw [List.drop_eq_nil_of_le (by have : s.data.toList.length = s.size := bszL _
                                     omega)]
      simp [toI]
    | succ d ih =>
      intro j m acc hj hm ha
      obtain ⟨m, rfl⟩ : ∃ m', m = m' + 1 := ⟨m - 1, by omega⟩
      have hjl : j < s.size := by omega
      obtain ⟨k1, k0, kw, kt⟩ := idx hjl (by omega)
      have hjs : j < s.data.toList.length := by
        have : s.data.toList.length = s.size := bszL _
        omega
      have hdrop : s.data.toList.drop j = s.data.toList[j] :: s.data.toList.drop (j + 1) := List.drop_eq_getElem_cons hjs
      have hget : s.data.getD j 0 = s.data.toList[j] := by
        have hja : j < s.data.size := hjl
        rw [Array.getD_eq_getD_getElem?, Array.getElem?_eq_getElem hja]
        simp
      rw [hdrop, List.flatMap_cons]
      generalize s.data.toList[j] = b at *
      have l1 := (Nat.ble_eq_true_of_le (by have : (LIM : Nat) = 4294967296 := rfl; omega) : Nat.ble (acc.length + 1) LIM = true)
      have l2 := (Nat.ble_eq_true_of_le (by have : (LIM : Nat) = 4294967296 := rfl; omega) : Nat.ble (acc.length + 2) LIM = true)
      have e1 := byteI b 126
      have e2 := byteI b 47
      have e1 : (((b.toNat : Int)) == (126 : Int)) = decide (b = 126) := e1
      have e2 : (((b.toNat : Int)) == (47 : Int)) = decide (b = 47) := e2
      simp only [f7L0, h1, h0, ht, atI_of (t := .str) hs, k1, k0, kt, kw, hget, e1, e2, l1, l2, Bool.and_self, cond_true]
      by_cases hb1 : b = 126
      · simp only [hb1, decide_true, cond_true]
        rw [ih (j + 1) m _ (by omega) (by omega) (by simp only [List.length_append, List.length_cons, List.length_nil]; omega), List.append_assoc]
        rfl
      · by_cases hb2 : b = 47
        · simp only [hb2, decide_true, cond_true, show decide ((47 : UInt8) = 126) = false from rfl, cond_false]
          rw [ih (j + 1) m _ (by omega) (by omega) (by simp only [List.length_append, List.length_cons, List.length_nil]; omega), List.append_assoc]
          rfl
        · simp only [hb1, hb2, decide_false, cond_false]
          rw [ih (j + 1) m _ (by omega) (by omega) (by simp only [List.length_append, List.length_cons, List.length_nil]; omega), List.append_assoc]
          simp only [escB, if_neg hb1, if_neg hb2]; rfl
  refine Eq.trans (loop_acc (xs := a0) (F := fun m j out => f7L1 N _ a0 m (j : Int) out) (f := fun out s => out ++ toI (stepB s)) (good := fun out => k [.d .str (bytesOf out)]) (fun j out => out.length + 2 * szL ByteArray.size (a0.drop j) ≤ 4194304)
    (fun j out x hx hi => ?_) (fun m j out x hx hi => ?_) (fun m out hi => by simp only [f7L1, idxE, cond_false]) a0.length 0 N [] (by omega) (by omega) (by simp only [List.drop_zero, List.length_nil]; omega)) ?_
  · have hd := szL_drop hx
    have h2 := esc_len x.data.toList
    have hxl : x.data.toList.length = x.size := bszL _
    have hi : out.length + 2 * szL ByteArray.size (a0.drop j) ≤ 4194304 := hi
    show (out ++ toI (stepB x)).length + 2 * szL ByteArray.size (a0.drop (j + 1)) ≤ 4194304
    rw [List.length_append, toI_len]
    simp only [stepB, List.length_cons]
    omega
  · obtain ⟨h1, h0, hw, ht⟩ := idx (lt_of_get hx) (by omega)
    have hs := sizes_at hx
    have hi : out.length + 2 * szL ByteArray.size (a0.drop j) ≤ 4194304 := hi
    have hd := szL_drop hx
    have hb : Nat.ble (out.length + 1) LIM = true := Nat.ble_eq_true_of_le (by have : (LIM : Nat) = 4294967296 := rfl; omega)
    simp only [f7L1, h1, hb, cond_true, hw]
    refine (inner j x hx _ (fun l => f7L1 N _ a0 m ((j + 1 : Nat) : Int) l) (fun _ _ _ => rfl) x.size 0 N _ (by omega) (by omega) (by simp only [List.length_append, List.length_cons, List.length_nil]; omega)).trans ?_
    rw [List.append_assoc]; rfl
  · rw [List.drop_zero]
    have key : ∀ (xs : List ByteArray) (l : List UInt8), xs.foldl (fun out s => out ++ toI (stepB s)) (toI l) = toI (l ++ xs.flatMap stepB) := by
      intro xs
      induction xs with
      | nil => intro l; simp
      | cons x r ih => intro l; rw [List.foldl_cons, show toI l ++ toI (stepB x) = toI (l ++ stepB x) by simp [toI], ih, List.flatMap_cons, List.append_assoc]
    have := key a0 []
    rw [show ([] : List Int) = toI [] from rfl, this, bytesOf_toI]; rfl

noncomputable def q7 : List Dt → Option (Bool × List Dt)
  | [.d (.sl .str) a0] => some ((gPtrT a0), [.d .str (ptrText a0)])
  | _ => none
noncomputable def s7 : Gm.Spec := Gm.Spec.of [.ro] [false] true q7
theorem good7 : Gm.Good Tryd.prog (7, s7) := by
  have hl : ∀ x ∈ ([] : List (Nat × Gm.Spec)), Gm.Good Tryd.prog x := fun _ h => by cases h
  refine ⟨⟨spec_ok (tab_ok.env hl) (tab.natl hl) Tryd.func7 (by kernel_rfl : Tryd.f7.body = some f7c) [9] (by kernel_rfl) ?_, _, Tryd.func7, by kernel_rfl, of_decide_eq_true (by kernel_rfl)⟩, Gm.Spec.of_natl _ _ _ _⟩
  intro ds outs h
  unfold q7 at h
  split at h
  · simp only [Option.some.injEq, Prod.mk.injEq] at h; obtain ⟨hg, h⟩ := h; cases h; exact f7_spec _ hg
  · cases h
/-! ### loop.example/g00465/impl.PtrText -/
noncomputable def f9c : Code := (Tryd.f9.body).getD .skip
def f9k : Nat → Kp := kat [⟨[0], [], [], []⟩, ⟨[0, 3], [], [], []⟩, ⟨[3, 6, 7, 8], [], [], []⟩, ⟨[3, 6, 7, 8, 9], [], [], []⟩, ⟨[3, 5, 6, 7, 8], [], [], []⟩, ⟨[3, 6, 7, 8], [], [], []⟩, ⟨[3, 6, 7, 8], [], [], []⟩, ⟨[2], [], [], []⟩]
noncomputable def f9e : Env := tab.env [(19, s19)]
noncomputable def f9L0 {R : Type} (n : Nat) (x0 : ByteArray → Int → Bool → Option R) (vs6 : List ByteArray) (vs7 : Int) : Nat → ByteArray → Int → Option R
  | 0, _, _ => none
  | m + 1, vs3, vs8 =>
    (cond (decide (vs8 < vs7))
      (cond ((decide ((0 : Int) ≤ vs8)) && (decide (vs8 < (vs6.length : Int))))
        (cond (gRepl (atI (t := .str) vs6 (Int.toNat vs8)) (bs [126]) (bs [126,48]))
          (cond (gRepl (replS (atI (t := .str) vs6 (Int.toNat vs8)) (bs [126]) (bs [126,48])) (bs [47]) (bs [126,49]))
            (cond (decide (ByteArray.size (bs [47]) + ByteArray.size (replS (replS (atI (t := .str) vs6 (Int.toNat vs8)) (bs [126]) (bs [126,48])) (bs [47]) (bs [126,49])) ≤ 9223372036854775807))
              (cond (decide (ByteArray.size vs3 + ByteArray.size ((bs [47]) ++ (replS (replS (atI (t := .str) vs6 (Int.toNat vs8)) (bs [126]) (bs [126,48])) (bs [47]) (bs [126,49]))) ≤ 9223372036854775807))
                (f9L0 n x0 vs6 vs7 m (vs3 ++ ((bs [47]) ++ (replS (replS (atI (t := .str) vs6 (Int.toNat vs8)) (bs [126]) (bs [126,48])) (bs [47]) (bs [126,49])))) (IntKind.wrap .i64 (vs8 + (1 : Int))))
                none)
              none)
            none)
          none)
        none)
      (x0 vs3 vs8 (decide (vs8 < vs7))))
theorem f9L0_b {R : Type} (n : Nat) (k' : Ex → St → Option R) (vs3 : ByteArray) (vs6 : List ByteArray) (vs7 : Int) (vs8 : Int) : ev f9e f9k n (cAt [1,1,0,1,0,0] f9c) ⟨[(3, .c (.one (.v (.string vs3)))), (6, .c (.one (.ro .str vs6))), (7, .c (.one (.v (.int .i64 vs7)))), (8, .c (.one (.v (.int .i64 vs8))))], [], []⟩ k' =
    (cond (decide (vs8 < vs7))
    (cond ((decide ((0 : Int) ≤ vs8)) && (decide (vs8 < (vs6.length : Int))))
      (cond (gRepl (atI (t := .str) vs6 (Int.toNat vs8)) (bs [126]) (bs [126,48]))
        (cond (gRepl (replS (atI (t := .str) vs6 (Int.toNat vs8)) (bs [126]) (bs [126,48])) (bs [47]) (bs [126,49]))
          (cond (decide (ByteArray.size (bs [47]) + ByteArray.size (replS (replS (atI (t := .str) vs6 (Int.toNat vs8)) (bs [126]) (bs [126,48])) (bs [47]) (bs [126,49])) ≤ 9223372036854775807))
            (cond (decide (ByteArray.size vs3 + ByteArray.size ((bs [47]) ++ (replS (replS (atI (t := .str) vs6 (Int.toNat vs8)) (bs [126]) (bs [126,48])) (bs [47]) (bs [126,49]))) ≤ 9223372036854775807))
              (k' .normal ⟨[(3, .c (.one (.v (.string (vs3 ++ ((bs [47]) ++ (replS (replS (atI (t := .str) vs6 (Int.toNat vs8)) (bs [126]) (bs [126,48])) (bs [47]) (bs [126,49])))))))), (6, .c (.one (.ro .str vs6))), (7, .c (.one (.v (.int .i64 vs7)))), (8, .c (.one (.v (.int .i64 (IntKind.wrap .i64 (vs8 + (1 : Int)))))))], [], []⟩)
              none)
            none)
          none)
        none)
      none)
    (k' (.exit 0) ⟨[(3, .c (.one (.v (.string vs3)))), (6, .c (.one (.ro .str vs6))), (7, .c (.one (.v (.int .i64 vs7)))), (8, .c (.one (.v (.int .i64 vs8)))), (9, .c (.one (.v (.bool (decide (vs8 < vs7))))))], [], []⟩)) := by kernel_rfl
theorem f9L0_eq {R : Type} (n : Nat) (k' : Ex → St → Option R) (vs6 : List ByteArray) (vs7 : Int) : ∀ (m : Nat) (vs3 : ByteArray) (vs8 : Int), iter (fun st k => ev f9e f9k n (cAt [1,1,0,1,0,0] f9c) st k) m ⟨[(3, .c (.one (.v (.string vs3)))), (6, .c (.one (.ro .str vs6))), (7, .c (.one (.v (.int .i64 vs7)))), (8, .c (.one (.v (.int .i64 vs8))))], [], []⟩ k' = f9L0 n (fun (xvs3 : ByteArray) (xvs8 : Int) (xvs9 : Bool) => k' (.exit 0) ⟨[(3, .c (.one (.v (.string xvs3)))), (6, .c (.one (.ro .str vs6))), (7, .c (.one (.v (.int .i64 vs7)))), (8, .c (.one (.v (.int .i64 xvs8)))), (9, .c (.one (.v (.bool xvs9))))], [], []⟩) vs6 vs7 m vs3 vs8 := by
  intro m; induction m with
  | zero => intros; rfl
  | succ m ih =>
    intro vs3 vs8
    simp only [iter]
    rw [f9L0_b]
    simp only [ih, f9L0]

noncomputable def f9K0 {R : Type} (n : Nat) (k' : Ex → St → Option R) : Ex → St → Option R := (blockK 0 (seqK f9e f9k n (cAt [1,1,1] f9c) k'))
theorem f9K0_x0 {R : Type} (n : Nat) (k : List Dt → Option R) (a0 : List ByteArray) (vs6 : List ByteArray) (vs7 : Int) (xvs3 : ByteArray) (xvs8 : Int) (xvs9 : Bool) : f9K0 n (exitK f9e [.ro] [false] true [.tmp 2] [9] [.d (.sl .str) a0] k) (.exit 0) ⟨[(3, .c (.one (.v (.string xvs3)))), (6, .c (.one (.ro .str vs6))), (7, .c (.one (.v (.int .i64 vs7)))), (8, .c (.one (.v (.int .i64 xvs8)))), (9, .c (.one (.v (.bool xvs9))))], [], []⟩ =
    (k [.d .str xvs3]) := by kernel_rfl

theorem f9_run {R : Type} (n : Nat) (k : List Dt → Option R) (a0 : List ByteArray) : evFn f9e f9k n f9c [.ro] [false] true [.tmp 2] [9] [.d (.sl .str) a0] k =
    (f9L0 n (fun (xvs3 : ByteArray) (xvs8 : Int) (xvs9 : Bool) =>
    (k [.d .str xvs3])) a0 (a0.length : Int) n ByteArray.empty (0 : Int)) := by
  refine Eq.trans (b := (iter (fun st k => ev f9e f9k n (cAt [1,1,0,1,0,0] f9c) st k) n ⟨[(3, .c (.one (.v (.string ByteArray.empty)))), (6, .c (.one (.ro .str a0))), (7, .c (.one (.v (.int .i64 (a0.length : Int))))), (8, .c (.one (.v (.int .i64 (0 : Int)))))], [], []⟩ (f9K0 n (exitK f9e [.ro] [false] true [.tmp 2] [9] [.d (.sl .str) a0] k)))) (by kernel_rfl) ?_
  simp only [f9L0_eq, f9K0_x0]
theorem f9_spec (a0 : List ByteArray) (hg : gPtrT a0 = true) : ∃ keep rounds, ∀ {R : Type} (k : List Dt → Option R), evFn f9e keep rounds f9c [.ro] [false] true [.tmp 2] [9] [.d (.sl .str) a0] k = k [.d .str (ptrText a0)] := by
  have hl : szL ByteArray.size a0 ≤ 2097152 := bleN hg
  have hn := szL_ge ByteArray.size a0
  refine ⟨f9k, a0.length + 1, fun {R} k => ?_⟩
  rw [f9_run]
  refine Eq.trans (loop_acc (xs := a0) (F := fun m j out => f9L0 (a0.length + 1) _ a0 (a0.length : Int) m out (j : Int)) (f := fun out s => out ++ mkB (stepB s)) (good := fun out => k [.d .str out]) (fun j out => out.size ≤ 5000000 * j)
    (fun j out x hx hi => ?_) (fun m j out x hx hi => ?_) (fun m out hi => by simp only [f9L0, idxE, cond_false]) a0.length 0 (a0.length + 1) ByteArray.empty (by omega) (by omega) (by simp)) ?_
  · have h1 := sizes_at hx
    have h2 := esc_len x.data.toList
    have hi : out.size ≤ 5000000 * j := hi
    show (out ++ mkB (stepB x)).size ≤ 5000000 * (j + 1)
    rw [ByteArray.size_append, mkB_size]
    simp only [stepB, List.length_cons]
    have : x.data.toList.length = x.size := bszL _
    rw [Nat.mul_add_one]; omega
  · obtain ⟨h1, h0, hw, ht⟩ := idx (lt_of_get hx) (by omega)
    have hj := lt_of_get hx
    have hs := sizes_at hx
    have hi : out.size ≤ 5000000 * j := hi
    have hr1 : gRepl x (bs [126]) (bs [126,48]) = true := by
      unfold gRepl; rw [Nat.ble_eq_true_of_le (by omega : x.size ≤ 2147483648)]; rfl
    have hsz := rep126_len x.data.toList
    have hxl : x.data.toList.length = x.size := bszL _
    have hr2 : gRepl (replS x (bs [126]) (bs [126,48])) (bs [47]) (bs [126,49]) = true := by
      unfold gRepl; rw [replS_1, mkB_size, Nat.ble_eq_true_of_le (by omega)]; rfl
    have he := esc_len x.data.toList
    have e : bs [47] ++ mkB (x.data.toList.flatMap escB) = mkB (stepB x) := by
      rw [show bs [47] = mkB [47] from rfl, mkB_app]; rfl
    have hz1 : decide (ByteArray.size (bs [47]) + ByteArray.size (mkB (x.data.toList.flatMap escB)) ≤ 9223372036854775807) = true := decide_eq_true (by rw [mkB_size, show (bs [47]).size = 1 from rfl]; omega)
    have hz2 : decide (ByteArray.size out + ByteArray.size (mkB (stepB x)) ≤ 9223372036854775807) = true := decide_eq_true (by rw [mkB_size]; simp only [stepB, List.length_cons]; omega)
    simp only [f9L0, h1, h0, hw, ht, atI_of (t := .str) hx, hr1, hr2, replS_2, hz1, e, hz2, Bool.and_self, cond_true]
  · rw [List.drop_zero]
    have key : ∀ (xs : List ByteArray) (l : List UInt8), xs.foldl (fun out s => out ++ mkB (stepB s)) (mkB l) = mkB (l ++ xs.flatMap stepB) := by
      intro xs
      induction xs with
      | nil => intro l; simp
      | cons x r ih => intro l; rw [List.foldl_cons, mkB_app, ih, List.flatMap_cons, List.append_assoc]
    have := key a0 []
    rw [show ByteArray.empty = mkB [] from rfl, this]; rfl

noncomputable def q9 : List Dt → Option (Bool × List Dt)
  | [.d (.sl .str) a0] => some ((gPtrT a0), [.d .str (ptrText a0)])
  | _ => none
noncomputable def s9 : Gm.Spec := Gm.Spec.of [.ro] [false] true q9
theorem good9 : Gm.Good Tryd.prog (9, s9) := by
  have hl : ∀ x ∈ [(19, s19)], Gm.Good Tryd.prog x := List.forall_mem_cons.2 ⟨good19, List.forall_mem_nil _⟩
  refine ⟨⟨spec_ok (tab_ok.env hl) (tab.natl hl) Tryd.func9 (by kernel_rfl : Tryd.f9.body = some f9c) [9] (by kernel_rfl) ?_, _, Tryd.func9, by kernel_rfl, of_decide_eq_true (by kernel_rfl)⟩, Gm.Spec.of_natl _ _ _ _⟩
  intro ds outs h
  unfold q9 at h
  split at h
  · simp only [Option.some.injEq, Prod.mk.injEq] at h; obtain ⟨hg, h⟩ := h; cases h; exact f9_spec _ hg
  · cases h
end Go.Proofs.YtinbejnakemfjaaDoor

/- x -/
namespace Go.Proofs
open Go.Shelf Go.RowKit
def Tryd.laysSplit_ren : Go.Shelf.Ren := ⟨fun | 146 => 20 | 221 => 26 | 268 => 34 | 138 => 28 | 143 => 30 | 195 => 35 | 197 => 32 | 218 => 36 | 219 => 39 | 260 => 40 | 217 => 43 | 225 => 44 | 224 => 45 | 267 => 46 | 266 => 47 | 314 => 48 | n => n, fun | 9 => 9 | 31 => 22 | 3 => 3 | 4 => 4 | 0 => 0 | 105 => 56 | 21 => 21 | 5 => 5 | 46 => 60 | 119 => 68 | 139 => 71 | 138 => 70 | 146 => 73 | 51 => 72 | n => n, fun | 1 => 0 | 3 => 1 | 4 => 2 | n => n⟩
theorem Tryd.laysSplit : Go.Proofs.LaysM.n146 Tryd.prog Tryd.laysSplit_ren := {
  mixed := by kernel_rfl
  f138 := Tryd.func28.trans (congrArg some (by kernel_rfl))
  f143 := Tryd.func30.trans (congrArg some (by kernel_rfl))
  f146 := Tryd.func20.trans (congrArg some (by kernel_rfl))
  f195 := Tryd.func35.trans (congrArg some (by kernel_rfl))
  f197 := Tryd.func32.trans (congrArg some (by kernel_rfl))
  f217 := Tryd.func43.trans (congrArg some (by kernel_rfl))
  f218 := Tryd.func36.trans (congrArg some (by kernel_rfl))
  f219 := Tryd.func39.trans (congrArg some (by kernel_rfl))
  f221 := Tryd.func26.trans (congrArg some (by kernel_rfl))
  f224 := Tryd.func45.trans (congrArg some (by kernel_rfl))
  f225 := Tryd.func44.trans (congrArg some (by kernel_rfl))
  f260 := Tryd.func40.trans (congrArg some (by kernel_rfl))
  f266 := Tryd.func47.trans (congrArg some (by kernel_rfl))
  f267 := Tryd.func46.trans (congrArg some (by kernel_rfl))
  f268 := Tryd.func34.trans (congrArg some (by kernel_rfl))
  f314 := Tryd.func48.trans (congrArg some (by kernel_rfl))
  t0 := Tryd.underlying0
  a0 := Tryd.isAgg0
  z0 := Tryd.sizeOf0
  v0 := Tryd.zeroValue0
  t3 := Tryd.underlying3
  a3 := Tryd.isAgg3
  z3 := Tryd.sizeOf3
  v3 := Tryd.zeroValue3
  t4 := Tryd.underlying4
  a4 := Tryd.isAgg4
  z4 := Tryd.sizeOf4
  v4 := Tryd.zeroValue4
  t5 := Tryd.underlying5
  a5 := Tryd.isAgg5
  z5 := Tryd.sizeOf5
  v5 := Tryd.zeroValue5
  t9 := Tryd.underlying9
  a9 := Tryd.isAgg9
  z9 := Tryd.sizeOf9
  v9 := Tryd.zeroValue9
  t21 := Tryd.underlying21
  a21 := Tryd.isAgg21
  z21 := Tryd.sizeOf21
  v21 := Tryd.zeroValue21
  t31 := Tryd.underlying22
  a31 := Tryd.isAgg22
  z31 := Tryd.sizeOf22
  v31 := Tryd.zeroValue22
  t46 := Tryd.underlying60
  a46 := Tryd.isAgg60
  z46 := Tryd.sizeOf60
  v46 := Tryd.zeroValue60
  t51 := Tryd.underlying72
  a51 := Tryd.isAgg72
  z51 := Tryd.sizeOf72
  v51 := Tryd.zeroValue72
  t105 := Tryd.underlying56
  a105 := Tryd.isAgg56
  z105 := Tryd.sizeOf56
  v105 := Tryd.zeroValue56
  t119 := Tryd.underlying68
  a119 := Tryd.isAgg68
  z119 := Tryd.sizeOf68
  t138 := Tryd.underlying70
  a138 := Tryd.isAgg70
  z138 := Tryd.sizeOf70
  v138 := Tryd.zeroValue70
  t139 := Tryd.underlying71
  a139 := Tryd.isAgg71
  z139 := Tryd.sizeOf71
  v139 := Tryd.zeroValue71
  t146 := Tryd.underlying73
  a146 := Tryd.isAgg73
  z146 := Tryd.sizeOf73
  v146 := Tryd.zeroValue73
  g1 := by kernel_rfl
  g3 := by kernel_rfl
  g4 := by kernel_rfl
  i0 := by kernel_rfl
  i3 := by kernel_rfl
  i4 := by kernel_rfl
  i5 := by kernel_rfl
  i9 := by kernel_rfl
  i21 := by kernel_rfl
  i31 := by kernel_rfl
  i46 := by kernel_rfl
  i51 := by kernel_rfl
  i105 := by kernel_rfl
  i138 := by kernel_rfl
  i139 := by kernel_rfl
  i146 := by kernel_rfl
  m1 := by kernel_rfl
  s1_3 := fun w h => Go.Proofs.cell_of_shapedOpen_int (zero := #[.int .i64 0]) (t := 3) h (of_decide_eq_true (by kernel_rfl)) (by kernel_rfl) rfl (by kernel_rfl) (by kernel_rfl) Tryd.underlying3
  m3 := by kernel_rfl
  m4 := by kernel_rfl }

end Go.Proofs
namespace Go.Proofs.YtinbejnakemfjaaDoor
open Go Go.Gm Go.RowKit
noncomputable def q20 : List Dt → Option (Bool × List Dt)
  | [.d .str a0, .d .str a1] => some (gSplit a0 a1, [.d (.sl .str) (splitS a0 a1)])
  | _ => none
noncomputable def s20 : Gm.Spec := Gm.Spec.of [.ro, .ro] [false] true q20
theorem good20 : Gm.Good Tryd.prog (20, s20) := by
  refine ⟨⟨spec_own1W rfl ?_, _, Tryd.func20, by kernel_rfl, of_decide_eq_true (by kernel_rfl)⟩, Gm.Spec.of_natl _ _ _ _⟩
  intro ds outs h
  unfold q20 at h
  split at h
  · rename_i a0 a1
    simp only [Option.some.injEq, Prod.mk.injEq] at h
    obtain ⟨hg, h⟩ := h
    cases h
    refine ⟨_, _, rfl, fun w us Mf ROa Fs hW hB hA hlt => ?_⟩
    cases hA with
    | cons h1 hA =>
      cases hA with
      | cons h2 hA =>
        cases hA
        have e1 := valRd_v (t := .str) (v := .string a0) rfl rfl h1
        have e2 := valRd_v (t := .str) (v := .string a1) rfl rfl h2
        subst e1; subst e2
        obtain ⟨g1, g2⟩ := gSplit_iff hg
        obtain ⟨m, hm⟩ := Go.Proofs.Tryd.laysSplit.s1_3 _ hW
        refine Calls.mono (Go.Proofs.Any.strings_Split { Go.Proofs.Tryd.laysSplit with } Go.Proofs.Tryd.laysSplit.i9 a0 a1 m w (by omega) (hB.cell hm) g2) ?_
        rintro e w' ⟨rfl, rfl⟩
        have hn : Lib.countB a0 a1 + 1 = (splitS a0 a1).length := (Lib.splitB_all a1 g2 0 _ a0 rfl).symm
        rw [hn]
        exact ⟨_, _, rfl, kept_alloc _ _ _, valOwn_strs w (splitS a0 a1) _, fun k hk => by subst hk; exact ⟨.inr (Nat.le_refl _), by simp⟩⟩
  · cases h
end Go.Proofs.YtinbejnakemfjaaDoor

/- x -/
namespace Go.Proofs.YtinbejnakemfjaaDoor
open Go Go.Gm
/-! ### loop.example/g00465/spec.PtrOf -/
noncomputable def f11c : Code := (Tryd.f11.body).getD .skip
def f11k : Nat → Kp := kat [⟨[0], [], [], []⟩, ⟨[0, 4], [], [], []⟩, ⟨[0, 4, 5], [], [], []⟩, ⟨[0, 4, 5, 6], [], [], []⟩, ⟨[0, 4, 5, 6, 12], [], [], []⟩, ⟨[0, 4, 5, 6], [], [], [(2112, 512)]⟩, ⟨[0, 4, 5, 6], [], [], []⟩, ⟨[0, 4, 5, 6, 21], [], [], []⟩, ⟨[0, 4, 5, 6, 27], [], [], []⟩, ⟨[0, 4, 6], [], [], []⟩, ⟨[0, 4, 5, 6], [], [], []⟩, ⟨[0, 4, 5, 6, 34], [], [], []⟩, ⟨[0, 4, 5, 6], [], [], []⟩, ⟨[0, 4, 5, 6], [], [], []⟩, ⟨[0, 4, 5, 6, 58], [], [], []⟩, ⟨[0, 4, 5, 6], [], [], []⟩, ⟨[0, 4, 5, 6], [], [], []⟩, ⟨[0, 4, 5, 83], [], [], []⟩, ⟨[0, 4], [], [], []⟩, ⟨[4, 92], [], [], []⟩, ⟨[2, 3], [], [], []⟩, ⟨[2, 3], [], [], []⟩]
noncomputable def f11e : Env := tab.env [(7, s7)]
noncomputable def f11L0 {R : Type} (n : Nat) (x0 : Int → Bool → (List ByteArray) → (List Int) → Option R) (vs0 : ByteArray) : Nat → Int → (List ByteArray) → (List Int) → Option R
  | 0, _, _, _ => none
  | m + 1, vs6, vr448, vr512 =>
    (cond (decide (vs6 < (ByteArray.size vs0 : Int)))
      (cond ((decide ((0 : Int) ≤ vs6)) && (decide (vs6 < (ByteArray.size vs0 : Int))))
        (cond ((((ByteArray.data vs0).getD (Int.toNat vs6) 0).toNat : Int) == (47 : Int))
          (cond (decide (vs6 > (0 : Int)))
            (cond (Nat.ble (vr448.length + 1) LIM)
              (f11L0 n x0 vs0 m (IntKind.wrap .i64 (vs6 + (1 : Int))) (vr448 ++ ([(bytesOf vr512)] : List ByteArray)) ([] : List Int))
              none)
            (f11L0 n x0 vs0 m (IntKind.wrap .i64 (vs6 + (1 : Int))) vr448 ([] : List Int)))
          (cond ((decide ((0 : Int) ≤ vs6)) && (decide (vs6 < (ByteArray.size vs0 : Int))))
            (cond ((((ByteArray.data vs0).getD (Int.toNat vs6) 0).toNat : Int) == (126 : Int))
              (cond (decide ((IntKind.wrap .i64 (vs6 + (1 : Int))) < (ByteArray.size vs0 : Int)))
                (cond ((decide ((0 : Int) ≤ (IntKind.wrap .i64 (vs6 + (1 : Int))))) && (decide ((IntKind.wrap .i64 (vs6 + (1 : Int))) < (ByteArray.size vs0 : Int))))
                  (cond ((((ByteArray.data vs0).getD (Int.toNat (IntKind.wrap .i64 (vs6 + (1 : Int)))) 0).toNat : Int) == (48 : Int))
                    (cond (Nat.ble (vr512.length + 1) LIM)
                      (f11L0 n x0 vs0 m (IntKind.wrap .i64 ((IntKind.wrap .i64 (vs6 + (1 : Int))) + (1 : Int))) vr448 (vr512 ++ ([(126 : Int)] : List Int)))
                      none)
                    (cond ((decide ((0 : Int) ≤ vs6)) && (decide (vs6 < (ByteArray.size vs0 : Int))))
                      (cond ((((ByteArray.data vs0).getD (Int.toNat vs6) 0).toNat : Int) == (126 : Int))
                        (cond (decide ((IntKind.wrap .i64 (vs6 + (1 : Int))) < (ByteArray.size vs0 : Int)))
                          (cond ((decide ((0 : Int) ≤ (IntKind.wrap .i64 (vs6 + (1 : Int))))) && (decide ((IntKind.wrap .i64 (vs6 + (1 : Int))) < (ByteArray.size vs0 : Int))))
                            (cond ((((ByteArray.data vs0).getD (Int.toNat (IntKind.wrap .i64 (vs6 + (1 : Int)))) 0).toNat : Int) == (49 : Int))
                              (cond (Nat.ble (vr512.length + 1) LIM)
                                (f11L0 n x0 vs0 m (IntKind.wrap .i64 ((IntKind.wrap .i64 (vs6 + (1 : Int))) + (1 : Int))) vr448 (vr512 ++ ([(47 : Int)] : List Int)))
                                none)
                              (cond ((decide ((0 : Int) ≤ vs6)) && (decide (vs6 < (ByteArray.size vs0 : Int))))
                                (cond (Nat.ble (vr512.length + 1) LIM)
                                  (f11L0 n x0 vs0 m (IntKind.wrap .i64 (vs6 + (1 : Int))) vr448 (vr512 ++ ([(((ByteArray.data vs0).getD (Int.toNat vs6) 0).toNat : Int)] : List Int)))
                                  none)
                                none))
                            none)
                          (cond ((decide ((0 : Int) ≤ vs6)) && (decide (vs6 < (ByteArray.size vs0 : Int))))
                            (cond (Nat.ble (vr512.length + 1) LIM)
                              (f11L0 n x0 vs0 m (IntKind.wrap .i64 (vs6 + (1 : Int))) vr448 (vr512 ++ ([(((ByteArray.data vs0).getD (Int.toNat vs6) 0).toNat : Int)] : List Int)))
                              none)
                            none))
                        (cond ((decide ((0 : Int) ≤ vs6)) && (decide (vs6 < (ByteArray.size vs0 : Int))))
                          (cond (Nat.ble (vr512.length + 1) LIM)
                            (f11L0 n x0 vs0 m (IntKind.wrap .i64 (vs6 + (1 : Int))) vr448 (vr512 ++ ([(((ByteArray.data vs0).getD (Int.toNat vs6) 0).toNat : Int)] : List Int)))
                            none)
                          none))
                      none))
                  none)
                (cond ((decide ((0 : Int) ≤ vs6)) && (decide (vs6 < (ByteArray.size vs0 : Int))))
                  (cond ((((ByteArray.data vs0).getD (Int.toNat vs6) 0).toNat : Int) == (126 : Int))
                    (cond (decide ((IntKind.wrap .i64 (vs6 + (1 : Int))) < (ByteArray.size vs0 : Int)))
                      (cond ((decide ((0 : Int) ≤ (IntKind.wrap .i64 (vs6 + (1 : Int))))) && (decide ((IntKind.wrap .i64 (vs6 + (1 : Int))) < (ByteArray.size vs0 : Int))))
                        (cond ((((ByteArray.data vs0).getD (Int.toNat (IntKind.wrap .i64 (vs6 + (1 : Int)))) 0).toNat : Int) == (49 : Int))
                          (cond (Nat.ble (vr512.length + 1) LIM)
                            (f11L0 n x0 vs0 m (IntKind.wrap .i64 ((IntKind.wrap .i64 (vs6 + (1 : Int))) + (1 : Int))) vr448 (vr512 ++ ([(47 : Int)] : List Int)))
                            none)
                          (cond ((decide ((0 : Int) ≤ vs6)) && (decide (vs6 < (ByteArray.size vs0 : Int))))
                            (cond (Nat.ble (vr512.length + 1) LIM)
                              (f11L0 n x0 vs0 m (IntKind.wrap .i64 (vs6 + (1 : Int))) vr448 (vr512 ++ ([(((ByteArray.data vs0).getD (Int.toNat vs6) 0).toNat : Int)] : List Int)))
                              none)
                            none))
                        none)
                      (cond ((decide ((0 : Int) ≤ vs6)) && (decide (vs6 < (ByteArray.size vs0 : Int))))
                        (cond (Nat.ble (vr512.length + 1) LIM)
                          (f11L0 n x0 vs0 m (IntKind.wrap .i64 (vs6 + (1 : Int))) vr448 (vr512 ++ ([(((ByteArray.data vs0).getD (Int.toNat vs6) 0).toNat : Int)] : List Int)))
                          none)
                        none))
                    (cond ((decide ((0 : Int) ≤ vs6)) && (decide (vs6 < (ByteArray.size vs0 : Int))))
                      (cond (Nat.ble (vr512.length + 1) LIM)
                        (f11L0 n x0 vs0 m (IntKind.wrap .i64 (vs6 + (1 : Int))) vr448 (vr512 ++ ([(((ByteArray.data vs0).getD (Int.toNat vs6) 0).toNat : Int)] : List Int)))
                        none)
                      none))
                  none))
              (cond ((decide ((0 : Int) ≤ vs6)) && (decide (vs6 < (ByteArray.size vs0 : Int))))
                (cond ((((ByteArray.data vs0).getD (Int.toNat vs6) 0).toNat : Int) == (126 : Int))
                  (cond (decide ((IntKind.wrap .i64 (vs6 + (1 : Int))) < (ByteArray.size vs0 : Int)))
                    (cond ((decide ((0 : Int) ≤ (IntKind.wrap .i64 (vs6 + (1 : Int))))) && (decide ((IntKind.wrap .i64 (vs6 + (1 : Int))) < (ByteArray.size vs0 : Int))))
                      (cond ((((ByteArray.data vs0).getD (Int.toNat (IntKind.wrap .i64 (vs6 + (1 : Int)))) 0).toNat : Int) == (49 : Int))
                        (cond (Nat.ble (vr512.length + 1) LIM)
                          (f11L0 n x0 vs0 m (IntKind.wrap .i64 ((IntKind.wrap .i64 (vs6 + (1 : Int))) + (1 : Int))) vr448 (vr512 ++ ([(47 : Int)] : List Int)))
                          none)
                        (cond ((decide ((0 : Int) ≤ vs6)) && (decide (vs6 < (ByteArray.size vs0 : Int))))
                          (cond (Nat.ble (vr512.length + 1) LIM)
                            (f11L0 n x0 vs0 m (IntKind.wrap .i64 (vs6 + (1 : Int))) vr448 (vr512 ++ ([(((ByteArray.data vs0).getD (Int.toNat vs6) 0).toNat : Int)] : List Int)))
                            none)
                          none))
                      none)
                    (cond ((decide ((0 : Int) ≤ vs6)) && (decide (vs6 < (ByteArray.size vs0 : Int))))
                      (cond (Nat.ble (vr512.length + 1) LIM)
                        (f11L0 n x0 vs0 m (IntKind.wrap .i64 (vs6 + (1 : Int))) vr448 (vr512 ++ ([(((ByteArray.data vs0).getD (Int.toNat vs6) 0).toNat : Int)] : List Int)))
                        none)
                      none))
                  (cond ((decide ((0 : Int) ≤ vs6)) && (decide (vs6 < (ByteArray.size vs0 : Int))))
                    (cond (Nat.ble (vr512.length + 1) LIM)
                      (f11L0 n x0 vs0 m (IntKind.wrap .i64 (vs6 + (1 : Int))) vr448 (vr512 ++ ([(((ByteArray.data vs0).getD (Int.toNat vs6) 0).toNat : Int)] : List Int)))
                      none)
                    none))
                none))
            none))
        none)
      (x0 vs6 (decide (vs6 < (ByteArray.size vs0 : Int))) vr448 vr512))
theorem f11L0_b {R : Type} (n : Nat) (k' : Ex → St → Option R) (vs0 : ByteArray) (vs6 : Int) (vr448 : List ByteArray) (vr512 : List Int) : ev f11e f11k n (cAt [1,1,1,0,1,0,0] f11c) ⟨[(0, .c (.one (.v (.string vs0)))), (4, .c (.one (.h 448 0 0 []))), (5, .c (.one (.h 512 0 0 []))), (6, .c (.one (.v (.int .i64 vs6))))], [], [(448, .live ⟨.str, .deep, 0, [], vr448⟩), (512, .live ⟨(.i .u8), .deep, 0, [], vr512⟩)]⟩ k' =
    (cond (decide (vs6 < (ByteArray.size vs0 : Int)))
    (cond ((decide ((0 : Int) ≤ vs6)) && (decide (vs6 < (ByteArray.size vs0 : Int))))
      (cond ((((ByteArray.data vs0).getD (Int.toNat vs6) 0).toNat : Int) == (47 : Int))
        (cond (decide (vs6 > (0 : Int)))
          (cond (Nat.ble (vr448.length + 1) LIM)
            (k' .normal ⟨[(0, .c (.one (.v (.string vs0)))), (4, .c (.one (.h 448 0 0 []))), (5, .c (.one (.h 512 0 0 []))), (6, .c (.one (.v (.int .i64 (IntKind.wrap .i64 (vs6 + (1 : Int)))))))], [], [(448, .live ⟨.str, .deep, 0, [], (vr448 ++ ([(bytesOf vr512)] : List ByteArray))⟩), (512, .live ⟨(.i .u8), .deep, 0, [], ([] : List Int)⟩)]⟩)
            none)
          (k' .normal ⟨[(0, .c (.one (.v (.string vs0)))), (4, .c (.one (.h 448 0 0 []))), (5, .c (.one (.h 512 0 0 []))), (6, .c (.one (.v (.int .i64 (IntKind.wrap .i64 (vs6 + (1 : Int)))))))], [], [(448, .live ⟨.str, .deep, 0, [], vr448⟩), (512, .live ⟨(.i .u8), .deep, 0, [], ([] : List Int)⟩)]⟩))
        (cond ((decide ((0 : Int) ≤ vs6)) && (decide (vs6 < (ByteArray.size vs0 : Int))))
          (cond ((((ByteArray.data vs0).getD (Int.toNat vs6) 0).toNat : Int) == (126 : Int))
            (cond (decide ((IntKind.wrap .i64 (vs6 + (1 : Int))) < (ByteArray.size vs0 : Int)))
              (cond ((decide ((0 : Int) ≤ (IntKind.wrap .i64 (vs6 + (1 : Int))))) && (decide ((IntKind.wrap .i64 (vs6 + (1 : Int))) < (ByteArray.size vs0 : Int))))
                (cond ((((ByteArray.data vs0).getD (Int.toNat (IntKind.wrap .i64 (vs6 + (1 : Int)))) 0).toNat : Int) == (48 : Int))
                  (cond (Nat.ble (vr512.length + 1) LIM)
                    (k' .normal ⟨[(0, .c (.one (.v (.string vs0)))), (4, .c (.one (.h 448 0 0 []))), (5, .c (.one (.h 512 0 0 []))), (6, .c (.one (.v (.int .i64 (IntKind.wrap .i64 ((IntKind.wrap .i64 (vs6 + (1 : Int))) + (1 : Int)))))))], [], [(448, .live ⟨.str, .deep, 0, [], vr448⟩), (512, .live ⟨(.i .u8), .deep, 0, [], (vr512 ++ ([(126 : Int)] : List Int))⟩)]⟩)
                    none)
                  (cond ((decide ((0 : Int) ≤ vs6)) && (decide (vs6 < (ByteArray.size vs0 : Int))))
                    (cond ((((ByteArray.data vs0).getD (Int.toNat vs6) 0).toNat : Int) == (126 : Int))
                      (cond (decide ((IntKind.wrap .i64 (vs6 + (1 : Int))) < (ByteArray.size vs0 : Int)))
                        (cond ((decide ((0 : Int) ≤ (IntKind.wrap .i64 (vs6 + (1 : Int))))) && (decide ((IntKind.wrap .i64 (vs6 + (1 : Int))) < (ByteArray.size vs0 : Int))))
                          (cond ((((ByteArray.data vs0).getD (Int.toNat (IntKind.wrap .i64 (vs6 + (1 : Int)))) 0).toNat : Int) == (49 : Int))
                            (cond (Nat.ble (vr512.length + 1) LIM)
                              (k' .normal ⟨[(0, .c (.one (.v (.string vs0)))), (4, .c (.one (.h 448 0 0 []))), (5, .c (.one (.h 512 0 0 []))), (6, .c (.one (.v (.int .i64 (IntKind.wrap .i64 ((IntKind.wrap .i64 (vs6 + (1 : Int))) + (1 : Int)))))))], [], [(448, .live ⟨.str, .deep, 0, [], vr448⟩), (512, .live ⟨(.i .u8), .deep, 0, [], (vr512 ++ ([(47 : Int)] : List Int))⟩)]⟩)
                              none)
                            (cond ((decide ((0 : Int) ≤ vs6)) && (decide (vs6 < (ByteArray.size vs0 : Int))))
                              (cond (Nat.ble (vr512.length + 1) LIM)
                                (k' .normal ⟨[(0, .c (.one (.v (.string vs0)))), (4, .c (.one (.h 448 0 0 []))), (5, .c (.one (.h 512 0 0 []))), (6, .c (.one (.v (.int .i64 (IntKind.wrap .i64 (vs6 + (1 : Int)))))))], [], [(448, .live ⟨.str, .deep, 0, [], vr448⟩), (512, .live ⟨(.i .u8), .deep, 0, [], (vr512 ++ ([(((ByteArray.data vs0).getD (Int.toNat vs6) 0).toNat : Int)] : List Int))⟩)]⟩)
                                none)
                              none))
                          none)
                        (cond ((decide ((0 : Int) ≤ vs6)) && (decide (vs6 < (ByteArray.size vs0 : Int))))
                          (cond (Nat.ble (vr512.length + 1) LIM)
                            (k' .normal ⟨[(0, .c (.one (.v (.string vs0)))), (4, .c (.one (.h 448 0 0 []))), (5, .c (.one (.h 512 0 0 []))), (6, .c (.one (.v (.int .i64 (IntKind.wrap .i64 (vs6 + (1 : Int)))))))], [], [(448, .live ⟨.str, .deep, 0, [], vr448⟩), (512, .live ⟨(.i .u8), .deep, 0, [], (vr512 ++ ([(((ByteArray.data vs0).getD (Int.toNat vs6) 0).toNat : Int)] : List Int))⟩)]⟩)
                            none)
                          none))
                      (cond ((decide ((0 : Int) ≤ vs6)) && (decide (vs6 < (ByteArray.size vs0 : Int))))
                        (cond (Nat.ble (vr512.length + 1) LIM)
                          (k' .normal ⟨[(0, .c (.one (.v (.string vs0)))), (4, .c (.one (.h 448 0 0 []))), (5, .c (.one (.h 512 0 0 []))), (6, .c (.one (.v (.int .i64 (IntKind.wrap .i64 (vs6 + (1 : Int)))))))], [], [(448, .live ⟨.str, .deep, 0, [], vr448⟩), (512, .live ⟨(.i .u8), .deep, 0, [], (vr512 ++ ([(((ByteArray.data vs0).getD (Int.toNat vs6) 0).toNat : Int)] : List Int))⟩)]⟩)
                          none)
                        none))
                    none))
                none)
              (cond ((decide ((0 : Int) ≤ vs6)) && (decide (vs6 < (ByteArray.size vs0 : Int))))
                (cond ((((ByteArray.data vs0).getD (Int.toNat vs6) 0).toNat : Int) == (126 : Int))
                  (cond (decide ((IntKind.wrap .i64 (vs6 + (1 : Int))) < (ByteArray.size vs0 : Int)))
                    (cond ((decide ((0 : Int) ≤ (IntKind.wrap .i64 (vs6 + (1 : Int))))) && (decide ((IntKind.wrap .i64 (vs6 + (1 : Int))) < (ByteArray.size vs0 : Int))))
                      (cond ((((ByteArray.data vs0).getD (Int.toNat (IntKind.wrap .i64 (vs6 + (1 : Int)))) 0).toNat : Int) == (49 : Int))
                        (cond (Nat.ble (vr512.length + 1) LIM)
                          (k' .normal ⟨[(0, .c (.one (.v (.string vs0)))), (4, .c (.one (.h 448 0 0 []))), (5, .c (.one (.h 512 0 0 []))), (6, .c (.one (.v (.int .i64 (IntKind.wrap .i64 ((IntKind.wrap .i64 (vs6 + (1 : Int))) + (1 : Int)))))))], [], [(448, .live ⟨.str, .deep, 0, [], vr448⟩), (512, .live ⟨(.i .u8), .deep, 0, [], (vr512 ++ ([(47 : Int)] : List Int))⟩)]⟩)
                          none)
                        (cond ((decide ((0 : Int) ≤ vs6)) && (decide (vs6 < (ByteArray.size vs0 : Int))))
                          (cond (Nat.ble (vr512.length + 1) LIM)
                            (k' .normal ⟨[(0, .c (.one (.v (.string vs0)))), (4, .c (.one (.h 448 0 0 []))), (5, .c (.one (.h 512 0 0 []))), (6, .c (.one (.v (.int .i64 (IntKind.wrap .i64 (vs6 + (1 : Int)))))))], [], [(448, .live ⟨.str, .deep, 0, [], vr448⟩), (512, .live ⟨(.i .u8), .deep, 0, [], (vr512 ++ ([(((ByteArray.data vs0).getD (Int.toNat vs6) 0).toNat : Int)] : List Int))⟩)]⟩)
                            none)
                          none))
                      none)
                    (cond ((decide ((0 : Int) ≤ vs6)) && (decide (vs6 < (ByteArray.size vs0 : Int))))
                      (cond (Nat.ble (vr512.length + 1) LIM)
                        (k' .normal ⟨[(0, .c (.one (.v (.string vs0)))), (4, .c (.one (.h 448 0 0 []))), (5, .c (.one (.h 512 0 0 []))), (6, .c (.one (.v (.int .i64 (IntKind.wrap .i64 (vs6 + (1 : Int)))))))], [], [(448, .live ⟨.str, .deep, 0, [], vr448⟩), (512, .live ⟨(.i .u8), .deep, 0, [], (vr512 ++ ([(((ByteArray.data vs0).getD (Int.toNat vs6) 0).toNat : Int)] : List Int))⟩)]⟩)
                        none)
                      none))
                  (cond ((decide ((0 : Int) ≤ vs6)) && (decide (vs6 < (ByteArray.size vs0 : Int))))
                    (cond (Nat.ble (vr512.length + 1) LIM)
                      (k' .normal ⟨[(0, .c (.one (.v (.string vs0)))), (4, .c (.one (.h 448 0 0 []))), (5, .c (.one (.h 512 0 0 []))), (6, .c (.one (.v (.int .i64 (IntKind.wrap .i64 (vs6 + (1 : Int)))))))], [], [(448, .live ⟨.str, .deep, 0, [], vr448⟩), (512, .live ⟨(.i .u8), .deep, 0, [], (vr512 ++ ([(((ByteArray.data vs0).getD (Int.toNat vs6) 0).toNat : Int)] : List Int))⟩)]⟩)
                      none)
                    none))
                none))
            (cond ((decide ((0 : Int) ≤ vs6)) && (decide (vs6 < (ByteArray.size vs0 : Int))))
              (cond ((((ByteArray.data vs0).getD (Int.toNat vs6) 0).toNat : Int) == (126 : Int))
                (cond (decide ((IntKind.wrap .i64 (vs6 + (1 : Int))) < (ByteArray.size vs0 : Int)))
                  (cond ((decide ((0 : Int) ≤ (IntKind.wrap .i64 (vs6 + (1 : Int))))) && (decide ((IntKind.wrap .i64 (vs6 + (1 : Int))) < (ByteArray.size vs0 : Int))))
                    (cond ((((ByteArray.data vs0).getD (Int.toNat (IntKind.wrap .i64 (vs6 + (1 : Int)))) 0).toNat : Int) == (49 : Int))
                      (cond (Nat.ble (vr512.length + 1) LIM)
                        (k' .normal ⟨[(0, .c (.one (.v (.string vs0)))), (4, .c (.one (.h 448 0 0 []))), (5, .c (.one (.h 512 0 0 []))), (6, .c (.one (.v (.int .i64 (IntKind.wrap .i64 ((IntKind.wrap .i64 (vs6 + (1 : Int))) + (1 : Int)))))))], [], [(448, .live ⟨.str, .deep, 0, [], vr448⟩), (512, .live ⟨(.i .u8), .deep, 0, [], (vr512 ++ ([(47 : Int)] : List Int))⟩)]⟩)
                        none)
                      (cond ((decide ((0 : Int) ≤ vs6)) && (decide (vs6 < (ByteArray.size vs0 : Int))))
                        (cond (Nat.ble (vr512.length + 1) LIM)
                          (k' .normal ⟨[(0, .c (.one (.v (.string vs0)))), (4, .c (.one (.h 448 0 0 []))), (5, .c (.one (.h 512 0 0 []))), (6, .c (.one (.v (.int .i64 (IntKind.wrap .i64 (vs6 + (1 : Int)))))))], [], [(448, .live ⟨.str, .deep, 0, [], vr448⟩), (512, .live ⟨(.i .u8), .deep, 0, [], (vr512 ++ ([(((ByteArray.data vs0).getD (Int.toNat vs6) 0).toNat : Int)] : List Int))⟩)]⟩)
                          none)
                        none))
                    none)
                  (cond ((decide ((0 : Int) ≤ vs6)) && (decide (vs6 < (ByteArray.size vs0 : Int))))
                    (cond (Nat.ble (vr512.length + 1) LIM)
                      (k' .normal ⟨[(0, .c (.one (.v (.string vs0)))), (4, .c (.one (.h 448 0 0 []))), (5, .c (.one (.h 512 0 0 []))), (6, .c (.one (.v (.int .i64 (IntKind.wrap .i64 (vs6 + (1 : Int)))))))], [], [(448, .live ⟨.str, .deep, 0, [], vr448⟩), (512, .live ⟨(.i .u8), .deep, 0, [], (vr512 ++ ([(((ByteArray.data vs0).getD (Int.toNat vs6) 0).toNat : Int)] : List Int))⟩)]⟩)
                      none)
                    none))
                (cond ((decide ((0 : Int) ≤ vs6)) && (decide (vs6 < (ByteArray.size vs0 : Int))))
                  (cond (Nat.ble (vr512.length + 1) LIM)
                    (k' .normal ⟨[(0, .c (.one (.v (.string vs0)))), (4, .c (.one (.h 448 0 0 []))), (5, .c (.one (.h 512 0 0 []))), (6, .c (.one (.v (.int .i64 (IntKind.wrap .i64 (vs6 + (1 : Int)))))))], [], [(448, .live ⟨.str, .deep, 0, [], vr448⟩), (512, .live ⟨(.i .u8), .deep, 0, [], (vr512 ++ ([(((ByteArray.data vs0).getD (Int.toNat vs6) 0).toNat : Int)] : List Int))⟩)]⟩)
                    none)
                  none))
              none))
          none))
      none)
    (k' (.exit 0) ⟨[(0, .c (.one (.v (.string vs0)))), (4, .c (.one (.h 448 0 0 []))), (5, .c (.one (.h 512 0 0 []))), (6, .c (.one (.v (.int .i64 vs6)))), (12, .c (.one (.v (.bool (decide (vs6 < (ByteArray.size vs0 : Int)))))))], [], [(448, .live ⟨.str, .deep, 0, [], vr448⟩), (512, .live ⟨(.i .u8), .deep, 0, [], vr512⟩)]⟩)) := by kernel_rfl
theorem f11L0_eq {R : Type} (n : Nat) (k' : Ex → St → Option R) (vs0 : ByteArray) : ∀ (m : Nat) (vs6 : Int) (vr448 : List ByteArray) (vr512 : List Int), iter (fun st k => ev f11e f11k n (cAt [1,1,1,0,1,0,0] f11c) st k) m ⟨[(0, .c (.one (.v (.string vs0)))), (4, .c (.one (.h 448 0 0 []))), (5, .c (.one (.h 512 0 0 []))), (6, .c (.one (.v (.int .i64 vs6))))], [], [(448, .live ⟨.str, .deep, 0, [], vr448⟩), (512, .live ⟨(.i .u8), .deep, 0, [], vr512⟩)]⟩ k' = f11L0 n (fun (xvs6 : Int) (xvs12 : Bool) (xvr448 : List ByteArray) (xvr512 : List Int) => k' (.exit 0) ⟨[(0, .c (.one (.v (.string vs0)))), (4, .c (.one (.h 448 0 0 []))), (5, .c (.one (.h 512 0 0 []))), (6, .c (.one (.v (.int .i64 xvs6)))), (12, .c (.one (.v (.bool xvs12))))], [], [(448, .live ⟨.str, .deep, 0, [], xvr448⟩), (512, .live ⟨(.i .u8), .deep, 0, [], xvr512⟩)]⟩) vs0 m vs6 vr448 vr512 := by
  intro m; induction m with
  | zero => intros; rfl
  | succ m ih =>
    intro vs6 vr448 vr512
    simp only [iter]
    rw [f11L0_b]
    simp only [ih, f11L0]

noncomputable def f11K0 {R : Type} (n : Nat) (k' : Ex → St → Option R) : Ex → St → Option R := (blockK 0 (seqK f11e f11k n (cAt [1,1,1,1] f11c) k'))
theorem f11K0_x0 {R : Type} (n : Nat) (k : List Dt → Option R) (a0 : ByteArray) (vs0 : ByteArray) (xvs6 : Int) (xvs12 : Bool) (xvr448 : List ByteArray) (xvr512 : List Int) : f11K0 n (exitK f11e [.ro] [false, false] true [.tmp 2, .tmp 3] [22, 4] [.d .str a0] k) (.exit 0) ⟨[(0, .c (.one (.v (.string vs0)))), (4, .c (.one (.h 448 0 0 []))), (5, .c (.one (.h 512 0 0 []))), (6, .c (.one (.v (.int .i64 xvs6)))), (12, .c (.one (.v (.bool xvs12))))], [], [(448, .live ⟨.str, .deep, 0, [], xvr448⟩), (512, .live ⟨(.i .u8), .deep, 0, [], xvr512⟩)]⟩ =
    (cond (!(sEq vs0 ByteArray.empty))
    (cond (Nat.ble (xvr448.length + 1) LIM)
      (cond (gPtrT (xvr448 ++ ([(bytesOf xvr512)] : List ByteArray)))
        (cond (!(sEq (ptrText (xvr448 ++ ([(bytesOf xvr512)] : List ByteArray))) vs0))
          (k [.d (.sl .str) ([] : List ByteArray), .d .bool false])
          (k [.d (.sl .str) (xvr448 ++ ([(bytesOf xvr512)] : List ByteArray)), .d .bool true]))
        none)
      none)
    (cond (gPtrT xvr448)
      (cond (!(sEq (ptrText xvr448) vs0))
        (k [.d (.sl .str) ([] : List ByteArray), .d .bool false])
        (k [.d (.sl .str) xvr448, .d .bool true]))
      none)) := by kernel_rfl

theorem f11_run {R : Type} (n : Nat) (k : List Dt → Option R) (a0 : ByteArray) : evFn f11e f11k n f11c [.ro] [false, false] true [.tmp 2, .tmp 3] [22, 4] [.d .str a0] k =
    (f11L0 n (fun (xvs6 : Int) (xvs12 : Bool) (xvr448 : List ByteArray) (xvr512 : List Int) =>
    (cond (!(sEq a0 ByteArray.empty))
      (cond (Nat.ble (xvr448.length + 1) LIM)
        (cond (gPtrT (xvr448 ++ ([(bytesOf xvr512)] : List ByteArray)))
          (cond (!(sEq (ptrText (xvr448 ++ ([(bytesOf xvr512)] : List ByteArray))) a0))
            (k [.d (.sl .str) ([] : List ByteArray), .d .bool false])
            (k [.d (.sl .str) (xvr448 ++ ([(bytesOf xvr512)] : List ByteArray)), .d .bool true]))
          none)
        none)
      (cond (gPtrT xvr448)
        (cond (!(sEq (ptrText xvr448) a0))
          (k [.d (.sl .str) ([] : List ByteArray), .d .bool false])
          (k [.d (.sl .str) xvr448, .d .bool true]))
        none))) a0 n (0 : Int) ([] : List ByteArray) ([] : List Int)) := by
  refine Eq.trans (b := (iter (fun st k => ev f11e f11k n (cAt [1,1,1,0,1,0,0] f11c) st k) n ⟨[(0, .c (.one (.v (.string a0)))), (4, .c (.one (.h 448 0 0 []))), (5, .c (.one (.h 512 0 0 []))), (6, .c (.one (.v (.int .i64 (0 : Int)))))], [], [(448, .live ⟨.str, .deep, 0, [], ([] : List ByteArray)⟩), (512, .live ⟨(.i .u8), .deep, 0, [], ([] : List Int)⟩)]⟩ (f11K0 n (exitK f11e [.ro] [false, false] true [.tmp 2, .tmp 3] [22, 4] [.d .str a0] k)))) (by kernel_rfl) ?_
  simp only [f11L0_eq, f11K0_x0]
theorem f11_spec (a0 : ByteArray) (hg : gPtrOf a0 = true) : ∃ keep rounds, ∀ {R : Type} (k : List Dt → Option R), evFn f11e keep rounds f11c [.ro] [false, false] true [.tmp 2, .tmp 3] [22, 4] [.d .str a0] k = k [.d (.sl .str) ((ptrOf a0).1), .d .bool ((ptrOf a0).2)] := by
  have hl : a0.size ≤ 1048576 := bleN hg
  have hbl := bszL a0
  refine ⟨f11k, 1048578, fun {R} k => ?_⟩
  rw [f11_run]
  generalize hN : (1048578 : Nat) = N
  have key : ∀ (X : Int → Bool → List ByteArray → List Int → Option R) (Y : List ByteArray → Option R), (∀ i b o p, o.length ≤ 2000000 → X i b o p = Y (o ++ [bytesOf p])) →
      ∀ (n i m : Nat) (l : List UInt8) (out : List ByteArray) (p : List UInt8), l.length ≤ n → a0.data.toList.drop i = l → i + l.length = a0.size → l.length < m → (i = 0 → l.head? ≠ some 47) → out.length ≤ i → p.length ≤ i →
      f11L0 N X a0 m (i : Int) out (toI p) = Y (out ++ (runD p l).map mkB) := by
    intro X Y hX n
    induction n with
    | zero =>
      intro i m l out p hn hd hi hm h0 ho hp
      obtain ⟨m, rfl⟩ : ∃ m', m = m' + 1 := ⟨m - 1, by omega⟩
      have hl0 : l = [] := List.eq_nil_of_length_eq_zero (by omega)
      subst hl0
      have hi : i = a0.size := by simpa using hi
      subst hi
      simp only [f11L0, idxE, cond_false, hX _ _ _ _ (by omega : out.length ≤ 2000000), runD_nil, bytesOf_toI, List.map_cons, List.map_nil]
    | succ n ih =>
      intro i m l out p hn hd hi hm h0 ho hp
      obtain ⟨m, rfl⟩ : ∃ m', m = m' + 1 := ⟨m - 1, by omega⟩
      cases l with
      | nil =>
        have hi : i = a0.size := by simpa using hi
        subst hi
        simp only [f11L0, idxE, cond_false, hX _ _ _ _ (by omega : out.length ≤ 2000000), runD_nil, bytesOf_toI, List.map_cons, List.map_nil]
      | cons b l =>
        simp only [List.length_cons] at hn hi hm
        have hjl : i < a0.size := by omega
        have hjs : i < a0.data.toList.length := by omega
        obtain ⟨k1, k0, kw, kt⟩ := idx hjl (by omega)
        have hcons := List.drop_eq_getElem_cons hjs
        rw [hd] at hcons
        have hb0 : a0.data.toList[i] = b := by cases hcons; rfl
        have hd' : a0.data.toList.drop (i + 1) = l := by cases hcons; rfl
        have hget : a0.data.getD i 0 = b := by
          have hja : i < a0.data.size := hjl
          rw [Array.getD_eq_getD_getElem?, Array.getElem?_eq_getElem hja, ← hb0]
          simp
        have e1 : (((b.toNat : Int)) == (47 : Int)) = decide (b = 47) := byteI b 47
        have e2 : (((b.toNat : Int)) == (126 : Int)) = decide (b = 126) := byteI b 126
        have l1 := (Nat.ble_eq_true_of_le (by have : (LIM : Nat) = 4294967296 := rfl; omega) : Nat.ble (out.length + 1) LIM = true)
        have l2 := (Nat.ble_eq_true_of_le (by have : (LIM : Nat) = 4294967296 := rfl; rw [toI_len]; omega) : Nat.ble ((toI p).length + 1) LIM = true)
        have hone : ∀ c : UInt8, toI p ++ [(c.toNat : Int)] = toI (p ++ [c]) := fun c => by simp [toI]
        have h126 : toI p ++ [(126 : Int)] = toI (p ++ [126]) := hone 126
        have h47 : toI p ++ [(47 : Int)] = toI (p ++ [47]) := hone 47
        by_cases hb : b = 47
        · have hi0 : 0 < i := by
            rcases Nat.eq_zero_or_pos i with h | h
            · exact absurd (by rw [hb]; rfl) (h0 h)
            · exact h
          have hgt : decide ((i : Int) > (0 : Int)) = true := decide_eq_true (by omega)
          have e1' : (((b.toNat : Int)) == (47 : Int)) = true := by rw [e1]; simp [hb]
          have := ih (i + 1) m l (out ++ [mkB p]) [] (by omega) hd' (by omega) (by omega) (by omega) (by simp; omega) (by simp)
          rw [show toI [] = ([] : List Int) from rfl] at this
          simp only [f11L0, k1, k0, kw, kt, hget, e1', hgt, l1, bytesOf_toI, Bool.and_self, cond_true, this]
          cases l with
          | nil => rw [runD_one, if_pos hb, runD_nil]; simp
          | cons c l => rw [runD_two, if_pos hb]; simp
        · have e1' : (((b.toNat : Int)) == (47 : Int)) = false := by rw [e1]; simp [hb]
          cases l with
          | nil =>
            have hnx : decide (((i + 1 : Nat) : Int) < (a0.size : Int)) = false := decide_eq_false (by simp at hi; omega)
            have := ih (i + 1) m [] out (p ++ [b]) (by simp) hd' (by simp at hi ⊢; omega) (by simp; omega) (by omega) (by omega) (by simp; omega)
            simp only [f11L0, k1, k0, kw, kt, hget, e1', hnx, l2, hone, Bool.and_self, cond_true, cond_false, this, Bool.cond_self]
            rw [runD_one, if_neg hb, runD_nil]
          | cons c l =>
            simp only [List.length_cons] at hn hi hm
            obtain ⟨q1, q0, qw, qt⟩ := idx (show i + 1 < a0.size by omega) (by omega)
            have hjs' : i + 1 < a0.data.toList.length := by omega
            have hcons' := List.drop_eq_getElem_cons hjs'
            rw [hd'] at hcons'
            have hc0 : a0.data.toList[i + 1] = c := by cases hcons'; rfl
            have hd'' : a0.data.toList.drop (i + 1 + 1) = l := by cases hcons'; rfl
            have hget' : a0.data.getD (i + 1) 0 = c := by
              have hja : i + 1 < a0.data.size := by show i + 1 < a0.size; omega
              rw [Array.getD_eq_getD_getElem?, Array.getElem?_eq_getElem hja, ← hc0]
              simp
            have e3 : (((c.toNat : Int)) == (48 : Int)) = decide (c = 48) := byteI c 48
            have e4 : (((c.toNat : Int)) == (49 : Int)) = decide (c = 49) := byteI c 49
            have i1 := ih (i + 1 + 1) m l out (p ++ [126]) (by omega) hd'' (by omega) (by omega) (by omega) (by omega) (by simp; omega)
            have i2 := ih (i + 1 + 1) m l out (p ++ [47]) (by omega) hd'' (by omega) (by omega) (by omega) (by omega) (by simp; omega)
            have i3 := ih (i + 1) m (c :: l) out (p ++ [b]) (by simp; omega) hd' (by simp; omega) (by simp; omega) (by omega) (by omega) (by simp; omega)
            simp only [f11L0, k1, k0, kw, kt, q1, q0, qw, qt, hget, hget', e1', e2, e3, e4, l2, hone, h126, h47, Bool.and_self, cond_true, cond_false, i1, i2, i3]
            rw [runD_two, if_neg hb]
            by_cases hb1 : b = 126
            · subst hb1
              by_cases hc : c = 48
              · subst hc; simp
              · by_cases hc' : c = 49
                · subst hc'; simp
                · simp [hc, hc']
            · simp [hb1]
  cases he : sEq a0 ByteArray.empty
  · have hz : Nat.beq a0.size 0 = false := by rw [size0, he]
    have hne : a0 ≠ ByteArray.empty := fun h => by rw [h, sEq_self] at he; cases he
    have hcont := key (fun (_ : Int) (_ : Bool) (o : List ByteArray) (p : List Int) => cond (!false) (cond (Nat.ble (o.length + 1) LIM) (cond (gPtrT (o ++ [bytesOf p])) (cond (!(sEq (ptrText (o ++ [bytesOf p])) a0)) (k [.d (.sl .str) ([] : List ByteArray), .d .bool false]) (k [.d (.sl .str) (o ++ [bytesOf p]), .d .bool true])) none) none)
        (cond (gPtrT o) (cond (!(sEq (ptrText o) a0)) (k [.d (.sl .str) ([] : List ByteArray), .d .bool false]) (k [.d (.sl .str) o, .d .bool true])) none))
      (fun o => (cond (gPtrT o) (cond (!(sEq (ptrText o) a0)) (k [.d (.sl .str) ([] : List ByteArray), .d .bool false]) (k [.d (.sl .str) o, .d .bool true])) none)) (by
      intro i b o p ho
      have l1 := (Nat.ble_eq_true_of_le (by have : (LIM : Nat) = 4294967296 := rfl; omega) : Nat.ble (o.length + 1) LIM = true)
      simp only [he, l1, Bool.not_false, cond_true])
    cases hl0 : a0.data.toList with
    | nil => exfalso; rw [hl0] at hbl; simp at hbl; rw [← hbl] at hz; cases hz
    | cons b l =>
      have hlen : l.length + 1 = a0.size := by rw [← hbl, hl0]; rfl
      by_cases hb : b = 47
      · subst hb
        obtain ⟨M, rfl⟩ : ∃ M, N = M + 1 := ⟨N - 1, by omega⟩
        obtain ⟨k1, k0, kw, kt⟩ := idx (show 0 < a0.size by omega) (by omega)
        have hget : a0.data.getD 0 0 = 47 := by
          have hja : 0 < a0.data.size := by show 0 < a0.size; omega
          rw [Array.getD_eq_getD_getElem?, Array.getElem?_eq_getElem hja]
          have : a0.data.toList[0]? = some 47 := by rw [hl0]; rfl
          simpa [Array.getElem?_eq_getElem hja] using this
        have := hcont l.length 1 M l [] [] (Nat.le_refl _) (by rw [hl0]; rfl) (by omega) (by omega) (by omega) (by simp) (by simp)
        have k1 : decide ((0 : Int) < (a0.size : Int)) = true := k1
        have kt : Int.toNat (0 : Int) = 0 := rfl
        have kw : IntKind.wrap .i64 ((0 : Int) + (1 : Int)) = ((1 : Nat) : Int) := kw
        have e1 : ((((47 : UInt8).toNat : Nat) : Int) == (47 : Int)) = true := rfl
        have hgt : decide ((0 : Int) > (0 : Int)) = false := rfl
        have h00 : decide ((0 : Int) ≤ (0 : Int)) = true := rfl
        refine Eq.trans ?_ (this.trans ?_)
        · simp only [f11L0, k1, h00, kt, kw, hget, e1, hgt, Bool.and_self, cond_true, cond_false]
          rfl
        · obtain ⟨x, t, e3, e4⟩ := runD_eq l.length [] l (Nat.le_refl _)
          have hp : partsOf a0.data.toList = runD [] l := by
            unfold partsOf
            rw [hl0, splL, if_pos rfl, List.tail_cons, e3, e4]; rfl
          have hsz := szL_runD l
          have hg2 : gPtrT ((runD [] l).map mkB) = true := Nat.ble_eq_true_of_le (by omega)
          rw [List.nil_append]
          simp only [hg2, cond_true, ptrOf, hz, hp, cond_false]
          cases sEq (ptrText ((runD [] l).map mkB)) a0 <;> rfl
      · have := hcont (b :: l).length 0 N (b :: l) [] [] (Nat.le_refl _) (by rw [hl0]; rfl) (by simp; omega) (by simp; omega) (fun _ => by simpa using hb) (by simp) (by simp)
        refine Eq.trans this ?_
        have hsz := szL_runD (b :: l)
        simp only [List.length_cons] at hsz
        have hg2 : gPtrT ((runD [] (b :: l)).map mkB) = true := Nat.ble_eq_true_of_le (by omega)
        have hf := fun xs => ptrOf_keep hne (by rw [hl0]; simpa using hb) xs
        rw [List.nil_append]
        simp only [hg2, cond_true, ptrOf, hz, hf, cond_false, Bool.not_false]
  · have h0 := sEq_iff.1 he
    subst h0
    have hM : N = N - 1 + 1 := by omega
    rw [hM]
    have hN2 : decide ((0 : Int) < (ByteArray.size ByteArray.empty : Int)) = false := rfl
    have hg2 : gPtrT ([] : List ByteArray) = true := rfl
    have ht : sEq (ptrText ([] : List ByteArray)) ByteArray.empty = true := sEq_iff.2 rfl
    simp only [f11L0, hN2, cond_false, he, Bool.not_true, hg2, ht, cond_true, ptrOf]
    rfl

noncomputable def q11 : List Dt → Option (Bool × List Dt)
  | [.d .str a0] => some ((gPtrOf a0), [.d (.sl .str) ((ptrOf a0).1), .d .bool ((ptrOf a0).2)])
  | _ => none
noncomputable def s11 : Gm.Spec := Gm.Spec.of [.ro] [false, false] true q11
theorem good11 : Gm.Good Tryd.prog (11, s11) := by
  have hl : ∀ x ∈ [(7, s7)], Gm.Good Tryd.prog x := List.forall_mem_cons.2 ⟨good7, List.forall_mem_nil _⟩
  refine ⟨⟨spec_ok (tab_ok.env hl) (tab.natl hl) Tryd.func11 (by kernel_rfl : Tryd.f11.body = some f11c) [22, 4] (by kernel_rfl) ?_, _, Tryd.func11, by kernel_rfl, of_decide_eq_true (by kernel_rfl)⟩, Gm.Spec.of_natl _ _ _ _⟩
  intro ds outs h
  unfold q11 at h
  split at h
  · simp only [Option.some.injEq, Prod.mk.injEq] at h; obtain ⟨hg, h⟩ := h; cases h; exact f11_spec _ hg
  · cases h
/-! ### loop.example/g00465/impl.PtrOf -/
noncomputable def f12c : Code := (Tryd.f12.body).getD .skip
def f12k : Nat → Kp := kat [⟨[0], [], [], []⟩, ⟨[0, 4], [], [], []⟩, ⟨[0, 4, 9], [], [], []⟩, ⟨[2, 3], [], [], []⟩, ⟨[0, 4, 13, 14, 15], [], [], []⟩, ⟨[0, 4, 13, 14, 15, 16], [], [], []⟩, ⟨[0, 4, 6, 13, 14, 15], [], [], []⟩, ⟨[0, 4, 13, 14, 15], [], [], []⟩, ⟨[0, 4, 13, 14, 15], [], [], []⟩, ⟨[4, 29], [], [], []⟩, ⟨[2, 3], [], [], []⟩, ⟨[2, 3], [], [], []⟩]
noncomputable def f12e : Env := tab.env [(9, s9), (19, s19), (20, s20)]
noncomputable def f12L0 {R : Type} (n : Nat) (x0 : Int → Bool → (List ByteArray) → Option R) (vs0 : ByteArray) (vs13hi : Nat) (vs14 : Int) (vr768 : List ByteArray) : Nat → Int → (List ByteArray) → Option R
  | 0, _, _ => none
  | m + 1, vs15, vr448 =>
    (cond (decide (vs15 < vs14))
      (cond ((decide ((0 : Int) ≤ vs15)) && (decide (vs15 < (((vr768.take vs13hi).drop 1).length : Int))))
        (cond (gRepl (atI (t := .str) vr768 (1 + (Int.toNat vs15))) (bs [126,49]) (bs [47]))
          (cond (gRepl (replS (atI (t := .str) vr768 (1 + (Int.toNat vs15))) (bs [126,49]) (bs [47])) (bs [126,48]) (bs [126]))
            (cond (Nat.ble (vr448.length + 1) LIM)
              (f12L0 n x0 vs0 vs13hi vs14 vr768 m (IntKind.wrap .i64 (vs15 + (1 : Int))) (vr448 ++ ([(replS (replS (atI (t := .str) vr768 (1 + (Int.toNat vs15))) (bs [126,49]) (bs [47])) (bs [126,48]) (bs [126]))] : List ByteArray)))
              none)
            none)
          none)
        none)
      (x0 vs15 (decide (vs15 < vs14)) vr448))
theorem f12L0_b {R : Type} (n : Nat) (k' : Ex → St → Option R) (vs0 : ByteArray) (vs13hi : Nat) (vs14 : Int) (vs15 : Int) (vr448 : List ByteArray) (vr768 : List ByteArray) : ev f12e f12k n (cAt [1,1,1,0,1,0,0] f12c) ⟨[(0, .c (.one (.v (.string vs0)))), (4, .c (.one (.h 448 0 0 []))), (13, .c (.one (.vw 768 0 1 vs13hi))), (14, .c (.one (.v (.int .i64 vs14)))), (15, .c (.one (.v (.int .i64 vs15))))], [], [(448, .live ⟨.str, .deep, 0, [], vr448⟩), (768, .live ⟨.str, .deep, 0, [], vr768⟩)]⟩ k' =
    (cond (decide (vs15 < vs14))
    (cond ((decide ((0 : Int) ≤ vs15)) && (decide (vs15 < (((vr768.take vs13hi).drop 1).length : Int))))
      (cond (gRepl (atI (t := .str) vr768 (1 + (Int.toNat vs15))) (bs [126,49]) (bs [47]))
        (cond (gRepl (replS (atI (t := .str) vr768 (1 + (Int.toNat vs15))) (bs [126,49]) (bs [47])) (bs [126,48]) (bs [126]))
          (cond (Nat.ble (vr448.length + 1) LIM)
            (k' .normal ⟨[(0, .c (.one (.v (.string vs0)))), (4, .c (.one (.h 448 0 0 []))), (13, .c (.one (.vw 768 0 1 vs13hi))), (14, .c (.one (.v (.int .i64 vs14)))), (15, .c (.one (.v (.int .i64 (IntKind.wrap .i64 (vs15 + (1 : Int)))))))], [], [(448, .live ⟨.str, .deep, 0, [], (vr448 ++ ([(replS (replS (atI (t := .str) vr768 (1 + (Int.toNat vs15))) (bs [126,49]) (bs [47])) (bs [126,48]) (bs [126]))] : List ByteArray))⟩), (768, .live ⟨.str, .deep, 0, [], vr768⟩)]⟩)
            none)
          none)
        none)
      none)
    (k' (.exit 0) ⟨[(0, .c (.one (.v (.string vs0)))), (4, .c (.one (.h 448 0 0 []))), (13, .c (.one (.vw 768 0 1 vs13hi))), (14, .c (.one (.v (.int .i64 vs14)))), (15, .c (.one (.v (.int .i64 vs15)))), (16, .c (.one (.v (.bool (decide (vs15 < vs14))))))], [], [(448, .live ⟨.str, .deep, 0, [], vr448⟩), (768, .live ⟨.str, .deep, 0, [], vr768⟩)]⟩)) := by kernel_rfl
theorem f12L0_eq {R : Type} (n : Nat) (k' : Ex → St → Option R) (vs0 : ByteArray) (vs13hi : Nat) (vs14 : Int) (vr768 : List ByteArray) : ∀ (m : Nat) (vs15 : Int) (vr448 : List ByteArray), iter (fun st k => ev f12e f12k n (cAt [1,1,1,0,1,0,0] f12c) st k) m ⟨[(0, .c (.one (.v (.string vs0)))), (4, .c (.one (.h 448 0 0 []))), (13, .c (.one (.vw 768 0 1 vs13hi))), (14, .c (.one (.v (.int .i64 vs14)))), (15, .c (.one (.v (.int .i64 vs15))))], [], [(448, .live ⟨.str, .deep, 0, [], vr448⟩), (768, .live ⟨.str, .deep, 0, [], vr768⟩)]⟩ k' = f12L0 n (fun (xvs15 : Int) (xvs16 : Bool) (xvr448 : List ByteArray) => k' (.exit 0) ⟨[(0, .c (.one (.v (.string vs0)))), (4, .c (.one (.h 448 0 0 []))), (13, .c (.one (.vw 768 0 1 vs13hi))), (14, .c (.one (.v (.int .i64 vs14)))), (15, .c (.one (.v (.int .i64 xvs15)))), (16, .c (.one (.v (.bool xvs16))))], [], [(448, .live ⟨.str, .deep, 0, [], xvr448⟩), (768, .live ⟨.str, .deep, 0, [], vr768⟩)]⟩) vs0 vs13hi vs14 vr768 m vs15 vr448 := by
  intro m; induction m with
  | zero => intros; rfl
  | succ m ih =>
    intro vs15 vr448
    simp only [iter]
    rw [f12L0_b]
    simp only [ih, f12L0]

noncomputable def f12K0 {R : Type} (n : Nat) (k' : Ex → St → Option R) : Ex → St → Option R := (blockK 0 (seqK f12e f12k n (cAt [1,1,1,1] f12c) k'))
theorem f12K0_x0 {R : Type} (n : Nat) (k : List Dt → Option R) (a0 : ByteArray) (vs0 : ByteArray) (vs13hi : Nat) (vs14 : Int) (vr768 : List ByteArray) (xvs15 : Int) (xvs16 : Bool) (xvr448 : List ByteArray) : f12K0 n (exitK f12e [.ro] [false, false] true [.tmp 2, .tmp 3] [22, 4] [.d .str a0] k) (.exit 0) ⟨[(0, .c (.one (.v (.string vs0)))), (4, .c (.one (.h 448 0 0 []))), (13, .c (.one (.vw 768 0 1 vs13hi))), (14, .c (.one (.v (.int .i64 vs14)))), (15, .c (.one (.v (.int .i64 xvs15)))), (16, .c (.one (.v (.bool xvs16))))], [], [(448, .live ⟨.str, .deep, 0, [], xvr448⟩), (768, .live ⟨.str, .deep, 0, [], vr768⟩)]⟩ =
    (cond (gPtrT xvr448)
    (cond (!(sEq (ptrText xvr448) vs0))
      (k [.d (.sl .str) ([] : List ByteArray), .d .bool false])
      (k [.d (.sl .str) xvr448, .d .bool true]))
    none) := by kernel_rfl

theorem f12_run {R : Type} (n : Nat) (k : List Dt → Option R) (a0 : ByteArray) : evFn f12e f12k n f12c [.ro] [false, false] true [.tmp 2, .tmp 3] [22, 4] [.d .str a0] k =
    (cond (sEq a0 ByteArray.empty)
    (k [.d (.sl .str) ([] : List ByteArray), .d .bool true])
    (cond (gSplit a0 (bs [47]))
      (cond ((decide ((1 : Int) ≤ ((splitS a0 (bs [47])).length : Int))) && (decide (((splitS a0 (bs [47])).length : Int) ≤ ((splitS a0 (bs [47])).length : Int))))
        (f12L0 n (fun (xvs15 : Int) (xvs16 : Bool) (xvr448 : List ByteArray) =>
          (cond (gPtrT xvr448)
            (cond (!(sEq (ptrText xvr448) a0))
              (k [.d (.sl .str) ([] : List ByteArray), .d .bool false])
              (k [.d (.sl .str) xvr448, .d .bool true]))
            none)) a0 (Int.toNat ((splitS a0 (bs [47])).length : Int)) ((((splitS a0 (bs [47])).take (Int.toNat ((splitS a0 (bs [47])).length : Int))).drop 1).length : Int) (splitS a0 (bs [47])) n (0 : Int) ([] : List ByteArray))
        none)
      none)) := by
  refine Eq.trans (b := (cond (sEq a0 ByteArray.empty)
    (k [.d (.sl .str) ([] : List ByteArray), .d .bool true])
    (cond (gSplit a0 (bs [47]))
      (cond ((decide ((1 : Int) ≤ ((splitS a0 (bs [47])).length : Int))) && (decide (((splitS a0 (bs [47])).length : Int) ≤ ((splitS a0 (bs [47])).length : Int))))
        (iter (fun st k => ev f12e f12k n (cAt [1,1,1,0,1,0,0] f12c) st k) n ⟨[(0, .c (.one (.v (.string a0)))), (4, .c (.one (.h 448 0 0 []))), (13, .c (.one (.vw 768 0 1 (Int.toNat ((splitS a0 (bs [47])).length : Int))))), (14, .c (.one (.v (.int .i64 ((((splitS a0 (bs [47])).take (Int.toNat ((splitS a0 (bs [47])).length : Int))).drop 1).length : Int))))), (15, .c (.one (.v (.int .i64 (0 : Int)))))], [], [(448, .live ⟨.str, .deep, 0, [], ([] : List ByteArray)⟩), (768, .live ⟨.str, .deep, 0, [], (splitS a0 (bs [47]))⟩)]⟩ (f12K0 n (exitK f12e [.ro] [false, false] true [.tmp 2, .tmp 3] [22, 4] [.d .str a0] k)))
        none)
      none))) (by kernel_rfl) ?_
  simp only [f12L0_eq, f12K0_x0]
theorem f12_spec (a0 : ByteArray) (hg : gPtrOf a0 = true) : ∃ keep rounds, ∀ {R : Type} (k : List Dt → Option R), evFn f12e keep rounds f12c [.ro] [false, false] true [.tmp 2, .tmp 3] [22, 4] [.d .str a0] k = k [.d (.sl .str) ((ptrOf a0).1), .d .bool ((ptrOf a0).2)] := by
  have hl : a0.size ≤ 1048576 := bleN hg
  have hsz := szL_tail a0.data.toList
  have hd := szL_dec (splL a0.data.toList).tail
  have hbl := bszL a0
  cases he : sEq a0 ByteArray.empty
  · have hgs : gSplit a0 (bs [47]) = true := by
      unfold gSplit; rw [Nat.ble_eq_true_of_le (by omega : a0.size ≤ 2147483648)]; rfl
    obtain ⟨x, t, e1, e2⟩ : ∃ x t, splL a0.data.toList = x :: t ∧ True := by
      cases hs : splL a0.data.toList with
      | nil => exact absurd hs (splL_ne _)
      | cons x t => exact ⟨x, t, rfl, trivial⟩
    have es : splitS a0 (bs [47]) = mkB x :: t.map mkB := by rw [splitS_1, e1]; rfl
    rw [e1, List.tail_cons] at hsz hd
    have htl := szL_ge List.length t
    refine ⟨f12k, t.length + 1, fun {R} k => ?_⟩
    rw [f12_run]
    have hlen : (mkB x :: t.map mkB).length = t.length + 1 := by simp
    have c1 : decide ((1 : Int) ≤ ((mkB x :: t.map mkB).length : Int)) = true := decide_eq_true (by rw [hlen]; omega)
    have c2 : decide (((mkB x :: t.map mkB).length : Int) ≤ ((mkB x :: t.map mkB).length : Int)) = true := decide_eq_true (Int.le_refl _)
    have c3 : Int.toNat ((mkB x :: t.map mkB).length : Int) = t.length + 1 := by rw [hlen]; rfl
    have c4 : ((mkB x :: t.map mkB).take (t.length + 1)).drop 1 = t.map mkB := by rw [← hlen, List.take_length]; rfl
    have c5 : ((t.map mkB).length : Int) = (t.length : Int) := by simp
    simp only [he, hgs, es, c1, c2, c3, c4, c5, Bool.and_self, cond_true, cond_false]
    refine Eq.trans (loop_acc (xs := t) (F := fun m j out => f12L0 (t.length + 1) _ a0 (t.length + 1) (t.length : Int) (mkB x :: t.map mkB) m (j : Int) out) (f := fun out s => out ++ [mkB (decB s)]) (good := fun out => cond (gPtrT out) (cond (!(sEq (ptrText out) a0)) (k [.d (.sl .str) ([] : List ByteArray), .d .bool false]) (k [.d (.sl .str) out, .d .bool true])) none) (fun j out => out.length = j)
      (fun j out y hy hi => ?_) (fun m j out y hy hi => ?_) (fun m out hi => by simp only [f12L0, idxE, cond_false]) t.length 0 (t.length + 1) [] (by omega) (by omega) rfl) ?_
    · have hi : out.length = j := hi
      simp [hi]
    · have hi : out.length = j := hi
      obtain ⟨h1, h0, hw, ht⟩ := idx (lt_of_get hy) (by omega)
      have hj := lt_of_get hy
      have hat : atI (t := .str) (mkB x :: t.map mkB) (1 + j) = mkB y := atI_of (t := .str) (by rw [Nat.add_comm, List.getElem?_cons_succ, List.getElem?_map, hy]; rfl)
      have hb : Nat.ble (out.length + 1) LIM = true := Nat.ble_eq_true_of_le (by have : (LIM : Nat) = 4294967296 := rfl; omega)
      have hyz : y.length ≤ 1048576 := by
        have := sum_le List.length (List.mem_of_getElem? hy)
        unfold szL at hsz; omega
      have g1 : gRepl (mkB y) (bs [126,49]) (bs [47]) = true := by
        unfold gRepl; rw [mkB_size, Nat.ble_eq_true_of_le (by omega : y.length ≤ 2147483648)]; rfl
      have g2 : gRepl (replS (mkB y) (bs [126,49]) (bs [47])) (bs [126,48]) (bs [126]) = true := by
        have := r1_len y
        unfold gRepl; rw [replS_d1, data_mkB, mkB_size, Nat.ble_eq_true_of_le (by omega : (r1 y).length ≤ 2147483648)]; rfl
      simp only [f12L0, h1, h0, hw, ht, c4, c5, hat, g1, g2, hb, replS_d2, data_mkB, Bool.and_self, cond_true]
    · rw [List.drop_zero]
      have key : ∀ (xs : List (List UInt8)) (l : List ByteArray), xs.foldl (fun out s => out ++ [mkB (decB s)]) l = l ++ (xs.map decB).map mkB := by
        intro xs
        induction xs with
        | nil => intro l; simp
        | cons x r ih => intro l; rw [List.foldl_cons, ih]; simp
      rw [key t [], List.nil_append]
      have hg2 : gPtrT ((t.map decB).map mkB) = true := Nat.ble_eq_true_of_le (by omega)
      have hz : Nat.beq a0.size 0 = false := by rw [size0, he]
      have hp : partsOf a0.data.toList = t.map decB := by unfold partsOf; rw [e1]; rfl
      simp only [hg2, cond_true, ptrOf, hz, hp, cond_false]
      cases sEq (ptrText ((t.map decB).map mkB)) a0 <;> rfl
  · refine ⟨f12k, 0, fun {R} k => ?_⟩
    rw [f12_run]
    have hz : Nat.beq a0.size 0 = true := by rw [size0, he]
    simp only [he, cond_true, ptrOf, hz]

noncomputable def q12 : List Dt → Option (Bool × List Dt)
  | [.d .str a0] => some ((gPtrOf a0), [.d (.sl .str) ((ptrOf a0).1), .d .bool ((ptrOf a0).2)])
  | _ => none
noncomputable def s12 : Gm.Spec := Gm.Spec.of [.ro] [false, false] true q12
theorem good12 : Gm.Good Tryd.prog (12, s12) := by
  have hl : ∀ x ∈ [(9, s9), (19, s19), (20, s20)], Gm.Good Tryd.prog x := List.forall_mem_cons.2 ⟨good9, List.forall_mem_cons.2 ⟨good19, List.forall_mem_cons.2 ⟨good20, List.forall_mem_nil _⟩⟩⟩
  refine ⟨⟨spec_ok (tab_ok.env hl) (tab.natl hl) Tryd.func12 (by kernel_rfl : Tryd.f12.body = some f12c) [22, 4] (by kernel_rfl) ?_, _, Tryd.func12, by kernel_rfl, of_decide_eq_true (by kernel_rfl)⟩, Gm.Spec.of_natl _ _ _ _⟩
  intro ds outs h
  unfold q12 at h
  split at h
  · simp only [Option.some.injEq, Prod.mk.injEq] at h; obtain ⟨hg, h⟩ := h; cases h; exact f12_spec _ hg
  · cases h
end Go.Proofs.YtinbejnakemfjaaDoor

/- x -/
namespace Go.Proofs.YtinbejnakemfjaaDoor
open Go Go.Gm
/-! ### loop.example/g00465/spec.DrawPtrText -/
noncomputable def f16c : Code := (Tryd.f16.body).getD .skip
def f16k : Nat → Kp := kat [⟨[0], [], [], []⟩, ⟨[3], [], [], []⟩, ⟨[3, 4], [], [], []⟩, ⟨[3, 4, 5], [], [], []⟩, ⟨[3, 4, 5, 12], [], [], []⟩, ⟨[3, 4, 5], [], [], []⟩, ⟨[3, 4, 5], [], [], []⟩, ⟨[2], [], [], []⟩]
noncomputable def f16e : Env := tab.env [(22, s22), (23, s23), (24, s24)]
noncomputable def f16L0 {R : Type} (n : Nat) (x0 : Int → Bool → (List Int) → Int → Int → (List ByteArray) → Option R)  : Nat → Int → (List Int) → Int → Int → (List ByteArray) → Option R
  | 0, _, _, _, _, _ => none
  | m + 1, vs5, vb7_0, vb7_1, vb7_2, vr512 =>
    (cond ((fun c _ => gCur c) (⟨vb7_0, vb7_1, vb7_2⟩ : CurT) (4 : Int))
      (cond (decide (vs5 < ((curBelow (⟨vb7_0, vb7_1, vb7_2⟩ : CurT) (4 : Int)).1)))
        (cond (gPickS ((curBelow (⟨vb7_0, vb7_1, vb7_2⟩ : CurT) (4 : Int)).2) ([ByteArray.empty, (bs [97]), (bs [126]), (bs [47]), (bs [126,49]), (bs [97,47,98]), (bs [120,32,121])] : List ByteArray))
          (cond (Nat.ble (vr512.length + 1) LIM)
            (f16L0 n x0 m (IntKind.wrap .i64 (vs5 + (1 : Int))) (CurT.b ((curPick ((curBelow (⟨vb7_0, vb7_1, vb7_2⟩ : CurT) (4 : Int)).2) ([ByteArray.empty, (bs [97]), (bs [126]), (bs [47]), (bs [126,49]), (bs [97,47,98]), (bs [120,32,121])] : List ByteArray)).2)) (CurT.i ((curPick ((curBelow (⟨vb7_0, vb7_1, vb7_2⟩ : CurT) (4 : Int)).2) ([ByteArray.empty, (bs [97]), (bs [126]), (bs [47]), (bs [126,49]), (bs [97,47,98]), (bs [120,32,121])] : List ByteArray)).2)) (CurT.h ((curPick ((curBelow (⟨vb7_0, vb7_1, vb7_2⟩ : CurT) (4 : Int)).2) ([ByteArray.empty, (bs [97]), (bs [126]), (bs [47]), (bs [126,49]), (bs [97,47,98]), (bs [120,32,121])] : List ByteArray)).2)) (vr512 ++ ([((curPick ((curBelow (⟨vb7_0, vb7_1, vb7_2⟩ : CurT) (4 : Int)).2) ([ByteArray.empty, (bs [97]), (bs [126]), (bs [47]), (bs [126,49]), (bs [97,47,98]), (bs [120,32,121])] : List ByteArray)).1)] : List ByteArray)))
            none)
          none)
        (x0 vs5 (decide (vs5 < ((curBelow (⟨vb7_0, vb7_1, vb7_2⟩ : CurT) (4 : Int)).1))) (CurT.b ((curBelow (⟨vb7_0, vb7_1, vb7_2⟩ : CurT) (4 : Int)).2)) (CurT.i ((curBelow (⟨vb7_0, vb7_1, vb7_2⟩ : CurT) (4 : Int)).2)) (CurT.h ((curBelow (⟨vb7_0, vb7_1, vb7_2⟩ : CurT) (4 : Int)).2)) vr512))
      none)
theorem f16L0_b {R : Type} (n : Nat) (k' : Ex → St → Option R) (vs5 : Int) (vb7_0 : List Int) (vb7_1 : Int) (vb7_2 : Int) (vr512 : List ByteArray) : ev f16e f16k n (cAt [1,1,1,0,1,0,0] f16c) ⟨[(3, .c (.one (.pt 7 0))), (4, .c (.one (.h 512 0 0 []))), (5, .c (.one (.v (.int .i64 vs5))))], [(7, ⟨.cur, [.rk (.i .u8) vb7_0, .v (.int .i64 vb7_1), .v (.int .i64 vb7_2)]⟩)], [(512, .live ⟨.str, .deep, 0, [], vr512⟩)]⟩ k' =
    (cond ((fun c _ => gCur c) (⟨vb7_0, vb7_1, vb7_2⟩ : CurT) (4 : Int))
    (cond (decide (vs5 < ((curBelow (⟨vb7_0, vb7_1, vb7_2⟩ : CurT) (4 : Int)).1)))
      (cond (gPickS ((curBelow (⟨vb7_0, vb7_1, vb7_2⟩ : CurT) (4 : Int)).2) ([ByteArray.empty, (bs [97]), (bs [126]), (bs [47]), (bs [126,49]), (bs [97,47,98]), (bs [120,32,121])] : List ByteArray))
        (cond (Nat.ble (vr512.length + 1) LIM)
          (k' .normal ⟨[(3, .c (.one (.pt 7 0))), (4, .c (.one (.h 512 0 0 []))), (5, .c (.one (.v (.int .i64 (IntKind.wrap .i64 (vs5 + (1 : Int)))))))], [(7, ⟨.cur, [.rk (.i .u8) (CurT.b ((curPick ((curBelow (⟨vb7_0, vb7_1, vb7_2⟩ : CurT) (4 : Int)).2) ([ByteArray.empty, (bs [97]), (bs [126]), (bs [47]), (bs [126,49]), (bs [97,47,98]), (bs [120,32,121])] : List ByteArray)).2)), .v (.int .i64 (CurT.i ((curPick ((curBelow (⟨vb7_0, vb7_1, vb7_2⟩ : CurT) (4 : Int)).2) ([ByteArray.empty, (bs [97]), (bs [126]), (bs [47]), (bs [126,49]), (bs [97,47,98]), (bs [120,32,121])] : List ByteArray)).2))), .v (.int .i64 (CurT.h ((curPick ((curBelow (⟨vb7_0, vb7_1, vb7_2⟩ : CurT) (4 : Int)).2) ([ByteArray.empty, (bs [97]), (bs [126]), (bs [47]), (bs [126,49]), (bs [97,47,98]), (bs [120,32,121])] : List ByteArray)).2)))]⟩)], [(512, .live ⟨.str, .deep, 0, [], (vr512 ++ ([((curPick ((curBelow (⟨vb7_0, vb7_1, vb7_2⟩ : CurT) (4 : Int)).2) ([ByteArray.empty, (bs [97]), (bs [126]), (bs [47]), (bs [126,49]), (bs [97,47,98]), (bs [120,32,121])] : List ByteArray)).1)] : List ByteArray))⟩)]⟩)
          none)
        none)
      (k' (.exit 0) ⟨[(3, .c (.one (.pt 7 0))), (4, .c (.one (.h 512 0 0 []))), (5, .c (.one (.v (.int .i64 vs5)))), (12, .c (.one (.v (.bool (decide (vs5 < ((curBelow (⟨vb7_0, vb7_1, vb7_2⟩ : CurT) (4 : Int)).1)))))))], [(7, ⟨.cur, [.rk (.i .u8) (CurT.b ((curBelow (⟨vb7_0, vb7_1, vb7_2⟩ : CurT) (4 : Int)).2)), .v (.int .i64 (CurT.i ((curBelow (⟨vb7_0, vb7_1, vb7_2⟩ : CurT) (4 : Int)).2))), .v (.int .i64 (CurT.h ((curBelow (⟨vb7_0, vb7_1, vb7_2⟩ : CurT) (4 : Int)).2)))]⟩)], [(512, .live ⟨.str, .deep, 0, [], vr512⟩)]⟩))
    none) := by kernel_rfl
theorem f16L0_eq {R : Type} (n : Nat) (k' : Ex → St → Option R)  : ∀ (m : Nat) (vs5 : Int) (vb7_0 : List Int) (vb7_1 : Int) (vb7_2 : Int) (vr512 : List ByteArray), iter (fun st k => ev f16e f16k n (cAt [1,1,1,0,1,0,0] f16c) st k) m ⟨[(3, .c (.one (.pt 7 0))), (4, .c (.one (.h 512 0 0 []))), (5, .c (.one (.v (.int .i64 vs5))))], [(7, ⟨.cur, [.rk (.i .u8) vb7_0, .v (.int .i64 vb7_1), .v (.int .i64 vb7_2)]⟩)], [(512, .live ⟨.str, .deep, 0, [], vr512⟩)]⟩ k' = f16L0 n (fun (xvs5 : Int) (xvs12 : Bool) (xvb7_0 : List Int) (xvb7_1 : Int) (xvb7_2 : Int) (xvr512 : List ByteArray) => k' (.exit 0) ⟨[(3, .c (.one (.pt 7 0))), (4, .c (.one (.h 512 0 0 []))), (5, .c (.one (.v (.int .i64 xvs5)))), (12, .c (.one (.v (.bool xvs12))))], [(7, ⟨.cur, [.rk (.i .u8) xvb7_0, .v (.int .i64 xvb7_1), .v (.int .i64 xvb7_2)]⟩)], [(512, .live ⟨.str, .deep, 0, [], xvr512⟩)]⟩) m vs5 vb7_0 vb7_1 vb7_2 vr512 := by
  intro m; induction m with
  | zero => intros; rfl
  | succ m ih =>
    intro vs5 vb7_0 vb7_1 vb7_2 vr512
    simp only [iter]
    rw [f16L0_b]
    simp only [ih, f16L0]

noncomputable def f16K0 {R : Type} (n : Nat) (k' : Ex → St → Option R) : Ex → St → Option R := (blockK 0 (seqK f16e f16k n (cAt [1,1,1,1] f16c) k'))
theorem f16K0_x0 {R : Type} (n : Nat) (k : List Dt → Option R) (a0 : List Int) (xvs5 : Int) (xvs12 : Bool) (xvb7_0 : List Int) (xvb7_1 : Int) (xvb7_2 : Int) (xvr512 : List ByteArray) : f16K0 n (exitK f16e [.kp] [false] true [.tmp 2] [22] [.d (.sl (.i .u8)) a0] k) (.exit 0) ⟨[(3, .c (.one (.pt 7 0))), (4, .c (.one (.h 512 0 0 []))), (5, .c (.one (.v (.int .i64 xvs5)))), (12, .c (.one (.v (.bool xvs12))))], [(7, ⟨.cur, [.rk (.i .u8) xvb7_0, .v (.int .i64 xvb7_1), .v (.int .i64 xvb7_2)]⟩)], [(512, .live ⟨.str, .deep, 0, [], xvr512⟩)]⟩ =
    (k [.d (.sl .str) xvr512]) := by kernel_rfl

theorem f16_run {R : Type} (n : Nat) (k : List Dt → Option R) (a0 : List Int) : evFn f16e f16k n f16c [.kp] [false] true [.tmp 2] [22] [.d (.sl (.i .u8)) a0] k =
    (cond (gCode a0)
    (f16L0 n (fun (xvs5 : Int) (xvs12 : Bool) (xvb7_0 : List Int) (xvb7_1 : Int) (xvb7_2 : Int) (xvr512 : List ByteArray) =>
      (k [.d (.sl .str) xvr512])) n (0 : Int) (CurT.b (curNew a0)) (CurT.i (curNew a0)) (CurT.h (curNew a0)) ([] : List ByteArray))
    none) := by
  refine Eq.trans (b := (cond (gCode a0)
    (iter (fun st k => ev f16e f16k n (cAt [1,1,1,0,1,0,0] f16c) st k) n ⟨[(3, .c (.one (.pt 7 0))), (4, .c (.one (.h 512 0 0 []))), (5, .c (.one (.v (.int .i64 (0 : Int)))))], [(7, ⟨.cur, [.rk (.i .u8) (CurT.b (curNew a0)), .v (.int .i64 (CurT.i (curNew a0))), .v (.int .i64 (CurT.h (curNew a0)))]⟩)], [(512, .live ⟨.str, .deep, 0, [], ([] : List ByteArray)⟩)]⟩ (f16K0 n (exitK f16e [.kp] [false] true [.tmp 2] [22] [.d (.sl (.i .u8)) a0] k)))
    none)) (by kernel_rfl) ?_
  simp only [f16L0_eq, f16K0_x0]
def f16_P (a0 : List Int) (o : List ByteArray) : Prop := (fun _ o => szL ByteArray.size o ≤ 16) a0 o ∧ ∃ n : Nat, ∀ {R : Type} (k : List Dt → Option R), evFn f16e f16k n f16c [.kp] [false] true [.tmp 2] [22] [.d (.sl (.i .u8)) a0] k = k [.d (.sl .str) o]
theorem f16_ex (a0 : List Int) (hg : gCode a0 = true) : ∃ o : List ByteArray, (fun _ o => szL ByteArray.size o ≤ 16) a0 o ∧ ∃ n : Nat, ∀ {R : Type} (k : List Dt → Option R), evFn f16e f16k n f16c [.kp] [false] true [.tmp 2] [22] [.d (.sl (.i .u8)) a0] k = k [.d (.sl .str) o] := by
  have key : ∀ (d m : Nat) (i : Int) (out : List ByteArray) (c : CurT), 0 ≤ i → 4 ≤ i + d → i ≤ 4 → d < m → (szL ByteArray.size out : Int) ≤ 4 * i → gCur c = true →
      ∃ o : List ByteArray, szL ByteArray.size o ≤ 16 ∧ ∀ {R : Type} (X : Int → Bool → (List Int) → Int → Int → (List ByteArray) → Option R) (Z : List ByteArray → Option R), (∀ i b c1 c2 c3 w, X i b c1 c2 c3 w = Z w) → f16L0 5 X m i c.b c.i c.h out = Z o := by
    intro d
    induction d with
    | zero =>
      intro m i out c h0 hi hi2 hm hs hc
      obtain ⟨m, rfl⟩ : ∃ m', m = m' + 1 := ⟨m - 1, by omega⟩
      obtain ⟨b0, b1, g1⟩ := curBelow_ok c 4 hc
      have b1 := b1 (by omega)
      refine ⟨out, by omega, fun {R} X Z hX => ?_⟩
      simp only [f16L0, eta_cur, hc, decide_eq_false (show ¬ i < (curBelow c 4).1 by omega), cond_true, cond_false, hX]
    | succ d ih =>
      intro m i out c h0 hi hi2 hm hs hc
      obtain ⟨m, rfl⟩ : ∃ m', m = m' + 1 := ⟨m - 1, by omega⟩
      obtain ⟨b0, b1, g1⟩ := curBelow_ok c 4 hc
      have b1 := b1 (by omega)
      cases hd : decide (i < (curBelow c 4).1)
      · refine ⟨out, by omega, fun {R} X Z hX => ?_⟩
        simp only [f16L0, eta_cur, hc, hd, cond_true, cond_false, hX]
      have hlt := of_decide_eq_true hd
      have hw : IntKind.wrap .i64 (i + 1) = i + 1 := wrap_id (by omega) (by omega)
      have hp := gPickS_of (l := ([ByteArray.empty, (bs [97]), (bs [126]), (bs [47]), (bs [126,49]), (bs [97,47,98]), (bs [120,32,121])] : List ByteArray)) g1 rfl
      obtain ⟨hmem, g2⟩ := curPick_ok _ _ hp
      have hz := List.all_eq_true.1 (show (([ByteArray.empty, (bs [97]), (bs [126]), (bs [47]), (bs [126,49]), (bs [97,47,98]), (bs [120,32,121])] : List ByteArray).all fun x => Nat.ble x.size 3) = true from rfl) _ hmem
      have hz := bleN hz
      have hb : Nat.ble (out.length + 1) LIM = true := Nat.ble_eq_true_of_le (by have := szL_ge ByteArray.size out; have : (LIM : Nat) = 4294967296 := rfl; omega)
      obtain ⟨o1, ho1, hh1⟩ := ih m (i + 1) (out ++ [(curPick (curBelow c 4).2 ([ByteArray.empty, (bs [97]), (bs [126]), (bs [47]), (bs [126,49]), (bs [97,47,98]), (bs [120,32,121])] : List ByteArray)).1]) (curPick (curBelow c 4).2 ([ByteArray.empty, (bs [97]), (bs [126]), (bs [47]), (bs [126,49]), (bs [97,47,98]), (bs [120,32,121])] : List ByteArray)).2 (by omega) (by omega) (by omega) (by omega) (by
        have : szL ByteArray.size (out ++ [(curPick (curBelow c 4).2 ([ByteArray.empty, (bs [97]), (bs [126]), (bs [47]), (bs [126,49]), (bs [97,47,98]), (bs [120,32,121])] : List ByteArray)).1]) = szL ByteArray.size out + 1 + ByteArray.size (curPick (curBelow c 4).2 ([ByteArray.empty, (bs [97]), (bs [126]), (bs [47]), (bs [126,49]), (bs [97,47,98]), (bs [120,32,121])] : List ByteArray)).1 := by simp [szL]; omega
        omega) g2
      exact ⟨o1, ho1, fun {R} X Z hX => by
        simp only [f16L0, eta_cur, hc, hd, hp, hb, hw, cond_true, cond_false]
        exact hh1 X Z hX⟩
  obtain ⟨o, ho, hh⟩ := key 4 5 0 [] (curNew a0) (by omega) (by omega) (by omega) (by omega) (by simp [szL]) (curNew_ok a0 hg)
  refine ⟨o, ho, 5, fun {R} k => ?_⟩
  rw [f16_run]
  simp only [hg, cond_true]
  exact hh _ (fun w => k [.d (.sl .str) w]) (fun _ _ _ _ _ _ => rfl)

theorem f16_ne (a0 : List Int) : Nonempty {o : List ByteArray // gCode a0 = true → f16_P a0 o} := by
  by_cases hg : gCode a0 = true
  · obtain ⟨o, ho⟩ := f16_ex a0 hg
    exact ⟨⟨o, fun _ => ho⟩⟩
  · exact ⟨⟨([]), fun h => absurd h hg⟩⟩
noncomputable def dPtrT (a0 : List Int) : List ByteArray := (Classical.choice (f16_ne a0)).val
theorem f16_sp (a0 : List Int) (hg : gCode a0 = true) : f16_P a0 (dPtrT a0) := (Classical.choice (f16_ne a0)).property hg
theorem dPtrT_ok (a0 : List Int) (hg : gCode a0 = true) : (fun _ o => szL ByteArray.size o ≤ 16) a0 (dPtrT a0) := (f16_sp a0 hg).1
theorem f16_spec (a0 : List Int) (hg : gCode a0 = true) : ∃ keep rounds, ∀ {R : Type} (k : List Dt → Option R), evFn f16e keep rounds f16c [.kp] [false] true [.tmp 2] [22] [.d (.sl (.i .u8)) a0] k = k [.d (.sl .str) (dPtrT a0)] := by
  obtain ⟨n, hn⟩ := (f16_sp a0 hg).2
  exact ⟨f16k, n, hn⟩

noncomputable def q16 : List Dt → Option (Bool × List Dt)
  | [.d (.sl (.i .u8)) a0] => some ((gCode a0), [.d (.sl .str) (dPtrT a0)])
  | _ => none
noncomputable def s16 : Gm.Spec := Gm.Spec.of [.kp] [false] true q16
theorem good16 : Gm.Good Tryd.prog (16, s16) := by
  have hl : ∀ x ∈ [(22, s22), (23, s23), (24, s24)], Gm.Good Tryd.prog x := List.forall_mem_cons.2 ⟨good22, List.forall_mem_cons.2 ⟨good23, List.forall_mem_cons.2 ⟨good24, List.forall_mem_nil _⟩⟩⟩
  refine ⟨⟨spec_ok (tab_ok.env hl) (tab.natl hl) Tryd.func16 (by kernel_rfl : Tryd.f16.body = some f16c) [22] (by kernel_rfl) ?_, _, Tryd.func16, by kernel_rfl, of_decide_eq_true (by kernel_rfl)⟩, Gm.Spec.of_natl _ _ _ _⟩
  intro ds outs h
  unfold q16 at h
  split at h
  · simp only [Option.some.injEq, Prod.mk.injEq] at h; obtain ⟨hg, h⟩ := h; cases h; exact f16_spec _ hg
  · cases h
/-! ### loop.example/g00465/spec.DrawPtrOf -/
noncomputable def f17c : Code := (Tryd.f17.body).getD .skip
def f17k : Nat → Kp := kat [⟨[0], [], [], []⟩, ⟨[0, 3], [], [], []⟩, ⟨[3, 4], [], [], []⟩, ⟨[3, 4, 5], [], [], []⟩, ⟨[3, 4, 5, 17], [], [], []⟩, ⟨[3, 4, 5, 17, 18], [], [], []⟩, ⟨[2], [], [], []⟩, ⟨[3, 4, 5, 23], [], [], []⟩, ⟨[2], [], [], []⟩, ⟨[2], [], [], []⟩]
noncomputable def f17e : Env := tab.env [(7, s7), (16, s16), (22, s22), (23, s23), (24, s24)]
theorem f17_run {R : Type} (n : Nat) (k : List Dt → Option R) (a0 : List Int) : evFn f17e f17k n f17c [.kp] [false] true [.tmp 2] [9] [.d (.sl (.i .u8)) a0] k =
    (cond (gCode a0)
    (cond (gCode a0)
      (cond (gPtrT (dPtrT a0))
        (cond ((fun c _ => gCur c) (curNew a0) (IntKind.wrap .i64 ((ByteArray.size (ptrText (dPtrT a0)) : Int) + (1 : Int))))
          (cond ((fun c _ => gCur c) ((curBelow (curNew a0) (IntKind.wrap .i64 ((ByteArray.size (ptrText (dPtrT a0)) : Int) + (1 : Int)))).2) (4 : Int))
            (cond (((curBelow ((curBelow (curNew a0) (IntKind.wrap .i64 ((ByteArray.size (ptrText (dPtrT a0)) : Int) + (1 : Int)))).2) (4 : Int)).1) == (0 : Int))
              (cond ((decide ((0 : Int) ≤ ((curBelow (curNew a0) (IntKind.wrap .i64 ((ByteArray.size (ptrText (dPtrT a0)) : Int) + (1 : Int)))).1))) && (decide (((curBelow (curNew a0) (IntKind.wrap .i64 ((ByteArray.size (ptrText (dPtrT a0)) : Int) + (1 : Int)))).1) ≤ (ByteArray.size (ptrText (dPtrT a0)) : Int))))
                (k [.d .str (ByteArray.extract (ptrText (dPtrT a0)) 0 (Int.toNat ((curBelow (curNew a0) (IntKind.wrap .i64 ((ByteArray.size (ptrText (dPtrT a0)) : Int) + (1 : Int)))).1)))])
                none)
              (cond (((curBelow ((curBelow (curNew a0) (IntKind.wrap .i64 ((ByteArray.size (ptrText (dPtrT a0)) : Int) + (1 : Int)))).2) (4 : Int)).1) == (1 : Int))
                (cond ((decide ((0 : Int) ≤ ((curBelow (curNew a0) (IntKind.wrap .i64 ((ByteArray.size (ptrText (dPtrT a0)) : Int) + (1 : Int)))).1))) && (decide (((curBelow (curNew a0) (IntKind.wrap .i64 ((ByteArray.size (ptrText (dPtrT a0)) : Int) + (1 : Int)))).1) ≤ (ByteArray.size (ptrText (dPtrT a0)) : Int))))
                  (cond (gPickS ((curBelow ((curBelow (curNew a0) (IntKind.wrap .i64 ((ByteArray.size (ptrText (dPtrT a0)) : Int) + (1 : Int)))).2) (4 : Int)).2) ([(bs [126]), (bs [47]), (bs [126,50]), (bs [97])] : List ByteArray))
                    (cond (decide (ByteArray.size (ByteArray.extract (ptrText (dPtrT a0)) 0 (Int.toNat ((curBelow (curNew a0) (IntKind.wrap .i64 ((ByteArray.size (ptrText (dPtrT a0)) : Int) + (1 : Int)))).1))) + ByteArray.size ((curPick ((curBelow ((curBelow (curNew a0) (IntKind.wrap .i64 ((ByteArray.size (ptrText (dPtrT a0)) : Int) + (1 : Int)))).2) (4 : Int)).2) ([(bs [126]), (bs [47]), (bs [126,50]), (bs [97])] : List ByteArray)).1) ≤ 9223372036854775807))
                      (cond ((decide ((0 : Int) ≤ ((curBelow (curNew a0) (IntKind.wrap .i64 ((ByteArray.size (ptrText (dPtrT a0)) : Int) + (1 : Int)))).1))) && ((decide (((curBelow (curNew a0) (IntKind.wrap .i64 ((ByteArray.size (ptrText (dPtrT a0)) : Int) + (1 : Int)))).1) ≤ (ByteArray.size (ptrText (dPtrT a0)) : Int))) && (decide ((ByteArray.size (ptrText (dPtrT a0)) : Int) ≤ (ByteArray.size (ptrText (dPtrT a0)) : Int)))))
                        (cond (decide (ByteArray.size ((ByteArray.extract (ptrText (dPtrT a0)) 0 (Int.toNat ((curBelow (curNew a0) (IntKind.wrap .i64 ((ByteArray.size (ptrText (dPtrT a0)) : Int) + (1 : Int)))).1))) ++ ((curPick ((curBelow ((curBelow (curNew a0) (IntKind.wrap .i64 ((ByteArray.size (ptrText (dPtrT a0)) : Int) + (1 : Int)))).2) (4 : Int)).2) ([(bs [126]), (bs [47]), (bs [126,50]), (bs [97])] : List ByteArray)).1)) + ByteArray.size (ByteArray.extract (ptrText (dPtrT a0)) (Int.toNat ((curBelow (curNew a0) (IntKind.wrap .i64 ((ByteArray.size (ptrText (dPtrT a0)) : Int) + (1 : Int)))).1)) (Int.toNat (ByteArray.size (ptrText (dPtrT a0)) : Int))) ≤ 9223372036854775807))
                          (k [.d .str (((ByteArray.extract (ptrText (dPtrT a0)) 0 (Int.toNat ((curBelow (curNew a0) (IntKind.wrap .i64 ((ByteArray.size (ptrText (dPtrT a0)) : Int) + (1 : Int)))).1))) ++ ((curPick ((curBelow ((curBelow (curNew a0) (IntKind.wrap .i64 ((ByteArray.size (ptrText (dPtrT a0)) : Int) + (1 : Int)))).2) (4 : Int)).2) ([(bs [126]), (bs [47]), (bs [126,50]), (bs [97])] : List ByteArray)).1)) ++ (ByteArray.extract (ptrText (dPtrT a0)) (Int.toNat ((curBelow (curNew a0) (IntKind.wrap .i64 ((ByteArray.size (ptrText (dPtrT a0)) : Int) + (1 : Int)))).1)) (Int.toNat (ByteArray.size (ptrText (dPtrT a0)) : Int))))])
                          none)
                        none)
                      none)
                    none)
                  none)
                (k [.d .str (ptrText (dPtrT a0))])))
            none)
          none)
        none)
      none)
    none) := by kernel_rfl
def f17_P (a0 : List Int) (o : ByteArray) : Prop := (fun _ o => o.size ≤ 200) a0 o ∧ ∃ n : Nat, ∀ {R : Type} (k : List Dt → Option R), evFn f17e f17k n f17c [.kp] [false] true [.tmp 2] [9] [.d (.sl (.i .u8)) a0] k = k [.d .str o]
theorem f17_ex (a0 : List Int) (hg : gCode a0 = true) : ∃ o : ByteArray, (fun _ o => o.size ≤ 200) a0 o ∧ ∃ n : Nat, ∀ {R : Type} (k : List Dt → Option R), evFn f17e f17k n f17c [.kp] [false] true [.tmp 2] [9] [.d (.sl (.i .u8)) a0] k = k [.d .str o] := by
  have g0 := curNew_ok a0 hg
  have hs := dPtrT_ok a0 hg
  have gt : gPtrT (dPtrT a0) = true := Nat.ble_eq_true_of_le (by omega)
  have hz := ptrText_le (dPtrT a0)
  have hw : IntKind.wrap .i64 ((ByteArray.size (ptrText (dPtrT a0)) : Int) + (1 : Int)) = (ByteArray.size (ptrText (dPtrT a0)) : Int) + 1 := wrap_id (by omega) (by omega)
  generalize hS : ptrText (dPtrT a0) = S at *
  obtain ⟨b0, b1, g1⟩ := curBelow_ok (curNew a0) ((S.size : Int) + 1) g0
  have b1 := b1 (by omega)
  obtain ⟨_, _, g2⟩ := curBelow_ok (curBelow (curNew a0) ((S.size : Int) + 1)).2 4 g1
  have c0 := decide_eq_true b0
  have c1 : decide ((curBelow (curNew a0) ((S.size : Int) + 1)).1 ≤ (S.size : Int)) = true := decide_eq_true (by omega)
  have c2 : decide ((S.size : Int) ≤ (S.size : Int)) = true := decide_eq_true (Int.le_refl _)
  have hp := gPickS_of (l := ([(bs [126]), (bs [47]), (bs [126,50]), (bs [97])] : List ByteArray)) g2 rfl
  obtain ⟨hmem, g3⟩ := curPick_ok _ _ hp
  have hz2 := bleN (List.all_eq_true.1 (show (([(bs [126]), (bs [47]), (bs [126,50]), (bs [97])] : List ByteArray).all fun x => Nat.ble x.size 3) = true from rfl) _ hmem)
  cases e0 : ((curBelow (curBelow (curNew a0) ((S.size : Int) + 1)).2 4).1 == (0 : Int))
  rotate_left
  · refine ⟨?az0, ?gz0, 0, ?rz0⟩
    case rz0 =>
      intro R k
      rw [f17_run]
      simp only [hS, hg, gt, hw, g0, g1, e0, c0, c1, Bool.and_self, cond_true, cond_false]
      exact rfl
    case gz0 =>
      show ByteArray.size _ ≤ 200
      rw [ByteArray.size_extract]; omega
  cases e1 : ((curBelow (curBelow (curNew a0) ((S.size : Int) + 1)).2 4).1 == (1 : Int))
  · refine ⟨?bz0, ?gz0, 0, ?rz0⟩
    case rz0 =>
      intro R k
      rw [f17_run]
      simp only [hS, hg, gt, hw, g0, g1, e0, e1, Bool.and_self, cond_true, cond_false]
      exact rfl
    case gz0 =>
      show ByteArray.size _ ≤ 200
      omega
  · have d1 : decide (ByteArray.size (S.extract 0 (Int.toNat (curBelow (curNew a0) ((S.size : Int) + 1)).1)) + ByteArray.size (curPick (curBelow (curBelow (curNew a0) ((S.size : Int) + 1)).2 4).2 ([(bs [126]), (bs [47]), (bs [126,50]), (bs [97])] : List ByteArray)).1 ≤ 9223372036854775807) = true :=
      decide_eq_true (by rw [ByteArray.size_extract]; omega)
    have d2 : decide (ByteArray.size (S.extract 0 (Int.toNat (curBelow (curNew a0) ((S.size : Int) + 1)).1) ++ (curPick (curBelow (curBelow (curNew a0) ((S.size : Int) + 1)).2 4).2 ([(bs [126]), (bs [47]), (bs [126,50]), (bs [97])] : List ByteArray)).1) + ByteArray.size (S.extract (Int.toNat (curBelow (curNew a0) ((S.size : Int) + 1)).1) (Int.toNat (S.size : Int))) ≤ 9223372036854775807) = true :=
      decide_eq_true (by rw [ByteArray.size_append, ByteArray.size_extract, ByteArray.size_extract]; omega)
    refine ⟨?c, ?gz0, 0, ?rz0⟩
    case rz0 =>
      intro R k
      rw [f17_run]
      simp only [hS, hg, gt, hw, g0, g1, e0, e1, c0, c1, c2, hp, d1, d2, Bool.and_self, cond_true, cond_false]
      exact rfl
    case gz0 =>
      show ByteArray.size _ ≤ 200
      rw [ByteArray.size_append, ByteArray.size_append, ByteArray.size_extract, ByteArray.size_extract]; omega

theorem f17_ne (a0 : List Int) : Nonempty {o : ByteArray // gCode a0 = true → f17_P a0 o} := by
  by_cases hg : gCode a0 = true
  · obtain ⟨o, ho⟩ := f17_ex a0 hg
    exact ⟨⟨o, fun _ => ho⟩⟩
  · exact ⟨⟨((zero .str)), fun h => absurd h hg⟩⟩
noncomputable def dPtrO (a0 : List Int) : ByteArray := (Classical.choice (f17_ne a0)).val
theorem f17_sp (a0 : List Int) (hg : gCode a0 = true) : f17_P a0 (dPtrO a0) := (Classical.choice (f17_ne a0)).property hg
theorem dPtrO_ok (a0 : List Int) (hg : gCode a0 = true) : (fun _ o => o.size ≤ 200) a0 (dPtrO a0) := (f17_sp a0 hg).1
theorem f17_spec (a0 : List Int) (hg : gCode a0 = true) : ∃ keep rounds, ∀ {R : Type} (k : List Dt → Option R), evFn f17e keep rounds f17c [.kp] [false] true [.tmp 2] [9] [.d (.sl (.i .u8)) a0] k = k [.d .str (dPtrO a0)] := by
  obtain ⟨n, hn⟩ := (f17_sp a0 hg).2
  exact ⟨f17k, n, hn⟩

noncomputable def q17 : List Dt → Option (Bool × List Dt)
  | [.d (.sl (.i .u8)) a0] => some ((gCode a0), [.d .str (dPtrO a0)])
  | _ => none
noncomputable def s17 : Gm.Spec := Gm.Spec.of [.kp] [false] true q17
theorem good17 : Gm.Good Tryd.prog (17, s17) := by
  have hl : ∀ x ∈ [(7, s7), (16, s16), (22, s22), (23, s23), (24, s24)], Gm.Good Tryd.prog x := List.forall_mem_cons.2 ⟨good7, List.forall_mem_cons.2 ⟨good16, List.forall_mem_cons.2 ⟨good22, List.forall_mem_cons.2 ⟨good23, List.forall_mem_cons.2 ⟨good24, List.forall_mem_nil _⟩⟩⟩⟩⟩
  refine ⟨⟨spec_ok (tab_ok.env hl) (tab.natl hl) Tryd.func17 (by kernel_rfl : Tryd.f17.body = some f17c) [9] (by kernel_rfl) ?_, _, Tryd.func17, by kernel_rfl, of_decide_eq_true (by kernel_rfl)⟩, Gm.Spec.of_natl _ _ _ _⟩
  intro ds outs h
  unfold q17 at h
  split at h
  · simp only [Option.some.injEq, Prod.mk.injEq] at h; obtain ⟨hg, h⟩ := h; cases h; exact f17_spec _ hg
  · cases h
end Go.Proofs.YtinbejnakemfjaaDoor

/- x -/
namespace Go.Proofs.YtinbejnakemfjaaDoor
open Go Go.Gm
/-! ### loop.example/g00465/laws.big -/
noncomputable def f15c : Code := (Tryd.f15.body).getD .skip
def f15k : Nat → Kp := kat [⟨[0], [], [], []⟩, ⟨[2], [], [], []⟩]
noncomputable def f15e : Env := tab.env []
theorem f15_run {R : Type} (n : Nat) (k : List Dt → Option R) (a0 : List Int) : evFn f15e f15k n f15c [.ro] [false] true [.tmp 2] [4] [.d (.sl (.i .u8)) a0] k =
    (k [.d .bool (decide ((a0.length : Int) > (1048576 : Int)))]) := by kernel_rfl
theorem f15_spec (a0 : List Int) : ∃ keep rounds, ∀ {R : Type} (k : List Dt → Option R), evFn f15e keep rounds f15c [.ro] [false] true [.tmp 2] [4] [.d (.sl (.i .u8)) a0] k = k [.d .bool (bigC a0)] := by
  exact ⟨f15k, 0, fun k => f15_run 0 k a0⟩

noncomputable def q15 : List Dt → Option (Bool × List Dt)
  | [.d (.sl (.i .u8)) a0] => some (true, [.d .bool (bigC a0)])
  | _ => none
noncomputable def s15 : Gm.Spec := Gm.Spec.of [.ro] [false] true q15
theorem good15 : Gm.Good Tryd.prog (15, s15) := by
  have hl : ∀ x ∈ ([] : List (Nat × Gm.Spec)), Gm.Good Tryd.prog x := fun _ h => by cases h
  refine ⟨⟨spec_ok (tab_ok.env hl) (tab.natl hl) Tryd.func15 (by kernel_rfl : Tryd.f15.body = some f15c) [4] (by kernel_rfl) ?_, _, Tryd.func15, by kernel_rfl, of_decide_eq_true (by kernel_rfl)⟩, Gm.Spec.of_natl _ _ _ _⟩
  intro ds outs h
  unfold q15 at h
  split at h
  · cases h; exact f15_spec _
  · cases h
/-! ### loop.example/g00465/laws.sameTexts -/
noncomputable def f18c : Code := (Tryd.f18.body).getD .skip
def f18k : Nat → Kp := kat [⟨[0, 1], [], [], []⟩, ⟨[0, 1, 10], [], [], []⟩, ⟨[4], [], [], []⟩, ⟨[0, 1, 5], [], [], []⟩, ⟨[0, 1, 5, 14], [], [], []⟩, ⟨[0, 1, 5], [], [], []⟩, ⟨[0, 1, 5, 25], [], [], []⟩, ⟨[4], [], [], []⟩, ⟨[4], [], [], []⟩]
noncomputable def f18e : Env := tab.env []
noncomputable def f18L0 {R : Type} (n : Nat) (x0 : Option R) (x1 : Int → Bool → Option R) (vs0 : List ByteArray) (vs1 : List ByteArray) : Nat → Int → Option R
  | 0, _ => none
  | m + 1, vs5 =>
    (cond (decide (vs5 < (vs0.length : Int)))
      (cond ((decide ((0 : Int) ≤ vs5)) && (decide (vs5 < (vs0.length : Int))))
        (cond ((decide ((0 : Int) ≤ vs5)) && (decide (vs5 < (vs1.length : Int))))
          (cond (!(sEq (atI (t := .str) vs0 (Int.toNat vs5)) (atI (t := .str) vs1 (Int.toNat vs5))))
            (x0)
            (f18L0 n x0 x1 vs0 vs1 m (IntKind.wrap .i64 (vs5 + (1 : Int)))))
          none)
        none)
      (x1 vs5 (decide (vs5 < (vs0.length : Int)))))
theorem f18L0_b {R : Type} (n : Nat) (k' : Ex → St → Option R) (vs0 : List ByteArray) (vs1 : List ByteArray) (vs5 : Int) : ev f18e f18k n (cAt [1,1,0,1,0,0] f18c) ⟨[(0, .c (.one (.ro .str vs0))), (1, .c (.one (.ro .str vs1))), (5, .c (.one (.v (.int .i64 vs5))))], [], []⟩ k' =
    (cond (decide (vs5 < (vs0.length : Int)))
    (cond ((decide ((0 : Int) ≤ vs5)) && (decide (vs5 < (vs0.length : Int))))
      (cond ((decide ((0 : Int) ≤ vs5)) && (decide (vs5 < (vs1.length : Int))))
        (cond (!(sEq (atI (t := .str) vs0 (Int.toNat vs5)) (atI (t := .str) vs1 (Int.toNat vs5))))
          (k' .ret ⟨[(4, .c (.one (.v (.bool false))))], [], []⟩)
          (k' .normal ⟨[(0, .c (.one (.ro .str vs0))), (1, .c (.one (.ro .str vs1))), (5, .c (.one (.v (.int .i64 (IntKind.wrap .i64 (vs5 + (1 : Int)))))))], [], []⟩))
        none)
      none)
    (k' (.exit 0) ⟨[(0, .c (.one (.ro .str vs0))), (1, .c (.one (.ro .str vs1))), (5, .c (.one (.v (.int .i64 vs5)))), (14, .c (.one (.v (.bool (decide (vs5 < (vs0.length : Int)))))))], [], []⟩)) := by kernel_rfl
theorem f18L0_eq {R : Type} (n : Nat) (k' : Ex → St → Option R) (vs0 : List ByteArray) (vs1 : List ByteArray) : ∀ (m : Nat) (vs5 : Int), iter (fun st k => ev f18e f18k n (cAt [1,1,0,1,0,0] f18c) st k) m ⟨[(0, .c (.one (.ro .str vs0))), (1, .c (.one (.ro .str vs1))), (5, .c (.one (.v (.int .i64 vs5))))], [], []⟩ k' = f18L0 n (k' .ret ⟨[(4, .c (.one (.v (.bool false))))], [], []⟩) (fun (xvs5 : Int) (xvs14 : Bool) => k' (.exit 0) ⟨[(0, .c (.one (.ro .str vs0))), (1, .c (.one (.ro .str vs1))), (5, .c (.one (.v (.int .i64 xvs5)))), (14, .c (.one (.v (.bool xvs14))))], [], []⟩) vs0 vs1 m vs5 := by
  intro m; induction m with
  | zero => intros; rfl
  | succ m ih =>
    intro vs5
    simp only [iter]
    rw [f18L0_b]
    simp only [ih, f18L0]

noncomputable def f18K0 {R : Type} (n : Nat) (k' : Ex → St → Option R) : Ex → St → Option R := (blockK 0 (seqK f18e f18k n (cAt [1,1,1] f18c) k'))
theorem f18K0_x0 {R : Type} (n : Nat) (k : List Dt → Option R) (a0 : List ByteArray) (a1 : List ByteArray)  : f18K0 n (exitK f18e [.ro, .ro] [false] true [.tmp 4] [4] [.d (.sl .str) a0, .d (.sl .str) a1] k) .ret ⟨[(4, .c (.one (.v (.bool false))))], [], []⟩ =
    (k [.d .bool false]) := by kernel_rfl
theorem f18K0_x1 {R : Type} (n : Nat) (k : List Dt → Option R) (a0 : List ByteArray) (a1 : List ByteArray) (vs0 : List ByteArray) (vs1 : List ByteArray) (xvs5 : Int) (xvs14 : Bool) : f18K0 n (exitK f18e [.ro, .ro] [false] true [.tmp 4] [4] [.d (.sl .str) a0, .d (.sl .str) a1] k) (.exit 0) ⟨[(0, .c (.one (.ro .str vs0))), (1, .c (.one (.ro .str vs1))), (5, .c (.one (.v (.int .i64 xvs5)))), (14, .c (.one (.v (.bool xvs14))))], [], []⟩ =
    (k [.d .bool true]) := by kernel_rfl

theorem f18_run {R : Type} (n : Nat) (k : List Dt → Option R) (a0 : List ByteArray) (a1 : List ByteArray) : evFn f18e f18k n f18c [.ro, .ro] [false] true [.tmp 4] [4] [.d (.sl .str) a0, .d (.sl .str) a1] k =
    (cond ((a0.length : Int) != (a1.length : Int))
    (k [.d .bool false])
    (f18L0 n (k [.d .bool false]) (fun (xvs5 : Int) (xvs14 : Bool) =>
      (k [.d .bool true])) a0 a1 n (0 : Int))) := by
  refine Eq.trans (b := (cond ((a0.length : Int) != (a1.length : Int))
    (k [.d .bool false])
    (iter (fun st k => ev f18e f18k n (cAt [1,1,0,1,0,0] f18c) st k) n ⟨[(0, .c (.one (.ro .str a0))), (1, .c (.one (.ro .str a1))), (5, .c (.one (.v (.int .i64 (0 : Int)))))], [], []⟩ (f18K0 n (exitK f18e [.ro, .ro] [false] true [.tmp 4] [4] [.d (.sl .str) a0, .d (.sl .str) a1] k))))) (by kernel_rfl) ?_
  simp only [f18L0_eq, f18K0_x0, f18K0_x1]
theorem f18_spec (a0 : List ByteArray) (a1 : List ByteArray) (hg : gSame gLenW a0 a1 = true) : ∃ keep rounds, ∀ {R : Type} (k : List Dt → Option R), evFn f18e keep rounds f18c [.ro, .ro] [false] true [.tmp 4] [4] [.d (.sl .str) a0, .d (.sl .str) a1] k = k [.d .bool ((fun (_ _ : List ByteArray) => true) a0 a1)] := by
  obtain ⟨hl, rfl⟩ := gSame_iff.1 hg
  have hl := gLenW_le hl
  refine ⟨f18k, a0.length + 1, fun {R} k => ?_⟩
  rw [f18_run, bne_self_eq_false]
  show _ = k [.d .bool true]
  have key : ∀ (X : Option R) (Y : Int → Bool → Option R), (∀ i b, Y i b = k [.d .bool true]) → ∀ d j m, j + d = a0.length → d < m → f18L0 (a0.length + 1) X Y a0 a0 m (j : Int) = k [.d .bool true] := by
    intro X Y hY d
    induction d with
    | zero =>
      intro j m hj hm
      obtain ⟨m, rfl⟩ : ∃ m', m = m' + 1 := ⟨m - 1, by omega⟩
      simp only [f18L0, decide_eq_false (show ¬ ((j : Int) < (a0.length : Int)) by omega), cond_false, hY]
    | succ d ih =>
      intro j m hj hm
      obtain ⟨m, rfl⟩ : ∃ m', m = m' + 1 := ⟨m - 1, by omega⟩
      obtain ⟨h1, h0, hw, ht⟩ := idx (show j < a0.length by omega) (by omega)
      simp only [f18L0, h1, h0, hw, ht, sEq_self, bab_self, beq_self_eq_true, Bool.and_self, Bool.not_true, cond_true, cond_false]
      exact ih (j + 1) m (by omega) (by omega)
  exact key _ _ (fun _ _ => rfl) a0.length 0 (a0.length + 1) (by omega) (by omega)

noncomputable def q18 : List Dt → Option (Bool × List Dt)
  | [.d (.sl .str) a0, .d (.sl .str) a1] => some (((gSame (gLenW (α := ByteArray))) a0 a1), [.d .bool ((fun (_ _ : List ByteArray) => true) a0 a1)])
  | _ => none
noncomputable def s18 : Gm.Spec := Gm.Spec.of [.ro, .ro] [false] true q18
theorem good18 : Gm.Good Tryd.prog (18, s18) := by
  have hl : ∀ x ∈ ([] : List (Nat × Gm.Spec)), Gm.Good Tryd.prog x := fun _ h => by cases h
  refine ⟨⟨spec_ok (tab_ok.env hl) (tab.natl hl) Tryd.func18 (by kernel_rfl : Tryd.f18.body = some f18c) [4] (by kernel_rfl) ?_, _, Tryd.func18, by kernel_rfl, of_decide_eq_true (by kernel_rfl)⟩, Gm.Spec.of_natl _ _ _ _⟩
  intro ds outs h
  unfold q18 at h
  split at h
  · simp only [Option.some.injEq, Prod.mk.injEq] at h; obtain ⟨hg, h⟩ := h; cases h; exact f18_spec _ _ hg
  · cases h
end Go.Proofs.YtinbejnakemfjaaDoor

/- x -/
namespace Go.Proofs.YtinbejnakemfjaaDoor
open Go Go.Gm
/-! ### loop.example/g00465/laws.FnPtrs -/
noncomputable def f5c : Code := (Tryd.f5.body).getD .skip
def f5k : Nat → Kp := kat [⟨[0], [], [], []⟩, ⟨[0, 13], [], [], []⟩, ⟨[2], [], [], []⟩, ⟨[0, 3], [], [], []⟩, ⟨[0, 3, 4], [], [], []⟩, ⟨[3, 4, 5], [], [], []⟩, ⟨[3, 4, 5, 6, 7], [], [], []⟩, ⟨[3, 4, 5, 6, 7, 8, 9], [], [], []⟩, ⟨[3, 4, 53], [], [], []⟩, ⟨[2], [], [], []⟩, ⟨[3, 10, 11], [], [], []⟩, ⟨[2], [], [], []⟩]
noncomputable def f5e : Env := tab.env [(7, s7), (9, s9), (11, s11), (12, s12), (15, s15), (16, s16), (17, s17), (18, s18)]
theorem f5_run {R : Type} (n : Nat) (k : List Dt → Option R) (a0 : List Int) : evFn f5e f5k n f5c [.kp] [false] true [.tmp 2] [4] [.d (.sl (.i .u8)) a0] k =
    (cond (bigC a0)
    (k [.d .bool true])
    (cond (gCode a0)
      (cond (gPtrT (dPtrT a0))
        (cond (gCode a0)
          (cond (gPtrOf (dPtrO a0))
            (cond (gPtrOf (dPtrO a0))
              (cond (gPtrT (dPtrT a0))
                (cond (!(sEq (ptrText (dPtrT a0)) (ptrText (dPtrT a0))))
                  (k [.d .bool false])
                  (cond (!(((ptrOf (dPtrO a0)).2) == ((ptrOf (dPtrO a0)).2)))
                    (k [.d .bool false])
                    (cond ((gSame (gLenW (α := ByteArray))) ((ptrOf (dPtrO a0)).1) ((ptrOf (dPtrO a0)).1))
                      (cond (!((fun (_ _ : List ByteArray) => true) ((ptrOf (dPtrO a0)).1) ((ptrOf (dPtrO a0)).1)))
                        (k [.d .bool false])
                        (cond ((ptrOf (dPtrO a0)).2)
                          (cond (gPtrT ((ptrOf (dPtrO a0)).1))
                            (cond (!(sEq (ptrText ((ptrOf (dPtrO a0)).1)) (dPtrO a0)))
                              (k [.d .bool false])
                              (cond (gPtrOf (ptrText (dPtrT a0)))
                                (cond ((ptrOf (ptrText (dPtrT a0))).2)
                                  (cond ((gSame (gLenW (α := ByteArray))) ((ptrOf (ptrText (dPtrT a0))).1) (dPtrT a0))
                                    (k [.d .bool ((fun (_ _ : List ByteArray) => true) ((ptrOf (ptrText (dPtrT a0))).1) (dPtrT a0))])
                                    none)
                                  (k [.d .bool false]))
                                none))
                            none)
                          (cond (gPtrOf (ptrText (dPtrT a0)))
                            (cond ((ptrOf (ptrText (dPtrT a0))).2)
                              (cond ((gSame (gLenW (α := ByteArray))) ((ptrOf (ptrText (dPtrT a0))).1) (dPtrT a0))
                                (k [.d .bool ((fun (_ _ : List ByteArray) => true) ((ptrOf (ptrText (dPtrT a0))).1) (dPtrT a0))])
                                none)
                              (k [.d .bool false]))
                            none)))
                      none)))
                none)
              none)
            none)
          none)
        none)
      none)) := by kernel_rfl
theorem f5_spec (a0 : List Int) : ∃ keep rounds, ∀ {R : Type} (k : List Dt → Option R), evFn f5e keep rounds f5c [.kp] [false] true [.tmp 2] [4] [.d (.sl (.i .u8)) a0] k = k [.d .bool ((fun (_ : List Int) => true) a0)] := by
  refine ⟨f5k, 0, fun {R} k => ?_⟩
  rw [f5_run]
  show _ = k [.d .bool true]
  cases hbig : bigC a0
  rotate_left
  · simp only [cond_true]
  have hc := gCode_of hbig
  have s1 := dPtrT_ok a0 hc
  have s2 := dPtrO_ok a0 hc
  revert s1 s2
  generalize dPtrT a0 = p, dPtrO a0 = t
  intro s1 s2
  have g1 : gPtrT p = true := Nat.ble_eq_true_of_le (by omega)
  have g2 : gPtrOf t = true := Nat.ble_eq_true_of_le (by omega)
  have z := ptrOf_sz t
  have zl := szL_ge ByteArray.size (ptrOf t).1
  have g3 : gPtrT (ptrOf t).1 = true := Nat.ble_eq_true_of_le (by omega)
  have g4 : gPtrOf (ptrText p) = true := Nat.ble_eq_true_of_le (by have := ptrText_le p; omega)
  have q1 : gSame (gLenW (α := ByteArray)) (ptrOf t).1 (ptrOf t).1 = true := gSame_self (gLenW_of (by omega))
  have q2 : gSame (gLenW (α := ByteArray)) p p = true := gSame_self (gLenW_of (by have := szL_ge ByteArray.size p; omega))
  have hb := ptrOf_text p
  have ht : (ptrOf t).2 = true → ptrText (ptrOf t).1 = t := ptrOf_back t
  cases h2 : (ptrOf t).2
  · simp only [hc, g1, g2, g3, g4, q1, q2, hb, h2, sEq_self, beq_self_eq_true, Bool.not_true, cond_true, cond_false]
  · simp only [hc, g1, g2, g3, g4, q1, q2, hb, h2, ht h2, sEq_self, beq_self_eq_true, Bool.not_true, cond_true, cond_false]

noncomputable def q5 : List Dt → Option (Bool × List Dt)
  | [.d (.sl (.i .u8)) a0] => some (true, [.d .bool ((fun (_ : List Int) => true) a0)])
  | _ => none
noncomputable def s5 : Gm.Spec := Gm.Spec.of [.kp] [false] true q5
theorem good5 : Gm.Good Tryd.prog (5, s5) := by
  have hl : ∀ x ∈ [(7, s7), (9, s9), (11, s11), (12, s12), (15, s15), (16, s16), (17, s17), (18, s18)], Gm.Good Tryd.prog x := List.forall_mem_cons.2 ⟨good7, List.forall_mem_cons.2 ⟨good9, List.forall_mem_cons.2 ⟨good11, List.forall_mem_cons.2 ⟨good12, List.forall_mem_cons.2 ⟨good15, List.forall_mem_cons.2 ⟨good16, List.forall_mem_cons.2 ⟨good17, List.forall_mem_cons.2 ⟨good18, List.forall_mem_nil _⟩⟩⟩⟩⟩⟩⟩⟩
  refine ⟨⟨spec_ok (tab_ok.env hl) (tab.natl hl) Tryd.func5 (by kernel_rfl : Tryd.f5.body = some f5c) [4] (by kernel_rfl) ?_, _, Tryd.func5, by kernel_rfl, of_decide_eq_true (by kernel_rfl)⟩, Gm.Spec.of_natl _ _ _ _⟩
  intro ds outs h
  unfold q5 at h
  split at h
  · cases h; exact f5_spec _
  · cases h
end Go.Proofs.YtinbejnakemfjaaDoor

/- What the functions compute, part 3. No conditions. -/
import Derived.Test.YtnbehmbjoanfoaaReplayFn2
/- x -/
namespace Go.Proofs.Ytnbehmbjoanfoaa
open Go Go.Gm
/-! ### loop.example/g00465/laws.markText -/
noncomputable def f74c : Code := (Try.f74.body).getD .skip
def f74k : Nat → Kp := kat [⟨[0], [], [], []⟩, ⟨[0, 5], [], [], []⟩, ⟨[2], [], [], []⟩, ⟨[0, 3], [], [], []⟩, ⟨[0, 3, 7], [], [], []⟩, ⟨[0, 3], [], [], []⟩, ⟨[0, 3], [], [], []⟩, ⟨[2], [], [], []⟩]
noncomputable def f74e : Env := tab.env []
noncomputable def f74L0 {R : Type} (n : Nat) (x0 : Int → ByteArray → Bool → Option R)  : Nat → Int → ByteArray → Option R
  | 0, _, _ => none
  | m + 1, vs0, vs3 =>
    (cond (decide (vs0 > (0 : Int)))
      (cond (decide (ByteArray.size (bytesOf ([(IntKind.wrap .u8 (IntKind.wrap .i64 ((48 : Int) + (Int.tmod vs0 (10 : Int)))))] : List Int)) + ByteArray.size vs3 ≤ 9223372036854775807))
        (f74L0 n x0 m (IntKind.wrap .i64 (Int.tdiv vs0 (10 : Int))) ((bytesOf ([(IntKind.wrap .u8 (IntKind.wrap .i64 ((48 : Int) + (Int.tmod vs0 (10 : Int)))))] : List Int)) ++ vs3))
        none)
      (x0 vs0 vs3 (decide (vs0 > (0 : Int)))))
theorem f74L0_b {R : Type} (n : Nat) (k' : Ex → St → Option R) (vs0 : Int) (vs3 : ByteArray) : ev f74e f74k n (cAt [1,1,1,0,0,0] f74c) ⟨[(0, .c (.one (.v (.int .i64 vs0)))), (3, .c (.one (.v (.string vs3))))], [], []⟩ k' =
    (cond (decide (vs0 > (0 : Int)))
    (cond (decide (ByteArray.size (bytesOf ([(IntKind.wrap .u8 (IntKind.wrap .i64 ((48 : Int) + (Int.tmod vs0 (10 : Int)))))] : List Int)) + ByteArray.size vs3 ≤ 9223372036854775807))
      (k' .normal ⟨[(0, .c (.one (.v (.int .i64 (IntKind.wrap .i64 (Int.tdiv vs0 (10 : Int))))))), (3, .c (.one (.v (.string ((bytesOf ([(IntKind.wrap .u8 (IntKind.wrap .i64 ((48 : Int) + (Int.tmod vs0 (10 : Int)))))] : List Int)) ++ vs3)))))], [], []⟩)
      none)
    (k' (.exit 0) ⟨[(0, .c (.one (.v (.int .i64 vs0)))), (3, .c (.one (.v (.string vs3)))), (7, .c (.one (.v (.bool (decide (vs0 > (0 : Int)))))))], [], []⟩)) := by kernel_rfl
theorem f74L0_eq {R : Type} (n : Nat) (k' : Ex → St → Option R)  : ∀ (m : Nat) (vs0 : Int) (vs3 : ByteArray), iter (fun st k => ev f74e f74k n (cAt [1,1,1,0,0,0] f74c) st k) m ⟨[(0, .c (.one (.v (.int .i64 vs0)))), (3, .c (.one (.v (.string vs3))))], [], []⟩ k' = f74L0 n (fun (xvs0 : Int) (xvs3 : ByteArray) (xvs7 : Bool) => k' (.exit 0) ⟨[(0, .c (.one (.v (.int .i64 xvs0)))), (3, .c (.one (.v (.string xvs3)))), (7, .c (.one (.v (.bool xvs7))))], [], []⟩) m vs0 vs3 := by
  intro m; induction m with
  | zero => intros; rfl
  | succ m ih =>
    intro vs0 vs3
    simp only [iter]
    rw [f74L0_b]
    simp only [ih, f74L0]

noncomputable def f74K0 {R : Type} (n : Nat) (k' : Ex → St → Option R) : Ex → St → Option R := (blockK 0 (seqK f74e f74k n (cAt [1,1,1,1] f74c) k'))
theorem f74K0_x0 {R : Type} (n : Nat) (k : List Dt → Option R) (a0 : Int) (xvs0 : Int) (xvs3 : ByteArray) (xvs7 : Bool) : f74K0 n (exitK f74e [.ro] [false] true [.tmp 2] [9] [.d (.i .i64) a0] k) (.exit 0) ⟨[(0, .c (.one (.v (.int .i64 xvs0)))), (3, .c (.one (.v (.string xvs3)))), (7, .c (.one (.v (.bool xvs7))))], [], []⟩ =
    (cond (decide (ByteArray.size (bs [109]) + ByteArray.size xvs3 ≤ 9223372036854775807))
    (k [.d .str ((bs [109]) ++ xvs3)])
    none) := by kernel_rfl

theorem f74_run {R : Type} (n : Nat) (k : List Dt → Option R) (a0 : Int) : evFn f74e f74k n f74c [.ro] [false] true [.tmp 2] [9] [.d (.i .i64) a0] k =
    (cond (decide (a0 ≤ (0 : Int)))
    (k [.d .str (bs [109,48])])
    (f74L0 n (fun (xvs0 : Int) (xvs3 : ByteArray) (xvs7 : Bool) =>
      (cond (decide (ByteArray.size (bs [109]) + ByteArray.size xvs3 ≤ 9223372036854775807))
        (k [.d .str ((bs [109]) ++ xvs3)])
        none)) n a0 ByteArray.empty)) := by
  refine Eq.trans (b := (cond (decide (a0 ≤ (0 : Int)))
    (k [.d .str (bs [109,48])])
    (iter (fun st k => ev f74e f74k n (cAt [1,1,1,0,0,0] f74c) st k) n ⟨[(0, .c (.one (.v (.int .i64 a0)))), (3, .c (.one (.v (.string ByteArray.empty))))], [], []⟩ (f74K0 n (exitK f74e [.ro] [false] true [.tmp 2] [9] [.d (.i .i64) a0] k))))) (by kernel_rfl) ?_
  simp only [f74L0_eq, f74K0_x0]
theorem f74_spec (a0 : Int) (hg : okI a0 = true) : ∃ keep rounds, ∀ {R : Type} (k : List Dt → Option R), evFn f74e keep rounds f74c [.ro] [false] true [.tmp 2] [9] [.d (.i .i64) a0] k = k [.d .str (mkT a0)] := by
  rw [okI_iff] at hg
  refine ⟨f74k, 25, fun {R} k => ?_⟩
  rw [f74_run]
  show _ = k [.d .str (mkT a0)]
  unfold mkT
  by_cases hz : a0 ≤ 0
  · simp only [hz, decide_true, cond_true]
  simp only [hz, decide_false, cond_false]
  have key : ∀ (d m : Nat) (n : Int) (out : ByteArray), 0 ≤ n → n.natAbs < 10 ^ d → d ≤ 20 → d < m → n ≤ 9223372036854775807 → out.size + d ≤ 100 → ∀ X : Int → ByteArray → Bool → Option R, f74L0 25 X m n out = X 0 (digR n.natAbs out) false := by
    intro d
    induction d with
    | zero =>
      intro m n out h0 hn hd hm hw hs X
      obtain ⟨m, rfl⟩ : ∃ m', m = m' + 1 := ⟨m - 1, by omega⟩
      have : n = 0 := by omega
      subst this
      simp only [f74L0]
      rfl
    | succ d ih =>
      intro m n out h0 hn hd hm hw hs X
      obtain ⟨m, rfl⟩ : ∃ m', m = m' + 1 := ⟨m - 1, by omega⟩
      by_cases hn0 : n = 0
      · subst hn0
        simp only [f74L0]
        rfl
      have h0' : decide (n > (0 : Int)) = true := decide_eq_true (by omega)
      have hn2 : n.natAbs / 10 < 10 ^ d := by rw [Nat.pow_succ] at hn; omega
      have hb := byte_dig (n.natAbs % 10) (by omega)
      have hsz : ByteArray.size ⟨#[UInt8.ofNat (48 + n.natAbs % 10)]⟩ = 1 := rfl
      simp only [f74L0, h0', cond_true]
      have t1 : IntKind.wrap .i64 (Int.tdiv n 10) = ((n.natAbs / 10 : Nat) : Int) := by rw [tdiv_pos (by omega)]; exact wrap_id (by omega) (by omega)
      have t2 : Int.tmod n 10 = ((n.natAbs % 10 : Nat) : Int) := tmod_pos (by omega)
      rw [t1, t2, hb]
      have fin := ih m (((n.natAbs / 10 : Nat) : Int)) (⟨#[UInt8.ofNat (48 + n.natAbs % 10)]⟩ ++ out) (by omega) (by omega) (by omega) (by omega) (by omega) (by rw [ByteArray.size_append]; omega) X
      rw [show (((n.natAbs / 10 : Nat) : Int)).natAbs = n.natAbs / 10 by omega, digR_step (by omega)] at fin
      rw [← fin]
      have hle := app_le (a := ⟨#[UInt8.ofNat (48 + n.natAbs % 10)]⟩) (b := out) (by omega)
      simp only [cond_true, hle]
  refine Eq.trans (key 20 25 a0 ByteArray.empty (by omega) (by have : (10 : Nat) ^ 20 = 100000000000000000000 := rfl; omega) (by omega) (by omega) (by omega) (by show 0 + 20 ≤ 100; omega) _) ?_
  have e : digR a0.natAbs ByteArray.empty = ⟨(natDig a0.natAbs).toArray⟩ := by
    unfold digR; rw [if_neg (by omega)]; apply ba_ext; simp
  have hs := digS_size (n := a0) (okI_iff.2 hg)
  have ed : digS a0 = ⟨(natDig a0.natAbs).toArray⟩ := by
    unfold digS; rw [if_neg (by omega)]; simp
  rw [e, ← ed, app_le (by rw [bs_size, List.length_cons, List.length_nil]; omega)]
  rfl

noncomputable def q74 : List Dt → Option (Bool × List Dt)
  | [.d (.i .i64) a0] => some ((okI a0), [.d .str (mkT a0)])
  | _ => none
noncomputable def s74 : Gm.Spec := Gm.Spec.of [.ro] [false] true q74
theorem good74 : Gm.Good Try.prog (74, s74) := by
  have hl : ∀ x ∈ ([] : List (Nat × Gm.Spec)), Gm.Good Try.prog x := fun _ h => by cases h
  refine ⟨⟨spec_ok (tab_ok.env hl) (tab.natl hl) Try.func74 (by kernel_rfl : Try.f74.body = some f74c) [9] (by kernel_rfl) ?_, _, Try.func74, by kernel_rfl, of_decide_eq_true (by kernel_rfl)⟩, Gm.Spec.of_natl _ _ _ _⟩
  intro ds outs h
  unfold q74 at h
  split at h
  · simp only [Option.some.injEq, Prod.mk.injEq] at h; obtain ⟨hg, h⟩ := h; cases h; exact f74_spec _ hg
  · cases h
/-! ### loop.example/g00465/laws.markMetricS -/
noncomputable def f75c : Code := (Try.f75.body).getD .skip
def f75k : Nat → Kp := kat [⟨[0, 1], [], [], []⟩, ⟨[0, 1, 5], [], [], []⟩, ⟨[0, 1, 5, 9], [], [], []⟩, ⟨[0, 1, 5], [], [], []⟩, ⟨[0, 1, 5], [], [], []⟩, ⟨[0, 1, 5], [], [], []⟩, ⟨[0, 1, 5], [], [], []⟩, ⟨[0, 1, 5], [], [], []⟩, ⟨[0, 1, 5], [], [], []⟩, ⟨[0, 1, 5], [], [], []⟩, ⟨[0, 4], [], [], []⟩]
noncomputable def f75e : Env := tab.env [(74, s74)]
noncomputable def f75v0 (vr0 : List MetricT) (vs5 : Int) (vs1 : Int) : List MetricT :=
  (vr0.set (Int.toNat vs5) (⟨(mkT vs1), (MetricT.kind (atI (t := .metric) vr0 (Int.toNat vs5))), (MetricT.goal (atI (t := .metric) vr0 (Int.toNat vs5)))⟩ : MetricT))
noncomputable def f75v1 (vr0 : List MetricT) (vs5 : Int) (vs1 : Int) : List MetricT :=
  ((f75v0 vr0 vs5 vs1).set (Int.toNat vs5) (⟨(MetricT.name (atI (t := .metric) (f75v0 vr0 vs5 vs1) (Int.toNat vs5))), (IntKind.wrap .i64 (vs1 + (1 : Int))), (MetricT.goal (atI (t := .metric) (f75v0 vr0 vs5 vs1) (Int.toNat vs5)))⟩ : MetricT))
noncomputable def f75v2 (vr0 : List MetricT) (vs5 : Int) (vs1 : Int) : List MetricT :=
  ((f75v1 vr0 vs5 vs1).set (Int.toNat vs5) (⟨(MetricT.name (atI (t := .metric) (f75v1 vr0 vs5 vs1) (Int.toNat vs5))), (MetricT.kind (atI (t := .metric) (f75v1 vr0 vs5 vs1) (Int.toNat vs5))), (IntKind.wrap .i64 ((IntKind.wrap .i64 (vs1 + (1 : Int))) + (1 : Int)))⟩ : MetricT))
noncomputable def f75L0 {R : Type} (n : Nat) (x0 : Int → Int → Bool → (List MetricT) → Option R)  : Nat → Int → Int → (List MetricT) → Option R
  | 0, _, _, _ => none
  | m + 1, vs1, vs5, vr0 =>
    (cond (decide (vs5 < (vr0.length : Int)))
      (cond (okI vs1)
        (cond ((decide ((0 : Int) ≤ vs5)) && (decide (vs5 < (vr0.length : Int))))
          (cond ((decide ((0 : Int) ≤ vs5)) && (decide (vs5 < ((f75v0 vr0 vs5 vs1).length : Int))))
            (cond ((decide ((0 : Int) ≤ vs5)) && (decide (vs5 < ((f75v1 vr0 vs5 vs1).length : Int))))
              (f75L0 n x0 m (IntKind.wrap .i64 ((IntKind.wrap .i64 ((IntKind.wrap .i64 (vs1 + (1 : Int))) + (1 : Int))) + (1 : Int))) (IntKind.wrap .i64 (vs5 + (1 : Int))) (f75v2 vr0 vs5 vs1))
              none)
            none)
          none)
        none)
      (x0 vs1 vs5 (decide (vs5 < (vr0.length : Int))) vr0))
theorem f75L0_b {R : Type} (n : Nat) (k' : Ex → St → Option R) (vs1 : Int) (vs5 : Int) (vr0 : List MetricT) : ev f75e f75k n (cAt [1,0,1,0,0] f75c) ⟨[(0, .c (.one (.h 0 0 0 []))), (1, .c (.one (.v (.int .i64 vs1)))), (5, .c (.one (.v (.int .i64 vs5))))], [], [(0, .live ⟨.metric, .deep, 0, [], vr0⟩)]⟩ k' =
    (cond (decide (vs5 < (vr0.length : Int)))
    (cond (okI vs1)
      (cond ((decide ((0 : Int) ≤ vs5)) && (decide (vs5 < (vr0.length : Int))))
        (cond ((decide ((0 : Int) ≤ vs5)) && (decide (vs5 < ((f75v0 vr0 vs5 vs1).length : Int))))
          (cond ((decide ((0 : Int) ≤ vs5)) && (decide (vs5 < ((f75v1 vr0 vs5 vs1).length : Int))))
            (k' .normal ⟨[(0, .c (.one (.h 0 0 0 []))), (1, .c (.one (.v (.int .i64 (IntKind.wrap .i64 ((IntKind.wrap .i64 ((IntKind.wrap .i64 (vs1 + (1 : Int))) + (1 : Int))) + (1 : Int))))))), (5, .c (.one (.v (.int .i64 (IntKind.wrap .i64 (vs5 + (1 : Int)))))))], [], [(0, .live ⟨.metric, .deep, 0, [], (f75v2 vr0 vs5 vs1)⟩)]⟩)
            none)
          none)
        none)
      none)
    (k' (.exit 0) ⟨[(0, .c (.one (.h 0 0 0 []))), (1, .c (.one (.v (.int .i64 vs1)))), (5, .c (.one (.v (.int .i64 vs5)))), (9, .c (.one (.v (.bool (decide (vs5 < (vr0.length : Int)))))))], [], [(0, .live ⟨.metric, .deep, 0, [], vr0⟩)]⟩)) := by kernel_rfl
theorem f75L0_eq {R : Type} (n : Nat) (k' : Ex → St → Option R)  : ∀ (m : Nat) (vs1 : Int) (vs5 : Int) (vr0 : List MetricT), iter (fun st k => ev f75e f75k n (cAt [1,0,1,0,0] f75c) st k) m ⟨[(0, .c (.one (.h 0 0 0 []))), (1, .c (.one (.v (.int .i64 vs1)))), (5, .c (.one (.v (.int .i64 vs5))))], [], [(0, .live ⟨.metric, .deep, 0, [], vr0⟩)]⟩ k' = f75L0 n (fun (xvs1 : Int) (xvs5 : Int) (xvs9 : Bool) (xvr0 : List MetricT) => k' (.exit 0) ⟨[(0, .c (.one (.h 0 0 0 []))), (1, .c (.one (.v (.int .i64 xvs1)))), (5, .c (.one (.v (.int .i64 xvs5)))), (9, .c (.one (.v (.bool xvs9))))], [], [(0, .live ⟨.metric, .deep, 0, [], xvr0⟩)]⟩) m vs1 vs5 vr0 := by
  intro m; induction m with
  | zero => intros; rfl
  | succ m ih =>
    intro vs1 vs5 vr0
    simp only [iter]
    rw [f75L0_b]
    simp only [ih, f75L0]

noncomputable def f75K0 {R : Type} (n : Nat) (k' : Ex → St → Option R) : Ex → St → Option R := (blockK 0 (seqK f75e f75k n (cAt [1,1] f75c) k'))
theorem f75K0_x0 {R : Type} (n : Nat) (k : List Dt → Option R) (a0 : List MetricT) (a1 : Int) (xvs1 : Int) (xvs5 : Int) (xvs9 : Bool) (xvr0 : List MetricT) : f75K0 n (exitK f75e [.«mut», .ro] [false] true [.tmp 4] [3] [.d (.sl .metric) a0, .d (.i .i64) a1] k) (.exit 0) ⟨[(0, .c (.one (.h 0 0 0 []))), (1, .c (.one (.v (.int .i64 xvs1)))), (5, .c (.one (.v (.int .i64 xvs5)))), (9, .c (.one (.v (.bool xvs9))))], [], [(0, .live ⟨.metric, .deep, 0, [], xvr0⟩)]⟩ =
    (k [.d (.i .i64) xvs1, .d (.sl .metric) xvr0]) := by kernel_rfl

theorem f75_run {R : Type} (n : Nat) (k : List Dt → Option R) (a0 : List MetricT) (a1 : Int) : evFn f75e f75k n f75c [.«mut», .ro] [false] true [.tmp 4] [3] [.d (.sl .metric) a0, .d (.i .i64) a1] k =
    (f75L0 n (fun (xvs1 : Int) (xvs5 : Int) (xvs9 : Bool) (xvr0 : List MetricT) =>
    (k [.d (.i .i64) xvs1, .d (.sl .metric) xvr0])) n a1 (0 : Int) a0) := by
  refine Eq.trans (b := (iter (fun st k => ev f75e f75k n (cAt [1,0,1,0,0] f75c) st k) n ⟨[(0, .c (.one (.h 0 0 0 []))), (1, .c (.one (.v (.int .i64 a1)))), (5, .c (.one (.v (.int .i64 (0 : Int)))))], [], [(0, .live ⟨.metric, .deep, 0, [], a0⟩)]⟩ (f75K0 n (exitK f75e [.«mut», .ro] [false] true [.tmp 4] [3] [.d (.sl .metric) a0, .d (.i .i64) a1] k)))) (by kernel_rfl) ?_
  simp only [f75L0_eq, f75K0_x0]
theorem f75_spec (a0 : List MetricT) (a1 : Int) (hg : gmk a1 (ctL ct_metric a0) = true) : ∃ keep rounds, ∀ {R : Type} (k : List Dt → Option R), evFn f75e keep rounds f75c [.«mut», .ro] [false] true [.tmp 4] [3] [.d (.sl .metric) a0, .d (.i .i64) a1] k = k [.d (.i .i64) (mkL mk_metric a1 a0).2, .d (.sl .metric) (mkL mk_metric a1 a0).1] := by
  rw [gmk_iff] at hg
  have hl := ctL_len ct_metric_pos a0
  refine ⟨f75k, a0.length + 1, fun {R} k => ?_⟩
  rw [f75_run]
  refine Eq.trans (loop_mark (F := fun m kk i l => f75L0 (a0.length + 1) _ m kk i l) (f := mk_metric) (c := ct_metric) (good := fun kk l => k [.d (.i .i64) kk, .d (.sl .metric) l]) (n := a0.length) mk_metric_ct
    (fun m kk j l x hx hln h0 hB => ?_) (fun m kk l hln => by simp only [f75L0, hln, idxE, cond_false]) a0 (a0.length + 1) a1 [] (by simp) (by omega) hg.1 hg.2) rfl
  obtain ⟨h1, h2, _, ht⟩ := idx (lt_of_get hx) (by omega)
  have hA : ∀ a, atI (t := .metric) (l.set j a) j = a := fun a => atI_set (t := .metric) (lt_of_get hx) a
  have hj := lt_of_get hx
  simp only [ct_metric] at hB
  simp (disch := omega) only [f75L0, f75v0, f75v1, f75v2, h1, h2, ht, hA, atI_of (t := .metric) hx, List.set_set, List.length_set, wrap_id, gmk_of, okI_of, mk_metric, Bool.and_self, cond_true]

noncomputable def q75 : List Dt → Option (Bool × List Dt)
  | [.d (.sl .metric) a0, .d (.i .i64) a1] => some (((fun (x : List MetricT) (k : Int) => gmk k (ctL ct_metric x)) a0 a1), [.d (.i .i64) (mkL mk_metric a1 a0).2, .d (.sl .metric) (mkL mk_metric a1 a0).1])
  | _ => none
noncomputable def s75 : Gm.Spec := Gm.Spec.of [.«mut», .ro] [false] true q75
theorem good75 : Gm.Good Try.prog (75, s75) := by
  have hl : ∀ x ∈ [(74, s74)], Gm.Good Try.prog x := List.forall_mem_cons.2 ⟨good74, List.forall_mem_nil _⟩
  refine ⟨⟨spec_ok (tab_ok.env hl) (tab.natl hl) Try.func75 (by kernel_rfl : Try.f75.body = some f75c) [3] (by kernel_rfl) ?_, _, Try.func75, by kernel_rfl, of_decide_eq_true (by kernel_rfl)⟩, Gm.Spec.of_natl _ _ _ _⟩
  intro ds outs h
  unfold q75 at h
  split at h
  · simp only [Option.some.injEq, Prod.mk.injEq] at h; obtain ⟨hg, h⟩ := h; cases h; exact f75_spec _ _ hg
  · cases h
/-! ### loop.example/g00465/laws.markNoteS -/
noncomputable def f76c : Code := (Try.f76.body).getD .skip
def f76k : Nat → Kp := kat [⟨[0, 1], [], [], []⟩, ⟨[0, 1, 5], [], [], []⟩, ⟨[0, 1, 5, 9], [], [], []⟩, ⟨[0, 1, 5], [], [], []⟩, ⟨[0, 1, 5], [], [], []⟩, ⟨[0, 1, 5], [], [], []⟩, ⟨[0, 1, 5], [], [], []⟩, ⟨[0, 1, 5], [], [], []⟩, ⟨[0, 4], [], [], []⟩]
noncomputable def f76e : Env := tab.env [(74, s74)]
noncomputable def f76v0 (vr0 : List NoteT) (vs5 : Int) (vs1 : Int) : List NoteT :=
  ((vr0.set (Int.toNat vs5) (⟨(mkT vs1), (NoteT.text (atI (t := .note) vr0 (Int.toNat vs5)))⟩ : NoteT)).set (Int.toNat vs5) (⟨(NoteT.key (atI (t := .note) (vr0.set (Int.toNat vs5) (⟨(mkT vs1), (NoteT.text (atI (t := .note) vr0 (Int.toNat vs5)))⟩ : NoteT)) (Int.toNat vs5))), (mkT (IntKind.wrap .i64 (vs1 + (1 : Int))))⟩ : NoteT))
noncomputable def f76L0 {R : Type} (n : Nat) (x0 : Int → Int → Bool → (List NoteT) → Option R)  : Nat → Int → Int → (List NoteT) → Option R
  | 0, _, _, _ => none
  | m + 1, vs1, vs5, vr0 =>
    (cond (decide (vs5 < (vr0.length : Int)))
      (cond (okI vs1)
        (cond ((decide ((0 : Int) ≤ vs5)) && (decide (vs5 < (vr0.length : Int))))
          (cond (okI (IntKind.wrap .i64 (vs1 + (1 : Int))))
            (cond ((decide ((0 : Int) ≤ vs5)) && (decide (vs5 < ((vr0.set (Int.toNat vs5) (⟨(mkT vs1), (NoteT.text (atI (t := .note) vr0 (Int.toNat vs5)))⟩ : NoteT)).length : Int))))
              (f76L0 n x0 m (IntKind.wrap .i64 ((IntKind.wrap .i64 (vs1 + (1 : Int))) + (1 : Int))) (IntKind.wrap .i64 (vs5 + (1 : Int))) (f76v0 vr0 vs5 vs1))
              none)
            none)
          none)
        none)
      (x0 vs1 vs5 (decide (vs5 < (vr0.length : Int))) vr0))
theorem f76L0_b {R : Type} (n : Nat) (k' : Ex → St → Option R) (vs1 : Int) (vs5 : Int) (vr0 : List NoteT) : ev f76e f76k n (cAt [1,0,1,0,0] f76c) ⟨[(0, .c (.one (.h 0 0 0 []))), (1, .c (.one (.v (.int .i64 vs1)))), (5, .c (.one (.v (.int .i64 vs5))))], [], [(0, .live ⟨.note, .deep, 0, [], vr0⟩)]⟩ k' =
    (cond (decide (vs5 < (vr0.length : Int)))
    (cond (okI vs1)
      (cond ((decide ((0 : Int) ≤ vs5)) && (decide (vs5 < (vr0.length : Int))))
        (cond (okI (IntKind.wrap .i64 (vs1 + (1 : Int))))
          (cond ((decide ((0 : Int) ≤ vs5)) && (decide (vs5 < ((vr0.set (Int.toNat vs5) (⟨(mkT vs1), (NoteT.text (atI (t := .note) vr0 (Int.toNat vs5)))⟩ : NoteT)).length : Int))))
            (k' .normal ⟨[(0, .c (.one (.h 0 0 0 []))), (1, .c (.one (.v (.int .i64 (IntKind.wrap .i64 ((IntKind.wrap .i64 (vs1 + (1 : Int))) + (1 : Int))))))), (5, .c (.one (.v (.int .i64 (IntKind.wrap .i64 (vs5 + (1 : Int)))))))], [], [(0, .live ⟨.note, .deep, 0, [], (f76v0 vr0 vs5 vs1)⟩)]⟩)
            none)
          none)
        none)
      none)
    (k' (.exit 0) ⟨[(0, .c (.one (.h 0 0 0 []))), (1, .c (.one (.v (.int .i64 vs1)))), (5, .c (.one (.v (.int .i64 vs5)))), (9, .c (.one (.v (.bool (decide (vs5 < (vr0.length : Int)))))))], [], [(0, .live ⟨.note, .deep, 0, [], vr0⟩)]⟩)) := by kernel_rfl
theorem f76L0_eq {R : Type} (n : Nat) (k' : Ex → St → Option R)  : ∀ (m : Nat) (vs1 : Int) (vs5 : Int) (vr0 : List NoteT), iter (fun st k => ev f76e f76k n (cAt [1,0,1,0,0] f76c) st k) m ⟨[(0, .c (.one (.h 0 0 0 []))), (1, .c (.one (.v (.int .i64 vs1)))), (5, .c (.one (.v (.int .i64 vs5))))], [], [(0, .live ⟨.note, .deep, 0, [], vr0⟩)]⟩ k' = f76L0 n (fun (xvs1 : Int) (xvs5 : Int) (xvs9 : Bool) (xvr0 : List NoteT) => k' (.exit 0) ⟨[(0, .c (.one (.h 0 0 0 []))), (1, .c (.one (.v (.int .i64 xvs1)))), (5, .c (.one (.v (.int .i64 xvs5)))), (9, .c (.one (.v (.bool xvs9))))], [], [(0, .live ⟨.note, .deep, 0, [], xvr0⟩)]⟩) m vs1 vs5 vr0 := by
  intro m; induction m with
  | zero => intros; rfl
  | succ m ih =>
    intro vs1 vs5 vr0
    simp only [iter]
    rw [f76L0_b]
    simp only [ih, f76L0]

noncomputable def f76K0 {R : Type} (n : Nat) (k' : Ex → St → Option R) : Ex → St → Option R := (blockK 0 (seqK f76e f76k n (cAt [1,1] f76c) k'))
theorem f76K0_x0 {R : Type} (n : Nat) (k : List Dt → Option R) (a0 : List NoteT) (a1 : Int) (xvs1 : Int) (xvs5 : Int) (xvs9 : Bool) (xvr0 : List NoteT) : f76K0 n (exitK f76e [.«mut», .ro] [false] true [.tmp 4] [3] [.d (.sl .note) a0, .d (.i .i64) a1] k) (.exit 0) ⟨[(0, .c (.one (.h 0 0 0 []))), (1, .c (.one (.v (.int .i64 xvs1)))), (5, .c (.one (.v (.int .i64 xvs5)))), (9, .c (.one (.v (.bool xvs9))))], [], [(0, .live ⟨.note, .deep, 0, [], xvr0⟩)]⟩ =
    (k [.d (.i .i64) xvs1, .d (.sl .note) xvr0]) := by kernel_rfl

theorem f76_run {R : Type} (n : Nat) (k : List Dt → Option R) (a0 : List NoteT) (a1 : Int) : evFn f76e f76k n f76c [.«mut», .ro] [false] true [.tmp 4] [3] [.d (.sl .note) a0, .d (.i .i64) a1] k =
    (f76L0 n (fun (xvs1 : Int) (xvs5 : Int) (xvs9 : Bool) (xvr0 : List NoteT) =>
    (k [.d (.i .i64) xvs1, .d (.sl .note) xvr0])) n a1 (0 : Int) a0) := by
  refine Eq.trans (b := (iter (fun st k => ev f76e f76k n (cAt [1,0,1,0,0] f76c) st k) n ⟨[(0, .c (.one (.h 0 0 0 []))), (1, .c (.one (.v (.int .i64 a1)))), (5, .c (.one (.v (.int .i64 (0 : Int)))))], [], [(0, .live ⟨.note, .deep, 0, [], a0⟩)]⟩ (f76K0 n (exitK f76e [.«mut», .ro] [false] true [.tmp 4] [3] [.d (.sl .note) a0, .d (.i .i64) a1] k)))) (by kernel_rfl) ?_
  simp only [f76L0_eq, f76K0_x0]
theorem f76_spec (a0 : List NoteT) (a1 : Int) (hg : gmk a1 (ctL ct_note a0) = true) : ∃ keep rounds, ∀ {R : Type} (k : List Dt → Option R), evFn f76e keep rounds f76c [.«mut», .ro] [false] true [.tmp 4] [3] [.d (.sl .note) a0, .d (.i .i64) a1] k = k [.d (.i .i64) (mkL mk_note a1 a0).2, .d (.sl .note) (mkL mk_note a1 a0).1] := by
  rw [gmk_iff] at hg
  have hl := ctL_len ct_note_pos a0
  refine ⟨f76k, a0.length + 1, fun {R} k => ?_⟩
  rw [f76_run]
  refine Eq.trans (loop_mark (F := fun m kk i l => f76L0 (a0.length + 1) _ m kk i l) (f := mk_note) (c := ct_note) (good := fun kk l => k [.d (.i .i64) kk, .d (.sl .note) l]) (n := a0.length) mk_note_ct
    (fun m kk j l x hx hln h0 hB => ?_) (fun m kk l hln => by simp only [f76L0, hln, idxE, cond_false]) a0 (a0.length + 1) a1 [] (by simp) (by omega) hg.1 hg.2) rfl
  obtain ⟨h1, h2, _, ht⟩ := idx (lt_of_get hx) (by omega)
  have hA : ∀ a, atI (t := .note) (l.set j a) j = a := fun a => atI_set (t := .note) (lt_of_get hx) a
  have hj := lt_of_get hx
  simp only [ct_note] at hB
  simp (disch := omega) only [f76L0, f76v0, h1, h2, ht, hA, atI_of (t := .note) hx, List.set_set, List.length_set, wrap_id, gmk_of, okI_of, mk_note, Bool.and_self, cond_true]

noncomputable def q76 : List Dt → Option (Bool × List Dt)
  | [.d (.sl .note) a0, .d (.i .i64) a1] => some (((fun (x : List NoteT) (k : Int) => gmk k (ctL ct_note x)) a0 a1), [.d (.i .i64) (mkL mk_note a1 a0).2, .d (.sl .note) (mkL mk_note a1 a0).1])
  | _ => none
noncomputable def s76 : Gm.Spec := Gm.Spec.of [.«mut», .ro] [false] true q76
theorem good76 : Gm.Good Try.prog (76, s76) := by
  have hl : ∀ x ∈ [(74, s74)], Gm.Good Try.prog x := List.forall_mem_cons.2 ⟨good74, List.forall_mem_nil _⟩
  refine ⟨⟨spec_ok (tab_ok.env hl) (tab.natl hl) Try.func76 (by kernel_rfl : Try.f76.body = some f76c) [3] (by kernel_rfl) ?_, _, Try.func76, by kernel_rfl, of_decide_eq_true (by kernel_rfl)⟩, Gm.Spec.of_natl _ _ _ _⟩
  intro ds outs h
  unfold q76 at h
  split at h
  · simp only [Option.some.injEq, Prod.mk.injEq] at h; obtain ⟨hg, h⟩ := h; cases h; exact f76_spec _ _ hg
  · cases h
/-! ### loop.example/g00465/laws.markItemS -/
noncomputable def f33c : Code := (Try.f33.body).getD .skip
def f33k : Nat → Kp := kat [⟨[0, 1], [], [], []⟩, ⟨[0, 1, 5], [], [], []⟩, ⟨[0, 1, 5, 9], [], [], []⟩, ⟨[0, 1, 5], [], [], []⟩, ⟨[0, 1, 5], [], [], []⟩, ⟨[0, 1, 5], [], [], []⟩, ⟨[0, 1, 5], [], [], []⟩, ⟨[0, 1, 5], [], [], []⟩, ⟨[0, 1, 5], [], [], []⟩, ⟨[0, 1, 5], [], [], []⟩, ⟨[0, 1, 5], [], [], []⟩, ⟨[0, 1, 5], [], [], []⟩, ⟨[0, 1, 5], [], [], []⟩, ⟨[0, 1, 5], [], [], []⟩, ⟨[0, 1, 5], [], [], []⟩, ⟨[0, 1, 5], [], [], []⟩, ⟨[0, 1, 5], [], [], []⟩, ⟨[0, 1, 5], [], [], []⟩, ⟨[0, 1, 5], [], [], []⟩, ⟨[0, 1, 5], [], [], []⟩, ⟨[0, 1, 5], [], [], []⟩, ⟨[0, 1, 5], [], [], []⟩, ⟨[0, 1, 5], [], [], []⟩, ⟨[0, 1, 5], [], [], []⟩, ⟨[0, 4], [], [], []⟩]
noncomputable def f33e : Env := tab.env [(74, s74), (75, s75), (76, s76)]
noncomputable def f33v0 (vr0 : List ItemT) (vs5 : Int) (vs1 : Int) : List ItemT :=
  (vr0.set (Int.toNat vs5) (⟨(⟨(mkT vs1), (OrderT.target (ItemT.order (atI (t := .item) vr0 (Int.toNat vs5)))), (OrderT.low (ItemT.order (atI (t := .item) vr0 (Int.toNat vs5)))), (OrderT.high (ItemT.order (atI (t := .item) vr0 (Int.toNat vs5)))), (OrderT.metrics (ItemT.order (atI (t := .item) vr0 (Int.toNat vs5)))), (OrderT.pace (ItemT.order (atI (t := .item) vr0 (Int.toNat vs5)))), (OrderT.notes (ItemT.order (atI (t := .item) vr0 (Int.toNat vs5))))⟩ : OrderT), (ItemT.ver (atI (t := .item) vr0 (Int.toNat vs5)))⟩ : ItemT))
noncomputable def f33v1 (vr0 : List ItemT) (vs5 : Int) (vs1 : Int) : List ItemT :=
  ((f33v0 vr0 vs5 vs1).set (Int.toNat vs5) (⟨(⟨(OrderT.name (ItemT.order (atI (t := .item) (f33v0 vr0 vs5 vs1) (Int.toNat vs5)))), (mkT (IntKind.wrap .i64 (vs1 + (1 : Int)))), (OrderT.low (ItemT.order (atI (t := .item) (f33v0 vr0 vs5 vs1) (Int.toNat vs5)))), (OrderT.high (ItemT.order (atI (t := .item) (f33v0 vr0 vs5 vs1) (Int.toNat vs5)))), (OrderT.metrics (ItemT.order (atI (t := .item) (f33v0 vr0 vs5 vs1) (Int.toNat vs5)))), (OrderT.pace (ItemT.order (atI (t := .item) (f33v0 vr0 vs5 vs1) (Int.toNat vs5)))), (OrderT.notes (ItemT.order (atI (t := .item) (f33v0 vr0 vs5 vs1) (Int.toNat vs5))))⟩ : OrderT), (ItemT.ver (atI (t := .item) (f33v0 vr0 vs5 vs1) (Int.toNat vs5)))⟩ : ItemT))
noncomputable def f33v2 (vr0 : List ItemT) (vs5 : Int) (vs1 : Int) : List ItemT :=
  ((f33v1 vr0 vs5 vs1).set (Int.toNat vs5) (⟨(⟨(OrderT.name (ItemT.order (atI (t := .item) (f33v1 vr0 vs5 vs1) (Int.toNat vs5)))), (OrderT.target (ItemT.order (atI (t := .item) (f33v1 vr0 vs5 vs1) (Int.toNat vs5)))), (IntKind.wrap .i64 ((IntKind.wrap .i64 (vs1 + (1 : Int))) + (1 : Int))), (OrderT.high (ItemT.order (atI (t := .item) (f33v1 vr0 vs5 vs1) (Int.toNat vs5)))), (OrderT.metrics (ItemT.order (atI (t := .item) (f33v1 vr0 vs5 vs1) (Int.toNat vs5)))), (OrderT.pace (ItemT.order (atI (t := .item) (f33v1 vr0 vs5 vs1) (Int.toNat vs5)))), (OrderT.notes (ItemT.order (atI (t := .item) (f33v1 vr0 vs5 vs1) (Int.toNat vs5))))⟩ : OrderT), (ItemT.ver (atI (t := .item) (f33v1 vr0 vs5 vs1) (Int.toNat vs5)))⟩ : ItemT))
noncomputable def f33v3 (vr0 : List ItemT) (vs5 : Int) (vs1 : Int) : List ItemT :=
  ((f33v2 vr0 vs5 vs1).set (Int.toNat vs5) (⟨(⟨(OrderT.name (ItemT.order (atI (t := .item) (f33v2 vr0 vs5 vs1) (Int.toNat vs5)))), (OrderT.target (ItemT.order (atI (t := .item) (f33v2 vr0 vs5 vs1) (Int.toNat vs5)))), (OrderT.low (ItemT.order (atI (t := .item) (f33v2 vr0 vs5 vs1) (Int.toNat vs5)))), (IntKind.wrap .i64 ((IntKind.wrap .i64 ((IntKind.wrap .i64 (vs1 + (1 : Int))) + (1 : Int))) + (1 : Int))), (OrderT.metrics (ItemT.order (atI (t := .item) (f33v2 vr0 vs5 vs1) (Int.toNat vs5)))), (OrderT.pace (ItemT.order (atI (t := .item) (f33v2 vr0 vs5 vs1) (Int.toNat vs5)))), (OrderT.notes (ItemT.order (atI (t := .item) (f33v2 vr0 vs5 vs1) (Int.toNat vs5))))⟩ : OrderT), (ItemT.ver (atI (t := .item) (f33v2 vr0 vs5 vs1) (Int.toNat vs5)))⟩ : ItemT))
noncomputable def f33v4 (vr0 : List ItemT) (vs5 : Int) (vs1 : Int) : List ItemT :=
  ((f33v3 vr0 vs5 vs1).set (Int.toNat vs5) (⟨(⟨(OrderT.name (ItemT.order (atI (t := .item) (f33v3 vr0 vs5 vs1) (Int.toNat vs5)))), (OrderT.target (ItemT.order (atI (t := .item) (f33v3 vr0 vs5 vs1) (Int.toNat vs5)))), (OrderT.low (ItemT.order (atI (t := .item) (f33v3 vr0 vs5 vs1) (Int.toNat vs5)))), (OrderT.high (ItemT.order (atI (t := .item) (f33v3 vr0 vs5 vs1) (Int.toNat vs5)))), (mkL mk_metric (IntKind.wrap .i64 ((IntKind.wrap .i64 ((IntKind.wrap .i64 ((IntKind.wrap .i64 (vs1 + (1 : Int))) + (1 : Int))) + (1 : Int))) + (1 : Int))) (OrderT.metrics (ItemT.order (atI (t := .item) (f33v3 vr0 vs5 vs1) (Int.toNat vs5))))).1, (OrderT.pace (ItemT.order (atI (t := .item) (f33v3 vr0 vs5 vs1) (Int.toNat vs5)))), (OrderT.notes (ItemT.order (atI (t := .item) (f33v3 vr0 vs5 vs1) (Int.toNat vs5))))⟩ : OrderT), (ItemT.ver (atI (t := .item) (f33v3 vr0 vs5 vs1) (Int.toNat vs5)))⟩ : ItemT))
noncomputable def f33v5 (vr0 : List ItemT) (vs5 : Int) (vs1 : Int) : List ItemT :=
  ((f33v4 vr0 vs5 vs1).set (Int.toNat vs5) (⟨(⟨(OrderT.name (ItemT.order (atI (t := .item) (f33v4 vr0 vs5 vs1) (Int.toNat vs5)))), (OrderT.target (ItemT.order (atI (t := .item) (f33v4 vr0 vs5 vs1) (Int.toNat vs5)))), (OrderT.low (ItemT.order (atI (t := .item) (f33v4 vr0 vs5 vs1) (Int.toNat vs5)))), (OrderT.high (ItemT.order (atI (t := .item) (f33v4 vr0 vs5 vs1) (Int.toNat vs5)))), (OrderT.metrics (ItemT.order (atI (t := .item) (f33v4 vr0 vs5 vs1) (Int.toNat vs5)))), (⟨(mkL mk_metric (IntKind.wrap .i64 ((IntKind.wrap .i64 ((IntKind.wrap .i64 ((IntKind.wrap .i64 (vs1 + (1 : Int))) + (1 : Int))) + (1 : Int))) + (1 : Int))) (OrderT.metrics (ItemT.order (atI (t := .item) (f33v3 vr0 vs5 vs1) (Int.toNat vs5))))).2, (PaceT.down (OrderT.pace (ItemT.order (atI (t := .item) (f33v4 vr0 vs5 vs1) (Int.toNat vs5))))), (PaceT.upSpan (OrderT.pace (ItemT.order (atI (t := .item) (f33v4 vr0 vs5 vs1) (Int.toNat vs5))))), (PaceT.downSpan (OrderT.pace (ItemT.order (atI (t := .item) (f33v4 vr0 vs5 vs1) (Int.toNat vs5)))))⟩ : PaceT), (OrderT.notes (ItemT.order (atI (t := .item) (f33v4 vr0 vs5 vs1) (Int.toNat vs5))))⟩ : OrderT), (ItemT.ver (atI (t := .item) (f33v4 vr0 vs5 vs1) (Int.toNat vs5)))⟩ : ItemT))
noncomputable def f33v6 (vr0 : List ItemT) (vs5 : Int) (vs1 : Int) : List ItemT :=
  ((f33v5 vr0 vs5 vs1).set (Int.toNat vs5) (⟨(⟨(OrderT.name (ItemT.order (atI (t := .item) (f33v5 vr0 vs5 vs1) (Int.toNat vs5)))), (OrderT.target (ItemT.order (atI (t := .item) (f33v5 vr0 vs5 vs1) (Int.toNat vs5)))), (OrderT.low (ItemT.order (atI (t := .item) (f33v5 vr0 vs5 vs1) (Int.toNat vs5)))), (OrderT.high (ItemT.order (atI (t := .item) (f33v5 vr0 vs5 vs1) (Int.toNat vs5)))), (OrderT.metrics (ItemT.order (atI (t := .item) (f33v5 vr0 vs5 vs1) (Int.toNat vs5)))), (⟨(PaceT.up (OrderT.pace (ItemT.order (atI (t := .item) (f33v5 vr0 vs5 vs1) (Int.toNat vs5))))), (IntKind.wrap .i64 ((mkL mk_metric (IntKind.wrap .i64 ((IntKind.wrap .i64 ((IntKind.wrap .i64 ((IntKind.wrap .i64 (vs1 + (1 : Int))) + (1 : Int))) + (1 : Int))) + (1 : Int))) (OrderT.metrics (ItemT.order (atI (t := .item) (f33v3 vr0 vs5 vs1) (Int.toNat vs5))))).2 + (1 : Int))), (PaceT.upSpan (OrderT.pace (ItemT.order (atI (t := .item) (f33v5 vr0 vs5 vs1) (Int.toNat vs5))))), (PaceT.downSpan (OrderT.pace (ItemT.order (atI (t := .item) (f33v5 vr0 vs5 vs1) (Int.toNat vs5)))))⟩ : PaceT), (OrderT.notes (ItemT.order (atI (t := .item) (f33v5 vr0 vs5 vs1) (Int.toNat vs5))))⟩ : OrderT), (ItemT.ver (atI (t := .item) (f33v5 vr0 vs5 vs1) (Int.toNat vs5)))⟩ : ItemT))
noncomputable def f33v7 (vr0 : List ItemT) (vs5 : Int) (vs1 : Int) : List ItemT :=
  ((f33v6 vr0 vs5 vs1).set (Int.toNat vs5) (⟨(⟨(OrderT.name (ItemT.order (atI (t := .item) (f33v6 vr0 vs5 vs1) (Int.toNat vs5)))), (OrderT.target (ItemT.order (atI (t := .item) (f33v6 vr0 vs5 vs1) (Int.toNat vs5)))), (OrderT.low (ItemT.order (atI (t := .item) (f33v6 vr0 vs5 vs1) (Int.toNat vs5)))), (OrderT.high (ItemT.order (atI (t := .item) (f33v6 vr0 vs5 vs1) (Int.toNat vs5)))), (OrderT.metrics (ItemT.order (atI (t := .item) (f33v6 vr0 vs5 vs1) (Int.toNat vs5)))), (⟨(PaceT.up (OrderT.pace (ItemT.order (atI (t := .item) (f33v6 vr0 vs5 vs1) (Int.toNat vs5))))), (PaceT.down (OrderT.pace (ItemT.order (atI (t := .item) (f33v6 vr0 vs5 vs1) (Int.toNat vs5))))), (IntKind.wrap .i64 ((IntKind.wrap .i64 ((mkL mk_metric (IntKind.wrap .i64 ((IntKind.wrap .i64 ((IntKind.wrap .i64 ((IntKind.wrap .i64 (vs1 + (1 : Int))) + (1 : Int))) + (1 : Int))) + (1 : Int))) (OrderT.metrics (ItemT.order (atI (t := .item) (f33v3 vr0 vs5 vs1) (Int.toNat vs5))))).2 + (1 : Int))) + (1 : Int))), (PaceT.downSpan (OrderT.pace (ItemT.order (atI (t := .item) (f33v6 vr0 vs5 vs1) (Int.toNat vs5)))))⟩ : PaceT), (OrderT.notes (ItemT.order (atI (t := .item) (f33v6 vr0 vs5 vs1) (Int.toNat vs5))))⟩ : OrderT), (ItemT.ver (atI (t := .item) (f33v6 vr0 vs5 vs1) (Int.toNat vs5)))⟩ : ItemT))
noncomputable def f33v8 (vr0 : List ItemT) (vs5 : Int) (vs1 : Int) : List ItemT :=
  ((f33v7 vr0 vs5 vs1).set (Int.toNat vs5) (⟨(⟨(OrderT.name (ItemT.order (atI (t := .item) (f33v7 vr0 vs5 vs1) (Int.toNat vs5)))), (OrderT.target (ItemT.order (atI (t := .item) (f33v7 vr0 vs5 vs1) (Int.toNat vs5)))), (OrderT.low (ItemT.order (atI (t := .item) (f33v7 vr0 vs5 vs1) (Int.toNat vs5)))), (OrderT.high (ItemT.order (atI (t := .item) (f33v7 vr0 vs5 vs1) (Int.toNat vs5)))), (OrderT.metrics (ItemT.order (atI (t := .item) (f33v7 vr0 vs5 vs1) (Int.toNat vs5)))), (⟨(PaceT.up (OrderT.pace (ItemT.order (atI (t := .item) (f33v7 vr0 vs5 vs1) (Int.toNat vs5))))), (PaceT.down (OrderT.pace (ItemT.order (atI (t := .item) (f33v7 vr0 vs5 vs1) (Int.toNat vs5))))), (PaceT.upSpan (OrderT.pace (ItemT.order (atI (t := .item) (f33v7 vr0 vs5 vs1) (Int.toNat vs5))))), (IntKind.wrap .i64 ((IntKind.wrap .i64 ((IntKind.wrap .i64 ((mkL mk_metric (IntKind.wrap .i64 ((IntKind.wrap .i64 ((IntKind.wrap .i64 ((IntKind.wrap .i64 (vs1 + (1 : Int))) + (1 : Int))) + (1 : Int))) + (1 : Int))) (OrderT.metrics (ItemT.order (atI (t := .item) (f33v3 vr0 vs5 vs1) (Int.toNat vs5))))).2 + (1 : Int))) + (1 : Int))) + (1 : Int)))⟩ : PaceT), (OrderT.notes (ItemT.order (atI (t := .item) (f33v7 vr0 vs5 vs1) (Int.toNat vs5))))⟩ : OrderT), (ItemT.ver (atI (t := .item) (f33v7 vr0 vs5 vs1) (Int.toNat vs5)))⟩ : ItemT))
noncomputable def f33v9 (vr0 : List ItemT) (vs5 : Int) (vs1 : Int) : List ItemT :=
  ((f33v8 vr0 vs5 vs1).set (Int.toNat vs5) (⟨(⟨(OrderT.name (ItemT.order (atI (t := .item) (f33v8 vr0 vs5 vs1) (Int.toNat vs5)))), (OrderT.target (ItemT.order (atI (t := .item) (f33v8 vr0 vs5 vs1) (Int.toNat vs5)))), (OrderT.low (ItemT.order (atI (t := .item) (f33v8 vr0 vs5 vs1) (Int.toNat vs5)))), (OrderT.high (ItemT.order (atI (t := .item) (f33v8 vr0 vs5 vs1) (Int.toNat vs5)))), (OrderT.metrics (ItemT.order (atI (t := .item) (f33v8 vr0 vs5 vs1) (Int.toNat vs5)))), (OrderT.pace (ItemT.order (atI (t := .item) (f33v8 vr0 vs5 vs1) (Int.toNat vs5)))), (mkL mk_note (IntKind.wrap .i64 ((IntKind.wrap .i64 ((IntKind.wrap .i64 ((IntKind.wrap .i64 ((mkL mk_metric (IntKind.wrap .i64 ((IntKind.wrap .i64 ((IntKind.wrap .i64 ((IntKind.wrap .i64 (vs1 + (1 : Int))) + (1 : Int))) + (1 : Int))) + (1 : Int))) (OrderT.metrics (ItemT.order (atI (t := .item) (f33v3 vr0 vs5 vs1) (Int.toNat vs5))))).2 + (1 : Int))) + (1 : Int))) + (1 : Int))) + (1 : Int))) (OrderT.notes (ItemT.order (atI (t := .item) (f33v8 vr0 vs5 vs1) (Int.toNat vs5))))).1⟩ : OrderT), (ItemT.ver (atI (t := .item) (f33v8 vr0 vs5 vs1) (Int.toNat vs5)))⟩ : ItemT))
noncomputable def f33v10 (vr0 : List ItemT) (vs5 : Int) (vs1 : Int) : List ItemT :=
  ((f33v9 vr0 vs5 vs1).set (Int.toNat vs5) (⟨(ItemT.order (atI (t := .item) (f33v9 vr0 vs5 vs1) (Int.toNat vs5))), (mkL mk_note (IntKind.wrap .i64 ((IntKind.wrap .i64 ((IntKind.wrap .i64 ((IntKind.wrap .i64 ((mkL mk_metric (IntKind.wrap .i64 ((IntKind.wrap .i64 ((IntKind.wrap .i64 ((IntKind.wrap .i64 (vs1 + (1 : Int))) + (1 : Int))) + (1 : Int))) + (1 : Int))) (OrderT.metrics (ItemT.order (atI (t := .item) (f33v3 vr0 vs5 vs1) (Int.toNat vs5))))).2 + (1 : Int))) + (1 : Int))) + (1 : Int))) + (1 : Int))) (OrderT.notes (ItemT.order (atI (t := .item) (f33v8 vr0 vs5 vs1) (Int.toNat vs5))))).2⟩ : ItemT))
noncomputable def f33L0 {R : Type} (n : Nat) (x0 : Int → Int → Bool → (List ItemT) → Option R)  : Nat → Int → Int → (List ItemT) → Option R
  | 0, _, _, _ => none
  | m + 1, vs1, vs5, vr0 =>
    (cond (decide (vs5 < (vr0.length : Int)))
      (cond (okI vs1)
        (cond ((decide ((0 : Int) ≤ vs5)) && (decide (vs5 < (vr0.length : Int))))
          (cond (okI (IntKind.wrap .i64 (vs1 + (1 : Int))))
            (cond ((decide ((0 : Int) ≤ vs5)) && (decide (vs5 < ((f33v0 vr0 vs5 vs1).length : Int))))
              (cond ((decide ((0 : Int) ≤ vs5)) && (decide (vs5 < ((f33v1 vr0 vs5 vs1).length : Int))))
                (cond ((decide ((0 : Int) ≤ vs5)) && (decide (vs5 < ((f33v2 vr0 vs5 vs1).length : Int))))
                  (cond ((decide ((0 : Int) ≤ vs5)) && (decide (vs5 < ((f33v3 vr0 vs5 vs1).length : Int))))
                    (cond ((fun (x : List MetricT) (k : Int) => gmk k (ctL ct_metric x)) (OrderT.metrics (ItemT.order (atI (t := .item) (f33v3 vr0 vs5 vs1) (Int.toNat vs5)))) (IntKind.wrap .i64 ((IntKind.wrap .i64 ((IntKind.wrap .i64 ((IntKind.wrap .i64 (vs1 + (1 : Int))) + (1 : Int))) + (1 : Int))) + (1 : Int))))
                      (cond ((decide ((0 : Int) ≤ vs5)) && (decide (vs5 < ((f33v4 vr0 vs5 vs1).length : Int))))
                        (cond ((decide ((0 : Int) ≤ vs5)) && (decide (vs5 < ((f33v5 vr0 vs5 vs1).length : Int))))
                          (cond ((decide ((0 : Int) ≤ vs5)) && (decide (vs5 < ((f33v6 vr0 vs5 vs1).length : Int))))
                            (cond ((decide ((0 : Int) ≤ vs5)) && (decide (vs5 < ((f33v7 vr0 vs5 vs1).length : Int))))
                              (cond ((decide ((0 : Int) ≤ vs5)) && (decide (vs5 < ((f33v8 vr0 vs5 vs1).length : Int))))
                                (cond ((fun (x : List NoteT) (k : Int) => gmk k (ctL ct_note x)) (OrderT.notes (ItemT.order (atI (t := .item) (f33v8 vr0 vs5 vs1) (Int.toNat vs5)))) (IntKind.wrap .i64 ((IntKind.wrap .i64 ((IntKind.wrap .i64 ((IntKind.wrap .i64 ((mkL mk_metric (IntKind.wrap .i64 ((IntKind.wrap .i64 ((IntKind.wrap .i64 ((IntKind.wrap .i64 (vs1 + (1 : Int))) + (1 : Int))) + (1 : Int))) + (1 : Int))) (OrderT.metrics (ItemT.order (atI (t := .item) (f33v3 vr0 vs5 vs1) (Int.toNat vs5))))).2 + (1 : Int))) + (1 : Int))) + (1 : Int))) + (1 : Int))))
                                  (cond ((decide ((0 : Int) ≤ vs5)) && (decide (vs5 < ((f33v9 vr0 vs5 vs1).length : Int))))
                                    (f33L0 n x0 m (IntKind.wrap .i64 ((mkL mk_note (IntKind.wrap .i64 ((IntKind.wrap .i64 ((IntKind.wrap .i64 ((IntKind.wrap .i64 ((mkL mk_metric (IntKind.wrap .i64 ((IntKind.wrap .i64 ((IntKind.wrap .i64 ((IntKind.wrap .i64 (vs1 + (1 : Int))) + (1 : Int))) + (1 : Int))) + (1 : Int))) (OrderT.metrics (ItemT.order (atI (t := .item) (f33v3 vr0 vs5 vs1) (Int.toNat vs5))))).2 + (1 : Int))) + (1 : Int))) + (1 : Int))) + (1 : Int))) (OrderT.notes (ItemT.order (atI (t := .item) (f33v8 vr0 vs5 vs1) (Int.toNat vs5))))).2 + (1 : Int))) (IntKind.wrap .i64 (vs5 + (1 : Int))) (f33v10 vr0 vs5 vs1))
                                    none)
                                  none)
                                none)
                              none)
                            none)
                          none)
                        none)
                      none)
                    none)
                  none)
                none)
              none)
            none)
          none)
        none)
      (x0 vs1 vs5 (decide (vs5 < (vr0.length : Int))) vr0))
theorem f33L0_b {R : Type} (n : Nat) (k' : Ex → St → Option R) (vs1 : Int) (vs5 : Int) (vr0 : List ItemT) : ev f33e f33k n (cAt [1,0,1,0,0] f33c) ⟨[(0, .c (.one (.h 0 0 0 []))), (1, .c (.one (.v (.int .i64 vs1)))), (5, .c (.one (.v (.int .i64 vs5))))], [], [(0, .live ⟨.item, .deep, 0, [], vr0⟩)]⟩ k' =
    (cond (decide (vs5 < (vr0.length : Int)))
    (cond (okI vs1)
      (cond ((decide ((0 : Int) ≤ vs5)) && (decide (vs5 < (vr0.length : Int))))
        (cond (okI (IntKind.wrap .i64 (vs1 + (1 : Int))))
          (cond ((decide ((0 : Int) ≤ vs5)) && (decide (vs5 < ((f33v0 vr0 vs5 vs1).length : Int))))
            (cond ((decide ((0 : Int) ≤ vs5)) && (decide (vs5 < ((f33v1 vr0 vs5 vs1).length : Int))))
              (cond ((decide ((0 : Int) ≤ vs5)) && (decide (vs5 < ((f33v2 vr0 vs5 vs1).length : Int))))
                (cond ((decide ((0 : Int) ≤ vs5)) && (decide (vs5 < ((f33v3 vr0 vs5 vs1).length : Int))))
                  (cond ((fun (x : List MetricT) (k : Int) => gmk k (ctL ct_metric x)) (OrderT.metrics (ItemT.order (atI (t := .item) (f33v3 vr0 vs5 vs1) (Int.toNat vs5)))) (IntKind.wrap .i64 ((IntKind.wrap .i64 ((IntKind.wrap .i64 ((IntKind.wrap .i64 (vs1 + (1 : Int))) + (1 : Int))) + (1 : Int))) + (1 : Int))))
                    (cond ((decide ((0 : Int) ≤ vs5)) && (decide (vs5 < ((f33v4 vr0 vs5 vs1).length : Int))))
                      (cond ((decide ((0 : Int) ≤ vs5)) && (decide (vs5 < ((f33v5 vr0 vs5 vs1).length : Int))))
                        (cond ((decide ((0 : Int) ≤ vs5)) && (decide (vs5 < ((f33v6 vr0 vs5 vs1).length : Int))))
                          (cond ((decide ((0 : Int) ≤ vs5)) && (decide (vs5 < ((f33v7 vr0 vs5 vs1).length : Int))))
                            (cond ((decide ((0 : Int) ≤ vs5)) && (decide (vs5 < ((f33v8 vr0 vs5 vs1).length : Int))))
                              (cond ((fun (x : List NoteT) (k : Int) => gmk k (ctL ct_note x)) (OrderT.notes (ItemT.order (atI (t := .item) (f33v8 vr0 vs5 vs1) (Int.toNat vs5)))) (IntKind.wrap .i64 ((IntKind.wrap .i64 ((IntKind.wrap .i64 ((IntKind.wrap .i64 ((mkL mk_metric (IntKind.wrap .i64 ((IntKind.wrap .i64 ((IntKind.wrap .i64 ((IntKind.wrap .i64 (vs1 + (1 : Int))) + (1 : Int))) + (1 : Int))) + (1 : Int))) (OrderT.metrics (ItemT.order (atI (t := .item) (f33v3 vr0 vs5 vs1) (Int.toNat vs5))))).2 + (1 : Int))) + (1 : Int))) + (1 : Int))) + (1 : Int))))
                                (cond ((decide ((0 : Int) ≤ vs5)) && (decide (vs5 < ((f33v9 vr0 vs5 vs1).length : Int))))
                                  (k' .normal ⟨[(0, .c (.one (.h 0 0 0 []))), (1, .c (.one (.v (.int .i64 (IntKind.wrap .i64 ((mkL mk_note (IntKind.wrap .i64 ((IntKind.wrap .i64 ((IntKind.wrap .i64 ((IntKind.wrap .i64 ((mkL mk_metric (IntKind.wrap .i64 ((IntKind.wrap .i64 ((IntKind.wrap .i64 ((IntKind.wrap .i64 (vs1 + (1 : Int))) + (1 : Int))) + (1 : Int))) + (1 : Int))) (OrderT.metrics (ItemT.order (atI (t := .item) (f33v3 vr0 vs5 vs1) (Int.toNat vs5))))).2 + (1 : Int))) + (1 : Int))) + (1 : Int))) + (1 : Int))) (OrderT.notes (ItemT.order (atI (t := .item) (f33v8 vr0 vs5 vs1) (Int.toNat vs5))))).2 + (1 : Int))))))), (5, .c (.one (.v (.int .i64 (IntKind.wrap .i64 (vs5 + (1 : Int)))))))], [], [(0, .live ⟨.item, .deep, 0, [], (f33v10 vr0 vs5 vs1)⟩)]⟩)
                                  none)
                                none)
                              none)
                            none)
                          none)
                        none)
                      none)
                    none)
                  none)
                none)
              none)
            none)
          none)
        none)
      none)
    (k' (.exit 0) ⟨[(0, .c (.one (.h 0 0 0 []))), (1, .c (.one (.v (.int .i64 vs1)))), (5, .c (.one (.v (.int .i64 vs5)))), (9, .c (.one (.v (.bool (decide (vs5 < (vr0.length : Int)))))))], [], [(0, .live ⟨.item, .deep, 0, [], vr0⟩)]⟩)) := by kernel_rfl
theorem f33L0_eq {R : Type} (n : Nat) (k' : Ex → St → Option R)  : ∀ (m : Nat) (vs1 : Int) (vs5 : Int) (vr0 : List ItemT), iter (fun st k => ev f33e f33k n (cAt [1,0,1,0,0] f33c) st k) m ⟨[(0, .c (.one (.h 0 0 0 []))), (1, .c (.one (.v (.int .i64 vs1)))), (5, .c (.one (.v (.int .i64 vs5))))], [], [(0, .live ⟨.item, .deep, 0, [], vr0⟩)]⟩ k' = f33L0 n (fun (xvs1 : Int) (xvs5 : Int) (xvs9 : Bool) (xvr0 : List ItemT) => k' (.exit 0) ⟨[(0, .c (.one (.h 0 0 0 []))), (1, .c (.one (.v (.int .i64 xvs1)))), (5, .c (.one (.v (.int .i64 xvs5)))), (9, .c (.one (.v (.bool xvs9))))], [], [(0, .live ⟨.item, .deep, 0, [], xvr0⟩)]⟩) m vs1 vs5 vr0 := by
  intro m; induction m with
  | zero => intros; rfl
  | succ m ih =>
    intro vs1 vs5 vr0
    simp only [iter]
    rw [f33L0_b]
    simp only [ih, f33L0]

noncomputable def f33K0 {R : Type} (n : Nat) (k' : Ex → St → Option R) : Ex → St → Option R := (blockK 0 (seqK f33e f33k n (cAt [1,1] f33c) k'))
theorem f33K0_x0 {R : Type} (n : Nat) (k : List Dt → Option R) (a0 : List ItemT) (a1 : Int) (xvs1 : Int) (xvs5 : Int) (xvs9 : Bool) (xvr0 : List ItemT) : f33K0 n (exitK f33e [.«mut», .ro] [false] true [.tmp 4] [3] [.d (.sl .item) a0, .d (.i .i64) a1] k) (.exit 0) ⟨[(0, .c (.one (.h 0 0 0 []))), (1, .c (.one (.v (.int .i64 xvs1)))), (5, .c (.one (.v (.int .i64 xvs5)))), (9, .c (.one (.v (.bool xvs9))))], [], [(0, .live ⟨.item, .deep, 0, [], xvr0⟩)]⟩ =
    (k [.d (.i .i64) xvs1, .d (.sl .item) xvr0]) := by kernel_rfl

theorem f33_run {R : Type} (n : Nat) (k : List Dt → Option R) (a0 : List ItemT) (a1 : Int) : evFn f33e f33k n f33c [.«mut», .ro] [false] true [.tmp 4] [3] [.d (.sl .item) a0, .d (.i .i64) a1] k =
    (f33L0 n (fun (xvs1 : Int) (xvs5 : Int) (xvs9 : Bool) (xvr0 : List ItemT) =>
    (k [.d (.i .i64) xvs1, .d (.sl .item) xvr0])) n a1 (0 : Int) a0) := by
  refine Eq.trans (b := (iter (fun st k => ev f33e f33k n (cAt [1,0,1,0,0] f33c) st k) n ⟨[(0, .c (.one (.h 0 0 0 []))), (1, .c (.one (.v (.int .i64 a1)))), (5, .c (.one (.v (.int .i64 (0 : Int)))))], [], [(0, .live ⟨.item, .deep, 0, [], a0⟩)]⟩ (f33K0 n (exitK f33e [.«mut», .ro] [false] true [.tmp 4] [3] [.d (.sl .item) a0, .d (.i .i64) a1] k)))) (by kernel_rfl) ?_
  simp only [f33L0_eq, f33K0_x0]
theorem f33_spec (a0 : List ItemT) (a1 : Int) (hg : gmk a1 (ctL ct_item a0) = true) : ∃ keep rounds, ∀ {R : Type} (k : List Dt → Option R), evFn f33e keep rounds f33c [.«mut», .ro] [false] true [.tmp 4] [3] [.d (.sl .item) a0, .d (.i .i64) a1] k = k [.d (.i .i64) (mkL mk_item a1 a0).2, .d (.sl .item) (mkL mk_item a1 a0).1] := by
  rw [gmk_iff] at hg
  have hl := ctL_len ct_item_pos a0
  refine ⟨f33k, a0.length + 1, fun {R} k => ?_⟩
  rw [f33_run]
  refine Eq.trans (loop_mark (F := fun m kk i l => f33L0 (a0.length + 1) _ m kk i l) (f := mk_item) (c := ct_item) (good := fun kk l => k [.d (.i .i64) kk, .d (.sl .item) l]) (n := a0.length) mk_item_ct
    (fun m kk j l x hx hln h0 hB => ?_) (fun m kk l hln => by simp only [f33L0, hln, idxE, cond_false]) a0 (a0.length + 1) a1 [] (by simp) (by omega) hg.1 hg.2) rfl
  obtain ⟨h1, h2, _, ht⟩ := idx (lt_of_get hx) (by omega)
  have hA : ∀ a, atI (t := .item) (l.set j a) j = a := fun a => atI_set (t := .item) (lt_of_get hx) a
  have hj := lt_of_get hx
  simp only [ct_item] at hB
  simp (disch := omega) only [f33L0, f33v0, f33v1, f33v2, f33v3, f33v4, f33v5, f33v6, f33v7, f33v8, f33v9, f33v10, h1, h2, ht, hA, atI_of (t := .item) hx, List.set_set, List.length_set, wrap_id, gmk_of, okI_of, mk_item, mkL_metric_ct, mkL_note_ct, Bool.and_self, cond_true]

noncomputable def q33 : List Dt → Option (Bool × List Dt)
  | [.d (.sl .item) a0, .d (.i .i64) a1] => some (((fun (x : List ItemT) (k : Int) => gmk k (ctL ct_item x)) a0 a1), [.d (.i .i64) (mkL mk_item a1 a0).2, .d (.sl .item) (mkL mk_item a1 a0).1])
  | _ => none
noncomputable def s33 : Gm.Spec := Gm.Spec.of [.«mut», .ro] [false] true q33
theorem good33 : Gm.Good Try.prog (33, s33) := by
  have hl : ∀ x ∈ [(74, s74), (75, s75), (76, s76)], Gm.Good Try.prog x := List.forall_mem_cons.2 ⟨good74, List.forall_mem_cons.2 ⟨good75, List.forall_mem_cons.2 ⟨good76, List.forall_mem_nil _⟩⟩⟩
  refine ⟨⟨spec_ok (tab_ok.env hl) (tab.natl hl) Try.func33 (by kernel_rfl : Try.f33.body = some f33c) [3] (by kernel_rfl) ?_, _, Try.func33, by kernel_rfl, of_decide_eq_true (by kernel_rfl)⟩, Gm.Spec.of_natl _ _ _ _⟩
  intro ds outs h
  unfold q33 at h
  split at h
  · simp only [Option.some.injEq, Prod.mk.injEq] at h; obtain ⟨hg, h⟩ := h; cases h; exact f33_spec _ _ hg
  · cases h
/-! ### loop.example/g00465/laws.markEventS -/
noncomputable def f34c : Code := (Try.f34.body).getD .skip
def f34k : Nat → Kp := kat [⟨[0, 1], [], [], []⟩, ⟨[0, 1, 5], [], [], []⟩, ⟨[0, 1, 5, 9], [], [], []⟩, ⟨[0, 1, 5], [], [], []⟩, ⟨[0, 1, 5], [], [], []⟩, ⟨[0, 1, 5], [], [], []⟩, ⟨[0, 1, 5], [], [], []⟩, ⟨[0, 1, 5], [], [], []⟩, ⟨[0, 1, 5], [], [], []⟩, ⟨[0, 1, 5], [], [], []⟩, ⟨[0, 1, 5], [], [], []⟩, ⟨[0, 1, 5], [], [], []⟩, ⟨[0, 1, 5], [], [], []⟩, ⟨[0, 1, 5], [], [], []⟩, ⟨[0, 1, 5], [], [], []⟩, ⟨[0, 1, 5], [], [], []⟩, ⟨[0, 1, 5], [], [], []⟩, ⟨[0, 1, 5], [], [], []⟩, ⟨[0, 1, 5], [], [], []⟩, ⟨[0, 1, 5], [], [], []⟩, ⟨[0, 1, 5], [], [], []⟩, ⟨[0, 1, 5], [], [], []⟩, ⟨[0, 1, 5], [], [], []⟩, ⟨[0, 1, 5], [], [], []⟩, ⟨[0, 1, 5], [], [], []⟩, ⟨[0, 1, 5], [], [], []⟩, ⟨[0, 1, 5], [], [], []⟩, ⟨[0, 1, 5], [], [], []⟩, ⟨[0, 4], [], [], []⟩]
noncomputable def f34e : Env := tab.env [(74, s74), (75, s75), (76, s76)]
noncomputable def f34v0 (vr0 : List EventT) (vs5 : Int) (vs1 : Int) : List EventT :=
  (vr0.set (Int.toNat vs5) (⟨vs1, (EventT.kind (atI (t := .event) vr0 (Int.toNat vs5))), (EventT.item (atI (t := .event) vr0 (Int.toNat vs5)))⟩ : EventT))
noncomputable def f34v1 (vr0 : List EventT) (vs5 : Int) (vs1 : Int) : List EventT :=
  ((f34v0 vr0 vs5 vs1).set (Int.toNat vs5) (⟨(EventT.seq (atI (t := .event) (f34v0 vr0 vs5 vs1) (Int.toNat vs5))), (IntKind.wrap .i64 (vs1 + (1 : Int))), (EventT.item (atI (t := .event) (f34v0 vr0 vs5 vs1) (Int.toNat vs5)))⟩ : EventT))
noncomputable def f34v2 (vr0 : List EventT) (vs5 : Int) (vs1 : Int) : List EventT :=
  ((f34v1 vr0 vs5 vs1).set (Int.toNat vs5) (⟨(EventT.seq (atI (t := .event) (f34v1 vr0 vs5 vs1) (Int.toNat vs5))), (EventT.kind (atI (t := .event) (f34v1 vr0 vs5 vs1) (Int.toNat vs5))), (⟨(⟨(mkT (IntKind.wrap .i64 ((IntKind.wrap .i64 (vs1 + (1 : Int))) + (1 : Int)))), (OrderT.target (ItemT.order (EventT.item (atI (t := .event) (f34v1 vr0 vs5 vs1) (Int.toNat vs5))))), (OrderT.low (ItemT.order (EventT.item (atI (t := .event) (f34v1 vr0 vs5 vs1) (Int.toNat vs5))))), (OrderT.high (ItemT.order (EventT.item (atI (t := .event) (f34v1 vr0 vs5 vs1) (Int.toNat vs5))))), (OrderT.metrics (ItemT.order (EventT.item (atI (t := .event) (f34v1 vr0 vs5 vs1) (Int.toNat vs5))))), (OrderT.pace (ItemT.order (EventT.item (atI (t := .event) (f34v1 vr0 vs5 vs1) (Int.toNat vs5))))), (OrderT.notes (ItemT.order (EventT.item (atI (t := .event) (f34v1 vr0 vs5 vs1) (Int.toNat vs5)))))⟩ : OrderT), (ItemT.ver (EventT.item (atI (t := .event) (f34v1 vr0 vs5 vs1) (Int.toNat vs5))))⟩ : ItemT)⟩ : EventT))
noncomputable def f34v3 (vr0 : List EventT) (vs5 : Int) (vs1 : Int) : List EventT :=
  ((f34v2 vr0 vs5 vs1).set (Int.toNat vs5) (⟨(EventT.seq (atI (t := .event) (f34v2 vr0 vs5 vs1) (Int.toNat vs5))), (EventT.kind (atI (t := .event) (f34v2 vr0 vs5 vs1) (Int.toNat vs5))), (⟨(⟨(OrderT.name (ItemT.order (EventT.item (atI (t := .event) (f34v2 vr0 vs5 vs1) (Int.toNat vs5))))), (mkT (IntKind.wrap .i64 ((IntKind.wrap .i64 ((IntKind.wrap .i64 (vs1 + (1 : Int))) + (1 : Int))) + (1 : Int)))), (OrderT.low (ItemT.order (EventT.item (atI (t := .event) (f34v2 vr0 vs5 vs1) (Int.toNat vs5))))), (OrderT.high (ItemT.order (EventT.item (atI (t := .event) (f34v2 vr0 vs5 vs1) (Int.toNat vs5))))), (OrderT.metrics (ItemT.order (EventT.item (atI (t := .event) (f34v2 vr0 vs5 vs1) (Int.toNat vs5))))), (OrderT.pace (ItemT.order (EventT.item (atI (t := .event) (f34v2 vr0 vs5 vs1) (Int.toNat vs5))))), (OrderT.notes (ItemT.order (EventT.item (atI (t := .event) (f34v2 vr0 vs5 vs1) (Int.toNat vs5)))))⟩ : OrderT), (ItemT.ver (EventT.item (atI (t := .event) (f34v2 vr0 vs5 vs1) (Int.toNat vs5))))⟩ : ItemT)⟩ : EventT))
noncomputable def f34v4 (vr0 : List EventT) (vs5 : Int) (vs1 : Int) : List EventT :=
  ((f34v3 vr0 vs5 vs1).set (Int.toNat vs5) (⟨(EventT.seq (atI (t := .event) (f34v3 vr0 vs5 vs1) (Int.toNat vs5))), (EventT.kind (atI (t := .event) (f34v3 vr0 vs5 vs1) (Int.toNat vs5))), (⟨(⟨(OrderT.name (ItemT.order (EventT.item (atI (t := .event) (f34v3 vr0 vs5 vs1) (Int.toNat vs5))))), (OrderT.target (ItemT.order (EventT.item (atI (t := .event) (f34v3 vr0 vs5 vs1) (Int.toNat vs5))))), (IntKind.wrap .i64 ((IntKind.wrap .i64 ((IntKind.wrap .i64 ((IntKind.wrap .i64 (vs1 + (1 : Int))) + (1 : Int))) + (1 : Int))) + (1 : Int))), (OrderT.high (ItemT.order (EventT.item (atI (t := .event) (f34v3 vr0 vs5 vs1) (Int.toNat vs5))))), (OrderT.metrics (ItemT.order (EventT.item (atI (t := .event) (f34v3 vr0 vs5 vs1) (Int.toNat vs5))))), (OrderT.pace (ItemT.order (EventT.item (atI (t := .event) (f34v3 vr0 vs5 vs1) (Int.toNat vs5))))), (OrderT.notes (ItemT.order (EventT.item (atI (t := .event) (f34v3 vr0 vs5 vs1) (Int.toNat vs5)))))⟩ : OrderT), (ItemT.ver (EventT.item (atI (t := .event) (f34v3 vr0 vs5 vs1) (Int.toNat vs5))))⟩ : ItemT)⟩ : EventT))
noncomputable def f34v5 (vr0 : List EventT) (vs5 : Int) (vs1 : Int) : List EventT :=
  ((f34v4 vr0 vs5 vs1).set (Int.toNat vs5) (⟨(EventT.seq (atI (t := .event) (f34v4 vr0 vs5 vs1) (Int.toNat vs5))), (EventT.kind (atI (t := .event) (f34v4 vr0 vs5 vs1) (Int.toNat vs5))), (⟨(⟨(OrderT.name (ItemT.order (EventT.item (atI (t := .event) (f34v4 vr0 vs5 vs1) (Int.toNat vs5))))), (OrderT.target (ItemT.order (EventT.item (atI (t := .event) (f34v4 vr0 vs5 vs1) (Int.toNat vs5))))), (OrderT.low (ItemT.order (EventT.item (atI (t := .event) (f34v4 vr0 vs5 vs1) (Int.toNat vs5))))), (IntKind.wrap .i64 ((IntKind.wrap .i64 ((IntKind.wrap .i64 ((IntKind.wrap .i64 ((IntKind.wrap .i64 (vs1 + (1 : Int))) + (1 : Int))) + (1 : Int))) + (1 : Int))) + (1 : Int))), (OrderT.metrics (ItemT.order (EventT.item (atI (t := .event) (f34v4 vr0 vs5 vs1) (Int.toNat vs5))))), (OrderT.pace (ItemT.order (EventT.item (atI (t := .event) (f34v4 vr0 vs5 vs1) (Int.toNat vs5))))), (OrderT.notes (ItemT.order (EventT.item (atI (t := .event) (f34v4 vr0 vs5 vs1) (Int.toNat vs5)))))⟩ : OrderT), (ItemT.ver (EventT.item (atI (t := .event) (f34v4 vr0 vs5 vs1) (Int.toNat vs5))))⟩ : ItemT)⟩ : EventT))
noncomputable def f34v6 (vr0 : List EventT) (vs5 : Int) (vs1 : Int) : List EventT :=
  ((f34v5 vr0 vs5 vs1).set (Int.toNat vs5) (⟨(EventT.seq (atI (t := .event) (f34v5 vr0 vs5 vs1) (Int.toNat vs5))), (EventT.kind (atI (t := .event) (f34v5 vr0 vs5 vs1) (Int.toNat vs5))), (⟨(⟨(OrderT.name (ItemT.order (EventT.item (atI (t := .event) (f34v5 vr0 vs5 vs1) (Int.toNat vs5))))), (OrderT.target (ItemT.order (EventT.item (atI (t := .event) (f34v5 vr0 vs5 vs1) (Int.toNat vs5))))), (OrderT.low (ItemT.order (EventT.item (atI (t := .event) (f34v5 vr0 vs5 vs1) (Int.toNat vs5))))), (OrderT.high (ItemT.order (EventT.item (atI (t := .event) (f34v5 vr0 vs5 vs1) (Int.toNat vs5))))), (mkL mk_metric (IntKind.wrap .i64 ((IntKind.wrap .i64 ((IntKind.wrap .i64 ((IntKind.wrap .i64 ((IntKind.wrap .i64 ((IntKind.wrap .i64 (vs1 + (1 : Int))) + (1 : Int))) + (1 : Int))) + (1 : Int))) + (1 : Int))) + (1 : Int))) (OrderT.metrics (ItemT.order (EventT.item (atI (t := .event) (f34v5 vr0 vs5 vs1) (Int.toNat vs5)))))).1, (OrderT.pace (ItemT.order (EventT.item (atI (t := .event) (f34v5 vr0 vs5 vs1) (Int.toNat vs5))))), (OrderT.notes (ItemT.order (EventT.item (atI (t := .event) (f34v5 vr0 vs5 vs1) (Int.toNat vs5)))))⟩ : OrderT), (ItemT.ver (EventT.item (atI (t := .event) (f34v5 vr0 vs5 vs1) (Int.toNat vs5))))⟩ : ItemT)⟩ : EventT))
noncomputable def f34v7 (vr0 : List EventT) (vs5 : Int) (vs1 : Int) : List EventT :=
  ((f34v6 vr0 vs5 vs1).set (Int.toNat vs5) (⟨(EventT.seq (atI (t := .event) (f34v6 vr0 vs5 vs1) (Int.toNat vs5))), (EventT.kind (atI (t := .event) (f34v6 vr0 vs5 vs1) (Int.toNat vs5))), (⟨(⟨(OrderT.name (ItemT.order (EventT.item (atI (t := .event) (f34v6 vr0 vs5 vs1) (Int.toNat vs5))))), (OrderT.target (ItemT.order (EventT.item (atI (t := .event) (f34v6 vr0 vs5 vs1) (Int.toNat vs5))))), (OrderT.low (ItemT.order (EventT.item (atI (t := .event) (f34v6 vr0 vs5 vs1) (Int.toNat vs5))))), (OrderT.high (ItemT.order (EventT.item (atI (t := .event) (f34v6 vr0 vs5 vs1) (Int.toNat vs5))))), (OrderT.metrics (ItemT.order (EventT.item (atI (t := .event) (f34v6 vr0 vs5 vs1) (Int.toNat vs5))))), (⟨(mkL mk_metric (IntKind.wrap .i64 ((IntKind.wrap .i64 ((IntKind.wrap .i64 ((IntKind.wrap .i64 ((IntKind.wrap .i64 ((IntKind.wrap .i64 (vs1 + (1 : Int))) + (1 : Int))) + (1 : Int))) + (1 : Int))) + (1 : Int))) + (1 : Int))) (OrderT.metrics (ItemT.order (EventT.item (atI (t := .event) (f34v5 vr0 vs5 vs1) (Int.toNat vs5)))))).2, (PaceT.down (OrderT.pace (ItemT.order (EventT.item (atI (t := .event) (f34v6 vr0 vs5 vs1) (Int.toNat vs5)))))), (PaceT.upSpan (OrderT.pace (ItemT.order (EventT.item (atI (t := .event) (f34v6 vr0 vs5 vs1) (Int.toNat vs5)))))), (PaceT.downSpan (OrderT.pace (ItemT.order (EventT.item (atI (t := .event) (f34v6 vr0 vs5 vs1) (Int.toNat vs5))))))⟩ : PaceT), (OrderT.notes (ItemT.order (EventT.item (atI (t := .event) (f34v6 vr0 vs5 vs1) (Int.toNat vs5)))))⟩ : OrderT), (ItemT.ver (EventT.item (atI (t := .event) (f34v6 vr0 vs5 vs1) (Int.toNat vs5))))⟩ : ItemT)⟩ : EventT))
noncomputable def f34v8 (vr0 : List EventT) (vs5 : Int) (vs1 : Int) : List EventT :=
  ((f34v7 vr0 vs5 vs1).set (Int.toNat vs5) (⟨(EventT.seq (atI (t := .event) (f34v7 vr0 vs5 vs1) (Int.toNat vs5))), (EventT.kind (atI (t := .event) (f34v7 vr0 vs5 vs1) (Int.toNat vs5))), (⟨(⟨(OrderT.name (ItemT.order (EventT.item (atI (t := .event) (f34v7 vr0 vs5 vs1) (Int.toNat vs5))))), (OrderT.target (ItemT.order (EventT.item (atI (t := .event) (f34v7 vr0 vs5 vs1) (Int.toNat vs5))))), (OrderT.low (ItemT.order (EventT.item (atI (t := .event) (f34v7 vr0 vs5 vs1) (Int.toNat vs5))))), (OrderT.high (ItemT.order (EventT.item (atI (t := .event) (f34v7 vr0 vs5 vs1) (Int.toNat vs5))))), (OrderT.metrics (ItemT.order (EventT.item (atI (t := .event) (f34v7 vr0 vs5 vs1) (Int.toNat vs5))))), (⟨(PaceT.up (OrderT.pace (ItemT.order (EventT.item (atI (t := .event) (f34v7 vr0 vs5 vs1) (Int.toNat vs5)))))), (IntKind.wrap .i64 ((mkL mk_metric (IntKind.wrap .i64 ((IntKind.wrap .i64 ((IntKind.wrap .i64 ((IntKind.wrap .i64 ((IntKind.wrap .i64 ((IntKind.wrap .i64 (vs1 + (1 : Int))) + (1 : Int))) + (1 : Int))) + (1 : Int))) + (1 : Int))) + (1 : Int))) (OrderT.metrics (ItemT.order (EventT.item (atI (t := .event) (f34v5 vr0 vs5 vs1) (Int.toNat vs5)))))).2 + (1 : Int))), (PaceT.upSpan (OrderT.pace (ItemT.order (EventT.item (atI (t := .event) (f34v7 vr0 vs5 vs1) (Int.toNat vs5)))))), (PaceT.downSpan (OrderT.pace (ItemT.order (EventT.item (atI (t := .event) (f34v7 vr0 vs5 vs1) (Int.toNat vs5))))))⟩ : PaceT), (OrderT.notes (ItemT.order (EventT.item (atI (t := .event) (f34v7 vr0 vs5 vs1) (Int.toNat vs5)))))⟩ : OrderT), (ItemT.ver (EventT.item (atI (t := .event) (f34v7 vr0 vs5 vs1) (Int.toNat vs5))))⟩ : ItemT)⟩ : EventT))
noncomputable def f34v9 (vr0 : List EventT) (vs5 : Int) (vs1 : Int) : List EventT :=
  ((f34v8 vr0 vs5 vs1).set (Int.toNat vs5) (⟨(EventT.seq (atI (t := .event) (f34v8 vr0 vs5 vs1) (Int.toNat vs5))), (EventT.kind (atI (t := .event) (f34v8 vr0 vs5 vs1) (Int.toNat vs5))), (⟨(⟨(OrderT.name (ItemT.order (EventT.item (atI (t := .event) (f34v8 vr0 vs5 vs1) (Int.toNat vs5))))), (OrderT.target (ItemT.order (EventT.item (atI (t := .event) (f34v8 vr0 vs5 vs1) (Int.toNat vs5))))), (OrderT.low (ItemT.order (EventT.item (atI (t := .event) (f34v8 vr0 vs5 vs1) (Int.toNat vs5))))), (OrderT.high (ItemT.order (EventT.item (atI (t := .event) (f34v8 vr0 vs5 vs1) (Int.toNat vs5))))), (OrderT.metrics (ItemT.order (EventT.item (atI (t := .event) (f34v8 vr0 vs5 vs1) (Int.toNat vs5))))), (⟨(PaceT.up (OrderT.pace (ItemT.order (EventT.item (atI (t := .event) (f34v8 vr0 vs5 vs1) (Int.toNat vs5)))))), (PaceT.down (OrderT.pace (ItemT.order (EventT.item (atI (t := .event) (f34v8 vr0 vs5 vs1) (Int.toNat vs5)))))), (IntKind.wrap .i64 ((IntKind.wrap .i64 ((mkL mk_metric (IntKind.wrap .i64 ((IntKind.wrap .i64 ((IntKind.wrap .i64 ((IntKind.wrap .i64 ((IntKind.wrap .i64 ((IntKind.wrap .i64 (vs1 + (1 : Int))) + (1 : Int))) + (1 : Int))) + (1 : Int))) + (1 : Int))) + (1 : Int))) (OrderT.metrics (ItemT.order (EventT.item (atI (t := .event) (f34v5 vr0 vs5 vs1) (Int.toNat vs5)))))).2 + (1 : Int))) + (1 : Int))), (PaceT.downSpan (OrderT.pace (ItemT.order (EventT.item (atI (t := .event) (f34v8 vr0 vs5 vs1) (Int.toNat vs5))))))⟩ : PaceT), (OrderT.notes (ItemT.order (EventT.item (atI (t := .event) (f34v8 vr0 vs5 vs1) (Int.toNat vs5)))))⟩ : OrderT), (ItemT.ver (EventT.item (atI (t := .event) (f34v8 vr0 vs5 vs1) (Int.toNat vs5))))⟩ : ItemT)⟩ : EventT))
noncomputable def f34v10 (vr0 : List EventT) (vs5 : Int) (vs1 : Int) : List EventT :=
  ((f34v9 vr0 vs5 vs1).set (Int.toNat vs5) (⟨(EventT.seq (atI (t := .event) (f34v9 vr0 vs5 vs1) (Int.toNat vs5))), (EventT.kind (atI (t := .event) (f34v9 vr0 vs5 vs1) (Int.toNat vs5))), (⟨(⟨(OrderT.name (ItemT.order (EventT.item (atI (t := .event) (f34v9 vr0 vs5 vs1) (Int.toNat vs5))))), (OrderT.target (ItemT.order (EventT.item (atI (t := .event) (f34v9 vr0 vs5 vs1) (Int.toNat vs5))))), (OrderT.low (ItemT.order (EventT.item (atI (t := .event) (f34v9 vr0 vs5 vs1) (Int.toNat vs5))))), (OrderT.high (ItemT.order (EventT.item (atI (t := .event) (f34v9 vr0 vs5 vs1) (Int.toNat vs5))))), (OrderT.metrics (ItemT.order (EventT.item (atI (t := .event) (f34v9 vr0 vs5 vs1) (Int.toNat vs5))))), (⟨(PaceT.up (OrderT.pace (ItemT.order (EventT.item (atI (t := .event) (f34v9 vr0 vs5 vs1) (Int.toNat vs5)))))), (PaceT.down (OrderT.pace (ItemT.order (EventT.item (atI (t := .event) (f34v9 vr0 vs5 vs1) (Int.toNat vs5)))))), (PaceT.upSpan (OrderT.pace (ItemT.order (EventT.item (atI (t := .event) (f34v9 vr0 vs5 vs1) (Int.toNat vs5)))))), (IntKind.wrap .i64 ((IntKind.wrap .i64 ((IntKind.wrap .i64 ((mkL mk_metric (IntKind.wrap .i64 ((IntKind.wrap .i64 ((IntKind.wrap .i64 ((IntKind.wrap .i64 ((IntKind.wrap .i64 ((IntKind.wrap .i64 (vs1 + (1 : Int))) + (1 : Int))) + (1 : Int))) + (1 : Int))) + (1 : Int))) + (1 : Int))) (OrderT.metrics (ItemT.order (EventT.item (atI (t := .event) (f34v5 vr0 vs5 vs1) (Int.toNat vs5)))))).2 + (1 : Int))) + (1 : Int))) + (1 : Int)))⟩ : PaceT), (OrderT.notes (ItemT.order (EventT.item (atI (t := .event) (f34v9 vr0 vs5 vs1) (Int.toNat vs5)))))⟩ : OrderT), (ItemT.ver (EventT.item (atI (t := .event) (f34v9 vr0 vs5 vs1) (Int.toNat vs5))))⟩ : ItemT)⟩ : EventT))
noncomputable def f34v11 (vr0 : List EventT) (vs5 : Int) (vs1 : Int) : List EventT :=
  ((f34v10 vr0 vs5 vs1).set (Int.toNat vs5) (⟨(EventT.seq (atI (t := .event) (f34v10 vr0 vs5 vs1) (Int.toNat vs5))), (EventT.kind (atI (t := .event) (f34v10 vr0 vs5 vs1) (Int.toNat vs5))), (⟨(⟨(OrderT.name (ItemT.order (EventT.item (atI (t := .event) (f34v10 vr0 vs5 vs1) (Int.toNat vs5))))), (OrderT.target (ItemT.order (EventT.item (atI (t := .event) (f34v10 vr0 vs5 vs1) (Int.toNat vs5))))), (OrderT.low (ItemT.order (EventT.item (atI (t := .event) (f34v10 vr0 vs5 vs1) (Int.toNat vs5))))), (OrderT.high (ItemT.order (EventT.item (atI (t := .event) (f34v10 vr0 vs5 vs1) (Int.toNat vs5))))), (OrderT.metrics (ItemT.order (EventT.item (atI (t := .event) (f34v10 vr0 vs5 vs1) (Int.toNat vs5))))), (OrderT.pace (ItemT.order (EventT.item (atI (t := .event) (f34v10 vr0 vs5 vs1) (Int.toNat vs5))))), (mkL mk_note (IntKind.wrap .i64 ((IntKind.wrap .i64 ((IntKind.wrap .i64 ((IntKind.wrap .i64 ((mkL mk_metric (IntKind.wrap .i64 ((IntKind.wrap .i64 ((IntKind.wrap .i64 ((IntKind.wrap .i64 ((IntKind.wrap .i64 ((IntKind.wrap .i64 (vs1 + (1 : Int))) + (1 : Int))) + (1 : Int))) + (1 : Int))) + (1 : Int))) + (1 : Int))) (OrderT.metrics (ItemT.order (EventT.item (atI (t := .event) (f34v5 vr0 vs5 vs1) (Int.toNat vs5)))))).2 + (1 : Int))) + (1 : Int))) + (1 : Int))) + (1 : Int))) (OrderT.notes (ItemT.order (EventT.item (atI (t := .event) (f34v10 vr0 vs5 vs1) (Int.toNat vs5)))))).1⟩ : OrderT), (ItemT.ver (EventT.item (atI (t := .event) (f34v10 vr0 vs5 vs1) (Int.toNat vs5))))⟩ : ItemT)⟩ : EventT))
noncomputable def f34v12 (vr0 : List EventT) (vs5 : Int) (vs1 : Int) : List EventT :=
  ((f34v11 vr0 vs5 vs1).set (Int.toNat vs5) (⟨(EventT.seq (atI (t := .event) (f34v11 vr0 vs5 vs1) (Int.toNat vs5))), (EventT.kind (atI (t := .event) (f34v11 vr0 vs5 vs1) (Int.toNat vs5))), (⟨(ItemT.order (EventT.item (atI (t := .event) (f34v11 vr0 vs5 vs1) (Int.toNat vs5)))), (mkL mk_note (IntKind.wrap .i64 ((IntKind.wrap .i64 ((IntKind.wrap .i64 ((IntKind.wrap .i64 ((mkL mk_metric (IntKind.wrap .i64 ((IntKind.wrap .i64 ((IntKind.wrap .i64 ((IntKind.wrap .i64 ((IntKind.wrap .i64 ((IntKind.wrap .i64 (vs1 + (1 : Int))) + (1 : Int))) + (1 : Int))) + (1 : Int))) + (1 : Int))) + (1 : Int))) (OrderT.metrics (ItemT.order (EventT.item (atI (t := .event) (f34v5 vr0 vs5 vs1) (Int.toNat vs5)))))).2 + (1 : Int))) + (1 : Int))) + (1 : Int))) + (1 : Int))) (OrderT.notes (ItemT.order (EventT.item (atI (t := .event) (f34v10 vr0 vs5 vs1) (Int.toNat vs5)))))).2⟩ : ItemT)⟩ : EventT))
noncomputable def f34L0 {R : Type} (n : Nat) (x0 : Int → Int → Bool → (List EventT) → Option R)  : Nat → Int → Int → (List EventT) → Option R
  | 0, _, _, _ => none
  | m + 1, vs1, vs5, vr0 =>
    (cond (decide (vs5 < (vr0.length : Int)))
      (cond ((decide ((0 : Int) ≤ vs5)) && (decide (vs5 < (vr0.length : Int))))
        (cond ((decide ((0 : Int) ≤ vs5)) && (decide (vs5 < ((f34v0 vr0 vs5 vs1).length : Int))))
          (cond (okI (IntKind.wrap .i64 ((IntKind.wrap .i64 (vs1 + (1 : Int))) + (1 : Int))))
            (cond ((decide ((0 : Int) ≤ vs5)) && (decide (vs5 < ((f34v1 vr0 vs5 vs1).length : Int))))
              (cond (okI (IntKind.wrap .i64 ((IntKind.wrap .i64 ((IntKind.wrap .i64 (vs1 + (1 : Int))) + (1 : Int))) + (1 : Int))))
                (cond ((decide ((0 : Int) ≤ vs5)) && (decide (vs5 < ((f34v2 vr0 vs5 vs1).length : Int))))
                  (cond ((decide ((0 : Int) ≤ vs5)) && (decide (vs5 < ((f34v3 vr0 vs5 vs1).length : Int))))
                    (cond ((decide ((0 : Int) ≤ vs5)) && (decide (vs5 < ((f34v4 vr0 vs5 vs1).length : Int))))
                      (cond ((decide ((0 : Int) ≤ vs5)) && (decide (vs5 < ((f34v5 vr0 vs5 vs1).length : Int))))
                        (cond ((fun (x : List MetricT) (k : Int) => gmk k (ctL ct_metric x)) (OrderT.metrics (ItemT.order (EventT.item (atI (t := .event) (f34v5 vr0 vs5 vs1) (Int.toNat vs5))))) (IntKind.wrap .i64 ((IntKind.wrap .i64 ((IntKind.wrap .i64 ((IntKind.wrap .i64 ((IntKind.wrap .i64 ((IntKind.wrap .i64 (vs1 + (1 : Int))) + (1 : Int))) + (1 : Int))) + (1 : Int))) + (1 : Int))) + (1 : Int))))
                          (cond ((decide ((0 : Int) ≤ vs5)) && (decide (vs5 < ((f34v6 vr0 vs5 vs1).length : Int))))
                            (cond ((decide ((0 : Int) ≤ vs5)) && (decide (vs5 < ((f34v7 vr0 vs5 vs1).length : Int))))
                              (cond ((decide ((0 : Int) ≤ vs5)) && (decide (vs5 < ((f34v8 vr0 vs5 vs1).length : Int))))
                                (cond ((decide ((0 : Int) ≤ vs5)) && (decide (vs5 < ((f34v9 vr0 vs5 vs1).length : Int))))
                                  (cond ((decide ((0 : Int) ≤ vs5)) && (decide (vs5 < ((f34v10 vr0 vs5 vs1).length : Int))))
                                    (cond ((fun (x : List NoteT) (k : Int) => gmk k (ctL ct_note x)) (OrderT.notes (ItemT.order (EventT.item (atI (t := .event) (f34v10 vr0 vs5 vs1) (Int.toNat vs5))))) (IntKind.wrap .i64 ((IntKind.wrap .i64 ((IntKind.wrap .i64 ((IntKind.wrap .i64 ((mkL mk_metric (IntKind.wrap .i64 ((IntKind.wrap .i64 ((IntKind.wrap .i64 ((IntKind.wrap .i64 ((IntKind.wrap .i64 ((IntKind.wrap .i64 (vs1 + (1 : Int))) + (1 : Int))) + (1 : Int))) + (1 : Int))) + (1 : Int))) + (1 : Int))) (OrderT.metrics (ItemT.order (EventT.item (atI (t := .event) (f34v5 vr0 vs5 vs1) (Int.toNat vs5)))))).2 + (1 : Int))) + (1 : Int))) + (1 : Int))) + (1 : Int))))
                                      (cond ((decide ((0 : Int) ≤ vs5)) && (decide (vs5 < ((f34v11 vr0 vs5 vs1).length : Int))))
                                        (f34L0 n x0 m (IntKind.wrap .i64 ((mkL mk_note (IntKind.wrap .i64 ((IntKind.wrap .i64 ((IntKind.wrap .i64 ((IntKind.wrap .i64 ((mkL mk_metric (IntKind.wrap .i64 ((IntKind.wrap .i64 ((IntKind.wrap .i64 ((IntKind.wrap .i64 ((IntKind.wrap .i64 ((IntKind.wrap .i64 (vs1 + (1 : Int))) + (1 : Int))) + (1 : Int))) + (1 : Int))) + (1 : Int))) + (1 : Int))) (OrderT.metrics (ItemT.order (EventT.item (atI (t := .event) (f34v5 vr0 vs5 vs1) (Int.toNat vs5)))))).2 + (1 : Int))) + (1 : Int))) + (1 : Int))) + (1 : Int))) (OrderT.notes (ItemT.order (EventT.item (atI (t := .event) (f34v10 vr0 vs5 vs1) (Int.toNat vs5)))))).2 + (1 : Int))) (IntKind.wrap .i64 (vs5 + (1 : Int))) (f34v12 vr0 vs5 vs1))
                                        none)
                                      none)
                                    none)
                                  none)
                                none)
                              none)
                            none)
                          none)
                        none)
                      none)
                    none)
                  none)
                none)
              none)
            none)
          none)
        none)
      (x0 vs1 vs5 (decide (vs5 < (vr0.length : Int))) vr0))
theorem f34L0_b {R : Type} (n : Nat) (k' : Ex → St → Option R) (vs1 : Int) (vs5 : Int) (vr0 : List EventT) : ev f34e f34k n (cAt [1,0,1,0,0] f34c) ⟨[(0, .c (.one (.h 0 0 0 []))), (1, .c (.one (.v (.int .i64 vs1)))), (5, .c (.one (.v (.int .i64 vs5))))], [], [(0, .live ⟨.event, .deep, 0, [], vr0⟩)]⟩ k' =
    (cond (decide (vs5 < (vr0.length : Int)))
    (cond ((decide ((0 : Int) ≤ vs5)) && (decide (vs5 < (vr0.length : Int))))
      (cond ((decide ((0 : Int) ≤ vs5)) && (decide (vs5 < ((f34v0 vr0 vs5 vs1).length : Int))))
        (cond (okI (IntKind.wrap .i64 ((IntKind.wrap .i64 (vs1 + (1 : Int))) + (1 : Int))))
          (cond ((decide ((0 : Int) ≤ vs5)) && (decide (vs5 < ((f34v1 vr0 vs5 vs1).length : Int))))
            (cond (okI (IntKind.wrap .i64 ((IntKind.wrap .i64 ((IntKind.wrap .i64 (vs1 + (1 : Int))) + (1 : Int))) + (1 : Int))))
              (cond ((decide ((0 : Int) ≤ vs5)) && (decide (vs5 < ((f34v2 vr0 vs5 vs1).length : Int))))
                (cond ((decide ((0 : Int) ≤ vs5)) && (decide (vs5 < ((f34v3 vr0 vs5 vs1).length : Int))))
                  (cond ((decide ((0 : Int) ≤ vs5)) && (decide (vs5 < ((f34v4 vr0 vs5 vs1).length : Int))))
                    (cond ((decide ((0 : Int) ≤ vs5)) && (decide (vs5 < ((f34v5 vr0 vs5 vs1).length : Int))))
                      (cond ((fun (x : List MetricT) (k : Int) => gmk k (ctL ct_metric x)) (OrderT.metrics (ItemT.order (EventT.item (atI (t := .event) (f34v5 vr0 vs5 vs1) (Int.toNat vs5))))) (IntKind.wrap .i64 ((IntKind.wrap .i64 ((IntKind.wrap .i64 ((IntKind.wrap .i64 ((IntKind.wrap .i64 ((IntKind.wrap .i64 (vs1 + (1 : Int))) + (1 : Int))) + (1 : Int))) + (1 : Int))) + (1 : Int))) + (1 : Int))))
                        (cond ((decide ((0 : Int) ≤ vs5)) && (decide (vs5 < ((f34v6 vr0 vs5 vs1).length : Int))))
                          (cond ((decide ((0 : Int) ≤ vs5)) && (decide (vs5 < ((f34v7 vr0 vs5 vs1).length : Int))))
                            (cond ((decide ((0 : Int) ≤ vs5)) && (decide (vs5 < ((f34v8 vr0 vs5 vs1).length : Int))))
                              (cond ((decide ((0 : Int) ≤ vs5)) && (decide (vs5 < ((f34v9 vr0 vs5 vs1).length : Int))))
                                (cond ((decide ((0 : Int) ≤ vs5)) && (decide (vs5 < ((f34v10 vr0 vs5 vs1).length : Int))))
                                  (cond ((fun (x : List NoteT) (k : Int) => gmk k (ctL ct_note x)) (OrderT.notes (ItemT.order (EventT.item (atI (t := .event) (f34v10 vr0 vs5 vs1) (Int.toNat vs5))))) (IntKind.wrap .i64 ((IntKind.wrap .i64 ((IntKind.wrap .i64 ((IntKind.wrap .i64 ((mkL mk_metric (IntKind.wrap .i64 ((IntKind.wrap .i64 ((IntKind.wrap .i64 ((IntKind.wrap .i64 ((IntKind.wrap .i64 ((IntKind.wrap .i64 (vs1 + (1 : Int))) + (1 : Int))) + (1 : Int))) + (1 : Int))) + (1 : Int))) + (1 : Int))) (OrderT.metrics (ItemT.order (EventT.item (atI (t := .event) (f34v5 vr0 vs5 vs1) (Int.toNat vs5)))))).2 + (1 : Int))) + (1 : Int))) + (1 : Int))) + (1 : Int))))
                                    (cond ((decide ((0 : Int) ≤ vs5)) && (decide (vs5 < ((f34v11 vr0 vs5 vs1).length : Int))))
                                      (k' .normal ⟨[(0, .c (.one (.h 0 0 0 []))), (1, .c (.one (.v (.int .i64 (IntKind.wrap .i64 ((mkL mk_note (IntKind.wrap .i64 ((IntKind.wrap .i64 ((IntKind.wrap .i64 ((IntKind.wrap .i64 ((mkL mk_metric (IntKind.wrap .i64 ((IntKind.wrap .i64 ((IntKind.wrap .i64 ((IntKind.wrap .i64 ((IntKind.wrap .i64 ((IntKind.wrap .i64 (vs1 + (1 : Int))) + (1 : Int))) + (1 : Int))) + (1 : Int))) + (1 : Int))) + (1 : Int))) (OrderT.metrics (ItemT.order (EventT.item (atI (t := .event) (f34v5 vr0 vs5 vs1) (Int.toNat vs5)))))).2 + (1 : Int))) + (1 : Int))) + (1 : Int))) + (1 : Int))) (OrderT.notes (ItemT.order (EventT.item (atI (t := .event) (f34v10 vr0 vs5 vs1) (Int.toNat vs5)))))).2 + (1 : Int))))))), (5, .c (.one (.v (.int .i64 (IntKind.wrap .i64 (vs5 + (1 : Int)))))))], [], [(0, .live ⟨.event, .deep, 0, [], (f34v12 vr0 vs5 vs1)⟩)]⟩)
                                      none)
                                    none)
                                  none)
                                none)
                              none)
                            none)
                          none)
                        none)
                      none)
                    none)
                  none)
                none)
              none)
            none)
          none)
        none)
      none)
    (k' (.exit 0) ⟨[(0, .c (.one (.h 0 0 0 []))), (1, .c (.one (.v (.int .i64 vs1)))), (5, .c (.one (.v (.int .i64 vs5)))), (9, .c (.one (.v (.bool (decide (vs5 < (vr0.length : Int)))))))], [], [(0, .live ⟨.event, .deep, 0, [], vr0⟩)]⟩)) := by kernel_rfl
theorem f34L0_eq {R : Type} (n : Nat) (k' : Ex → St → Option R)  : ∀ (m : Nat) (vs1 : Int) (vs5 : Int) (vr0 : List EventT), iter (fun st k => ev f34e f34k n (cAt [1,0,1,0,0] f34c) st k) m ⟨[(0, .c (.one (.h 0 0 0 []))), (1, .c (.one (.v (.int .i64 vs1)))), (5, .c (.one (.v (.int .i64 vs5))))], [], [(0, .live ⟨.event, .deep, 0, [], vr0⟩)]⟩ k' = f34L0 n (fun (xvs1 : Int) (xvs5 : Int) (xvs9 : Bool) (xvr0 : List EventT) => k' (.exit 0) ⟨[(0, .c (.one (.h 0 0 0 []))), (1, .c (.one (.v (.int .i64 xvs1)))), (5, .c (.one (.v (.int .i64 xvs5)))), (9, .c (.one (.v (.bool xvs9))))], [], [(0, .live ⟨.event, .deep, 0, [], xvr0⟩)]⟩) m vs1 vs5 vr0 := by
  intro m; induction m with
  | zero => intros; rfl
  | succ m ih =>
    intro vs1 vs5 vr0
    simp only [iter]
    rw [f34L0_b]
    simp only [ih, f34L0]

noncomputable def f34K0 {R : Type} (n : Nat) (k' : Ex → St → Option R) : Ex → St → Option R := (blockK 0 (seqK f34e f34k n (cAt [1,1] f34c) k'))
theorem f34K0_x0 {R : Type} (n : Nat) (k : List Dt → Option R) (a0 : List EventT) (a1 : Int) (xvs1 : Int) (xvs5 : Int) (xvs9 : Bool) (xvr0 : List EventT) : f34K0 n (exitK f34e [.«mut», .ro] [false] true [.tmp 4] [3] [.d (.sl .event) a0, .d (.i .i64) a1] k) (.exit 0) ⟨[(0, .c (.one (.h 0 0 0 []))), (1, .c (.one (.v (.int .i64 xvs1)))), (5, .c (.one (.v (.int .i64 xvs5)))), (9, .c (.one (.v (.bool xvs9))))], [], [(0, .live ⟨.event, .deep, 0, [], xvr0⟩)]⟩ =
    (k [.d (.i .i64) xvs1, .d (.sl .event) xvr0]) := by kernel_rfl

theorem f34_run {R : Type} (n : Nat) (k : List Dt → Option R) (a0 : List EventT) (a1 : Int) : evFn f34e f34k n f34c [.«mut», .ro] [false] true [.tmp 4] [3] [.d (.sl .event) a0, .d (.i .i64) a1] k =
    (f34L0 n (fun (xvs1 : Int) (xvs5 : Int) (xvs9 : Bool) (xvr0 : List EventT) =>
    (k [.d (.i .i64) xvs1, .d (.sl .event) xvr0])) n a1 (0 : Int) a0) := by
  refine Eq.trans (b := (iter (fun st k => ev f34e f34k n (cAt [1,0,1,0,0] f34c) st k) n ⟨[(0, .c (.one (.h 0 0 0 []))), (1, .c (.one (.v (.int .i64 a1)))), (5, .c (.one (.v (.int .i64 (0 : Int)))))], [], [(0, .live ⟨.event, .deep, 0, [], a0⟩)]⟩ (f34K0 n (exitK f34e [.«mut», .ro] [false] true [.tmp 4] [3] [.d (.sl .event) a0, .d (.i .i64) a1] k)))) (by kernel_rfl) ?_
  simp only [f34L0_eq, f34K0_x0]
theorem f34_spec (a0 : List EventT) (a1 : Int) (hg : gmk a1 (ctL ct_event a0) = true) : ∃ keep rounds, ∀ {R : Type} (k : List Dt → Option R), evFn f34e keep rounds f34c [.«mut», .ro] [false] true [.tmp 4] [3] [.d (.sl .event) a0, .d (.i .i64) a1] k = k [.d (.i .i64) (mkL mk_event a1 a0).2, .d (.sl .event) (mkL mk_event a1 a0).1] := by
  rw [gmk_iff] at hg
  have hl := ctL_len ct_event_pos a0
  refine ⟨f34k, a0.length + 1, fun {R} k => ?_⟩
  rw [f34_run]
  refine Eq.trans (loop_mark (F := fun m kk i l => f34L0 (a0.length + 1) _ m kk i l) (f := mk_event) (c := ct_event) (good := fun kk l => k [.d (.i .i64) kk, .d (.sl .event) l]) (n := a0.length) mk_event_ct
    (fun m kk j l x hx hln h0 hB => ?_) (fun m kk l hln => by simp only [f34L0, hln, idxE, cond_false]) a0 (a0.length + 1) a1 [] (by simp) (by omega) hg.1 hg.2) rfl
  obtain ⟨h1, h2, _, ht⟩ := idx (lt_of_get hx) (by omega)
  have hA : ∀ a, atI (t := .event) (l.set j a) j = a := fun a => atI_set (t := .event) (lt_of_get hx) a
  have hj := lt_of_get hx
  simp only [ct_event] at hB
  simp (disch := omega) only [f34L0, f34v0, f34v1, f34v2, f34v3, f34v4, f34v5, f34v6, f34v7, f34v8, f34v9, f34v10, f34v11, f34v12, h1, h2, ht, hA, atI_of (t := .event) hx, List.set_set, List.length_set, wrap_id, gmk_of, okI_of, mk_event, mkL_metric_ct, mkL_note_ct, Bool.and_self, cond_true]

noncomputable def q34 : List Dt → Option (Bool × List Dt)
  | [.d (.sl .event) a0, .d (.i .i64) a1] => some (((fun (x : List EventT) (k : Int) => gmk k (ctL ct_event x)) a0 a1), [.d (.i .i64) (mkL mk_event a1 a0).2, .d (.sl .event) (mkL mk_event a1 a0).1])
  | _ => none
noncomputable def s34 : Gm.Spec := Gm.Spec.of [.«mut», .ro] [false] true q34
theorem good34 : Gm.Good Try.prog (34, s34) := by
  have hl : ∀ x ∈ [(74, s74), (75, s75), (76, s76)], Gm.Good Try.prog x := List.forall_mem_cons.2 ⟨good74, List.forall_mem_cons.2 ⟨good75, List.forall_mem_cons.2 ⟨good76, List.forall_mem_nil _⟩⟩⟩
  refine ⟨⟨spec_ok (tab_ok.env hl) (tab.natl hl) Try.func34 (by kernel_rfl : Try.f34.body = some f34c) [3] (by kernel_rfl) ?_, _, Try.func34, by kernel_rfl, of_decide_eq_true (by kernel_rfl)⟩, Gm.Spec.of_natl _ _ _ _⟩
  intro ds outs h
  unfold q34 at h
  split at h
  · simp only [Option.some.injEq, Prod.mk.injEq] at h; obtain ⟨hg, h⟩ := h; cases h; exact f34_spec _ _ hg
  · cases h
/-! ### loop.example/g00465/laws.heldMetricS -/
noncomputable def f77c : Code := (Try.f77.body).getD .skip
def f77k : Nat → Kp := kat [⟨[0, 1], [], [], []⟩, ⟨[0, 1, 5], [], [], []⟩, ⟨[0, 1, 5, 9], [], [], []⟩, ⟨[0, 1, 5], [], [], []⟩, ⟨[0, 1, 5, 19], [], [], []⟩, ⟨[4], [], [], []⟩, ⟨[0, 1, 5], [], [], []⟩, ⟨[0, 1, 5, 28], [], [], []⟩, ⟨[4], [], [], []⟩, ⟨[0, 1, 5], [], [], []⟩, ⟨[0, 1, 5, 37], [], [], []⟩, ⟨[4], [], [], []⟩, ⟨[0, 1, 5], [], [], []⟩, ⟨[4], [], [], []⟩]
noncomputable def f77e : Env := tab.env [(74, s74)]
noncomputable def f77L0 {R : Type} (n : Nat) (x0 : Option R) (x1 : Int → Int → Bool → Option R) (vs0 : List MetricT) : Nat → Int → Int → Option R
  | 0, _, _ => none
  | m + 1, vs1, vs5 =>
    (cond (decide (vs5 < (vs0.length : Int)))
      (cond ((decide ((0 : Int) ≤ vs5)) && (decide (vs5 < (vs0.length : Int))))
        (cond (okI vs1)
          (cond (!(sEq (MetricT.name (atI (t := .metric) vs0 (Int.toNat vs5))) (mkT vs1)))
            (x0)
            (cond ((decide ((0 : Int) ≤ vs5)) && (decide (vs5 < (vs0.length : Int))))
              (cond ((MetricT.kind (atI (t := .metric) vs0 (Int.toNat vs5))) != (IntKind.wrap .i64 (vs1 + (1 : Int))))
                (x0)
                (cond ((decide ((0 : Int) ≤ vs5)) && (decide (vs5 < (vs0.length : Int))))
                  (cond ((MetricT.goal (atI (t := .metric) vs0 (Int.toNat vs5))) != (IntKind.wrap .i64 ((IntKind.wrap .i64 (vs1 + (1 : Int))) + (1 : Int))))
                    (x0)
                    (f77L0 n x0 x1 vs0 m (IntKind.wrap .i64 ((IntKind.wrap .i64 ((IntKind.wrap .i64 (vs1 + (1 : Int))) + (1 : Int))) + (1 : Int))) (IntKind.wrap .i64 (vs5 + (1 : Int)))))
                  none))
              none))
          none)
        none)
      (x1 vs1 vs5 (decide (vs5 < (vs0.length : Int)))))
theorem f77L0_b {R : Type} (n : Nat) (k' : Ex → St → Option R) (vs0 : List MetricT) (vs1 : Int) (vs5 : Int) : ev f77e f77k n (cAt [1,0,1,0,0] f77c) ⟨[(0, .c (.one (.ro .metric vs0))), (1, .c (.one (.v (.int .i64 vs1)))), (5, .c (.one (.v (.int .i64 vs5))))], [], []⟩ k' =
    (cond (decide (vs5 < (vs0.length : Int)))
    (cond ((decide ((0 : Int) ≤ vs5)) && (decide (vs5 < (vs0.length : Int))))
      (cond (okI vs1)
        (cond (!(sEq (MetricT.name (atI (t := .metric) vs0 (Int.toNat vs5))) (mkT vs1)))
          (k' .ret ⟨[(4, .c (.one (.v (.int .i64 (-1 : Int)))))], [], []⟩)
          (cond ((decide ((0 : Int) ≤ vs5)) && (decide (vs5 < (vs0.length : Int))))
            (cond ((MetricT.kind (atI (t := .metric) vs0 (Int.toNat vs5))) != (IntKind.wrap .i64 (vs1 + (1 : Int))))
              (k' .ret ⟨[(4, .c (.one (.v (.int .i64 (-1 : Int)))))], [], []⟩)
              (cond ((decide ((0 : Int) ≤ vs5)) && (decide (vs5 < (vs0.length : Int))))
                (cond ((MetricT.goal (atI (t := .metric) vs0 (Int.toNat vs5))) != (IntKind.wrap .i64 ((IntKind.wrap .i64 (vs1 + (1 : Int))) + (1 : Int))))
                  (k' .ret ⟨[(4, .c (.one (.v (.int .i64 (-1 : Int)))))], [], []⟩)
                  (k' .normal ⟨[(0, .c (.one (.ro .metric vs0))), (1, .c (.one (.v (.int .i64 (IntKind.wrap .i64 ((IntKind.wrap .i64 ((IntKind.wrap .i64 (vs1 + (1 : Int))) + (1 : Int))) + (1 : Int))))))), (5, .c (.one (.v (.int .i64 (IntKind.wrap .i64 (vs5 + (1 : Int)))))))], [], []⟩))
                none))
            none))
        none)
      none)
    (k' (.exit 0) ⟨[(0, .c (.one (.ro .metric vs0))), (1, .c (.one (.v (.int .i64 vs1)))), (5, .c (.one (.v (.int .i64 vs5)))), (9, .c (.one (.v (.bool (decide (vs5 < (vs0.length : Int)))))))], [], []⟩)) := by kernel_rfl
theorem f77L0_eq {R : Type} (n : Nat) (k' : Ex → St → Option R) (vs0 : List MetricT) : ∀ (m : Nat) (vs1 : Int) (vs5 : Int), iter (fun st k => ev f77e f77k n (cAt [1,0,1,0,0] f77c) st k) m ⟨[(0, .c (.one (.ro .metric vs0))), (1, .c (.one (.v (.int .i64 vs1)))), (5, .c (.one (.v (.int .i64 vs5))))], [], []⟩ k' = f77L0 n (k' .ret ⟨[(4, .c (.one (.v (.int .i64 (-1 : Int)))))], [], []⟩) (fun (xvs1 : Int) (xvs5 : Int) (xvs9 : Bool) => k' (.exit 0) ⟨[(0, .c (.one (.ro .metric vs0))), (1, .c (.one (.v (.int .i64 xvs1)))), (5, .c (.one (.v (.int .i64 xvs5)))), (9, .c (.one (.v (.bool xvs9))))], [], []⟩) vs0 m vs1 vs5 := by
  intro m; induction m with
  | zero => intros; rfl
  | succ m ih =>
    intro vs1 vs5
    simp only [iter]
    rw [f77L0_b]
    simp only [ih, f77L0]

noncomputable def f77K0 {R : Type} (n : Nat) (k' : Ex → St → Option R) : Ex → St → Option R := (blockK 0 (seqK f77e f77k n (cAt [1,1] f77c) k'))
theorem f77K0_x0 {R : Type} (n : Nat) (k : List Dt → Option R) (a0 : List MetricT) (a1 : Int)  : f77K0 n (exitK f77e [.ro, .ro] [false] true [.tmp 4] [3] [.d (.sl .metric) a0, .d (.i .i64) a1] k) .ret ⟨[(4, .c (.one (.v (.int .i64 (-1 : Int)))))], [], []⟩ =
    (k [.d (.i .i64) (-1 : Int)]) := by kernel_rfl
theorem f77K0_x1 {R : Type} (n : Nat) (k : List Dt → Option R) (a0 : List MetricT) (a1 : Int) (vs0 : List MetricT) (xvs1 : Int) (xvs5 : Int) (xvs9 : Bool) : f77K0 n (exitK f77e [.ro, .ro] [false] true [.tmp 4] [3] [.d (.sl .metric) a0, .d (.i .i64) a1] k) (.exit 0) ⟨[(0, .c (.one (.ro .metric vs0))), (1, .c (.one (.v (.int .i64 xvs1)))), (5, .c (.one (.v (.int .i64 xvs5)))), (9, .c (.one (.v (.bool xvs9))))], [], []⟩ =
    (k [.d (.i .i64) xvs1]) := by kernel_rfl

theorem f77_run {R : Type} (n : Nat) (k : List Dt → Option R) (a0 : List MetricT) (a1 : Int) : evFn f77e f77k n f77c [.ro, .ro] [false] true [.tmp 4] [3] [.d (.sl .metric) a0, .d (.i .i64) a1] k =
    (f77L0 n (k [.d (.i .i64) (-1 : Int)]) (fun (xvs1 : Int) (xvs5 : Int) (xvs9 : Bool) =>
    (k [.d (.i .i64) xvs1])) a0 n a1 (0 : Int)) := by
  refine Eq.trans (b := (iter (fun st k => ev f77e f77k n (cAt [1,0,1,0,0] f77c) st k) n ⟨[(0, .c (.one (.ro .metric a0))), (1, .c (.one (.v (.int .i64 a1)))), (5, .c (.one (.v (.int .i64 (0 : Int)))))], [], []⟩ (f77K0 n (exitK f77e [.ro, .ro] [false] true [.tmp 4] [3] [.d (.sl .metric) a0, .d (.i .i64) a1] k)))) (by kernel_rfl) ?_
  simp only [f77L0_eq, f77K0_x0, f77K0_x1]
theorem f77_spec (a0 : List MetricT) (a1 : Int) (hg : gmk a1 (ctL ct_metric a0) = true) : ∃ keep rounds, ∀ {R : Type} (k : List Dt → Option R), evFn f77e keep rounds f77c [.ro, .ro] [false] true [.tmp 4] [3] [.d (.sl .metric) a0, .d (.i .i64) a1] k = k [.d (.i .i64) (hdL mk_metric a1 a0)] := by
  rw [gmk_iff] at hg
  have hl := ctL_len ct_metric_pos a0
  refine ⟨f77k, a0.length + 1, fun {R} k => ?_⟩
  rw [f77_run]
  refine Eq.trans (loop_held (xs := a0) (F := fun m kk i => f77L0 (a0.length + 1) _ _ a0 m kk i) (f := mk_metric) (c := ct_metric) (good := fun kk => k [.d (.i .i64) kk]) (bad := k [.d (.i .i64) (-1 : Int)]) mk_metric_ct
    (fun m kk j x hx h0 hB => ?_) (fun m kk => by simp only [f77L0, idxE, cond_false]) a0.length 0 (a0.length + 1) a1 (by omega) (by omega) hg.1 (by rw [List.drop_zero]; exact hg.2)) ?_
  · obtain ⟨h1, h2, _, ht⟩ := idx (lt_of_get hx) (by omega)
    have hj := lt_of_get hx
    simp only [ct_metric] at hB
    simp (disch := omega) only [f77L0, h1, h2, ht, atI_of (t := .metric) hx, wrap_id, gmk_of, okI_of, mk_metric, eqD_metric, Bool.cond_not, cond_and, bne, decide_ge0, decide_m1, cond_true, cond_false, Bool.cond_self, Bool.and_self]
  · rw [List.drop_zero]
    show _ = k [.d (.i .i64) (hdL mk_metric a1 a0)]
    unfold hdL
    cases eqD a0 (mkL mk_metric a1 a0).1 <;> rfl

noncomputable def q77 : List Dt → Option (Bool × List Dt)
  | [.d (.sl .metric) a0, .d (.i .i64) a1] => some (((fun (x : List MetricT) (k : Int) => gmk k (ctL ct_metric x)) a0 a1), [.d (.i .i64) (hdL mk_metric a1 a0)])
  | _ => none
noncomputable def s77 : Gm.Spec := Gm.Spec.of [.ro, .ro] [false] true q77
theorem good77 : Gm.Good Try.prog (77, s77) := by
  have hl : ∀ x ∈ [(74, s74)], Gm.Good Try.prog x := List.forall_mem_cons.2 ⟨good74, List.forall_mem_nil _⟩
  refine ⟨⟨spec_ok (tab_ok.env hl) (tab.natl hl) Try.func77 (by kernel_rfl : Try.f77.body = some f77c) [3] (by kernel_rfl) ?_, _, Try.func77, by kernel_rfl, of_decide_eq_true (by kernel_rfl)⟩, Gm.Spec.of_natl _ _ _ _⟩
  intro ds outs h
  unfold q77 at h
  split at h
  · simp only [Option.some.injEq, Prod.mk.injEq] at h; obtain ⟨hg, h⟩ := h; cases h; exact f77_spec _ _ hg
  · cases h
/-! ### loop.example/g00465/laws.heldNoteS -/
noncomputable def f78c : Code := (Try.f78.body).getD .skip
def f78k : Nat → Kp := kat [⟨[0, 1], [], [], []⟩, ⟨[0, 1, 5], [], [], []⟩, ⟨[0, 1, 5, 9], [], [], []⟩, ⟨[0, 1, 5], [], [], []⟩, ⟨[0, 1, 5, 19], [], [], []⟩, ⟨[4], [], [], []⟩, ⟨[0, 1, 5], [], [], []⟩, ⟨[0, 1, 5, 29], [], [], []⟩, ⟨[4], [], [], []⟩, ⟨[0, 1, 5], [], [], []⟩, ⟨[4], [], [], []⟩]
noncomputable def f78e : Env := tab.env [(74, s74)]
noncomputable def f78L0 {R : Type} (n : Nat) (x0 : Option R) (x1 : Int → Int → Bool → Option R) (vs0 : List NoteT) : Nat → Int → Int → Option R
  | 0, _, _ => none
  | m + 1, vs1, vs5 =>
    (cond (decide (vs5 < (vs0.length : Int)))
      (cond ((decide ((0 : Int) ≤ vs5)) && (decide (vs5 < (vs0.length : Int))))
        (cond (okI vs1)
          (cond (!(sEq (NoteT.key (atI (t := .note) vs0 (Int.toNat vs5))) (mkT vs1)))
            (x0)
            (cond ((decide ((0 : Int) ≤ vs5)) && (decide (vs5 < (vs0.length : Int))))
              (cond (okI (IntKind.wrap .i64 (vs1 + (1 : Int))))
                (cond (!(sEq (NoteT.text (atI (t := .note) vs0 (Int.toNat vs5))) (mkT (IntKind.wrap .i64 (vs1 + (1 : Int))))))
                  (x0)
                  (f78L0 n x0 x1 vs0 m (IntKind.wrap .i64 ((IntKind.wrap .i64 (vs1 + (1 : Int))) + (1 : Int))) (IntKind.wrap .i64 (vs5 + (1 : Int)))))
                none)
              none))
          none)
        none)
      (x1 vs1 vs5 (decide (vs5 < (vs0.length : Int)))))
theorem f78L0_b {R : Type} (n : Nat) (k' : Ex → St → Option R) (vs0 : List NoteT) (vs1 : Int) (vs5 : Int) : ev f78e f78k n (cAt [1,0,1,0,0] f78c) ⟨[(0, .c (.one (.ro .note vs0))), (1, .c (.one (.v (.int .i64 vs1)))), (5, .c (.one (.v (.int .i64 vs5))))], [], []⟩ k' =
    (cond (decide (vs5 < (vs0.length : Int)))
    (cond ((decide ((0 : Int) ≤ vs5)) && (decide (vs5 < (vs0.length : Int))))
      (cond (okI vs1)
        (cond (!(sEq (NoteT.key (atI (t := .note) vs0 (Int.toNat vs5))) (mkT vs1)))
          (k' .ret ⟨[(4, .c (.one (.v (.int .i64 (-1 : Int)))))], [], []⟩)
          (cond ((decide ((0 : Int) ≤ vs5)) && (decide (vs5 < (vs0.length : Int))))
            (cond (okI (IntKind.wrap .i64 (vs1 + (1 : Int))))
              (cond (!(sEq (NoteT.text (atI (t := .note) vs0 (Int.toNat vs5))) (mkT (IntKind.wrap .i64 (vs1 + (1 : Int))))))
                (k' .ret ⟨[(4, .c (.one (.v (.int .i64 (-1 : Int)))))], [], []⟩)
                (k' .normal ⟨[(0, .c (.one (.ro .note vs0))), (1, .c (.one (.v (.int .i64 (IntKind.wrap .i64 ((IntKind.wrap .i64 (vs1 + (1 : Int))) + (1 : Int))))))), (5, .c (.one (.v (.int .i64 (IntKind.wrap .i64 (vs5 + (1 : Int)))))))], [], []⟩))
              none)
            none))
        none)
      none)
    (k' (.exit 0) ⟨[(0, .c (.one (.ro .note vs0))), (1, .c (.one (.v (.int .i64 vs1)))), (5, .c (.one (.v (.int .i64 vs5)))), (9, .c (.one (.v (.bool (decide (vs5 < (vs0.length : Int)))))))], [], []⟩)) := by kernel_rfl
theorem f78L0_eq {R : Type} (n : Nat) (k' : Ex → St → Option R) (vs0 : List NoteT) : ∀ (m : Nat) (vs1 : Int) (vs5 : Int), iter (fun st k => ev f78e f78k n (cAt [1,0,1,0,0] f78c) st k) m ⟨[(0, .c (.one (.ro .note vs0))), (1, .c (.one (.v (.int .i64 vs1)))), (5, .c (.one (.v (.int .i64 vs5))))], [], []⟩ k' = f78L0 n (k' .ret ⟨[(4, .c (.one (.v (.int .i64 (-1 : Int)))))], [], []⟩) (fun (xvs1 : Int) (xvs5 : Int) (xvs9 : Bool) => k' (.exit 0) ⟨[(0, .c (.one (.ro .note vs0))), (1, .c (.one (.v (.int .i64 xvs1)))), (5, .c (.one (.v (.int .i64 xvs5)))), (9, .c (.one (.v (.bool xvs9))))], [], []⟩) vs0 m vs1 vs5 := by
  intro m; induction m with
  | zero => intros; rfl
  | succ m ih =>
    intro vs1 vs5
    simp only [iter]
    rw [f78L0_b]
    simp only [ih, f78L0]

noncomputable def f78K0 {R : Type} (n : Nat) (k' : Ex → St → Option R) : Ex → St → Option R := (blockK 0 (seqK f78e f78k n (cAt [1,1] f78c) k'))
theorem f78K0_x0 {R : Type} (n : Nat) (k : List Dt → Option R) (a0 : List NoteT) (a1 : Int)  : f78K0 n (exitK f78e [.ro, .ro] [false] true [.tmp 4] [3] [.d (.sl .note) a0, .d (.i .i64) a1] k) .ret ⟨[(4, .c (.one (.v (.int .i64 (-1 : Int)))))], [], []⟩ =
    (k [.d (.i .i64) (-1 : Int)]) := by kernel_rfl
theorem f78K0_x1 {R : Type} (n : Nat) (k : List Dt → Option R) (a0 : List NoteT) (a1 : Int) (vs0 : List NoteT) (xvs1 : Int) (xvs5 : Int) (xvs9 : Bool) : f78K0 n (exitK f78e [.ro, .ro] [false] true [.tmp 4] [3] [.d (.sl .note) a0, .d (.i .i64) a1] k) (.exit 0) ⟨[(0, .c (.one (.ro .note vs0))), (1, .c (.one (.v (.int .i64 xvs1)))), (5, .c (.one (.v (.int .i64 xvs5)))), (9, .c (.one (.v (.bool xvs9))))], [], []⟩ =
    (k [.d (.i .i64) xvs1]) := by kernel_rfl

theorem f78_run {R : Type} (n : Nat) (k : List Dt → Option R) (a0 : List NoteT) (a1 : Int) : evFn f78e f78k n f78c [.ro, .ro] [false] true [.tmp 4] [3] [.d (.sl .note) a0, .d (.i .i64) a1] k =
    (f78L0 n (k [.d (.i .i64) (-1 : Int)]) (fun (xvs1 : Int) (xvs5 : Int) (xvs9 : Bool) =>
    (k [.d (.i .i64) xvs1])) a0 n a1 (0 : Int)) := by
  refine Eq.trans (b := (iter (fun st k => ev f78e f78k n (cAt [1,0,1,0,0] f78c) st k) n ⟨[(0, .c (.one (.ro .note a0))), (1, .c (.one (.v (.int .i64 a1)))), (5, .c (.one (.v (.int .i64 (0 : Int)))))], [], []⟩ (f78K0 n (exitK f78e [.ro, .ro] [false] true [.tmp 4] [3] [.d (.sl .note) a0, .d (.i .i64) a1] k)))) (by kernel_rfl) ?_
  simp only [f78L0_eq, f78K0_x0, f78K0_x1]
theorem f78_spec (a0 : List NoteT) (a1 : Int) (hg : gmk a1 (ctL ct_note a0) = true) : ∃ keep rounds, ∀ {R : Type} (k : List Dt → Option R), evFn f78e keep rounds f78c [.ro, .ro] [false] true [.tmp 4] [3] [.d (.sl .note) a0, .d (.i .i64) a1] k = k [.d (.i .i64) (hdL mk_note a1 a0)] := by
  rw [gmk_iff] at hg
  have hl := ctL_len ct_note_pos a0
  refine ⟨f78k, a0.length + 1, fun {R} k => ?_⟩
  rw [f78_run]
  refine Eq.trans (loop_held (xs := a0) (F := fun m kk i => f78L0 (a0.length + 1) _ _ a0 m kk i) (f := mk_note) (c := ct_note) (good := fun kk => k [.d (.i .i64) kk]) (bad := k [.d (.i .i64) (-1 : Int)]) mk_note_ct
    (fun m kk j x hx h0 hB => ?_) (fun m kk => by simp only [f78L0, idxE, cond_false]) a0.length 0 (a0.length + 1) a1 (by omega) (by omega) hg.1 (by rw [List.drop_zero]; exact hg.2)) ?_
  · obtain ⟨h1, h2, _, ht⟩ := idx (lt_of_get hx) (by omega)
    have hj := lt_of_get hx
    simp only [ct_note] at hB
    simp (disch := omega) only [f78L0, h1, h2, ht, atI_of (t := .note) hx, wrap_id, gmk_of, okI_of, mk_note, eqD_note, Bool.cond_not, cond_and, bne, decide_ge0, decide_m1, cond_true, cond_false, Bool.cond_self, Bool.and_self]
  · rw [List.drop_zero]
    show _ = k [.d (.i .i64) (hdL mk_note a1 a0)]
    unfold hdL
    cases eqD a0 (mkL mk_note a1 a0).1 <;> rfl

noncomputable def q78 : List Dt → Option (Bool × List Dt)
  | [.d (.sl .note) a0, .d (.i .i64) a1] => some (((fun (x : List NoteT) (k : Int) => gmk k (ctL ct_note x)) a0 a1), [.d (.i .i64) (hdL mk_note a1 a0)])
  | _ => none
noncomputable def s78 : Gm.Spec := Gm.Spec.of [.ro, .ro] [false] true q78
theorem good78 : Gm.Good Try.prog (78, s78) := by
  have hl : ∀ x ∈ [(74, s74)], Gm.Good Try.prog x := List.forall_mem_cons.2 ⟨good74, List.forall_mem_nil _⟩
  refine ⟨⟨spec_ok (tab_ok.env hl) (tab.natl hl) Try.func78 (by kernel_rfl : Try.f78.body = some f78c) [3] (by kernel_rfl) ?_, _, Try.func78, by kernel_rfl, of_decide_eq_true (by kernel_rfl)⟩, Gm.Spec.of_natl _ _ _ _⟩
  intro ds outs h
  unfold q78 at h
  split at h
  · simp only [Option.some.injEq, Prod.mk.injEq] at h; obtain ⟨hg, h⟩ := h; cases h; exact f78_spec _ _ hg
  · cases h
/-! ### loop.example/g00465/laws.heldItemS -/
noncomputable def f35c : Code := (Try.f35.body).getD .skip
def f35k : Nat → Kp := kat [⟨[0, 1], [], [], []⟩, ⟨[0, 1, 5], [], [], []⟩, ⟨[0, 1, 5, 9], [], [], []⟩, ⟨[0, 1, 5], [], [], []⟩, ⟨[0, 1, 5, 20], [], [], []⟩, ⟨[4], [], [], []⟩, ⟨[0, 1, 5], [], [], []⟩, ⟨[0, 1, 5, 31], [], [], []⟩, ⟨[4], [], [], []⟩, ⟨[0, 1, 5], [], [], []⟩, ⟨[0, 1, 5, 41], [], [], []⟩, ⟨[4], [], [], []⟩, ⟨[0, 1, 5], [], [], []⟩, ⟨[0, 1, 5, 51], [], [], []⟩, ⟨[4], [], [], []⟩, ⟨[0, 1, 5], [], [], []⟩, ⟨[0, 1, 5], [], [], []⟩, ⟨[0, 1, 5, 63], [], [], []⟩, ⟨[4], [], [], []⟩, ⟨[0, 1, 5, 72], [], [], []⟩, ⟨[4], [], [], []⟩, ⟨[0, 1, 5], [], [], []⟩, ⟨[0, 1, 5, 83], [], [], []⟩, ⟨[4], [], [], []⟩, ⟨[0, 1, 5], [], [], []⟩, ⟨[0, 1, 5, 94], [], [], []⟩, ⟨[4], [], [], []⟩, ⟨[0, 1, 5], [], [], []⟩, ⟨[0, 1, 5, 105], [], [], []⟩, ⟨[4], [], [], []⟩, ⟨[0, 1, 5], [], [], []⟩, ⟨[0, 1, 5], [], [], []⟩, ⟨[0, 1, 5, 117], [], [], []⟩, ⟨[4], [], [], []⟩, ⟨[0, 1, 5, 124], [], [], []⟩, ⟨[4], [], [], []⟩, ⟨[0, 1, 5], [], [], []⟩, ⟨[4], [], [], []⟩]
noncomputable def f35e : Env := tab.env [(74, s74), (77, s77), (78, s78)]
noncomputable def f35L0 {R : Type} (n : Nat) (x0 : Option R) (x1 : Int → Int → Bool → Option R) (vs0 : List ItemT) : Nat → Int → Int → Option R
  | 0, _, _ => none
  | m + 1, vs1, vs5 =>
    (cond (decide (vs5 < (vs0.length : Int)))
      (cond ((decide ((0 : Int) ≤ vs5)) && (decide (vs5 < (vs0.length : Int))))
        (cond (okI vs1)
          (cond (!(sEq (OrderT.name (ItemT.order (atI (t := .item) vs0 (Int.toNat vs5)))) (mkT vs1)))
            (x0)
            (cond ((decide ((0 : Int) ≤ vs5)) && (decide (vs5 < (vs0.length : Int))))
              (cond (okI (IntKind.wrap .i64 (vs1 + (1 : Int))))
                (cond (!(sEq (OrderT.target (ItemT.order (atI (t := .item) vs0 (Int.toNat vs5)))) (mkT (IntKind.wrap .i64 (vs1 + (1 : Int))))))
                  (x0)
                  (cond ((decide ((0 : Int) ≤ vs5)) && (decide (vs5 < (vs0.length : Int))))
                    (cond ((OrderT.low (ItemT.order (atI (t := .item) vs0 (Int.toNat vs5)))) != (IntKind.wrap .i64 ((IntKind.wrap .i64 (vs1 + (1 : Int))) + (1 : Int))))
                      (x0)
                      (cond ((decide ((0 : Int) ≤ vs5)) && (decide (vs5 < (vs0.length : Int))))
                        (cond ((OrderT.high (ItemT.order (atI (t := .item) vs0 (Int.toNat vs5)))) != (IntKind.wrap .i64 ((IntKind.wrap .i64 ((IntKind.wrap .i64 (vs1 + (1 : Int))) + (1 : Int))) + (1 : Int))))
                          (x0)
                          (cond ((decide ((0 : Int) ≤ vs5)) && (decide (vs5 < (vs0.length : Int))))
                            (cond ((fun (x : List MetricT) (k : Int) => gmk k (ctL ct_metric x)) (OrderT.metrics (ItemT.order (atI (t := .item) vs0 (Int.toNat vs5)))) (IntKind.wrap .i64 ((IntKind.wrap .i64 ((IntKind.wrap .i64 ((IntKind.wrap .i64 (vs1 + (1 : Int))) + (1 : Int))) + (1 : Int))) + (1 : Int))))
                              (cond (decide ((hdL mk_metric (IntKind.wrap .i64 ((IntKind.wrap .i64 ((IntKind.wrap .i64 ((IntKind.wrap .i64 (vs1 + (1 : Int))) + (1 : Int))) + (1 : Int))) + (1 : Int))) (OrderT.metrics (ItemT.order (atI (t := .item) vs0 (Int.toNat vs5))))) < (0 : Int)))
                                (x0)
                                (cond ((decide ((0 : Int) ≤ vs5)) && (decide (vs5 < (vs0.length : Int))))
                                  (cond ((PaceT.up (OrderT.pace (ItemT.order (atI (t := .item) vs0 (Int.toNat vs5))))) != (hdL mk_metric (IntKind.wrap .i64 ((IntKind.wrap .i64 ((IntKind.wrap .i64 ((IntKind.wrap .i64 (vs1 + (1 : Int))) + (1 : Int))) + (1 : Int))) + (1 : Int))) (OrderT.metrics (ItemT.order (atI (t := .item) vs0 (Int.toNat vs5))))))
                                    (x0)
                                    (cond ((decide ((0 : Int) ≤ vs5)) && (decide (vs5 < (vs0.length : Int))))
                                      (cond ((PaceT.down (OrderT.pace (ItemT.order (atI (t := .item) vs0 (Int.toNat vs5))))) != (IntKind.wrap .i64 ((hdL mk_metric (IntKind.wrap .i64 ((IntKind.wrap .i64 ((IntKind.wrap .i64 ((IntKind.wrap .i64 (vs1 + (1 : Int))) + (1 : Int))) + (1 : Int))) + (1 : Int))) (OrderT.metrics (ItemT.order (atI (t := .item) vs0 (Int.toNat vs5))))) + (1 : Int))))
                                        (x0)
                                        (cond ((decide ((0 : Int) ≤ vs5)) && (decide (vs5 < (vs0.length : Int))))
                                          (cond ((PaceT.upSpan (OrderT.pace (ItemT.order (atI (t := .item) vs0 (Int.toNat vs5))))) != (IntKind.wrap .i64 ((IntKind.wrap .i64 ((hdL mk_metric (IntKind.wrap .i64 ((IntKind.wrap .i64 ((IntKind.wrap .i64 ((IntKind.wrap .i64 (vs1 + (1 : Int))) + (1 : Int))) + (1 : Int))) + (1 : Int))) (OrderT.metrics (ItemT.order (atI (t := .item) vs0 (Int.toNat vs5))))) + (1 : Int))) + (1 : Int))))
                                            (x0)
                                            (cond ((decide ((0 : Int) ≤ vs5)) && (decide (vs5 < (vs0.length : Int))))
                                              (cond ((PaceT.downSpan (OrderT.pace (ItemT.order (atI (t := .item) vs0 (Int.toNat vs5))))) != (IntKind.wrap .i64 ((IntKind.wrap .i64 ((IntKind.wrap .i64 ((hdL mk_metric (IntKind.wrap .i64 ((IntKind.wrap .i64 ((IntKind.wrap .i64 ((IntKind.wrap .i64 (vs1 + (1 : Int))) + (1 : Int))) + (1 : Int))) + (1 : Int))) (OrderT.metrics (ItemT.order (atI (t := .item) vs0 (Int.toNat vs5))))) + (1 : Int))) + (1 : Int))) + (1 : Int))))
                                                (x0)
                                                (cond ((decide ((0 : Int) ≤ vs5)) && (decide (vs5 < (vs0.length : Int))))
                                                  (cond ((fun (x : List NoteT) (k : Int) => gmk k (ctL ct_note x)) (OrderT.notes (ItemT.order (atI (t := .item) vs0 (Int.toNat vs5)))) (IntKind.wrap .i64 ((IntKind.wrap .i64 ((IntKind.wrap .i64 ((IntKind.wrap .i64 ((hdL mk_metric (IntKind.wrap .i64 ((IntKind.wrap .i64 ((IntKind.wrap .i64 ((IntKind.wrap .i64 (vs1 + (1 : Int))) + (1 : Int))) + (1 : Int))) + (1 : Int))) (OrderT.metrics (ItemT.order (atI (t := .item) vs0 (Int.toNat vs5))))) + (1 : Int))) + (1 : Int))) + (1 : Int))) + (1 : Int))))
                                                    (cond (decide ((hdL mk_note (IntKind.wrap .i64 ((IntKind.wrap .i64 ((IntKind.wrap .i64 ((IntKind.wrap .i64 ((hdL mk_metric (IntKind.wrap .i64 ((IntKind.wrap .i64 ((IntKind.wrap .i64 ((IntKind.wrap .i64 (vs1 + (1 : Int))) + (1 : Int))) + (1 : Int))) + (1 : Int))) (OrderT.metrics (ItemT.order (atI (t := .item) vs0 (Int.toNat vs5))))) + (1 : Int))) + (1 : Int))) + (1 : Int))) + (1 : Int))) (OrderT.notes (ItemT.order (atI (t := .item) vs0 (Int.toNat vs5))))) < (0 : Int)))
                                                      (x0)
                                                      (cond ((decide ((0 : Int) ≤ vs5)) && (decide (vs5 < (vs0.length : Int))))
                                                        (cond ((ItemT.ver (atI (t := .item) vs0 (Int.toNat vs5))) != (hdL mk_note (IntKind.wrap .i64 ((IntKind.wrap .i64 ((IntKind.wrap .i64 ((IntKind.wrap .i64 ((hdL mk_metric (IntKind.wrap .i64 ((IntKind.wrap .i64 ((IntKind.wrap .i64 ((IntKind.wrap .i64 (vs1 + (1 : Int))) + (1 : Int))) + (1 : Int))) + (1 : Int))) (OrderT.metrics (ItemT.order (atI (t := .item) vs0 (Int.toNat vs5))))) + (1 : Int))) + (1 : Int))) + (1 : Int))) + (1 : Int))) (OrderT.notes (ItemT.order (atI (t := .item) vs0 (Int.toNat vs5))))))
                                                          (x0)
                                                          (f35L0 n x0 x1 vs0 m (IntKind.wrap .i64 ((hdL mk_note (IntKind.wrap .i64 ((IntKind.wrap .i64 ((IntKind.wrap .i64 ((IntKind.wrap .i64 ((hdL mk_metric (IntKind.wrap .i64 ((IntKind.wrap .i64 ((IntKind.wrap .i64 ((IntKind.wrap .i64 (vs1 + (1 : Int))) + (1 : Int))) + (1 : Int))) + (1 : Int))) (OrderT.metrics (ItemT.order (atI (t := .item) vs0 (Int.toNat vs5))))) + (1 : Int))) + (1 : Int))) + (1 : Int))) + (1 : Int))) (OrderT.notes (ItemT.order (atI (t := .item) vs0 (Int.toNat vs5))))) + (1 : Int))) (IntKind.wrap .i64 (vs5 + (1 : Int)))))
                                                        none))
                                                    none)
                                                  none))
                                              none))
                                          none))
                                      none))
                                  none))
                              none)
                            none))
                        none))
                    none))
                none)
              none))
          none)
        none)
      (x1 vs1 vs5 (decide (vs5 < (vs0.length : Int)))))
theorem f35L0_b {R : Type} (n : Nat) (k' : Ex → St → Option R) (vs0 : List ItemT) (vs1 : Int) (vs5 : Int) : ev f35e f35k n (cAt [1,0,1,0,0] f35c) ⟨[(0, .c (.one (.ro .item vs0))), (1, .c (.one (.v (.int .i64 vs1)))), (5, .c (.one (.v (.int .i64 vs5))))], [], []⟩ k' =
    (cond (decide (vs5 < (vs0.length : Int)))
    (cond ((decide ((0 : Int) ≤ vs5)) && (decide (vs5 < (vs0.length : Int))))
      (cond (okI vs1)
        (cond (!(sEq (OrderT.name (ItemT.order (atI (t := .item) vs0 (Int.toNat vs5)))) (mkT vs1)))
          (k' .ret ⟨[(4, .c (.one (.v (.int .i64 (-1 : Int)))))], [], []⟩)
          (cond ((decide ((0 : Int) ≤ vs5)) && (decide (vs5 < (vs0.length : Int))))
            (cond (okI (IntKind.wrap .i64 (vs1 + (1 : Int))))
              (cond (!(sEq (OrderT.target (ItemT.order (atI (t := .item) vs0 (Int.toNat vs5)))) (mkT (IntKind.wrap .i64 (vs1 + (1 : Int))))))
                (k' .ret ⟨[(4, .c (.one (.v (.int .i64 (-1 : Int)))))], [], []⟩)
                (cond ((decide ((0 : Int) ≤ vs5)) && (decide (vs5 < (vs0.length : Int))))
                  (cond ((OrderT.low (ItemT.order (atI (t := .item) vs0 (Int.toNat vs5)))) != (IntKind.wrap .i64 ((IntKind.wrap .i64 (vs1 + (1 : Int))) + (1 : Int))))
                    (k' .ret ⟨[(4, .c (.one (.v (.int .i64 (-1 : Int)))))], [], []⟩)
                    (cond ((decide ((0 : Int) ≤ vs5)) && (decide (vs5 < (vs0.length : Int))))
                      (cond ((OrderT.high (ItemT.order (atI (t := .item) vs0 (Int.toNat vs5)))) != (IntKind.wrap .i64 ((IntKind.wrap .i64 ((IntKind.wrap .i64 (vs1 + (1 : Int))) + (1 : Int))) + (1 : Int))))
                        (k' .ret ⟨[(4, .c (.one (.v (.int .i64 (-1 : Int)))))], [], []⟩)
                        (cond ((decide ((0 : Int) ≤ vs5)) && (decide (vs5 < (vs0.length : Int))))
                          (cond ((fun (x : List MetricT) (k : Int) => gmk k (ctL ct_metric x)) (OrderT.metrics (ItemT.order (atI (t := .item) vs0 (Int.toNat vs5)))) (IntKind.wrap .i64 ((IntKind.wrap .i64 ((IntKind.wrap .i64 ((IntKind.wrap .i64 (vs1 + (1 : Int))) + (1 : Int))) + (1 : Int))) + (1 : Int))))
                            (cond (decide ((hdL mk_metric (IntKind.wrap .i64 ((IntKind.wrap .i64 ((IntKind.wrap .i64 ((IntKind.wrap .i64 (vs1 + (1 : Int))) + (1 : Int))) + (1 : Int))) + (1 : Int))) (OrderT.metrics (ItemT.order (atI (t := .item) vs0 (Int.toNat vs5))))) < (0 : Int)))
                              (k' .ret ⟨[(4, .c (.one (.v (.int .i64 (-1 : Int)))))], [], []⟩)
                              (cond ((decide ((0 : Int) ≤ vs5)) && (decide (vs5 < (vs0.length : Int))))
                                (cond ((PaceT.up (OrderT.pace (ItemT.order (atI (t := .item) vs0 (Int.toNat vs5))))) != (hdL mk_metric (IntKind.wrap .i64 ((IntKind.wrap .i64 ((IntKind.wrap .i64 ((IntKind.wrap .i64 (vs1 + (1 : Int))) + (1 : Int))) + (1 : Int))) + (1 : Int))) (OrderT.metrics (ItemT.order (atI (t := .item) vs0 (Int.toNat vs5))))))
                                  (k' .ret ⟨[(4, .c (.one (.v (.int .i64 (-1 : Int)))))], [], []⟩)
                                  (cond ((decide ((0 : Int) ≤ vs5)) && (decide (vs5 < (vs0.length : Int))))
                                    (cond ((PaceT.down (OrderT.pace (ItemT.order (atI (t := .item) vs0 (Int.toNat vs5))))) != (IntKind.wrap .i64 ((hdL mk_metric (IntKind.wrap .i64 ((IntKind.wrap .i64 ((IntKind.wrap .i64 ((IntKind.wrap .i64 (vs1 + (1 : Int))) + (1 : Int))) + (1 : Int))) + (1 : Int))) (OrderT.metrics (ItemT.order (atI (t := .item) vs0 (Int.toNat vs5))))) + (1 : Int))))
                                      (k' .ret ⟨[(4, .c (.one (.v (.int .i64 (-1 : Int)))))], [], []⟩)
                                      (cond ((decide ((0 : Int) ≤ vs5)) && (decide (vs5 < (vs0.length : Int))))
                                        (cond ((PaceT.upSpan (OrderT.pace (ItemT.order (atI (t := .item) vs0 (Int.toNat vs5))))) != (IntKind.wrap .i64 ((IntKind.wrap .i64 ((hdL mk_metric (IntKind.wrap .i64 ((IntKind.wrap .i64 ((IntKind.wrap .i64 ((IntKind.wrap .i64 (vs1 + (1 : Int))) + (1 : Int))) + (1 : Int))) + (1 : Int))) (OrderT.metrics (ItemT.order (atI (t := .item) vs0 (Int.toNat vs5))))) + (1 : Int))) + (1 : Int))))
                                          (k' .ret ⟨[(4, .c (.one (.v (.int .i64 (-1 : Int)))))], [], []⟩)
                                          (cond ((decide ((0 : Int) ≤ vs5)) && (decide (vs5 < (vs0.length : Int))))
                                            (cond ((PaceT.downSpan (OrderT.pace (ItemT.order (atI (t := .item) vs0 (Int.toNat vs5))))) != (IntKind.wrap .i64 ((IntKind.wrap .i64 ((IntKind.wrap .i64 ((hdL mk_metric (IntKind.wrap .i64 ((IntKind.wrap .i64 ((IntKind.wrap .i64 ((IntKind.wrap .i64 (vs1 + (1 : Int))) + (1 : Int))) + (1 : Int))) + (1 : Int))) (OrderT.metrics (ItemT.order (atI (t := .item) vs0 (Int.toNat vs5))))) + (1 : Int))) + (1 : Int))) + (1 : Int))))
                                              (k' .ret ⟨[(4, .c (.one (.v (.int .i64 (-1 : Int)))))], [], []⟩)
                                              (cond ((decide ((0 : Int) ≤ vs5)) && (decide (vs5 < (vs0.length : Int))))
                                                (cond ((fun (x : List NoteT) (k : Int) => gmk k (ctL ct_note x)) (OrderT.notes (ItemT.order (atI (t := .item) vs0 (Int.toNat vs5)))) (IntKind.wrap .i64 ((IntKind.wrap .i64 ((IntKind.wrap .i64 ((IntKind.wrap .i64 ((hdL mk_metric (IntKind.wrap .i64 ((IntKind.wrap .i64 ((IntKind.wrap .i64 ((IntKind.wrap .i64 (vs1 + (1 : Int))) + (1 : Int))) + (1 : Int))) + (1 : Int))) (OrderT.metrics (ItemT.order (atI (t := .item) vs0 (Int.toNat vs5))))) + (1 : Int))) + (1 : Int))) + (1 : Int))) + (1 : Int))))
                                                  (cond (decide ((hdL mk_note (IntKind.wrap .i64 ((IntKind.wrap .i64 ((IntKind.wrap .i64 ((IntKind.wrap .i64 ((hdL mk_metric (IntKind.wrap .i64 ((IntKind.wrap .i64 ((IntKind.wrap .i64 ((IntKind.wrap .i64 (vs1 + (1 : Int))) + (1 : Int))) + (1 : Int))) + (1 : Int))) (OrderT.metrics (ItemT.order (atI (t := .item) vs0 (Int.toNat vs5))))) + (1 : Int))) + (1 : Int))) + (1 : Int))) + (1 : Int))) (OrderT.notes (ItemT.order (atI (t := .item) vs0 (Int.toNat vs5))))) < (0 : Int)))
                                                    (k' .ret ⟨[(4, .c (.one (.v (.int .i64 (-1 : Int)))))], [], []⟩)
                                                    (cond ((decide ((0 : Int) ≤ vs5)) && (decide (vs5 < (vs0.length : Int))))
                                                      (cond ((ItemT.ver (atI (t := .item) vs0 (Int.toNat vs5))) != (hdL mk_note (IntKind.wrap .i64 ((IntKind.wrap .i64 ((IntKind.wrap .i64 ((IntKind.wrap .i64 ((hdL mk_metric (IntKind.wrap .i64 ((IntKind.wrap .i64 ((IntKind.wrap .i64 ((IntKind.wrap .i64 (vs1 + (1 : Int))) + (1 : Int))) + (1 : Int))) + (1 : Int))) (OrderT.metrics (ItemT.order (atI (t := .item) vs0 (Int.toNat vs5))))) + (1 : Int))) + (1 : Int))) + (1 : Int))) + (1 : Int))) (OrderT.notes (ItemT.order (atI (t := .item) vs0 (Int.toNat vs5))))))
                                                        (k' .ret ⟨[(4, .c (.one (.v (.int .i64 (-1 : Int)))))], [], []⟩)
                                                        (k' .normal ⟨[(0, .c (.one (.ro .item vs0))), (1, .c (.one (.v (.int .i64 (IntKind.wrap .i64 ((hdL mk_note (IntKind.wrap .i64 ((IntKind.wrap .i64 ((IntKind.wrap .i64 ((IntKind.wrap .i64 ((hdL mk_metric (IntKind.wrap .i64 ((IntKind.wrap .i64 ((IntKind.wrap .i64 ((IntKind.wrap .i64 (vs1 + (1 : Int))) + (1 : Int))) + (1 : Int))) + (1 : Int))) (OrderT.metrics (ItemT.order (atI (t := .item) vs0 (Int.toNat vs5))))) + (1 : Int))) + (1 : Int))) + (1 : Int))) + (1 : Int))) (OrderT.notes (ItemT.order (atI (t := .item) vs0 (Int.toNat vs5))))) + (1 : Int))))))), (5, .c (.one (.v (.int .i64 (IntKind.wrap .i64 (vs5 + (1 : Int)))))))], [], []⟩))
                                                      none))
                                                  none)
                                                none))
                                            none))
                                        none))
                                    none))
                                none))
                            none)
                          none))
                      none))
                  none))
              none)
            none))
        none)
      none)
    (k' (.exit 0) ⟨[(0, .c (.one (.ro .item vs0))), (1, .c (.one (.v (.int .i64 vs1)))), (5, .c (.one (.v (.int .i64 vs5)))), (9, .c (.one (.v (.bool (decide (vs5 < (vs0.length : Int)))))))], [], []⟩)) := by kernel_rfl
theorem f35L0_eq {R : Type} (n : Nat) (k' : Ex → St → Option R) (vs0 : List ItemT) : ∀ (m : Nat) (vs1 : Int) (vs5 : Int), iter (fun st k => ev f35e f35k n (cAt [1,0,1,0,0] f35c) st k) m ⟨[(0, .c (.one (.ro .item vs0))), (1, .c (.one (.v (.int .i64 vs1)))), (5, .c (.one (.v (.int .i64 vs5))))], [], []⟩ k' = f35L0 n (k' .ret ⟨[(4, .c (.one (.v (.int .i64 (-1 : Int)))))], [], []⟩) (fun (xvs1 : Int) (xvs5 : Int) (xvs9 : Bool) => k' (.exit 0) ⟨[(0, .c (.one (.ro .item vs0))), (1, .c (.one (.v (.int .i64 xvs1)))), (5, .c (.one (.v (.int .i64 xvs5)))), (9, .c (.one (.v (.bool xvs9))))], [], []⟩) vs0 m vs1 vs5 := by
  intro m; induction m with
  | zero => intros; rfl
  | succ m ih =>
    intro vs1 vs5
    simp only [iter]
    rw [f35L0_b]
    simp only [ih, f35L0]

noncomputable def f35K0 {R : Type} (n : Nat) (k' : Ex → St → Option R) : Ex → St → Option R := (blockK 0 (seqK f35e f35k n (cAt [1,1] f35c) k'))
theorem f35K0_x0 {R : Type} (n : Nat) (k : List Dt → Option R) (a0 : List ItemT) (a1 : Int)  : f35K0 n (exitK f35e [.ro, .ro] [false] true [.tmp 4] [3] [.d (.sl .item) a0, .d (.i .i64) a1] k) .ret ⟨[(4, .c (.one (.v (.int .i64 (-1 : Int)))))], [], []⟩ =
    (k [.d (.i .i64) (-1 : Int)]) := by kernel_rfl
theorem f35K0_x1 {R : Type} (n : Nat) (k : List Dt → Option R) (a0 : List ItemT) (a1 : Int) (vs0 : List ItemT) (xvs1 : Int) (xvs5 : Int) (xvs9 : Bool) : f35K0 n (exitK f35e [.ro, .ro] [false] true [.tmp 4] [3] [.d (.sl .item) a0, .d (.i .i64) a1] k) (.exit 0) ⟨[(0, .c (.one (.ro .item vs0))), (1, .c (.one (.v (.int .i64 xvs1)))), (5, .c (.one (.v (.int .i64 xvs5)))), (9, .c (.one (.v (.bool xvs9))))], [], []⟩ =
    (k [.d (.i .i64) xvs1]) := by kernel_rfl

theorem f35_run {R : Type} (n : Nat) (k : List Dt → Option R) (a0 : List ItemT) (a1 : Int) : evFn f35e f35k n f35c [.ro, .ro] [false] true [.tmp 4] [3] [.d (.sl .item) a0, .d (.i .i64) a1] k =
    (f35L0 n (k [.d (.i .i64) (-1 : Int)]) (fun (xvs1 : Int) (xvs5 : Int) (xvs9 : Bool) =>
    (k [.d (.i .i64) xvs1])) a0 n a1 (0 : Int)) := by
  refine Eq.trans (b := (iter (fun st k => ev f35e f35k n (cAt [1,0,1,0,0] f35c) st k) n ⟨[(0, .c (.one (.ro .item a0))), (1, .c (.one (.v (.int .i64 a1)))), (5, .c (.one (.v (.int .i64 (0 : Int)))))], [], []⟩ (f35K0 n (exitK f35e [.ro, .ro] [false] true [.tmp 4] [3] [.d (.sl .item) a0, .d (.i .i64) a1] k)))) (by kernel_rfl) ?_
  simp only [f35L0_eq, f35K0_x0, f35K0_x1]
theorem f35_spec (a0 : List ItemT) (a1 : Int) (hg : gmk a1 (ctL ct_item a0) = true) : ∃ keep rounds, ∀ {R : Type} (k : List Dt → Option R), evFn f35e keep rounds f35c [.ro, .ro] [false] true [.tmp 4] [3] [.d (.sl .item) a0, .d (.i .i64) a1] k = k [.d (.i .i64) (hdL mk_item a1 a0)] := by
  rw [gmk_iff] at hg
  have hl := ctL_len ct_item_pos a0
  refine ⟨f35k, a0.length + 1, fun {R} k => ?_⟩
  rw [f35_run]
  refine Eq.trans (loop_held (xs := a0) (F := fun m kk i => f35L0 (a0.length + 1) _ _ a0 m kk i) (f := mk_item) (c := ct_item) (good := fun kk => k [.d (.i .i64) kk]) (bad := k [.d (.i .i64) (-1 : Int)]) mk_item_ct
    (fun m kk j x hx h0 hB => ?_) (fun m kk => by simp only [f35L0, idxE, cond_false]) a0.length 0 (a0.length + 1) a1 (by omega) (by omega) hg.1 (by rw [List.drop_zero]; exact hg.2)) ?_
  · obtain ⟨h1, h2, _, ht⟩ := idx (lt_of_get hx) (by omega)
    have hj := lt_of_get hx
    simp only [ct_item] at hB
    rcases hdL_cases mk_metric (kk + 1 + 1 + 1 + 1) x.order.metrics with ⟨q0, v0⟩ | ⟨q0, v0⟩ <;>
    rcases hdL_cases mk_note ((mkL mk_metric (kk + 1 + 1 + 1 + 1) x.order.metrics).2 + 1 + 1 + 1 + 1) x.order.notes with ⟨q1, v1⟩ | ⟨q1, v1⟩ <;>
    simp (disch := omega) only [mkL_metric_ct, mkL_note_ct] at q0 v0 q1 v1 <;>
    simp (disch := omega) only [f35L0, h1, h2, ht, atI_of (t := .item) hx, wrap_id, gmk_of, okI_of, mk_item, mkL_metric_ct, mkL_note_ct, eqD_item, eqD_order, eqD_pace, Bool.cond_not, cond_and, bne, decide_ge0, decide_m1, cond_true, cond_false, Bool.cond_self, q0, v0, q1, v1, Bool.and_self]
  · rw [List.drop_zero]
    show _ = k [.d (.i .i64) (hdL mk_item a1 a0)]
    unfold hdL
    cases eqD a0 (mkL mk_item a1 a0).1 <;> rfl

noncomputable def q35 : List Dt → Option (Bool × List Dt)
  | [.d (.sl .item) a0, .d (.i .i64) a1] => some (((fun (x : List ItemT) (k : Int) => gmk k (ctL ct_item x)) a0 a1), [.d (.i .i64) (hdL mk_item a1 a0)])
  | _ => none
noncomputable def s35 : Gm.Spec := Gm.Spec.of [.ro, .ro] [false] true q35
theorem good35 : Gm.Good Try.prog (35, s35) := by
  have hl : ∀ x ∈ [(74, s74), (77, s77), (78, s78)], Gm.Good Try.prog x := List.forall_mem_cons.2 ⟨good74, List.forall_mem_cons.2 ⟨good77, List.forall_mem_cons.2 ⟨good78, List.forall_mem_nil _⟩⟩⟩
  refine ⟨⟨spec_ok (tab_ok.env hl) (tab.natl hl) Try.func35 (by kernel_rfl : Try.f35.body = some f35c) [3] (by kernel_rfl) ?_, _, Try.func35, by kernel_rfl, of_decide_eq_true (by kernel_rfl)⟩, Gm.Spec.of_natl _ _ _ _⟩
  intro ds outs h
  unfold q35 at h
  split at h
  · simp only [Option.some.injEq, Prod.mk.injEq] at h; obtain ⟨hg, h⟩ := h; cases h; exact f35_spec _ _ hg
  · cases h
end Go.Proofs.Ytnbehmbjoanfoaa

/- x -/
namespace Go.Proofs.Ytnbehmbjoanfoaa
open Go Go.Gm
/-! ### loop.example/g00465/laws.FnExactReplay -/
noncomputable def f5c : Code := (Try.f5.body).getD .skip
def f5k : Nat → Kp := kat [⟨[0, 1], [], [], []⟩, ⟨[0, 1, 5], [], [], []⟩, ⟨[0, 1, 5], [], [], []⟩, ⟨[0, 1, 5, 18], [], [], []⟩, ⟨[4], [], [], []⟩, ⟨[0, 1, 5], [], [], []⟩, ⟨[0, 1, 23], [], [], []⟩, ⟨[4], [], [], []⟩, ⟨[0, 1, 6], [], [], []⟩, ⟨[0, 1, 6, 7], [], [], []⟩, ⟨[0, 1, 6, 7, 8], [], [], []⟩, ⟨[0, 1, 6, 7, 8, 9], [], [], []⟩, ⟨[0, 1, 6, 7, 8, 9, 39], [], [], []⟩, ⟨[4], [], [], []⟩, ⟨[0, 1, 6, 7, 8, 9, 44], [], [], []⟩, ⟨[4], [], [], []⟩, ⟨[0, 1, 6, 7, 8, 9, 49], [], [], []⟩, ⟨[4], [], [], []⟩, ⟨[0, 1, 6, 7, 8, 9, 10], [], [], []⟩, ⟨[0, 1, 6, 8, 9, 10], [], [], []⟩, ⟨[0, 1, 6, 9, 10], [], [], []⟩, ⟨[0, 1, 6, 9, 63], [], [], []⟩, ⟨[4], [], [], []⟩, ⟨[0, 1, 6, 9, 11], [], [], []⟩, ⟨[0, 1, 6, 9, 11], [], [], []⟩, ⟨[0, 1, 6, 9, 11, 12], [], [], []⟩, ⟨[0, 1, 6, 9, 11, 12], [], [], []⟩, ⟨[0, 1, 6, 9, 11, 12, 71], [], [], []⟩, ⟨[4], [], [], []⟩, ⟨[0, 1, 6, 9, 11, 74], [], [], []⟩, ⟨[4], [], [], []⟩, ⟨[6, 9, 11, 13], [], [], []⟩, ⟨[9, 11, 83], [], [], []⟩, ⟨[4], [], [], []⟩, ⟨[9, 11, 12], [], [], []⟩, ⟨[11, 12], [], [], []⟩, ⟨[11, 12, 88], [], [], []⟩, ⟨[4], [], [], []⟩, ⟨[91], [], [], []⟩, ⟨[4], [], [], []⟩, ⟨[4], [], [], []⟩]
noncomputable def f5e : Env := tab.env [(25, s25), (26, s26), (27, s27), (28, s28), (29, s29), (30, s30), (31, s31), (32, s32), (33, s33), (34, s34), (35, s35)]
theorem f5_run {R : Type} (n : Nat) (k : List Dt → Option R) (a0 : List ItemT) (a1 : List EventT) : evFn f5e f5k n f5c [.ro, .ro] [false] true [.tmp 4] [4] [.d (.sl .item) a0, .d (.sl .event) a1] k =
    (cond (gzL_item a0 (1048576 : Int))
    (cond (decide ((zL_item a0 (1048576 : Int)) < (0 : Int)))
      (k [.d .bool true])
      (cond (gzL_event a1 (zL_item a0 (1048576 : Int)))
        (cond (decide ((zL_event a1 (zL_item a0 (1048576 : Int))) < (0 : Int)))
          (k [.d .bool true])
          (cond (smL sm_item a0)
            (cond (smL sm_event a1)
              (cond (gReplay a0 a1)
                (cond (smL sm_item a0)
                  (cond (smL sm_event a1)
                    (cond (gReplay a0 a1)
                      (cond (sm2 (smL sm_item) (replayW a0 a1) (replayW a0 a1))
                        (cond (!(eqD (replayW a0 a1) (replayW a0 a1)))
                          (k [.d .bool false])
                          (cond (smL sm_item a0)
                            (cond (sm2 (smL sm_item) a0 a0)
                              (cond (!(eqD a0 a0))
                                (k [.d .bool false])
                                (cond (smL sm_event a1)
                                  (cond (sm2 (smL sm_event) a1 a1)
                                    (cond (!(eqD a1 a1))
                                      (k [.d .bool false])
                                      (cond ((fun (x : List ItemT) (k : Int) => gmk k (ctL ct_item x)) a0 (1 : Int))
                                        (cond ((fun (x : List EventT) (k : Int) => gmk k (ctL ct_event x)) a1 (mkL mk_item (1 : Int) a0).2)
                                          (cond (decide ((mkL mk_event (mkL mk_item (1 : Int) a0).2 a1).2 < (0 : Int)))
                                            (k [.d .bool false])
                                            (cond (sm2 (smL sm_item) (replayW a0 a1) (replayW a0 a1))
                                              (cond (!(eqD (replayW a0 a1) (replayW a0 a1)))
                                                (k [.d .bool false])
                                                (cond ((fun (x : List ItemT) (k : Int) => gmk k (ctL ct_item x)) (replayW a0 a1) (1 : Int))
                                                  (cond ((fun (x : List ItemT) (k : Int) => gmk k (ctL ct_item x)) (mkL mk_item (1 : Int) (replayW a0 a1)).1 (1 : Int))
                                                    (cond (decide ((hdL mk_item (1 : Int) (mkL mk_item (1 : Int) (replayW a0 a1)).1) < (0 : Int)))
                                                      (k [.d .bool false])
                                                      (cond ((hdL mk_item (1 : Int) (mkL mk_item (1 : Int) (replayW a0 a1)).1) != (mkL mk_item (1 : Int) (replayW a0 a1)).2)
                                                        (k [.d .bool false])
                                                        (cond (smL sm_item a0)
                                                          (cond (smL sm_event a1)
                                                            (cond (gReplay a0 a1)
                                                              (cond (sm2 (smL sm_item) (replayW a0 a1) (replayW a0 a1))
                                                                (cond (!(eqD (replayW a0 a1) (replayW a0 a1)))
                                                                  (k [.d .bool false])
                                                                  (cond ((fun (x : List ItemT) (k : Int) => gmk k (ctL ct_item x)) (mkL mk_item (1 : Int) (replayW a0 a1)).1 (1 : Int))
                                                                    (cond (decide ((hdL mk_item (1 : Int) (mkL mk_item (1 : Int) (replayW a0 a1)).1) < (0 : Int)))
                                                                      (k [.d .bool false])
                                                                      (cond ((hdL mk_item (1 : Int) (mkL mk_item (1 : Int) (replayW a0 a1)).1) != (mkL mk_item (1 : Int) (replayW a0 a1)).2)
                                                                        (k [.d .bool false])
                                                                        (k [.d .bool true])))
                                                                    none))
                                                                none)
                                                              none)
                                                            none)
                                                          none)))
                                                    none)
                                                  none))
                                              none))
                                          none)
                                        none))
                                    none)
                                  none))
                              none)
                            none))
                        none)
                      none)
                    none)
                  none)
                none)
              none)
            none))
        none))
    none) := by kernel_rfl
theorem f5_spec (a0 : List ItemT) (a1 : List EventT) (hg : (okL ok_item a0 && okL ok_event a1) = true) : ∃ keep rounds, ∀ {R : Type} (k : List Dt → Option R), evFn f5e keep rounds f5c [.ro, .ro] [false] true [.tmp 4] [4] [.d (.sl .item) a0, .d (.sl .event) a1] k = k [.d .bool ((fun (_ : List ItemT) (_ : List EventT) => true) a0 a1)] := by
  simp only [Bool.and_eq_true] at hg
  obtain ⟨hg0, hg1⟩ := hg
  refine ⟨f5k, 0, fun {R} k => ?_⟩
  rw [f5_run]
  have g0 : gzL_item a0 (1048576 : Int) = true := by simp only [gzL_item, Bool.and_eq_true, okN_iff]; exact ⟨hg0, by omega, by omega⟩
  have e0 : zL_item a0 (1048576 : Int) = szI (szL szN_item a0) (1048576 : Int) := rfl
  by_cases c0 : szI (szL szN_item a0) (1048576 : Int) < 0
  · simp only [g0, e0, c0, decide_true, decide_false, cond_true, cond_false]
  have b0 : szI (szL szN_item a0) (1048576 : Int) = (1048576 : Int) - ((szL szN_item a0) : Nat) := by
    by_cases h : (1048576 : Int) - ((szL szN_item a0) : Nat) < 0
    · rw [szI_neg h] at c0; omega
    · exact szI_pos h
  have s0 : smL sm_item a0 = true := smL_of hg0 (show szL szN_item a0 ≤ 1048576 by omega) (fun x hx h => sm_item_of hx h)
  have n0 : 0 ≤ (szI (szL szN_item a0) (1048576 : Int)) ∧ (szI (szL szN_item a0) (1048576 : Int)) ≤ 1048576 := by omega
  have p0 := ctL_sm ct_item_sm s0
  have g1 : gzL_event a1 (szI (szL szN_item a0) (1048576 : Int)) = true := by simp only [gzL_event, Bool.and_eq_true, okN_iff]; exact ⟨hg1, by omega, by omega⟩
  have e1 : zL_event a1 (szI (szL szN_item a0) (1048576 : Int)) = szI (szL szN_event a1) (szI (szL szN_item a0) (1048576 : Int)) := rfl
  by_cases c1 : szI (szL szN_event a1) (szI (szL szN_item a0) (1048576 : Int)) < 0
  · simp only [g0, e0, c0, g1, e1, c1, decide_true, decide_false, cond_true, cond_false]
  have b1 : szI (szL szN_event a1) (szI (szL szN_item a0) (1048576 : Int)) = (szI (szL szN_item a0) (1048576 : Int)) - ((szL szN_event a1) : Nat) := by
    by_cases h : (szI (szL szN_item a0) (1048576 : Int)) - ((szL szN_event a1) : Nat) < 0
    · rw [szI_neg h] at c1; omega
    · exact szI_pos h
  have s1 : smL sm_event a1 = true := smL_of hg1 (show szL szN_event a1 ≤ 1048576 by omega) (fun x hx h => sm_event_of hx h)
  have n1 : 0 ≤ (szI (szL szN_event a1) (szI (szL szN_item a0) (1048576 : Int))) ∧ (szI (szL szN_event a1) (szI (szL szN_item a0) (1048576 : Int))) ≤ 1048576 := by omega
  have p1 := ctL_sm ct_event_sm s1
  have hLn : Nat.ble (a0.length + a1.length) 1048576 = true := Nat.ble_eq_true_of_le (by
    have h0 := szL_ge szN_item a0
    have h1 := szL_ge szN_event a1
    omega)
  have sA0 : smL sm_item (replayW a0 a1) = true := smL_replay s0 s1 hLn
  have pA0 := ctL_sm ct_item_sm sA0
  have hR : gReplay a0 a1 = true := by simp only [gReplay, s0, s1, hLn, Bool.and_self]
  simp only [ctL_mk_item, hdL_marked mk_item_idem]
  simp (disch := omega) only [g0, e0, c0, g1, e1, c1, s0, s1, sA0, sm2, gmk_of, decide_ge0, decide_false, cond_true, cond_false, Bool.and_self, bne_self_eq_false, beq_self_eq_true, sEq_self, eqD_self, Bool.not_true, mkL_event_ct, mkL_item_ct, hR]

noncomputable def q5 : List Dt → Option (Bool × List Dt)
  | [.d (.sl .item) a0, .d (.sl .event) a1] => some (((fun (x0 : List ItemT) (x1 : List EventT) => okL ok_item x0 && okL ok_event x1) a0 a1), [.d .bool ((fun (_ : List ItemT) (_ : List EventT) => true) a0 a1)])
  | _ => none
noncomputable def s5 : Gm.Spec := Gm.Spec.of [.ro, .ro] [false] true q5
theorem good5 : Gm.Good Try.prog (5, s5) := by
  have hl : ∀ x ∈ [(25, s25), (26, s26), (27, s27), (28, s28), (29, s29), (30, s30), (31, s31), (32, s32), (33, s33), (34, s34), (35, s35)], Gm.Good Try.prog x := List.forall_mem_cons.2 ⟨good25, List.forall_mem_cons.2 ⟨good26, List.forall_mem_cons.2 ⟨good27, List.forall_mem_cons.2 ⟨good28, List.forall_mem_cons.2 ⟨good29, List.forall_mem_cons.2 ⟨good30, List.forall_mem_cons.2 ⟨good31, List.forall_mem_cons.2 ⟨good32, List.forall_mem_cons.2 ⟨good33, List.forall_mem_cons.2 ⟨good34, List.forall_mem_cons.2 ⟨good35, List.forall_mem_nil _⟩⟩⟩⟩⟩⟩⟩⟩⟩⟩⟩
  refine ⟨⟨spec_ok (tab_ok.env hl) (tab.natl hl) Try.func5 (by kernel_rfl : Try.f5.body = some f5c) [4] (by kernel_rfl) ?_, _, Try.func5, by kernel_rfl, of_decide_eq_true (by kernel_rfl)⟩, Gm.Spec.of_natl _ _ _ _⟩
  intro ds outs h
  unfold q5 at h
  split at h
  · simp only [Option.some.injEq, Prod.mk.injEq] at h; obtain ⟨hg, h⟩ := h; cases h; exact f5_spec _ _ hg
  · cases h
end Go.Proofs.Ytnbehmbjoanfoaa

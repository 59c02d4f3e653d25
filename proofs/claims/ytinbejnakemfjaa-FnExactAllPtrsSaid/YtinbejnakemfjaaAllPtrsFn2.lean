/- What the functions compute, part 2. No conditions. -/
import Derived.Test.YtinbejnakemfjaaAllPtrsFn1
/- x -/
namespace Go.Proofs.Ytinbejnakemfjaa
open Go Go.Gm
/-! ### loop.example/g00465/laws.markText -/
noncomputable def f47c : Code := (Try.f47.body).getD .skip
def f47k : Nat → Kp := kat [⟨[0], [], [], []⟩, ⟨[0, 5], [], [], []⟩, ⟨[2], [], [], []⟩, ⟨[0, 3], [], [], []⟩, ⟨[0, 3, 7], [], [], []⟩, ⟨[0, 3], [], [], []⟩, ⟨[0, 3], [], [], []⟩, ⟨[2], [], [], []⟩]
noncomputable def f47e : Env := tab.env []
noncomputable def f47L0 {R : Type} (n : Nat) (x0 : Int → ByteArray → Bool → Option R)  : Nat → Int → ByteArray → Option R
  | 0, _, _ => none
  | m + 1, vs0, vs3 =>
    (cond (decide (vs0 > (0 : Int)))
      (cond (decide (ByteArray.size (bytesOf ([(IntKind.wrap .u8 (IntKind.wrap .i64 ((48 : Int) + (Int.tmod vs0 (10 : Int)))))] : List Int)) + ByteArray.size vs3 ≤ 9223372036854775807))
        (f47L0 n x0 m (IntKind.wrap .i64 (Int.tdiv vs0 (10 : Int))) ((bytesOf ([(IntKind.wrap .u8 (IntKind.wrap .i64 ((48 : Int) + (Int.tmod vs0 (10 : Int)))))] : List Int)) ++ vs3))
        none)
      (x0 vs0 vs3 (decide (vs0 > (0 : Int)))))
theorem f47L0_b {R : Type} (n : Nat) (k' : Ex → St → Option R) (vs0 : Int) (vs3 : ByteArray) : ev f47e f47k n (cAt [1,1,1,0,0,0] f47c) ⟨[(0, .c (.one (.v (.int .i64 vs0)))), (3, .c (.one (.v (.string vs3))))], [], []⟩ k' =
    (cond (decide (vs0 > (0 : Int)))
    (cond (decide (ByteArray.size (bytesOf ([(IntKind.wrap .u8 (IntKind.wrap .i64 ((48 : Int) + (Int.tmod vs0 (10 : Int)))))] : List Int)) + ByteArray.size vs3 ≤ 9223372036854775807))
      (k' .normal ⟨[(0, .c (.one (.v (.int .i64 (IntKind.wrap .i64 (Int.tdiv vs0 (10 : Int))))))), (3, .c (.one (.v (.string ((bytesOf ([(IntKind.wrap .u8 (IntKind.wrap .i64 ((48 : Int) + (Int.tmod vs0 (10 : Int)))))] : List Int)) ++ vs3)))))], [], []⟩)
      none)
    (k' (.exit 0) ⟨[(0, .c (.one (.v (.int .i64 vs0)))), (3, .c (.one (.v (.string vs3)))), (7, .c (.one (.v (.bool (decide (vs0 > (0 : Int)))))))], [], []⟩)) := by kernel_rfl
theorem f47L0_eq {R : Type} (n : Nat) (k' : Ex → St → Option R)  : ∀ (m : Nat) (vs0 : Int) (vs3 : ByteArray), iter (fun st k => ev f47e f47k n (cAt [1,1,1,0,0,0] f47c) st k) m ⟨[(0, .c (.one (.v (.int .i64 vs0)))), (3, .c (.one (.v (.string vs3))))], [], []⟩ k' = f47L0 n (fun (xvs0 : Int) (xvs3 : ByteArray) (xvs7 : Bool) => k' (.exit 0) ⟨[(0, .c (.one (.v (.int .i64 xvs0)))), (3, .c (.one (.v (.string xvs3)))), (7, .c (.one (.v (.bool xvs7))))], [], []⟩) m vs0 vs3 := by
  intro m; induction m with
  | zero => intros; rfl
  | succ m ih =>
    intro vs0 vs3
    simp only [iter]
    rw [f47L0_b]
    simp only [ih, f47L0]

noncomputable def f47K0 {R : Type} (n : Nat) (k' : Ex → St → Option R) : Ex → St → Option R := (blockK 0 (seqK f47e f47k n (cAt [1,1,1,1] f47c) k'))
theorem f47K0_x0 {R : Type} (n : Nat) (k : List Dt → Option R) (a0 : Int) (xvs0 : Int) (xvs3 : ByteArray) (xvs7 : Bool) : f47K0 n (exitK f47e [.ro] [false] true [.tmp 2] [9] [.d (.i .i64) a0] k) (.exit 0) ⟨[(0, .c (.one (.v (.int .i64 xvs0)))), (3, .c (.one (.v (.string xvs3)))), (7, .c (.one (.v (.bool xvs7))))], [], []⟩ =
    (cond (decide (ByteArray.size (bs [109]) + ByteArray.size xvs3 ≤ 9223372036854775807))
    (k [.d .str ((bs [109]) ++ xvs3)])
    none) := by kernel_rfl

theorem f47_run {R : Type} (n : Nat) (k : List Dt → Option R) (a0 : Int) : evFn f47e f47k n f47c [.ro] [false] true [.tmp 2] [9] [.d (.i .i64) a0] k =
    (cond (decide (a0 ≤ (0 : Int)))
    (k [.d .str (bs [109,48])])
    (f47L0 n (fun (xvs0 : Int) (xvs3 : ByteArray) (xvs7 : Bool) =>
      (cond (decide (ByteArray.size (bs [109]) + ByteArray.size xvs3 ≤ 9223372036854775807))
        (k [.d .str ((bs [109]) ++ xvs3)])
        none)) n a0 ByteArray.empty)) := by
  refine Eq.trans (b := (cond (decide (a0 ≤ (0 : Int)))
    (k [.d .str (bs [109,48])])
    (iter (fun st k => ev f47e f47k n (cAt [1,1,1,0,0,0] f47c) st k) n ⟨[(0, .c (.one (.v (.int .i64 a0)))), (3, .c (.one (.v (.string ByteArray.empty))))], [], []⟩ (f47K0 n (exitK f47e [.ro] [false] true [.tmp 2] [9] [.d (.i .i64) a0] k))))) (by kernel_rfl) ?_
  simp only [f47L0_eq, f47K0_x0]
theorem f47_spec (a0 : Int) (hg : okI a0 = true) : ∃ keep rounds, ∀ {R : Type} (k : List Dt → Option R), evFn f47e keep rounds f47c [.ro] [false] true [.tmp 2] [9] [.d (.i .i64) a0] k = k [.d .str (mkT a0)] := by
  rw [okI_iff] at hg
  refine ⟨f47k, 25, fun {R} k => ?_⟩
  rw [f47_run]
  show _ = k [.d .str (mkT a0)]
  unfold mkT
  by_cases hz : a0 ≤ 0
  · simp only [hz, decide_true, cond_true]
  simp only [hz, decide_false, cond_false]
  have key : ∀ (d m : Nat) (n : Int) (out : ByteArray), 0 ≤ n → n.natAbs < 10 ^ d → d ≤ 20 → d < m → n ≤ 9223372036854775807 → out.size + d ≤ 100 → ∀ X : Int → ByteArray → Bool → Option R, f47L0 25 X m n out = X 0 (digR n.natAbs out) false := by
    intro d
    induction d with
    | zero =>
      intro m n out h0 hn hd hm hw hs X
      obtain ⟨m, rfl⟩ : ∃ m', m = m' + 1 := ⟨m - 1, by omega⟩
      have : n = 0 := by omega
      subst this
      simp only [f47L0]
      rfl
    | succ d ih =>
      intro m n out h0 hn hd hm hw hs X
      obtain ⟨m, rfl⟩ : ∃ m', m = m' + 1 := ⟨m - 1, by omega⟩
      by_cases hn0 : n = 0
      · subst hn0
        simp only [f47L0]
        rfl
      have h0' : decide (n > (0 : Int)) = true := decide_eq_true (by omega)
      have hn2 : n.natAbs / 10 < 10 ^ d := by rw [Nat.pow_succ] at hn; omega
      have hb := byte_dig (n.natAbs % 10) (by omega)
      have hsz : ByteArray.size ⟨#[UInt8.ofNat (48 + n.natAbs % 10)]⟩ = 1 := rfl
      simp only [f47L0, h0', cond_true]
      have t1 : IntKind.wrap .i64 (Int.tdiv n 10) = ((n.natAbs / 10 : Nat) : Int) := by rw [tdiv_pos (by omega)]; exact wrap_id (by omega) (by omega)
      have t2 : Int.tmod n 10 = ((n.natAbs % 10 : Nat) : Int) := tmod_pos (by omega)
      rw [t1, t2, hb]
      have fin := ih m (((n.natAbs / 10 : Nat) : Int)) (⟨#[UInt8.ofNat (48 + n.natAbs % 10)]⟩ ++ out) (by omega) (by omega) (by omega) (by omega) (by omega) (by rw [ByteArray.size_append]; omega) X
      rw [show (((n.natAbs / 10 : Nat) : Int)).natAbs = n.natAbs / 10 by omega, digR_step (by omega)] at fin
      rw [← fin]
      have hle := app_le (a := ⟨#[UInt8.ofNat (48 + n.natAbs % 10)]⟩) (b := out) (by omega)
      simp only [cond_true, hle]
  refine Eq.trans (key 20 25 a0 ByteArray.empty (by omega) (by have : (10 : Nat) ^ 20 = 100000000000000000000 := rfl; omega) (by omega) (by omega) (by omega) (by show 0 + 20 ≤ 100; omega) _) ?_
  have e : digR a0.natAbs ByteArray.empty = ⟨(natDig a0.natAbs).toArray⟩ := by
    unfold digR; rw [if_neg (by omega)]; apply ba_ext; simp
  have hs := digS_size (n := a0) (okI_iff.2 hg)
  have ed : digS a0 = ⟨(natDig a0.natAbs).toArray⟩ := by
    unfold digS; rw [if_neg (by omega)]; simp
  rw [e, ← ed, app_le (by rw [bs_size, List.length_cons, List.length_nil]; omega)]
  rfl

noncomputable def q47 : List Dt → Option (Bool × List Dt)
  | [.d (.i .i64) a0] => some ((okI a0), [.d .str (mkT a0)])
  | _ => none
noncomputable def s47 : Gm.Spec := Gm.Spec.of [.ro] [false] true q47
theorem good47 : Gm.Good Try.prog (47, s47) := by
  have hl : ∀ x ∈ ([] : List (Nat × Gm.Spec)), Gm.Good Try.prog x := fun _ h => by cases h
  refine ⟨⟨spec_ok (tab_ok.env hl) (tab.natl hl) Try.func47 (by kernel_rfl : Try.f47.body = some f47c) [9] (by kernel_rfl) ?_, _, Try.func47, by kernel_rfl, of_decide_eq_true (by kernel_rfl)⟩, Gm.Spec.of_natl _ _ _ _⟩
  intro ds outs h
  unfold q47 at h
  split at h
  · simp only [Option.some.injEq, Prod.mk.injEq] at h; obtain ⟨hg, h⟩ := h; cases h; exact f47_spec _ hg
  · cases h
/-! ### loop.example/g00465/laws.markStringS -/
noncomputable def f22c : Code := (Try.f22.body).getD .skip
def f22k : Nat → Kp := kat [⟨[0, 1], [], [], []⟩, ⟨[0, 1, 5], [], [], []⟩, ⟨[0, 1, 5, 9], [], [], []⟩, ⟨[0, 1, 5], [], [], []⟩, ⟨[0, 1, 5], [], [], []⟩, ⟨[0, 1, 5], [], [], []⟩, ⟨[0, 4], [], [], []⟩]
noncomputable def f22e : Env := tab.env [(47, s47)]
noncomputable def f22L0 {R : Type} (n : Nat) (x0 : Int → Int → Bool → (List ByteArray) → Option R)  : Nat → Int → Int → (List ByteArray) → Option R
  | 0, _, _, _ => none
  | m + 1, vs1, vs5, vr0 =>
    (cond (decide (vs5 < (vr0.length : Int)))
      (cond (okI vs1)
        (cond ((decide ((0 : Int) ≤ vs5)) && (decide (vs5 < (vr0.length : Int))))
          (f22L0 n x0 m (IntKind.wrap .i64 (vs1 + (1 : Int))) (IntKind.wrap .i64 (vs5 + (1 : Int))) (vr0.set (Int.toNat vs5) (mkT vs1)))
          none)
        none)
      (x0 vs1 vs5 (decide (vs5 < (vr0.length : Int))) vr0))
theorem f22L0_b {R : Type} (n : Nat) (k' : Ex → St → Option R) (vs1 : Int) (vs5 : Int) (vr0 : List ByteArray) : ev f22e f22k n (cAt [1,0,1,0,0] f22c) ⟨[(0, .c (.one (.h 0 0 0 []))), (1, .c (.one (.v (.int .i64 vs1)))), (5, .c (.one (.v (.int .i64 vs5))))], [], [(0, .live ⟨.str, .deep, 0, [], vr0⟩)]⟩ k' =
    (cond (decide (vs5 < (vr0.length : Int)))
    (cond (okI vs1)
      (cond ((decide ((0 : Int) ≤ vs5)) && (decide (vs5 < (vr0.length : Int))))
        (k' .normal ⟨[(0, .c (.one (.h 0 0 0 []))), (1, .c (.one (.v (.int .i64 (IntKind.wrap .i64 (vs1 + (1 : Int))))))), (5, .c (.one (.v (.int .i64 (IntKind.wrap .i64 (vs5 + (1 : Int)))))))], [], [(0, .live ⟨.str, .deep, 0, [], (vr0.set (Int.toNat vs5) (mkT vs1))⟩)]⟩)
        none)
      none)
    (k' (.exit 0) ⟨[(0, .c (.one (.h 0 0 0 []))), (1, .c (.one (.v (.int .i64 vs1)))), (5, .c (.one (.v (.int .i64 vs5)))), (9, .c (.one (.v (.bool (decide (vs5 < (vr0.length : Int)))))))], [], [(0, .live ⟨.str, .deep, 0, [], vr0⟩)]⟩)) := by kernel_rfl
theorem f22L0_eq {R : Type} (n : Nat) (k' : Ex → St → Option R)  : ∀ (m : Nat) (vs1 : Int) (vs5 : Int) (vr0 : List ByteArray), iter (fun st k => ev f22e f22k n (cAt [1,0,1,0,0] f22c) st k) m ⟨[(0, .c (.one (.h 0 0 0 []))), (1, .c (.one (.v (.int .i64 vs1)))), (5, .c (.one (.v (.int .i64 vs5))))], [], [(0, .live ⟨.str, .deep, 0, [], vr0⟩)]⟩ k' = f22L0 n (fun (xvs1 : Int) (xvs5 : Int) (xvs9 : Bool) (xvr0 : List ByteArray) => k' (.exit 0) ⟨[(0, .c (.one (.h 0 0 0 []))), (1, .c (.one (.v (.int .i64 xvs1)))), (5, .c (.one (.v (.int .i64 xvs5)))), (9, .c (.one (.v (.bool xvs9))))], [], [(0, .live ⟨.str, .deep, 0, [], xvr0⟩)]⟩) m vs1 vs5 vr0 := by
  intro m; induction m with
  | zero => intros; rfl
  | succ m ih =>
    intro vs1 vs5 vr0
    simp only [iter]
    rw [f22L0_b]
    simp only [ih, f22L0]

noncomputable def f22K0 {R : Type} (n : Nat) (k' : Ex → St → Option R) : Ex → St → Option R := (blockK 0 (seqK f22e f22k n (cAt [1,1] f22c) k'))
theorem f22K0_x0 {R : Type} (n : Nat) (k : List Dt → Option R) (a0 : List ByteArray) (a1 : Int) (xvs1 : Int) (xvs5 : Int) (xvs9 : Bool) (xvr0 : List ByteArray) : f22K0 n (exitK f22e [.«mut», .ro] [false] true [.tmp 4] [3] [.d (.sl .str) a0, .d (.i .i64) a1] k) (.exit 0) ⟨[(0, .c (.one (.h 0 0 0 []))), (1, .c (.one (.v (.int .i64 xvs1)))), (5, .c (.one (.v (.int .i64 xvs5)))), (9, .c (.one (.v (.bool xvs9))))], [], [(0, .live ⟨.str, .deep, 0, [], xvr0⟩)]⟩ =
    (k [.d (.i .i64) xvs1, .d (.sl .str) xvr0]) := by kernel_rfl

theorem f22_run {R : Type} (n : Nat) (k : List Dt → Option R) (a0 : List ByteArray) (a1 : Int) : evFn f22e f22k n f22c [.«mut», .ro] [false] true [.tmp 4] [3] [.d (.sl .str) a0, .d (.i .i64) a1] k =
    (f22L0 n (fun (xvs1 : Int) (xvs5 : Int) (xvs9 : Bool) (xvr0 : List ByteArray) =>
    (k [.d (.i .i64) xvs1, .d (.sl .str) xvr0])) n a1 (0 : Int) a0) := by
  refine Eq.trans (b := (iter (fun st k => ev f22e f22k n (cAt [1,0,1,0,0] f22c) st k) n ⟨[(0, .c (.one (.h 0 0 0 []))), (1, .c (.one (.v (.int .i64 a1)))), (5, .c (.one (.v (.int .i64 (0 : Int)))))], [], [(0, .live ⟨.str, .deep, 0, [], a0⟩)]⟩ (f22K0 n (exitK f22e [.«mut», .ro] [false] true [.tmp 4] [3] [.d (.sl .str) a0, .d (.i .i64) a1] k)))) (by kernel_rfl) ?_
  simp only [f22L0_eq, f22K0_x0]
theorem f22_spec (a0 : List ByteArray) (a1 : Int) (hg : gmk a1 (ctL ct_str a0) = true) : ∃ keep rounds, ∀ {R : Type} (k : List Dt → Option R), evFn f22e keep rounds f22c [.«mut», .ro] [false] true [.tmp 4] [3] [.d (.sl .str) a0, .d (.i .i64) a1] k = k [.d (.i .i64) (mkL mk_str a1 a0).2, .d (.sl .str) (mkL mk_str a1 a0).1] := by
  rw [gmk_iff] at hg
  have hl := ctL_len ct_str_pos a0
  refine ⟨f22k, a0.length + 1, fun {R} k => ?_⟩
  rw [f22_run]
  refine Eq.trans (loop_mark (F := fun m kk i l => f22L0 (a0.length + 1) _ m kk i l) (f := mk_str) (c := ct_str) (good := fun kk l => k [.d (.i .i64) kk, .d (.sl .str) l]) (n := a0.length) mk_str_ct
    (fun m kk j l x hx hln h0 hB => ?_) (fun m kk l hln => by simp only [f22L0, hln, idxE, cond_false]) a0 (a0.length + 1) a1 [] (by simp) (by omega) hg.1 hg.2) rfl
  obtain ⟨h1, h2, _, ht⟩ := idx (lt_of_get hx) (by omega)
  have hA : ∀ a, atI (t := .str) (l.set j a) j = a := fun a => atI_set (t := .str) (lt_of_get hx) a
  have hj := lt_of_get hx
  simp only [ct_str] at hB
  simp (disch := omega) only [f22L0, h1, h2, ht, hA, atI_of (t := .str) hx, List.set_set, List.length_set, wrap_id, gmk_of, okI_of, mk_str, Bool.and_self, cond_true]

noncomputable def q22 : List Dt → Option (Bool × List Dt)
  | [.d (.sl .str) a0, .d (.i .i64) a1] => some (((fun (x : List ByteArray) (k : Int) => gmk k (ctL ct_str x)) a0 a1), [.d (.i .i64) (mkL mk_str a1 a0).2, .d (.sl .str) (mkL mk_str a1 a0).1])
  | _ => none
noncomputable def s22 : Gm.Spec := Gm.Spec.of [.«mut», .ro] [false] true q22
theorem good22 : Gm.Good Try.prog (22, s22) := by
  have hl : ∀ x ∈ [(47, s47)], Gm.Good Try.prog x := List.forall_mem_cons.2 ⟨good47, List.forall_mem_nil _⟩
  refine ⟨⟨spec_ok (tab_ok.env hl) (tab.natl hl) Try.func22 (by kernel_rfl : Try.f22.body = some f22c) [3] (by kernel_rfl) ?_, _, Try.func22, by kernel_rfl, of_decide_eq_true (by kernel_rfl)⟩, Gm.Spec.of_natl _ _ _ _⟩
  intro ds outs h
  unfold q22 at h
  split at h
  · simp only [Option.some.injEq, Prod.mk.injEq] at h; obtain ⟨hg, h⟩ := h; cases h; exact f22_spec _ _ hg
  · cases h
noncomputable def q41 : List Dt → Option (Bool × List Dt)
  | [.d (.sl .node) a0, .d (.i .i64) a1] => some (((fun (x : List NodeT) (k : Int) => gmk k (ctL ct_node x)) a0 a1), [.d (.i .i64) (mkL mk_node a1 a0).2, .d (.sl .node) (mkL mk_node a1 a0).1])
  | _ => none
noncomputable def mu41 : List Dt → Nat
  | [.d (.sl .node) a0, .d (.i .i64) a1] => mmL_node a0 a1
  | _ => 0
noncomputable def s41r (N : Nat) : Gm.Spec := Gm.Spec.of [.«mut», .ro] [false] true (qlt mu41 N q41)
/-! ### loop.example/g00465/laws.markNodeS -/
noncomputable def f41c : Code := (Try.f41.body).getD .skip
def f41k : Nat → Kp := kat [⟨[0, 1], [], [], []⟩, ⟨[0, 1, 5], [], [], []⟩, ⟨[0, 1, 5, 9], [], [], []⟩, ⟨[0, 1, 5], [], [], []⟩, ⟨[0, 1, 5], [], [], []⟩, ⟨[0, 1, 5], [], [], []⟩, ⟨[0, 1, 5], [], [], []⟩, ⟨[0, 1, 5], [], [], []⟩, ⟨[0, 1, 5], [], [], []⟩, ⟨[0, 1, 5], [], [], []⟩, ⟨[0, 1, 5], [], [], []⟩, ⟨[0, 1, 5], [], [], []⟩, ⟨[0, 4], [], [], []⟩]
noncomputable def f41e (N : Nat) : Env := tab.env [(22, s22), (41, s41r N), (47, s47)]
noncomputable def f41v0 (vr0 : List NodeT) (vs5 : Int) (vs1 : Int) : List NodeT :=
  (vr0.set (Int.toNat vs5) (⟨vs1, (NodeT.n (atI (t := .node) vr0 (Int.toNat vs5))), (NodeT.s (atI (t := .node) vr0 (Int.toNat vs5))), (NodeT.keys (atI (t := .node) vr0 (Int.toNat vs5))), (NodeT.kids (atI (t := .node) vr0 (Int.toNat vs5)))⟩ : NodeT))
noncomputable def f41v1 (vr0 : List NodeT) (vs5 : Int) (vs1 : Int) : List NodeT :=
  ((f41v0 vr0 vs5 vs1).set (Int.toNat vs5) (⟨(NodeT.kind (atI (t := .node) (f41v0 vr0 vs5 vs1) (Int.toNat vs5))), (IntKind.wrap .i64 (vs1 + (1 : Int))), (NodeT.s (atI (t := .node) (f41v0 vr0 vs5 vs1) (Int.toNat vs5))), (NodeT.keys (atI (t := .node) (f41v0 vr0 vs5 vs1) (Int.toNat vs5))), (NodeT.kids (atI (t := .node) (f41v0 vr0 vs5 vs1) (Int.toNat vs5)))⟩ : NodeT))
noncomputable def f41v2 (vr0 : List NodeT) (vs5 : Int) (vs1 : Int) : List NodeT :=
  ((f41v1 vr0 vs5 vs1).set (Int.toNat vs5) (⟨(NodeT.kind (atI (t := .node) (f41v1 vr0 vs5 vs1) (Int.toNat vs5))), (NodeT.n (atI (t := .node) (f41v1 vr0 vs5 vs1) (Int.toNat vs5))), (mkT (IntKind.wrap .i64 ((IntKind.wrap .i64 (vs1 + (1 : Int))) + (1 : Int)))), (NodeT.keys (atI (t := .node) (f41v1 vr0 vs5 vs1) (Int.toNat vs5))), (NodeT.kids (atI (t := .node) (f41v1 vr0 vs5 vs1) (Int.toNat vs5)))⟩ : NodeT))
noncomputable def f41v3 (vr0 : List NodeT) (vs5 : Int) (vs1 : Int) : List NodeT :=
  ((f41v2 vr0 vs5 vs1).set (Int.toNat vs5) (⟨(NodeT.kind (atI (t := .node) (f41v2 vr0 vs5 vs1) (Int.toNat vs5))), (NodeT.n (atI (t := .node) (f41v2 vr0 vs5 vs1) (Int.toNat vs5))), (NodeT.s (atI (t := .node) (f41v2 vr0 vs5 vs1) (Int.toNat vs5))), (mkL mk_str (IntKind.wrap .i64 ((IntKind.wrap .i64 ((IntKind.wrap .i64 (vs1 + (1 : Int))) + (1 : Int))) + (1 : Int))) (NodeT.keys (atI (t := .node) (f41v2 vr0 vs5 vs1) (Int.toNat vs5)))).1, (NodeT.kids (atI (t := .node) (f41v2 vr0 vs5 vs1) (Int.toNat vs5)))⟩ : NodeT))
noncomputable def f41v4 (vr0 : List NodeT) (vs5 : Int) (vs1 : Int) : List NodeT :=
  ((f41v3 vr0 vs5 vs1).set (Int.toNat vs5) (⟨(NodeT.kind (atI (t := .node) (f41v3 vr0 vs5 vs1) (Int.toNat vs5))), (NodeT.n (atI (t := .node) (f41v3 vr0 vs5 vs1) (Int.toNat vs5))), (NodeT.s (atI (t := .node) (f41v3 vr0 vs5 vs1) (Int.toNat vs5))), (NodeT.keys (atI (t := .node) (f41v3 vr0 vs5 vs1) (Int.toNat vs5))), (mkL mk_node (mkL mk_str (IntKind.wrap .i64 ((IntKind.wrap .i64 ((IntKind.wrap .i64 (vs1 + (1 : Int))) + (1 : Int))) + (1 : Int))) (NodeT.keys (atI (t := .node) (f41v2 vr0 vs5 vs1) (Int.toNat vs5)))).2 (NodeT.kids (atI (t := .node) (f41v3 vr0 vs5 vs1) (Int.toNat vs5)))).1⟩ : NodeT))
noncomputable def f41L0 {R : Type} (N : Nat) (n : Nat) (x0 : Int → Int → Bool → (List NodeT) → Option R)  : Nat → Int → Int → (List NodeT) → Option R
  | 0, _, _, _ => none
  | m + 1, vs1, vs5, vr0 =>
    (cond (decide (vs5 < (vr0.length : Int)))
      (cond ((decide ((0 : Int) ≤ vs5)) && (decide (vs5 < (vr0.length : Int))))
        (cond ((decide ((0 : Int) ≤ vs5)) && (decide (vs5 < ((f41v0 vr0 vs5 vs1).length : Int))))
          (cond (okI (IntKind.wrap .i64 ((IntKind.wrap .i64 (vs1 + (1 : Int))) + (1 : Int))))
            (cond ((decide ((0 : Int) ≤ vs5)) && (decide (vs5 < ((f41v1 vr0 vs5 vs1).length : Int))))
              (cond ((decide ((0 : Int) ≤ vs5)) && (decide (vs5 < ((f41v2 vr0 vs5 vs1).length : Int))))
                (cond ((fun (x : List ByteArray) (k : Int) => gmk k (ctL ct_str x)) (NodeT.keys (atI (t := .node) (f41v2 vr0 vs5 vs1) (Int.toNat vs5))) (IntKind.wrap .i64 ((IntKind.wrap .i64 ((IntKind.wrap .i64 (vs1 + (1 : Int))) + (1 : Int))) + (1 : Int))))
                  (cond ((decide ((0 : Int) ≤ vs5)) && (decide (vs5 < ((f41v3 vr0 vs5 vs1).length : Int))))
                    (cond (((fun (x : List NodeT) (k : Int) => gmk k (ctL ct_node x)) (NodeT.kids (atI (t := .node) (f41v3 vr0 vs5 vs1) (Int.toNat vs5))) (mkL mk_str (IntKind.wrap .i64 ((IntKind.wrap .i64 ((IntKind.wrap .i64 (vs1 + (1 : Int))) + (1 : Int))) + (1 : Int))) (NodeT.keys (atI (t := .node) (f41v2 vr0 vs5 vs1) (Int.toNat vs5)))).2) && (Nat.blt (mmL_node (NodeT.kids (atI (t := .node) (f41v3 vr0 vs5 vs1) (Int.toNat vs5))) (mkL mk_str (IntKind.wrap .i64 ((IntKind.wrap .i64 ((IntKind.wrap .i64 (vs1 + (1 : Int))) + (1 : Int))) + (1 : Int))) (NodeT.keys (atI (t := .node) (f41v2 vr0 vs5 vs1) (Int.toNat vs5)))).2) N))
                      (f41L0 N n x0 m (mkL mk_node (mkL mk_str (IntKind.wrap .i64 ((IntKind.wrap .i64 ((IntKind.wrap .i64 (vs1 + (1 : Int))) + (1 : Int))) + (1 : Int))) (NodeT.keys (atI (t := .node) (f41v2 vr0 vs5 vs1) (Int.toNat vs5)))).2 (NodeT.kids (atI (t := .node) (f41v3 vr0 vs5 vs1) (Int.toNat vs5)))).2 (IntKind.wrap .i64 (vs5 + (1 : Int))) (f41v4 vr0 vs5 vs1))
                      none)
                    none)
                  none)
                none)
              none)
            none)
          none)
        none)
      (x0 vs1 vs5 (decide (vs5 < (vr0.length : Int))) vr0))
theorem f41L0_b {R : Type} (N : Nat) (n : Nat) (k' : Ex → St → Option R) (vs1 : Int) (vs5 : Int) (vr0 : List NodeT) : ev (f41e N) f41k n (cAt [1,0,1,0,0] f41c) ⟨[(0, .c (.one (.h 0 0 0 []))), (1, .c (.one (.v (.int .i64 vs1)))), (5, .c (.one (.v (.int .i64 vs5))))], [], [(0, .live ⟨.node, .deep, 0, [], vr0⟩)]⟩ k' =
    (cond (decide (vs5 < (vr0.length : Int)))
    (cond ((decide ((0 : Int) ≤ vs5)) && (decide (vs5 < (vr0.length : Int))))
      (cond ((decide ((0 : Int) ≤ vs5)) && (decide (vs5 < ((f41v0 vr0 vs5 vs1).length : Int))))
        (cond (okI (IntKind.wrap .i64 ((IntKind.wrap .i64 (vs1 + (1 : Int))) + (1 : Int))))
          (cond ((decide ((0 : Int) ≤ vs5)) && (decide (vs5 < ((f41v1 vr0 vs5 vs1).length : Int))))
            (cond ((decide ((0 : Int) ≤ vs5)) && (decide (vs5 < ((f41v2 vr0 vs5 vs1).length : Int))))
              (cond ((fun (x : List ByteArray) (k : Int) => gmk k (ctL ct_str x)) (NodeT.keys (atI (t := .node) (f41v2 vr0 vs5 vs1) (Int.toNat vs5))) (IntKind.wrap .i64 ((IntKind.wrap .i64 ((IntKind.wrap .i64 (vs1 + (1 : Int))) + (1 : Int))) + (1 : Int))))
                (cond ((decide ((0 : Int) ≤ vs5)) && (decide (vs5 < ((f41v3 vr0 vs5 vs1).length : Int))))
                  (cond (((fun (x : List NodeT) (k : Int) => gmk k (ctL ct_node x)) (NodeT.kids (atI (t := .node) (f41v3 vr0 vs5 vs1) (Int.toNat vs5))) (mkL mk_str (IntKind.wrap .i64 ((IntKind.wrap .i64 ((IntKind.wrap .i64 (vs1 + (1 : Int))) + (1 : Int))) + (1 : Int))) (NodeT.keys (atI (t := .node) (f41v2 vr0 vs5 vs1) (Int.toNat vs5)))).2) && (Nat.blt (mmL_node (NodeT.kids (atI (t := .node) (f41v3 vr0 vs5 vs1) (Int.toNat vs5))) (mkL mk_str (IntKind.wrap .i64 ((IntKind.wrap .i64 ((IntKind.wrap .i64 (vs1 + (1 : Int))) + (1 : Int))) + (1 : Int))) (NodeT.keys (atI (t := .node) (f41v2 vr0 vs5 vs1) (Int.toNat vs5)))).2) N))
                    (k' .normal ⟨[(0, .c (.one (.h 0 0 0 []))), (1, .c (.one (.v (.int .i64 (mkL mk_node (mkL mk_str (IntKind.wrap .i64 ((IntKind.wrap .i64 ((IntKind.wrap .i64 (vs1 + (1 : Int))) + (1 : Int))) + (1 : Int))) (NodeT.keys (atI (t := .node) (f41v2 vr0 vs5 vs1) (Int.toNat vs5)))).2 (NodeT.kids (atI (t := .node) (f41v3 vr0 vs5 vs1) (Int.toNat vs5)))).2)))), (5, .c (.one (.v (.int .i64 (IntKind.wrap .i64 (vs5 + (1 : Int)))))))], [], [(0, .live ⟨.node, .deep, 0, [], (f41v4 vr0 vs5 vs1)⟩)]⟩)
                    none)
                  none)
                none)
              none)
            none)
          none)
        none)
      none)
    (k' (.exit 0) ⟨[(0, .c (.one (.h 0 0 0 []))), (1, .c (.one (.v (.int .i64 vs1)))), (5, .c (.one (.v (.int .i64 vs5)))), (9, .c (.one (.v (.bool (decide (vs5 < (vr0.length : Int)))))))], [], [(0, .live ⟨.node, .deep, 0, [], vr0⟩)]⟩)) := by kernel_rfl
theorem f41L0_eq {R : Type} (N : Nat) (n : Nat) (k' : Ex → St → Option R)  : ∀ (m : Nat) (vs1 : Int) (vs5 : Int) (vr0 : List NodeT), iter (fun st k => ev (f41e N) f41k n (cAt [1,0,1,0,0] f41c) st k) m ⟨[(0, .c (.one (.h 0 0 0 []))), (1, .c (.one (.v (.int .i64 vs1)))), (5, .c (.one (.v (.int .i64 vs5))))], [], [(0, .live ⟨.node, .deep, 0, [], vr0⟩)]⟩ k' = f41L0 N n (fun (xvs1 : Int) (xvs5 : Int) (xvs9 : Bool) (xvr0 : List NodeT) => k' (.exit 0) ⟨[(0, .c (.one (.h 0 0 0 []))), (1, .c (.one (.v (.int .i64 xvs1)))), (5, .c (.one (.v (.int .i64 xvs5)))), (9, .c (.one (.v (.bool xvs9))))], [], [(0, .live ⟨.node, .deep, 0, [], xvr0⟩)]⟩) m vs1 vs5 vr0 := by
  intro m; induction m with
  | zero => intros; rfl
  | succ m ih =>
    intro vs1 vs5 vr0
    simp only [iter]
    rw [f41L0_b]
    simp only [ih, f41L0]

noncomputable def f41K0 {R : Type} (N : Nat) (n : Nat) (k' : Ex → St → Option R) : Ex → St → Option R := (blockK 0 (seqK (f41e N) f41k n (cAt [1,1] f41c) k'))
theorem f41K0_x0 {R : Type} (N : Nat) (n : Nat) (k : List Dt → Option R) (a0 : List NodeT) (a1 : Int) (xvs1 : Int) (xvs5 : Int) (xvs9 : Bool) (xvr0 : List NodeT) : f41K0 N n (exitK (f41e N) [.«mut», .ro] [false] true [.tmp 4] [3] [.d (.sl .node) a0, .d (.i .i64) a1] k) (.exit 0) ⟨[(0, .c (.one (.h 0 0 0 []))), (1, .c (.one (.v (.int .i64 xvs1)))), (5, .c (.one (.v (.int .i64 xvs5)))), (9, .c (.one (.v (.bool xvs9))))], [], [(0, .live ⟨.node, .deep, 0, [], xvr0⟩)]⟩ =
    (k [.d (.i .i64) xvs1, .d (.sl .node) xvr0]) := by kernel_rfl

theorem f41_run {R : Type} (N : Nat) (n : Nat) (k : List Dt → Option R) (a0 : List NodeT) (a1 : Int) : evFn (f41e N) f41k n f41c [.«mut», .ro] [false] true [.tmp 4] [3] [.d (.sl .node) a0, .d (.i .i64) a1] k =
    (f41L0 N n (fun (xvs1 : Int) (xvs5 : Int) (xvs9 : Bool) (xvr0 : List NodeT) =>
    (k [.d (.i .i64) xvs1, .d (.sl .node) xvr0])) n a1 (0 : Int) a0) := by
  refine Eq.trans (b := (iter (fun st k => ev (f41e N) f41k n (cAt [1,0,1,0,0] f41c) st k) n ⟨[(0, .c (.one (.h 0 0 0 []))), (1, .c (.one (.v (.int .i64 a1)))), (5, .c (.one (.v (.int .i64 (0 : Int)))))], [], [(0, .live ⟨.node, .deep, 0, [], a0⟩)]⟩ (f41K0 N n (exitK (f41e N) [.«mut», .ro] [false] true [.tmp 4] [3] [.d (.sl .node) a0, .d (.i .i64) a1] k)))) (by kernel_rfl) ?_
  simp only [f41L0_eq, f41K0_x0]
theorem f41_spec (N : Nat) (a0 : List NodeT) (a1 : Int) (hg : gmk a1 (ctL ct_node a0) = true) (hm : mu41 [.d (.sl .node) a0, .d (.i .i64) a1] = N) : ∃ keep rounds, ∀ {R : Type} (k : List Dt → Option R), evFn (f41e N) keep rounds f41c [.«mut», .ro] [false] true [.tmp 4] [3] [.d (.sl .node) a0, .d (.i .i64) a1] k = k [.d (.i .i64) (mkL mk_node a1 a0).2, .d (.sl .node) (mkL mk_node a1 a0).1] := by
  have hm : mmL_node a0 a1 = N := hm
  subst hm
  rw [gmk_iff] at hg
  have hl := ctL_len ct_node_pos a0
  refine ⟨f41k, a0.length + 1, fun {R} k => ?_⟩
  rw [f41_run]
  refine Eq.trans (loop_markM (F := fun m kk i l => f41L0 (mmL_node a0 a1) (a0.length + 1) _ m kk i l) (f := mk_node) (c := ct_node) (good := fun kk l => k [.d (.i .i64) kk, .d (.sl .node) l]) (n := a0.length) (fun x => x ∈ a0) mk_node_ct
    (fun m kk j l x hx hxm hln h0 hB => ?_) (fun m kk l hln => by simp only [f41L0, hln, idxE, cond_false]) a0 (a0.length + 1) a1 [] (fun _ h => h) (by simp) (by omega) hg.1 hg.2) rfl
  obtain ⟨h1, h2, _, ht⟩ := idx (lt_of_get hx) (by omega)
  have hA : ∀ a, atI (t := .node) (l.set j a) j = a := fun a => atI_set (t := .node) (lt_of_get hx) a
  have hj := lt_of_get hx
  have hb : ∀ q, Nat.blt (mmL_node x.kids q) (mmL_node a0 a1) = true := fun q => by
    have := ndL_mem (f := nd_node) hxm
    rw [nd_node_def] at this
    rw [Nat.blt_eq]; simp only [mmL_node]; omega
  rw [ct_node_def] at hB
  simp (disch := omega) only [f41L0, f41v0, f41v1, f41v2, f41v3, f41v4, h1, h2, ht, hA, atI_of (t := .node) hx, List.set_set, List.length_set, wrap_id, gmk_of, okI_of, mk_node_def, mkL_node_ct, mkL_str_ct, hb, Bool.and_self, cond_true]

noncomputable def s41 : Gm.Spec := Gm.Spec.of [.«mut», .ro] [false] true q41
theorem good41 : Gm.Good Try.prog (41, s41) := by
  refine ⟨⟨spec_rec mu41 fun N hr => ?_, _, Try.func41, by kernel_rfl, of_decide_eq_true (by kernel_rfl)⟩, Gm.Spec.of_natl _ _ _ _⟩
  have hl : ∀ x ∈ [(22, s22), (41, s41r N), (47, s47)], Gm.Good Try.prog x := List.forall_mem_cons.2 ⟨good22, List.forall_mem_cons.2 ⟨⟨⟨hr, _, Try.func41, by kernel_rfl, of_decide_eq_true (by kernel_rfl)⟩, Gm.Spec.of_natl _ _ _ _⟩, List.forall_mem_cons.2 ⟨good47, List.forall_mem_nil _⟩⟩⟩
  intro R
  refine spec_ok (E := f41e N) (tab_ok.env hl) (tab.natl hl) Try.func41 (by kernel_rfl : Try.f41.body = some f41c) [3] (by kernel_rfl) ?_
  intro ds outs h
  obtain ⟨h, hm⟩ := qeq_some h
  unfold q41 at h
  split at h
  · simp only [Option.some.injEq, Prod.mk.injEq] at h; obtain ⟨hg, h⟩ := h; cases h; exact f41_spec N _ _ hg hm
  · cases h
/-! ### loop.example/g00465/laws.markNode -/
noncomputable def f14c : Code := (Try.f14.body).getD .skip
def f14k : Nat → Kp := kat [⟨[0, 1, 2], [], [], []⟩, ⟨[0, 1, 2], [], [], []⟩, ⟨[0, 1], [], [], []⟩, ⟨[0, 4], [], [], []⟩]
noncomputable def f14e : Env := tab.env [(22, s22), (41, s41)]
theorem f14_run {R : Type} (n : Nat) (k : List Dt → Option R) (a0 : List ByteArray) (a1 : List NodeT) (a2 : Int) (z0 : Dt) (z1 : Dt) (z2 : Dt) : evFnS f14e f14k n f14c [.skp, .skp, .skp, .«mut», .«mut»] [.ro] [false] [.tmp 4] [3] [z0, z1, z2, .d (.sl .str) a0, .d (.sl .node) a1] [.d (.i .i64) a2] k =
    (cond ((fun (x : List ByteArray) (k : Int) => gmk k (ctL ct_str x)) a0 a2)
    (cond ((fun (x : List NodeT) (k : Int) => gmk k (ctL ct_node x)) a1 (mkL mk_str a2 a0).2)
      (k [.d (.i .i64) (mkL mk_node (mkL mk_str a2 a0).2 a1).2, .d (.sl .str) (mkL mk_str a2 a0).1, .d (.sl .node) (mkL mk_node (mkL mk_str a2 a0).2 a1).1])
      none)
    none) := by kernel_rfl
theorem f14_spec (a0 : List ByteArray) (a1 : List NodeT) (a2 : Int) (z0 : Dt) (z1 : Dt) (z2 : Dt) (hg : gmk a2 (ctL ct_str a0 + ctL ct_node a1) = true) : ∃ keep rounds, ∀ {R : Type} (k : List Dt → Option R), evFnS f14e keep rounds f14c [.skp, .skp, .skp, .«mut», .«mut»] [.ro] [false] [.tmp 4] [3] [z0, z1, z2, .d (.sl .str) a0, .d (.sl .node) a1] [.d (.i .i64) a2] k = k [.d (.i .i64) (mkL mk_node ((mkL mk_str a2 a0).2) a1).2, .d (.sl .str) (mkL mk_str a2 a0).1, .d (.sl .node) (mkL mk_node ((mkL mk_str a2 a0).2) a1).1] := by
  rw [gmk_iff] at hg
  refine ⟨f14k, 0, fun {R} k => ?_⟩
  rw [f14_run]
  simp (disch := omega) only [gmk_of, mkL_node_ct, mkL_str_ct, cond_true]

noncomputable def q14 : List Dt → Option (Bool × List Dt)
  | [_, _, _, .d (.sl .str) a0, .d (.sl .node) a1, .d (.i .i64) a2] => some (((fun (a0 : List ByteArray) (a1 : List NodeT) (a2 : Int) => gmk a2 (ctL ct_str a0 + ctL ct_node a1)) a0 a1 a2), [.d (.i .i64) (mkL mk_node ((mkL mk_str a2 a0).2) a1).2, .d (.sl .str) (mkL mk_str a2 a0).1, .d (.sl .node) (mkL mk_node ((mkL mk_str a2 a0).2) a1).1])
  | _ => none
noncomputable def s14 : Gm.Spec := Gm.Spec.ofS [.skp, .skp, .skp, .«mut», .«mut»] [.ro] [false] q14
theorem good14 : Gm.Good Try.prog (14, s14) := by
  have hl : ∀ x ∈ [(22, s22), (41, s41)], Gm.Good Try.prog x := List.forall_mem_cons.2 ⟨good22, List.forall_mem_cons.2 ⟨good41, List.forall_mem_nil _⟩⟩
  refine ⟨⟨spec_okS (tab_ok.env hl) (tab.natl hl) Try.func14 (by kernel_rfl : Try.f14.body = some f14c) [3] (by kernel_rfl) ?_, _, Try.func14, by kernel_rfl, of_decide_eq_true (by kernel_rfl)⟩, Gm.Spec.ofS_natl _ _ _ _⟩
  intro ds outs h _
  unfold q14 at h
  split at h
  · simp only [Option.some.injEq, Prod.mk.injEq] at h; obtain ⟨hg, h⟩ := h; cases h; exact f14_spec _ _ _ _ _ _ hg
  · cases h
/-! ### loop.example/g00465/laws.markStringSS -/
noncomputable def f15c : Code := (Try.f15.body).getD .skip
def f15k : Nat → Kp := kat [⟨[0, 1], [], [], []⟩, ⟨[0, 1, 5], [], [], []⟩, ⟨[0, 1, 5, 9], [], [], []⟩, ⟨[0, 1, 5], [], [], []⟩, ⟨[0, 1, 5], [], [], []⟩, ⟨[0, 4], [], [], []⟩]
noncomputable def f15e : Env := tab.env [(22, s22)]
noncomputable def f15L0 {R : Type} (n : Nat) (x0 : Int → Int → Bool → (List (List ByteArray)) → Option R)  : Nat → Int → Int → (List (List ByteArray)) → Option R
  | 0, _, _, _ => none
  | m + 1, vs1, vs5, vr0 =>
    (cond (decide (vs5 < (vr0.length : Int)))
      (cond ((decide ((0 : Int) ≤ vs5)) && (decide (vs5 < (vr0.length : Int))))
        (cond ((fun (x : List ByteArray) (k : Int) => gmk k (ctL ct_str x)) (atI (t := (.sl .str)) vr0 (Int.toNat vs5)) vs1)
          (f15L0 n x0 m (mkL mk_str vs1 (atI (t := (.sl .str)) vr0 (Int.toNat vs5))).2 (IntKind.wrap .i64 (vs5 + (1 : Int))) (vr0.set (Int.toNat vs5) (mkL mk_str vs1 (atI (t := (.sl .str)) vr0 (Int.toNat vs5))).1))
          none)
        none)
      (x0 vs1 vs5 (decide (vs5 < (vr0.length : Int))) vr0))
theorem f15L0_b {R : Type} (n : Nat) (k' : Ex → St → Option R) (vs1 : Int) (vs5 : Int) (vr0 : List (List ByteArray)) : ev f15e f15k n (cAt [1,0,1,0,0] f15c) ⟨[(0, .c (.one (.h 0 0 0 []))), (1, .c (.one (.v (.int .i64 vs1)))), (5, .c (.one (.v (.int .i64 vs5))))], [], [(0, .live ⟨(.sl .str), .deep, 0, [], vr0⟩)]⟩ k' =
    (cond (decide (vs5 < (vr0.length : Int)))
    (cond ((decide ((0 : Int) ≤ vs5)) && (decide (vs5 < (vr0.length : Int))))
      (cond ((fun (x : List ByteArray) (k : Int) => gmk k (ctL ct_str x)) (atI (t := (.sl .str)) vr0 (Int.toNat vs5)) vs1)
        (k' .normal ⟨[(0, .c (.one (.h 0 0 0 []))), (1, .c (.one (.v (.int .i64 (mkL mk_str vs1 (atI (t := (.sl .str)) vr0 (Int.toNat vs5))).2)))), (5, .c (.one (.v (.int .i64 (IntKind.wrap .i64 (vs5 + (1 : Int)))))))], [], [(0, .live ⟨(.sl .str), .deep, 0, [], (vr0.set (Int.toNat vs5) (mkL mk_str vs1 (atI (t := (.sl .str)) vr0 (Int.toNat vs5))).1)⟩)]⟩)
        none)
      none)
    (k' (.exit 0) ⟨[(0, .c (.one (.h 0 0 0 []))), (1, .c (.one (.v (.int .i64 vs1)))), (5, .c (.one (.v (.int .i64 vs5)))), (9, .c (.one (.v (.bool (decide (vs5 < (vr0.length : Int)))))))], [], [(0, .live ⟨(.sl .str), .deep, 0, [], vr0⟩)]⟩)) := by kernel_rfl
theorem f15L0_eq {R : Type} (n : Nat) (k' : Ex → St → Option R)  : ∀ (m : Nat) (vs1 : Int) (vs5 : Int) (vr0 : List (List ByteArray)), iter (fun st k => ev f15e f15k n (cAt [1,0,1,0,0] f15c) st k) m ⟨[(0, .c (.one (.h 0 0 0 []))), (1, .c (.one (.v (.int .i64 vs1)))), (5, .c (.one (.v (.int .i64 vs5))))], [], [(0, .live ⟨(.sl .str), .deep, 0, [], vr0⟩)]⟩ k' = f15L0 n (fun (xvs1 : Int) (xvs5 : Int) (xvs9 : Bool) (xvr0 : List (List ByteArray)) => k' (.exit 0) ⟨[(0, .c (.one (.h 0 0 0 []))), (1, .c (.one (.v (.int .i64 xvs1)))), (5, .c (.one (.v (.int .i64 xvs5)))), (9, .c (.one (.v (.bool xvs9))))], [], [(0, .live ⟨(.sl .str), .deep, 0, [], xvr0⟩)]⟩) m vs1 vs5 vr0 := by
  intro m; induction m with
  | zero => intros; rfl
  | succ m ih =>
    intro vs1 vs5 vr0
    simp only [iter]
    rw [f15L0_b]
    simp only [ih, f15L0]

noncomputable def f15K0 {R : Type} (n : Nat) (k' : Ex → St → Option R) : Ex → St → Option R := (blockK 0 (seqK f15e f15k n (cAt [1,1] f15c) k'))
theorem f15K0_x0 {R : Type} (n : Nat) (k : List Dt → Option R) (a0 : List (List ByteArray)) (a1 : Int) (xvs1 : Int) (xvs5 : Int) (xvs9 : Bool) (xvr0 : List (List ByteArray)) : f15K0 n (exitK f15e [.«mut», .ro] [false] true [.tmp 4] [3] [.d (.sl (.sl .str)) a0, .d (.i .i64) a1] k) (.exit 0) ⟨[(0, .c (.one (.h 0 0 0 []))), (1, .c (.one (.v (.int .i64 xvs1)))), (5, .c (.one (.v (.int .i64 xvs5)))), (9, .c (.one (.v (.bool xvs9))))], [], [(0, .live ⟨(.sl .str), .deep, 0, [], xvr0⟩)]⟩ =
    (k [.d (.i .i64) xvs1, .d (.sl (.sl .str)) xvr0]) := by kernel_rfl

theorem f15_run {R : Type} (n : Nat) (k : List Dt → Option R) (a0 : List (List ByteArray)) (a1 : Int) : evFn f15e f15k n f15c [.«mut», .ro] [false] true [.tmp 4] [3] [.d (.sl (.sl .str)) a0, .d (.i .i64) a1] k =
    (f15L0 n (fun (xvs1 : Int) (xvs5 : Int) (xvs9 : Bool) (xvr0 : List (List ByteArray)) =>
    (k [.d (.i .i64) xvs1, .d (.sl (.sl .str)) xvr0])) n a1 (0 : Int) a0) := by
  refine Eq.trans (b := (iter (fun st k => ev f15e f15k n (cAt [1,0,1,0,0] f15c) st k) n ⟨[(0, .c (.one (.h 0 0 0 []))), (1, .c (.one (.v (.int .i64 a1)))), (5, .c (.one (.v (.int .i64 (0 : Int)))))], [], [(0, .live ⟨(.sl .str), .deep, 0, [], a0⟩)]⟩ (f15K0 n (exitK f15e [.«mut», .ro] [false] true [.tmp 4] [3] [.d (.sl (.sl .str)) a0, .d (.i .i64) a1] k)))) (by kernel_rfl) ?_
  simp only [f15L0_eq, f15K0_x0]
theorem f15_spec (a0 : List (List ByteArray)) (a1 : Int) (hg : gmkSS a0 a1 = true) : ∃ keep rounds, ∀ {R : Type} (k : List Dt → Option R), evFn f15e keep rounds f15c [.«mut», .ro] [false] true [.tmp 4] [3] [.d (.sl (.sl .str)) a0, .d (.i .i64) a1] k = k [.d (.i .i64) (mkL mk_strs a1 a0).2, .d (.sl (.sl .str)) (mkL mk_strs a1 a0).1] := by
  simp only [gmkSS, Bool.and_eq_true, gmk_iff] at hg
  obtain ⟨hl, hg⟩ := hg
  have nl := bleN hl
  refine ⟨f15k, a0.length + 1, fun {R} k => ?_⟩
  rw [f15_run]
  refine Eq.trans (loop_mark (F := fun m kk i l => f15L0 (a0.length + 1) _ m kk i l) (f := mk_strs) (c := ct_strs) (good := fun kk l => k [.d (.i .i64) kk, .d (.sl (.sl .str)) l]) (n := a0.length) mk_strs_ct
    (fun m kk j l x hx hln h0 hB => ?_) (fun m kk l hln => by simp only [f15L0, hln, idxE, cond_false]) a0 (a0.length + 1) a1 [] (by simp) (by omega) hg.1 hg.2) rfl
  obtain ⟨h1, h2, hw, ht⟩ := idx (lt_of_get hx) (by omega)
  have hB' : gmk kk (ctL ct_str x) = true := gmk_of h0 hB
  simp only [f15L0, h1, h2, hw, ht, atI_of (t := .sl .str) hx, hB', Bool.and_self, cond_true]
  rfl

noncomputable def q15 : List Dt → Option (Bool × List Dt)
  | [.d (.sl (.sl .str)) a0, .d (.i .i64) a1] => some ((gmkSS a0 a1), [.d (.i .i64) (mkL mk_strs a1 a0).2, .d (.sl (.sl .str)) (mkL mk_strs a1 a0).1])
  | _ => none
noncomputable def s15 : Gm.Spec := Gm.Spec.of [.«mut», .ro] [false] true q15
theorem good15 : Gm.Good Try.prog (15, s15) := by
  have hl : ∀ x ∈ [(22, s22)], Gm.Good Try.prog x := List.forall_mem_cons.2 ⟨good22, List.forall_mem_nil _⟩
  refine ⟨⟨spec_ok (tab_ok.env hl) (tab.natl hl) Try.func15 (by kernel_rfl : Try.f15.body = some f15c) [3] (by kernel_rfl) ?_, _, Try.func15, by kernel_rfl, of_decide_eq_true (by kernel_rfl)⟩, Gm.Spec.of_natl _ _ _ _⟩
  intro ds outs h
  unfold q15 at h
  split at h
  · simp only [Option.some.injEq, Prod.mk.injEq] at h; obtain ⟨hg, h⟩ := h; cases h; exact f15_spec _ _ hg
  · cases h
/-! ### loop.example/g00465/laws.heldStringS -/
noncomputable def f42c : Code := (Try.f42.body).getD .skip
def f42k : Nat → Kp := kat [⟨[0, 1], [], [], []⟩, ⟨[0, 1, 5], [], [], []⟩, ⟨[0, 1, 5, 9], [], [], []⟩, ⟨[0, 1, 5], [], [], []⟩, ⟨[0, 1, 5, 18], [], [], []⟩, ⟨[4], [], [], []⟩, ⟨[0, 1, 5], [], [], []⟩, ⟨[4], [], [], []⟩]
noncomputable def f42e : Env := tab.env [(47, s47)]
noncomputable def f42L0 {R : Type} (n : Nat) (x0 : Option R) (x1 : Int → Int → Bool → Option R) (vs0 : List ByteArray) : Nat → Int → Int → Option R
  | 0, _, _ => none
  | m + 1, vs1, vs5 =>
    (cond (decide (vs5 < (vs0.length : Int)))
      (cond ((decide ((0 : Int) ≤ vs5)) && (decide (vs5 < (vs0.length : Int))))
        (cond (okI vs1)
          (cond (!(sEq (atI (t := .str) vs0 (Int.toNat vs5)) (mkT vs1)))
            (x0)
            (f42L0 n x0 x1 vs0 m (IntKind.wrap .i64 (vs1 + (1 : Int))) (IntKind.wrap .i64 (vs5 + (1 : Int)))))
          none)
        none)
      (x1 vs1 vs5 (decide (vs5 < (vs0.length : Int)))))
theorem f42L0_b {R : Type} (n : Nat) (k' : Ex → St → Option R) (vs0 : List ByteArray) (vs1 : Int) (vs5 : Int) : ev f42e f42k n (cAt [1,0,1,0,0] f42c) ⟨[(0, .c (.one (.ro .str vs0))), (1, .c (.one (.v (.int .i64 vs1)))), (5, .c (.one (.v (.int .i64 vs5))))], [], []⟩ k' =
    (cond (decide (vs5 < (vs0.length : Int)))
    (cond ((decide ((0 : Int) ≤ vs5)) && (decide (vs5 < (vs0.length : Int))))
      (cond (okI vs1)
        (cond (!(sEq (atI (t := .str) vs0 (Int.toNat vs5)) (mkT vs1)))
          (k' .ret ⟨[(4, .c (.one (.v (.int .i64 (-1 : Int)))))], [], []⟩)
          (k' .normal ⟨[(0, .c (.one (.ro .str vs0))), (1, .c (.one (.v (.int .i64 (IntKind.wrap .i64 (vs1 + (1 : Int))))))), (5, .c (.one (.v (.int .i64 (IntKind.wrap .i64 (vs5 + (1 : Int)))))))], [], []⟩))
        none)
      none)
    (k' (.exit 0) ⟨[(0, .c (.one (.ro .str vs0))), (1, .c (.one (.v (.int .i64 vs1)))), (5, .c (.one (.v (.int .i64 vs5)))), (9, .c (.one (.v (.bool (decide (vs5 < (vs0.length : Int)))))))], [], []⟩)) := by kernel_rfl
theorem f42L0_eq {R : Type} (n : Nat) (k' : Ex → St → Option R) (vs0 : List ByteArray) : ∀ (m : Nat) (vs1 : Int) (vs5 : Int), iter (fun st k => ev f42e f42k n (cAt [1,0,1,0,0] f42c) st k) m ⟨[(0, .c (.one (.ro .str vs0))), (1, .c (.one (.v (.int .i64 vs1)))), (5, .c (.one (.v (.int .i64 vs5))))], [], []⟩ k' = f42L0 n (k' .ret ⟨[(4, .c (.one (.v (.int .i64 (-1 : Int)))))], [], []⟩) (fun (xvs1 : Int) (xvs5 : Int) (xvs9 : Bool) => k' (.exit 0) ⟨[(0, .c (.one (.ro .str vs0))), (1, .c (.one (.v (.int .i64 xvs1)))), (5, .c (.one (.v (.int .i64 xvs5)))), (9, .c (.one (.v (.bool xvs9))))], [], []⟩) vs0 m vs1 vs5 := by
  intro m; induction m with
  | zero => intros; rfl
  | succ m ih =>
    intro vs1 vs5
    simp only [iter]
    rw [f42L0_b]
    simp only [ih, f42L0]

noncomputable def f42K0 {R : Type} (n : Nat) (k' : Ex → St → Option R) : Ex → St → Option R := (blockK 0 (seqK f42e f42k n (cAt [1,1] f42c) k'))
theorem f42K0_x0 {R : Type} (n : Nat) (k : List Dt → Option R) (a0 : List ByteArray) (a1 : Int)  : f42K0 n (exitK f42e [.ro, .ro] [false] true [.tmp 4] [3] [.d (.sl .str) a0, .d (.i .i64) a1] k) .ret ⟨[(4, .c (.one (.v (.int .i64 (-1 : Int)))))], [], []⟩ =
    (k [.d (.i .i64) (-1 : Int)]) := by kernel_rfl
theorem f42K0_x1 {R : Type} (n : Nat) (k : List Dt → Option R) (a0 : List ByteArray) (a1 : Int) (vs0 : List ByteArray) (xvs1 : Int) (xvs5 : Int) (xvs9 : Bool) : f42K0 n (exitK f42e [.ro, .ro] [false] true [.tmp 4] [3] [.d (.sl .str) a0, .d (.i .i64) a1] k) (.exit 0) ⟨[(0, .c (.one (.ro .str vs0))), (1, .c (.one (.v (.int .i64 xvs1)))), (5, .c (.one (.v (.int .i64 xvs5)))), (9, .c (.one (.v (.bool xvs9))))], [], []⟩ =
    (k [.d (.i .i64) xvs1]) := by kernel_rfl

theorem f42_run {R : Type} (n : Nat) (k : List Dt → Option R) (a0 : List ByteArray) (a1 : Int) : evFn f42e f42k n f42c [.ro, .ro] [false] true [.tmp 4] [3] [.d (.sl .str) a0, .d (.i .i64) a1] k =
    (f42L0 n (k [.d (.i .i64) (-1 : Int)]) (fun (xvs1 : Int) (xvs5 : Int) (xvs9 : Bool) =>
    (k [.d (.i .i64) xvs1])) a0 n a1 (0 : Int)) := by
  refine Eq.trans (b := (iter (fun st k => ev f42e f42k n (cAt [1,0,1,0,0] f42c) st k) n ⟨[(0, .c (.one (.ro .str a0))), (1, .c (.one (.v (.int .i64 a1)))), (5, .c (.one (.v (.int .i64 (0 : Int)))))], [], []⟩ (f42K0 n (exitK f42e [.ro, .ro] [false] true [.tmp 4] [3] [.d (.sl .str) a0, .d (.i .i64) a1] k)))) (by kernel_rfl) ?_
  simp only [f42L0_eq, f42K0_x0, f42K0_x1]
theorem f42_spec (a0 : List ByteArray) (a1 : Int) (hg : gmk a1 (ctL ct_str a0) = true) : ∃ keep rounds, ∀ {R : Type} (k : List Dt → Option R), evFn f42e keep rounds f42c [.ro, .ro] [false] true [.tmp 4] [3] [.d (.sl .str) a0, .d (.i .i64) a1] k = k [.d (.i .i64) (hdL mk_str a1 a0)] := by
  rw [gmk_iff] at hg
  have hl := ctL_len ct_str_pos a0
  refine ⟨f42k, a0.length + 1, fun {R} k => ?_⟩
  rw [f42_run]
  refine Eq.trans (loop_held (xs := a0) (F := fun m kk i => f42L0 (a0.length + 1) _ _ a0 m kk i) (f := mk_str) (c := ct_str) (good := fun kk => k [.d (.i .i64) kk]) (bad := k [.d (.i .i64) (-1 : Int)]) mk_str_ct
    (fun m kk j x hx h0 hB => ?_) (fun m kk => by simp only [f42L0, idxE, cond_false]) a0.length 0 (a0.length + 1) a1 (by omega) (by omega) hg.1 (by rw [List.drop_zero]; exact hg.2)) ?_
  · obtain ⟨h1, h2, _, ht⟩ := idx (lt_of_get hx) (by omega)
    have hj := lt_of_get hx
    simp only [ct_str] at hB
    simp (disch := omega) only [f42L0, h1, h2, ht, atI_of (t := .str) hx, wrap_id, gmk_of, okI_of, mk_str, eqD_str, Bool.cond_not, cond_and, bne, decide_ge0, decide_m1, cond_true, cond_false, Bool.cond_self, Bool.and_self]
  · rw [List.drop_zero]
    show _ = k [.d (.i .i64) (hdL mk_str a1 a0)]
    unfold hdL
    cases eqD a0 (mkL mk_str a1 a0).1 <;> rfl

noncomputable def q42 : List Dt → Option (Bool × List Dt)
  | [.d (.sl .str) a0, .d (.i .i64) a1] => some (((fun (x : List ByteArray) (k : Int) => gmk k (ctL ct_str x)) a0 a1), [.d (.i .i64) (hdL mk_str a1 a0)])
  | _ => none
noncomputable def s42 : Gm.Spec := Gm.Spec.of [.ro, .ro] [false] true q42
theorem good42 : Gm.Good Try.prog (42, s42) := by
  have hl : ∀ x ∈ [(47, s47)], Gm.Good Try.prog x := List.forall_mem_cons.2 ⟨good47, List.forall_mem_nil _⟩
  refine ⟨⟨spec_ok (tab_ok.env hl) (tab.natl hl) Try.func42 (by kernel_rfl : Try.f42.body = some f42c) [3] (by kernel_rfl) ?_, _, Try.func42, by kernel_rfl, of_decide_eq_true (by kernel_rfl)⟩, Gm.Spec.of_natl _ _ _ _⟩
  intro ds outs h
  unfold q42 at h
  split at h
  · simp only [Option.some.injEq, Prod.mk.injEq] at h; obtain ⟨hg, h⟩ := h; cases h; exact f42_spec _ _ hg
  · cases h
/-! ### loop.example/g00465/laws.heldStringSS -/
noncomputable def f16c : Code := (Try.f16.body).getD .skip
def f16k : Nat → Kp := kat [⟨[0, 1], [], [], []⟩, ⟨[0, 1, 5], [], [], []⟩, ⟨[0, 1, 5, 9], [], [], []⟩, ⟨[0, 1, 5], [], [], []⟩, ⟨[0, 1, 5], [], [], []⟩, ⟨[0, 1, 5, 19], [], [], []⟩, ⟨[4], [], [], []⟩, ⟨[4], [], [], []⟩]
noncomputable def f16e : Env := tab.env [(42, s42)]
noncomputable def f16L0 {R : Type} (n : Nat) (x0 : Option R) (x1 : Int → Int → Bool → Option R) (vs0 : List (List ByteArray)) : Nat → Int → Int → Option R
  | 0, _, _ => none
  | m + 1, vs1, vs5 =>
    (cond (decide (vs5 < (vs0.length : Int)))
      (cond ((decide ((0 : Int) ≤ vs5)) && (decide (vs5 < (vs0.length : Int))))
        (cond ((fun (x : List ByteArray) (k : Int) => gmk k (ctL ct_str x)) (atI (t := (.sl .str)) vs0 (Int.toNat vs5)) vs1)
          (cond (decide ((hdL mk_str vs1 (atI (t := (.sl .str)) vs0 (Int.toNat vs5))) < (0 : Int)))
            (x0)
            (f16L0 n x0 x1 vs0 m (hdL mk_str vs1 (atI (t := (.sl .str)) vs0 (Int.toNat vs5))) (IntKind.wrap .i64 (vs5 + (1 : Int)))))
          none)
        none)
      (x1 vs1 vs5 (decide (vs5 < (vs0.length : Int)))))
theorem f16L0_b {R : Type} (n : Nat) (k' : Ex → St → Option R) (vs0 : List (List ByteArray)) (vs1 : Int) (vs5 : Int) : ev f16e f16k n (cAt [1,0,1,0,0] f16c) ⟨[(0, .c (.one (.ro (.sl .str) vs0))), (1, .c (.one (.v (.int .i64 vs1)))), (5, .c (.one (.v (.int .i64 vs5))))], [], []⟩ k' =
    (cond (decide (vs5 < (vs0.length : Int)))
    (cond ((decide ((0 : Int) ≤ vs5)) && (decide (vs5 < (vs0.length : Int))))
      (cond ((fun (x : List ByteArray) (k : Int) => gmk k (ctL ct_str x)) (atI (t := (.sl .str)) vs0 (Int.toNat vs5)) vs1)
        (cond (decide ((hdL mk_str vs1 (atI (t := (.sl .str)) vs0 (Int.toNat vs5))) < (0 : Int)))
          (k' .ret ⟨[(4, .c (.one (.v (.int .i64 (-1 : Int)))))], [], []⟩)
          (k' .normal ⟨[(0, .c (.one (.ro (.sl .str) vs0))), (1, .c (.one (.v (.int .i64 (hdL mk_str vs1 (atI (t := (.sl .str)) vs0 (Int.toNat vs5))))))), (5, .c (.one (.v (.int .i64 (IntKind.wrap .i64 (vs5 + (1 : Int)))))))], [], []⟩))
        none)
      none)
    (k' (.exit 0) ⟨[(0, .c (.one (.ro (.sl .str) vs0))), (1, .c (.one (.v (.int .i64 vs1)))), (5, .c (.one (.v (.int .i64 vs5)))), (9, .c (.one (.v (.bool (decide (vs5 < (vs0.length : Int)))))))], [], []⟩)) := by kernel_rfl
theorem f16L0_eq {R : Type} (n : Nat) (k' : Ex → St → Option R) (vs0 : List (List ByteArray)) : ∀ (m : Nat) (vs1 : Int) (vs5 : Int), iter (fun st k => ev f16e f16k n (cAt [1,0,1,0,0] f16c) st k) m ⟨[(0, .c (.one (.ro (.sl .str) vs0))), (1, .c (.one (.v (.int .i64 vs1)))), (5, .c (.one (.v (.int .i64 vs5))))], [], []⟩ k' = f16L0 n (k' .ret ⟨[(4, .c (.one (.v (.int .i64 (-1 : Int)))))], [], []⟩) (fun (xvs1 : Int) (xvs5 : Int) (xvs9 : Bool) => k' (.exit 0) ⟨[(0, .c (.one (.ro (.sl .str) vs0))), (1, .c (.one (.v (.int .i64 xvs1)))), (5, .c (.one (.v (.int .i64 xvs5)))), (9, .c (.one (.v (.bool xvs9))))], [], []⟩) vs0 m vs1 vs5 := by
  intro m; induction m with
  | zero => intros; rfl
  | succ m ih =>
    intro vs1 vs5
    simp only [iter]
    rw [f16L0_b]
    simp only [ih, f16L0]

noncomputable def f16K0 {R : Type} (n : Nat) (k' : Ex → St → Option R) : Ex → St → Option R := (blockK 0 (seqK f16e f16k n (cAt [1,1] f16c) k'))
theorem f16K0_x0 {R : Type} (n : Nat) (k : List Dt → Option R) (a0 : List (List ByteArray)) (a1 : Int)  : f16K0 n (exitK f16e [.ro, .ro] [false] true [.tmp 4] [3] [.d (.sl (.sl .str)) a0, .d (.i .i64) a1] k) .ret ⟨[(4, .c (.one (.v (.int .i64 (-1 : Int)))))], [], []⟩ =
    (k [.d (.i .i64) (-1 : Int)]) := by kernel_rfl
theorem f16K0_x1 {R : Type} (n : Nat) (k : List Dt → Option R) (a0 : List (List ByteArray)) (a1 : Int) (vs0 : List (List ByteArray)) (xvs1 : Int) (xvs5 : Int) (xvs9 : Bool) : f16K0 n (exitK f16e [.ro, .ro] [false] true [.tmp 4] [3] [.d (.sl (.sl .str)) a0, .d (.i .i64) a1] k) (.exit 0) ⟨[(0, .c (.one (.ro (.sl .str) vs0))), (1, .c (.one (.v (.int .i64 xvs1)))), (5, .c (.one (.v (.int .i64 xvs5)))), (9, .c (.one (.v (.bool xvs9))))], [], []⟩ =
    (k [.d (.i .i64) xvs1]) := by kernel_rfl

theorem f16_run {R : Type} (n : Nat) (k : List Dt → Option R) (a0 : List (List ByteArray)) (a1 : Int) : evFn f16e f16k n f16c [.ro, .ro] [false] true [.tmp 4] [3] [.d (.sl (.sl .str)) a0, .d (.i .i64) a1] k =
    (f16L0 n (k [.d (.i .i64) (-1 : Int)]) (fun (xvs1 : Int) (xvs5 : Int) (xvs9 : Bool) =>
    (k [.d (.i .i64) xvs1])) a0 n a1 (0 : Int)) := by
  refine Eq.trans (b := (iter (fun st k => ev f16e f16k n (cAt [1,0,1,0,0] f16c) st k) n ⟨[(0, .c (.one (.ro (.sl .str) a0))), (1, .c (.one (.v (.int .i64 a1)))), (5, .c (.one (.v (.int .i64 (0 : Int)))))], [], []⟩ (f16K0 n (exitK f16e [.ro, .ro] [false] true [.tmp 4] [3] [.d (.sl (.sl .str)) a0, .d (.i .i64) a1] k)))) (by kernel_rfl) ?_
  simp only [f16L0_eq, f16K0_x0, f16K0_x1]
theorem f16_spec (a0 : List (List ByteArray)) (a1 : Int) (hg : gmkSS a0 a1 = true) : ∃ keep rounds, ∀ {R : Type} (k : List Dt → Option R), evFn f16e keep rounds f16c [.ro, .ro] [false] true [.tmp 4] [3] [.d (.sl (.sl .str)) a0, .d (.i .i64) a1] k = k [.d (.i .i64) (hdL mk_strs a1 a0)] := by
  simp only [gmkSS, Bool.and_eq_true, gmk_iff] at hg
  obtain ⟨hl, hg⟩ := hg
  have nl := bleN hl
  refine ⟨f16k, a0.length + 1, fun {R} k => ?_⟩
  rw [f16_run]
  refine Eq.trans (loop_held (xs := a0) (F := fun m kk i => f16L0 (a0.length + 1) _ _ a0 m kk i) (f := mk_strs) (c := ct_strs) (good := fun kk => k [.d (.i .i64) kk]) (bad := k [.d (.i .i64) (-1 : Int)]) mk_strs_ct
    (fun m kk j x hx h0 hB => ?_) (fun m kk => by simp only [f16L0, idxE, cond_false]) a0.length 0 (a0.length + 1) a1 (by omega) (by omega) hg.1 (by rw [List.drop_zero]; exact hg.2)) ?_
  · obtain ⟨h1, h2, hw, ht⟩ := idx (lt_of_get hx) (by omega)
    have hB' : gmk kk (ctL ct_str x) = true := gmk_of h0 hB
    simp only [f16L0, h1, h2, hw, ht, atI_of (t := .sl .str) hx, hB', Bool.and_self, cond_true]
    show _ = cond (eqD x (mkL mk_str kk x).1) (f16L0 (a0.length + 1) _ _ a0 m (mkL mk_str kk x).2 ((j : Int) + 1)) _
    rcases hdL_cases mk_str kk x with ⟨q, v⟩ | ⟨q, v⟩
    · rw [q, v, decide_eq_false (show ¬ ((mkL mk_str kk x).2 < 0) by rw [mkL_str_ct]; omega)]
      simp only [cond_true, cond_false]
      rfl
    · rw [q, v]; rfl
  · rw [List.drop_zero]
    show _ = k [.d (.i .i64) (hdL mk_strs a1 a0)]
    unfold hdL
    cases eqD a0 (mkL mk_strs a1 a0).1 <;> rfl

noncomputable def q16 : List Dt → Option (Bool × List Dt)
  | [.d (.sl (.sl .str)) a0, .d (.i .i64) a1] => some ((gmkSS a0 a1), [.d (.i .i64) (hdL mk_strs a1 a0)])
  | _ => none
noncomputable def s16 : Gm.Spec := Gm.Spec.of [.ro, .ro] [false] true q16
theorem good16 : Gm.Good Try.prog (16, s16) := by
  have hl : ∀ x ∈ [(42, s42)], Gm.Good Try.prog x := List.forall_mem_cons.2 ⟨good42, List.forall_mem_nil _⟩
  refine ⟨⟨spec_ok (tab_ok.env hl) (tab.natl hl) Try.func16 (by kernel_rfl : Try.f16.body = some f16c) [3] (by kernel_rfl) ?_, _, Try.func16, by kernel_rfl, of_decide_eq_true (by kernel_rfl)⟩, Gm.Spec.of_natl _ _ _ _⟩
  intro ds outs h
  unfold q16 at h
  split at h
  · simp only [Option.some.injEq, Prod.mk.injEq] at h; obtain ⟨hg, h⟩ := h; cases h; exact f16_spec _ _ hg
  · cases h
noncomputable def q48 : List Dt → Option (Bool × List Dt)
  | [.d (.sl .node) a0, .d (.i .i64) a1] => some (((fun (x : List NodeT) (k : Int) => gmk k (ctL ct_node x)) a0 a1), [.d (.i .i64) (hdL mk_node a1 a0)])
  | _ => none
noncomputable def mu48 : List Dt → Nat
  | [.d (.sl .node) a0, .d (.i .i64) a1] => mmL_node a0 a1
  | _ => 0
noncomputable def s48r (N : Nat) : Gm.Spec := Gm.Spec.of [.ro, .ro] [false] true (qlt mu48 N q48)
/-! ### loop.example/g00465/laws.heldNodeS -/
noncomputable def f48c : Code := (Try.f48.body).getD .skip
def f48k : Nat → Kp := kat [⟨[0, 1], [], [], []⟩, ⟨[0, 1, 5], [], [], []⟩, ⟨[0, 1, 5, 9], [], [], []⟩, ⟨[0, 1, 5], [], [], []⟩, ⟨[0, 1, 5, 18], [], [], []⟩, ⟨[4], [], [], []⟩, ⟨[0, 1, 5], [], [], []⟩, ⟨[0, 1, 5, 27], [], [], []⟩, ⟨[4], [], [], []⟩, ⟨[0, 1, 5], [], [], []⟩, ⟨[0, 1, 5, 37], [], [], []⟩, ⟨[4], [], [], []⟩, ⟨[0, 1, 5], [], [], []⟩, ⟨[0, 1, 5], [], [], []⟩, ⟨[0, 1, 5, 48], [], [], []⟩, ⟨[4], [], [], []⟩, ⟨[0, 1, 5], [], [], []⟩, ⟨[0, 1, 5, 57], [], [], []⟩, ⟨[4], [], [], []⟩, ⟨[4], [], [], []⟩]
noncomputable def f48e (N : Nat) : Env := tab.env [(42, s42), (47, s47), (48, s48r N)]
noncomputable def f48L0 {R : Type} (N : Nat) (n : Nat) (x0 : Option R) (x1 : Int → Int → Bool → Option R) (vs0 : List NodeT) : Nat → Int → Int → Option R
  | 0, _, _ => none
  | m + 1, vs1, vs5 =>
    (cond (decide (vs5 < (vs0.length : Int)))
      (cond ((decide ((0 : Int) ≤ vs5)) && (decide (vs5 < (vs0.length : Int))))
        (cond ((NodeT.kind (atI (t := .node) vs0 (Int.toNat vs5))) != vs1)
          (x0)
          (cond ((decide ((0 : Int) ≤ vs5)) && (decide (vs5 < (vs0.length : Int))))
            (cond ((NodeT.n (atI (t := .node) vs0 (Int.toNat vs5))) != (IntKind.wrap .i64 (vs1 + (1 : Int))))
              (x0)
              (cond ((decide ((0 : Int) ≤ vs5)) && (decide (vs5 < (vs0.length : Int))))
                (cond (okI (IntKind.wrap .i64 ((IntKind.wrap .i64 (vs1 + (1 : Int))) + (1 : Int))))
                  (cond (!(sEq (NodeT.s (atI (t := .node) vs0 (Int.toNat vs5))) (mkT (IntKind.wrap .i64 ((IntKind.wrap .i64 (vs1 + (1 : Int))) + (1 : Int))))))
                    (x0)
                    (cond ((decide ((0 : Int) ≤ vs5)) && (decide (vs5 < (vs0.length : Int))))
                      (cond ((fun (x : List ByteArray) (k : Int) => gmk k (ctL ct_str x)) (NodeT.keys (atI (t := .node) vs0 (Int.toNat vs5))) (IntKind.wrap .i64 ((IntKind.wrap .i64 ((IntKind.wrap .i64 (vs1 + (1 : Int))) + (1 : Int))) + (1 : Int))))
                        (cond (decide ((hdL mk_str (IntKind.wrap .i64 ((IntKind.wrap .i64 ((IntKind.wrap .i64 (vs1 + (1 : Int))) + (1 : Int))) + (1 : Int))) (NodeT.keys (atI (t := .node) vs0 (Int.toNat vs5)))) < (0 : Int)))
                          (x0)
                          (cond ((decide ((0 : Int) ≤ vs5)) && (decide (vs5 < (vs0.length : Int))))
                            (cond (((fun (x : List NodeT) (k : Int) => gmk k (ctL ct_node x)) (NodeT.kids (atI (t := .node) vs0 (Int.toNat vs5))) (hdL mk_str (IntKind.wrap .i64 ((IntKind.wrap .i64 ((IntKind.wrap .i64 (vs1 + (1 : Int))) + (1 : Int))) + (1 : Int))) (NodeT.keys (atI (t := .node) vs0 (Int.toNat vs5))))) && (Nat.blt (mmL_node (NodeT.kids (atI (t := .node) vs0 (Int.toNat vs5))) (hdL mk_str (IntKind.wrap .i64 ((IntKind.wrap .i64 ((IntKind.wrap .i64 (vs1 + (1 : Int))) + (1 : Int))) + (1 : Int))) (NodeT.keys (atI (t := .node) vs0 (Int.toNat vs5))))) N))
                              (cond (decide ((hdL mk_node (hdL mk_str (IntKind.wrap .i64 ((IntKind.wrap .i64 ((IntKind.wrap .i64 (vs1 + (1 : Int))) + (1 : Int))) + (1 : Int))) (NodeT.keys (atI (t := .node) vs0 (Int.toNat vs5)))) (NodeT.kids (atI (t := .node) vs0 (Int.toNat vs5)))) < (0 : Int)))
                                (x0)
                                (f48L0 N n x0 x1 vs0 m (hdL mk_node (hdL mk_str (IntKind.wrap .i64 ((IntKind.wrap .i64 ((IntKind.wrap .i64 (vs1 + (1 : Int))) + (1 : Int))) + (1 : Int))) (NodeT.keys (atI (t := .node) vs0 (Int.toNat vs5)))) (NodeT.kids (atI (t := .node) vs0 (Int.toNat vs5)))) (IntKind.wrap .i64 (vs5 + (1 : Int)))))
                              none)
                            none))
                        none)
                      none))
                  none)
                none))
            none))
        none)
      (x1 vs1 vs5 (decide (vs5 < (vs0.length : Int)))))
theorem f48L0_b {R : Type} (N : Nat) (n : Nat) (k' : Ex → St → Option R) (vs0 : List NodeT) (vs1 : Int) (vs5 : Int) : ev (f48e N) f48k n (cAt [1,0,1,0,0] f48c) ⟨[(0, .c (.one (.ro .node vs0))), (1, .c (.one (.v (.int .i64 vs1)))), (5, .c (.one (.v (.int .i64 vs5))))], [], []⟩ k' =
    (cond (decide (vs5 < (vs0.length : Int)))
    (cond ((decide ((0 : Int) ≤ vs5)) && (decide (vs5 < (vs0.length : Int))))
      (cond ((NodeT.kind (atI (t := .node) vs0 (Int.toNat vs5))) != vs1)
        (k' .ret ⟨[(4, .c (.one (.v (.int .i64 (-1 : Int)))))], [], []⟩)
        (cond ((decide ((0 : Int) ≤ vs5)) && (decide (vs5 < (vs0.length : Int))))
          (cond ((NodeT.n (atI (t := .node) vs0 (Int.toNat vs5))) != (IntKind.wrap .i64 (vs1 + (1 : Int))))
            (k' .ret ⟨[(4, .c (.one (.v (.int .i64 (-1 : Int)))))], [], []⟩)
            (cond ((decide ((0 : Int) ≤ vs5)) && (decide (vs5 < (vs0.length : Int))))
              (cond (okI (IntKind.wrap .i64 ((IntKind.wrap .i64 (vs1 + (1 : Int))) + (1 : Int))))
                (cond (!(sEq (NodeT.s (atI (t := .node) vs0 (Int.toNat vs5))) (mkT (IntKind.wrap .i64 ((IntKind.wrap .i64 (vs1 + (1 : Int))) + (1 : Int))))))
                  (k' .ret ⟨[(4, .c (.one (.v (.int .i64 (-1 : Int)))))], [], []⟩)
                  (cond ((decide ((0 : Int) ≤ vs5)) && (decide (vs5 < (vs0.length : Int))))
                    (cond ((fun (x : List ByteArray) (k : Int) => gmk k (ctL ct_str x)) (NodeT.keys (atI (t := .node) vs0 (Int.toNat vs5))) (IntKind.wrap .i64 ((IntKind.wrap .i64 ((IntKind.wrap .i64 (vs1 + (1 : Int))) + (1 : Int))) + (1 : Int))))
                      (cond (decide ((hdL mk_str (IntKind.wrap .i64 ((IntKind.wrap .i64 ((IntKind.wrap .i64 (vs1 + (1 : Int))) + (1 : Int))) + (1 : Int))) (NodeT.keys (atI (t := .node) vs0 (Int.toNat vs5)))) < (0 : Int)))
                        (k' .ret ⟨[(4, .c (.one (.v (.int .i64 (-1 : Int)))))], [], []⟩)
                        (cond ((decide ((0 : Int) ≤ vs5)) && (decide (vs5 < (vs0.length : Int))))
                          (cond (((fun (x : List NodeT) (k : Int) => gmk k (ctL ct_node x)) (NodeT.kids (atI (t := .node) vs0 (Int.toNat vs5))) (hdL mk_str (IntKind.wrap .i64 ((IntKind.wrap .i64 ((IntKind.wrap .i64 (vs1 + (1 : Int))) + (1 : Int))) + (1 : Int))) (NodeT.keys (atI (t := .node) vs0 (Int.toNat vs5))))) && (Nat.blt (mmL_node (NodeT.kids (atI (t := .node) vs0 (Int.toNat vs5))) (hdL mk_str (IntKind.wrap .i64 ((IntKind.wrap .i64 ((IntKind.wrap .i64 (vs1 + (1 : Int))) + (1 : Int))) + (1 : Int))) (NodeT.keys (atI (t := .node) vs0 (Int.toNat vs5))))) N))
                            (cond (decide ((hdL mk_node (hdL mk_str (IntKind.wrap .i64 ((IntKind.wrap .i64 ((IntKind.wrap .i64 (vs1 + (1 : Int))) + (1 : Int))) + (1 : Int))) (NodeT.keys (atI (t := .node) vs0 (Int.toNat vs5)))) (NodeT.kids (atI (t := .node) vs0 (Int.toNat vs5)))) < (0 : Int)))
                              (k' .ret ⟨[(4, .c (.one (.v (.int .i64 (-1 : Int)))))], [], []⟩)
                              (k' .normal ⟨[(0, .c (.one (.ro .node vs0))), (1, .c (.one (.v (.int .i64 (hdL mk_node (hdL mk_str (IntKind.wrap .i64 ((IntKind.wrap .i64 ((IntKind.wrap .i64 (vs1 + (1 : Int))) + (1 : Int))) + (1 : Int))) (NodeT.keys (atI (t := .node) vs0 (Int.toNat vs5)))) (NodeT.kids (atI (t := .node) vs0 (Int.toNat vs5)))))))), (5, .c (.one (.v (.int .i64 (IntKind.wrap .i64 (vs5 + (1 : Int)))))))], [], []⟩))
                            none)
                          none))
                      none)
                    none))
                none)
              none))
          none))
      none)
    (k' (.exit 0) ⟨[(0, .c (.one (.ro .node vs0))), (1, .c (.one (.v (.int .i64 vs1)))), (5, .c (.one (.v (.int .i64 vs5)))), (9, .c (.one (.v (.bool (decide (vs5 < (vs0.length : Int)))))))], [], []⟩)) := by kernel_rfl
theorem f48L0_eq {R : Type} (N : Nat) (n : Nat) (k' : Ex → St → Option R) (vs0 : List NodeT) : ∀ (m : Nat) (vs1 : Int) (vs5 : Int), iter (fun st k => ev (f48e N) f48k n (cAt [1,0,1,0,0] f48c) st k) m ⟨[(0, .c (.one (.ro .node vs0))), (1, .c (.one (.v (.int .i64 vs1)))), (5, .c (.one (.v (.int .i64 vs5))))], [], []⟩ k' = f48L0 N n (k' .ret ⟨[(4, .c (.one (.v (.int .i64 (-1 : Int)))))], [], []⟩) (fun (xvs1 : Int) (xvs5 : Int) (xvs9 : Bool) => k' (.exit 0) ⟨[(0, .c (.one (.ro .node vs0))), (1, .c (.one (.v (.int .i64 xvs1)))), (5, .c (.one (.v (.int .i64 xvs5)))), (9, .c (.one (.v (.bool xvs9))))], [], []⟩) vs0 m vs1 vs5 := by
  intro m; induction m with
  | zero => intros; rfl
  | succ m ih =>
    intro vs1 vs5
    simp only [iter]
    rw [f48L0_b]
    simp only [ih, f48L0]

noncomputable def f48K0 {R : Type} (N : Nat) (n : Nat) (k' : Ex → St → Option R) : Ex → St → Option R := (blockK 0 (seqK (f48e N) f48k n (cAt [1,1] f48c) k'))
theorem f48K0_x0 {R : Type} (N : Nat) (n : Nat) (k : List Dt → Option R) (a0 : List NodeT) (a1 : Int)  : f48K0 N n (exitK (f48e N) [.ro, .ro] [false] true [.tmp 4] [3] [.d (.sl .node) a0, .d (.i .i64) a1] k) .ret ⟨[(4, .c (.one (.v (.int .i64 (-1 : Int)))))], [], []⟩ =
    (k [.d (.i .i64) (-1 : Int)]) := by kernel_rfl
theorem f48K0_x1 {R : Type} (N : Nat) (n : Nat) (k : List Dt → Option R) (a0 : List NodeT) (a1 : Int) (vs0 : List NodeT) (xvs1 : Int) (xvs5 : Int) (xvs9 : Bool) : f48K0 N n (exitK (f48e N) [.ro, .ro] [false] true [.tmp 4] [3] [.d (.sl .node) a0, .d (.i .i64) a1] k) (.exit 0) ⟨[(0, .c (.one (.ro .node vs0))), (1, .c (.one (.v (.int .i64 xvs1)))), (5, .c (.one (.v (.int .i64 xvs5)))), (9, .c (.one (.v (.bool xvs9))))], [], []⟩ =
    (k [.d (.i .i64) xvs1]) := by kernel_rfl

theorem f48_run {R : Type} (N : Nat) (n : Nat) (k : List Dt → Option R) (a0 : List NodeT) (a1 : Int) : evFn (f48e N) f48k n f48c [.ro, .ro] [false] true [.tmp 4] [3] [.d (.sl .node) a0, .d (.i .i64) a1] k =
    (f48L0 N n (k [.d (.i .i64) (-1 : Int)]) (fun (xvs1 : Int) (xvs5 : Int) (xvs9 : Bool) =>
    (k [.d (.i .i64) xvs1])) a0 n a1 (0 : Int)) := by
  refine Eq.trans (b := (iter (fun st k => ev (f48e N) f48k n (cAt [1,0,1,0,0] f48c) st k) n ⟨[(0, .c (.one (.ro .node a0))), (1, .c (.one (.v (.int .i64 a1)))), (5, .c (.one (.v (.int .i64 (0 : Int)))))], [], []⟩ (f48K0 N n (exitK (f48e N) [.ro, .ro] [false] true [.tmp 4] [3] [.d (.sl .node) a0, .d (.i .i64) a1] k)))) (by kernel_rfl) ?_
  simp only [f48L0_eq, f48K0_x0, f48K0_x1]
theorem f48_spec (N : Nat) (a0 : List NodeT) (a1 : Int) (hg : gmk a1 (ctL ct_node a0) = true) (hm : mu48 [.d (.sl .node) a0, .d (.i .i64) a1] = N) : ∃ keep rounds, ∀ {R : Type} (k : List Dt → Option R), evFn (f48e N) keep rounds f48c [.ro, .ro] [false] true [.tmp 4] [3] [.d (.sl .node) a0, .d (.i .i64) a1] k = k [.d (.i .i64) (hdL mk_node a1 a0)] := by
  have hm : mmL_node a0 a1 = N := hm
  subst hm
  rw [gmk_iff] at hg
  have hl := ctL_len ct_node_pos a0
  refine ⟨f48k, a0.length + 1, fun {R} k => ?_⟩
  rw [f48_run]
  refine Eq.trans (loop_held (xs := a0) (F := fun m kk i => f48L0 (mmL_node a0 a1) (a0.length + 1) _ _ a0 m kk i) (f := mk_node) (c := ct_node) (good := fun kk => k [.d (.i .i64) kk]) (bad := k [.d (.i .i64) (-1 : Int)]) mk_node_ct
    (fun m kk j x hx h0 hB => ?_) (fun m kk => by simp only [f48L0, idxE, cond_false]) a0.length 0 (a0.length + 1) a1 (by omega) (by omega) hg.1 (by rw [List.drop_zero]; exact hg.2)) ?_
  · obtain ⟨h1, h2, _, ht⟩ := idx (lt_of_get hx) (by omega)
    have hj := lt_of_get hx
    have hb : ∀ q, Nat.blt (mmL_node x.kids q) (mmL_node a0 a1) = true := fun q => by
      have := ndL_mem (f := nd_node) (List.mem_of_getElem? hx)
      rw [nd_node_def] at this
      rw [Nat.blt_eq]; simp only [mmL_node]; omega
    rw [ct_node_def] at hB
    rcases hdL_cases mk_str (kk + 1 + 1 + 1) x.keys with ⟨q0, v0⟩ | ⟨q0, v0⟩ <;>
    rcases hdL_cases mk_node ((mkL mk_str (kk + 1 + 1 + 1) x.keys).2) x.kids with ⟨q1, v1⟩ | ⟨q1, v1⟩ <;>
    simp (disch := omega) only [mkL_node_ct, mkL_str_ct] at q0 v0 q1 v1 <;>
    simp (disch := omega) only [f48L0, h1, h2, ht, atI_of (t := .node) hx, wrap_id, gmk_of, okI_of, mk_node_def, mkL_node_ct, mkL_str_ct, eqD_node, hb, Bool.cond_not, cond_and, bne, decide_ge0, decide_m1, cond_true, cond_false, Bool.cond_self, q0, v0, q1, v1, Bool.and_self]
  · rw [List.drop_zero]
    show _ = k [.d (.i .i64) (hdL mk_node a1 a0)]
    unfold hdL
    cases eqD a0 (mkL mk_node a1 a0).1 <;> rfl

noncomputable def s48 : Gm.Spec := Gm.Spec.of [.ro, .ro] [false] true q48
theorem good48 : Gm.Good Try.prog (48, s48) := by
  refine ⟨⟨spec_rec mu48 fun N hr => ?_, _, Try.func48, by kernel_rfl, of_decide_eq_true (by kernel_rfl)⟩, Gm.Spec.of_natl _ _ _ _⟩
  have hl : ∀ x ∈ [(42, s42), (47, s47), (48, s48r N)], Gm.Good Try.prog x := List.forall_mem_cons.2 ⟨good42, List.forall_mem_cons.2 ⟨good47, List.forall_mem_cons.2 ⟨⟨⟨hr, _, Try.func48, by kernel_rfl, of_decide_eq_true (by kernel_rfl)⟩, Gm.Spec.of_natl _ _ _ _⟩, List.forall_mem_nil _⟩⟩⟩
  intro R
  refine spec_ok (E := f48e N) (tab_ok.env hl) (tab.natl hl) Try.func48 (by kernel_rfl : Try.f48.body = some f48c) [3] (by kernel_rfl) ?_
  intro ds outs h
  obtain ⟨h, hm⟩ := qeq_some h
  unfold q48 at h
  split at h
  · simp only [Option.some.injEq, Prod.mk.injEq] at h; obtain ⟨hg, h⟩ := h; cases h; exact f48_spec N _ _ hg hm
  · cases h
/-! ### loop.example/g00465/laws.heldNode -/
noncomputable def f23c : Code := (Try.f23.body).getD .skip
def f23k : Nat → Kp := kat [⟨[1, 2], [], [], []⟩, ⟨[1, 2], [], [], []⟩, ⟨[1, 2, 10], [], [], []⟩, ⟨[4], [], [], []⟩, ⟨[1], [], [], []⟩, ⟨[1, 16], [], [], []⟩, ⟨[4], [], [], []⟩, ⟨[4], [], [], []⟩]
noncomputable def f23e : Env := tab.env [(42, s42), (48, s48)]
theorem f23_run {R : Type} (n : Nat) (k : List Dt → Option R) (a0 : NodeT) (a1 : Int) : evFn f23e f23k n f23c [.ro, .ro] [false] true [.tmp 4] [3] [.d .node a0, .d (.i .i64) a1] k =
    (cond ((fun (x : List ByteArray) (k : Int) => gmk k (ctL ct_str x)) (NodeT.keys a0) a1)
    (cond (decide ((hdL mk_str a1 (NodeT.keys a0)) < (0 : Int)))
      (k [.d (.i .i64) (-1 : Int)])
      (cond ((fun (x : List NodeT) (k : Int) => gmk k (ctL ct_node x)) (NodeT.kids a0) (hdL mk_str a1 (NodeT.keys a0)))
        (cond (decide ((hdL mk_node (hdL mk_str a1 (NodeT.keys a0)) (NodeT.kids a0)) < (0 : Int)))
          (k [.d (.i .i64) (-1 : Int)])
          (k [.d (.i .i64) (hdL mk_node (hdL mk_str a1 (NodeT.keys a0)) (NodeT.kids a0))]))
        none))
    none) := by kernel_rfl
theorem f23_spec (a0 : NodeT) (a1 : Int) (hg : gmk a1 (cts_node a0) = true) : ∃ keep rounds, ∀ {R : Type} (k : List Dt → Option R), evFn f23e keep rounds f23c [.ro, .ro] [false] true [.tmp 4] [3] [.d .node a0, .d (.i .i64) a1] k = k [.d (.i .i64) (hds_node a1 a0)] := by
  rw [gmk_iff] at hg
  simp only [cts_node] at hg
  refine ⟨f23k, 0, fun {R} k => ?_⟩
  rw [f23_run]
  show _ = k [.d (.i .i64) (hds_node a1 a0)]
  unfold hds_node
  rcases hdL_cases mk_str (a1) a0.keys with ⟨q0, v0⟩ | ⟨q0, v0⟩ <;>
  rcases hdL_cases mk_node ((mkL mk_str (a1) a0.keys).2) a0.kids with ⟨q1, v1⟩ | ⟨q1, v1⟩ <;>
  (try simp (disch := omega) only [mkL_node_ct, mkL_str_ct] at q0 v0 q1 v1) <;>
  simp (disch := omega) only [gmk_of, mks_node, mkL_node_ct, mkL_str_ct, eqD_node, Bool.cond_not, cond_and, bne, decide_ge0, decide_m1, cond_true, cond_false, Bool.cond_self, q0, v0, q1, v1, beq_self_eq_true, sEq_self, eqD_self, Bool.and_self, Bool.true_and, Bool.and_true, Bool.and_false, Bool.false_and]

noncomputable def q23 : List Dt → Option (Bool × List Dt)
  | [.d .node a0, .d (.i .i64) a1] => some (((fun (x : NodeT) (k : Int) => gmk k (cts_node x)) a0 a1), [.d (.i .i64) (hds_node a1 a0)])
  | _ => none
noncomputable def s23 : Gm.Spec := Gm.Spec.of [.ro, .ro] [false] true q23
theorem good23 : Gm.Good Try.prog (23, s23) := by
  have hl : ∀ x ∈ [(42, s42), (48, s48)], Gm.Good Try.prog x := List.forall_mem_cons.2 ⟨good42, List.forall_mem_cons.2 ⟨good48, List.forall_mem_nil _⟩⟩
  refine ⟨⟨spec_ok (tab_ok.env hl) (tab.natl hl) Try.func23 (by kernel_rfl : Try.f23.body = some f23c) [3] (by kernel_rfl) ?_, _, Try.func23, by kernel_rfl, of_decide_eq_true (by kernel_rfl)⟩, Gm.Spec.of_natl _ _ _ _⟩
  intro ds outs h
  unfold q23 at h
  split at h
  · simp only [Option.some.injEq, Prod.mk.injEq] at h; obtain ⟨hg, h⟩ := h; cases h; exact f23_spec _ _ hg
  · cases h
end Go.Proofs.Ytinbejnakemfjaa

/- x -/
namespace Go.Proofs.Ytinbejnakemfjaa
open Go Go.Gm
/-! ### loop.example/g00465/laws.FnExactAllPtrs -/
noncomputable def f3c : Code := (Try.f3.body).getD .skip
def f3k : Nat → Kp := kat [⟨[1], [], [], []⟩, ⟨[1, 3], [], [], []⟩, ⟨[1, 3], [], [], []⟩, ⟨[1, 15], [], [], []⟩, ⟨[2], [], [], []⟩, ⟨[1, 4], [], [], []⟩, ⟨[1, 4, 5], [], [], []⟩, ⟨[1, 4, 5, 6], [], [], []⟩, ⟨[1, 4, 5, 6, 26], [], [], []⟩, ⟨[2], [], [], []⟩, ⟨[1, 4, 5, 6, 31], [], [], []⟩, ⟨[2], [], [], []⟩, ⟨[1, 4, 5, 6, 7], [], [], []⟩, ⟨[1, 4, 6, 7], [], [], []⟩, ⟨[1, 4, 6, 42], [], [], []⟩, ⟨[2], [], [], []⟩, ⟨[1, 4, 6, 8], [], [], []⟩, ⟨[1, 4, 6, 8], [], [], []⟩, ⟨[1, 4, 6, 8, 9], [], [], []⟩, ⟨[1, 4, 6, 8, 9], [], [], []⟩, ⟨[1, 4, 6, 8, 9, 50], [], [], []⟩, ⟨[2], [], [], []⟩, ⟨[1, 4, 6, 8, 53], [], [], []⟩, ⟨[2], [], [], []⟩, ⟨[4, 6, 8, 10], [], [], []⟩, ⟨[6, 8, 60], [], [], []⟩, ⟨[2], [], [], []⟩, ⟨[6, 8, 9], [], [], []⟩, ⟨[8, 9], [], [], []⟩, ⟨[8, 9, 65], [], [], []⟩, ⟨[2], [], [], []⟩, ⟨[68], [], [], []⟩, ⟨[2], [], [], []⟩, ⟨[2], [], [], []⟩]
noncomputable def f3e : Env := tab.env [(8, s8), (9, s9), (10, s10), (11, s11), (12, s12), (13, s13), (14, s14), (15, s15), (16, s16)]
noncomputable def f3v0 (a0 : NodeT) : List NodeT :=
  (mkL mk_node ((mkL mk_str (1 : Int) (NodeT.keys (⟨(NodeT.kind a0), (NodeT.n a0), (NodeT.s a0), (NodeT.keys a0), (NodeT.kids a0)⟩ : NodeT))).2) (NodeT.kids (⟨(NodeT.kind a0), (NodeT.n a0), (NodeT.s a0), (NodeT.keys a0), (NodeT.kids a0)⟩ : NodeT))).1
noncomputable def f3v1 (a0 : NodeT) : List (List ByteArray) :=
  (mkL mk_strs (1 : Int) (allPtrs (⟨(NodeT.kind (⟨(NodeT.kind a0), (NodeT.n a0), (NodeT.s a0), (NodeT.keys a0), (NodeT.kids a0)⟩ : NodeT)), (NodeT.n (⟨(NodeT.kind a0), (NodeT.n a0), (NodeT.s a0), (NodeT.keys a0), (NodeT.kids a0)⟩ : NodeT)), (NodeT.s (⟨(NodeT.kind a0), (NodeT.n a0), (NodeT.s a0), (NodeT.keys a0), (NodeT.kids a0)⟩ : NodeT)), (NodeT.keys (⟨(NodeT.kind a0), (NodeT.n a0), (NodeT.s a0), (NodeT.keys a0), (NodeT.kids a0)⟩ : NodeT)), (NodeT.kids (⟨(NodeT.kind a0), (NodeT.n a0), (NodeT.s a0), (NodeT.keys a0), (NodeT.kids a0)⟩ : NodeT))⟩ : NodeT))).1
theorem f3_run {R : Type} (n : Nat) (k : List Dt → Option R) (a0 : NodeT) : evFn f3e f3k n f3c [.ro] [false] true [.tmp 2] [4] [.d .node a0] k =
    (cond (gz_node (⟨(NodeT.kind a0), (NodeT.n a0), (NodeT.s a0), (NodeT.keys a0), (NodeT.kids a0)⟩ : NodeT) (1048576 : Int))
    (cond (decide ((z_node (⟨(NodeT.kind a0), (NodeT.n a0), (NodeT.s a0), (NodeT.keys a0), (NodeT.kids a0)⟩ : NodeT) (1048576 : Int)) < (0 : Int)))
      (k [.d .bool true])
      (cond (sm_node (⟨(NodeT.kind a0), (NodeT.n a0), (NodeT.s a0), (NodeT.keys a0), (NodeT.kids a0)⟩ : NodeT))
        (cond (gPt (⟨(NodeT.kind (⟨(NodeT.kind a0), (NodeT.n a0), (NodeT.s a0), (NodeT.keys a0), (NodeT.kids a0)⟩ : NodeT)), (NodeT.n (⟨(NodeT.kind a0), (NodeT.n a0), (NodeT.s a0), (NodeT.keys a0), (NodeT.kids a0)⟩ : NodeT)), (NodeT.s (⟨(NodeT.kind a0), (NodeT.n a0), (NodeT.s a0), (NodeT.keys a0), (NodeT.kids a0)⟩ : NodeT)), (NodeT.keys (⟨(NodeT.kind a0), (NodeT.n a0), (NodeT.s a0), (NodeT.keys a0), (NodeT.kids a0)⟩ : NodeT)), (NodeT.kids (⟨(NodeT.kind a0), (NodeT.n a0), (NodeT.s a0), (NodeT.keys a0), (NodeT.kids a0)⟩ : NodeT))⟩ : NodeT))
          (cond (sm_node (⟨(NodeT.kind a0), (NodeT.n a0), (NodeT.s a0), (NodeT.keys a0), (NodeT.kids a0)⟩ : NodeT))
            (cond (gPt (⟨(NodeT.kind (⟨(NodeT.kind a0), (NodeT.n a0), (NodeT.s a0), (NodeT.keys a0), (NodeT.kids a0)⟩ : NodeT)), (NodeT.n (⟨(NodeT.kind a0), (NodeT.n a0), (NodeT.s a0), (NodeT.keys a0), (NodeT.kids a0)⟩ : NodeT)), (NodeT.s (⟨(NodeT.kind a0), (NodeT.n a0), (NodeT.s a0), (NodeT.keys a0), (NodeT.kids a0)⟩ : NodeT)), (NodeT.keys (⟨(NodeT.kind a0), (NodeT.n a0), (NodeT.s a0), (NodeT.keys a0), (NodeT.kids a0)⟩ : NodeT)), (NodeT.kids (⟨(NodeT.kind a0), (NodeT.n a0), (NodeT.s a0), (NodeT.keys a0), (NodeT.kids a0)⟩ : NodeT))⟩ : NodeT))
              (cond (gSS (allPtrs (⟨(NodeT.kind (⟨(NodeT.kind a0), (NodeT.n a0), (NodeT.s a0), (NodeT.keys a0), (NodeT.kids a0)⟩ : NodeT)), (NodeT.n (⟨(NodeT.kind a0), (NodeT.n a0), (NodeT.s a0), (NodeT.keys a0), (NodeT.kids a0)⟩ : NodeT)), (NodeT.s (⟨(NodeT.kind a0), (NodeT.n a0), (NodeT.s a0), (NodeT.keys a0), (NodeT.kids a0)⟩ : NodeT)), (NodeT.keys (⟨(NodeT.kind a0), (NodeT.n a0), (NodeT.s a0), (NodeT.keys a0), (NodeT.kids a0)⟩ : NodeT)), (NodeT.kids (⟨(NodeT.kind a0), (NodeT.n a0), (NodeT.s a0), (NodeT.keys a0), (NodeT.kids a0)⟩ : NodeT))⟩ : NodeT)) (allPtrs (⟨(NodeT.kind (⟨(NodeT.kind a0), (NodeT.n a0), (NodeT.s a0), (NodeT.keys a0), (NodeT.kids a0)⟩ : NodeT)), (NodeT.n (⟨(NodeT.kind a0), (NodeT.n a0), (NodeT.s a0), (NodeT.keys a0), (NodeT.kids a0)⟩ : NodeT)), (NodeT.s (⟨(NodeT.kind a0), (NodeT.n a0), (NodeT.s a0), (NodeT.keys a0), (NodeT.kids a0)⟩ : NodeT)), (NodeT.keys (⟨(NodeT.kind a0), (NodeT.n a0), (NodeT.s a0), (NodeT.keys a0), (NodeT.kids a0)⟩ : NodeT)), (NodeT.kids (⟨(NodeT.kind a0), (NodeT.n a0), (NodeT.s a0), (NodeT.keys a0), (NodeT.kids a0)⟩ : NodeT))⟩ : NodeT)))
                (cond (!(eqD (allPtrs (⟨(NodeT.kind (⟨(NodeT.kind a0), (NodeT.n a0), (NodeT.s a0), (NodeT.keys a0), (NodeT.kids a0)⟩ : NodeT)), (NodeT.n (⟨(NodeT.kind a0), (NodeT.n a0), (NodeT.s a0), (NodeT.keys a0), (NodeT.kids a0)⟩ : NodeT)), (NodeT.s (⟨(NodeT.kind a0), (NodeT.n a0), (NodeT.s a0), (NodeT.keys a0), (NodeT.kids a0)⟩ : NodeT)), (NodeT.keys (⟨(NodeT.kind a0), (NodeT.n a0), (NodeT.s a0), (NodeT.keys a0), (NodeT.kids a0)⟩ : NodeT)), (NodeT.kids (⟨(NodeT.kind a0), (NodeT.n a0), (NodeT.s a0), (NodeT.keys a0), (NodeT.kids a0)⟩ : NodeT))⟩ : NodeT)) (allPtrs (⟨(NodeT.kind (⟨(NodeT.kind a0), (NodeT.n a0), (NodeT.s a0), (NodeT.keys a0), (NodeT.kids a0)⟩ : NodeT)), (NodeT.n (⟨(NodeT.kind a0), (NodeT.n a0), (NodeT.s a0), (NodeT.keys a0), (NodeT.kids a0)⟩ : NodeT)), (NodeT.s (⟨(NodeT.kind a0), (NodeT.n a0), (NodeT.s a0), (NodeT.keys a0), (NodeT.kids a0)⟩ : NodeT)), (NodeT.keys (⟨(NodeT.kind a0), (NodeT.n a0), (NodeT.s a0), (NodeT.keys a0), (NodeT.kids a0)⟩ : NodeT)), (NodeT.kids (⟨(NodeT.kind a0), (NodeT.n a0), (NodeT.s a0), (NodeT.keys a0), (NodeT.kids a0)⟩ : NodeT))⟩ : NodeT))))
                  (k [.d .bool false])
                  (cond (sm_node (⟨(NodeT.kind a0), (NodeT.n a0), (NodeT.s a0), (NodeT.keys a0), (NodeT.kids a0)⟩ : NodeT))
                    (cond (sm2 sm_node (⟨(NodeT.kind (⟨(NodeT.kind a0), (NodeT.n a0), (NodeT.s a0), (NodeT.keys a0), (NodeT.kids a0)⟩ : NodeT)), (NodeT.n (⟨(NodeT.kind a0), (NodeT.n a0), (NodeT.s a0), (NodeT.keys a0), (NodeT.kids a0)⟩ : NodeT)), (NodeT.s (⟨(NodeT.kind a0), (NodeT.n a0), (NodeT.s a0), (NodeT.keys a0), (NodeT.kids a0)⟩ : NodeT)), (NodeT.keys (⟨(NodeT.kind a0), (NodeT.n a0), (NodeT.s a0), (NodeT.keys a0), (NodeT.kids a0)⟩ : NodeT)), (NodeT.kids (⟨(NodeT.kind a0), (NodeT.n a0), (NodeT.s a0), (NodeT.keys a0), (NodeT.kids a0)⟩ : NodeT))⟩ : NodeT) (⟨(NodeT.kind (⟨(NodeT.kind a0), (NodeT.n a0), (NodeT.s a0), (NodeT.keys a0), (NodeT.kids a0)⟩ : NodeT)), (NodeT.n (⟨(NodeT.kind a0), (NodeT.n a0), (NodeT.s a0), (NodeT.keys a0), (NodeT.kids a0)⟩ : NodeT)), (NodeT.s (⟨(NodeT.kind a0), (NodeT.n a0), (NodeT.s a0), (NodeT.keys a0), (NodeT.kids a0)⟩ : NodeT)), (NodeT.keys (⟨(NodeT.kind a0), (NodeT.n a0), (NodeT.s a0), (NodeT.keys a0), (NodeT.kids a0)⟩ : NodeT)), (NodeT.kids (⟨(NodeT.kind a0), (NodeT.n a0), (NodeT.s a0), (NodeT.keys a0), (NodeT.kids a0)⟩ : NodeT))⟩ : NodeT))
                      (cond (!(eqD (⟨(NodeT.kind (⟨(NodeT.kind a0), (NodeT.n a0), (NodeT.s a0), (NodeT.keys a0), (NodeT.kids a0)⟩ : NodeT)), (NodeT.n (⟨(NodeT.kind a0), (NodeT.n a0), (NodeT.s a0), (NodeT.keys a0), (NodeT.kids a0)⟩ : NodeT)), (NodeT.s (⟨(NodeT.kind a0), (NodeT.n a0), (NodeT.s a0), (NodeT.keys a0), (NodeT.kids a0)⟩ : NodeT)), (NodeT.keys (⟨(NodeT.kind a0), (NodeT.n a0), (NodeT.s a0), (NodeT.keys a0), (NodeT.kids a0)⟩ : NodeT)), (NodeT.kids (⟨(NodeT.kind a0), (NodeT.n a0), (NodeT.s a0), (NodeT.keys a0), (NodeT.kids a0)⟩ : NodeT))⟩ : NodeT) (⟨(NodeT.kind (⟨(NodeT.kind a0), (NodeT.n a0), (NodeT.s a0), (NodeT.keys a0), (NodeT.kids a0)⟩ : NodeT)), (NodeT.n (⟨(NodeT.kind a0), (NodeT.n a0), (NodeT.s a0), (NodeT.keys a0), (NodeT.kids a0)⟩ : NodeT)), (NodeT.s (⟨(NodeT.kind a0), (NodeT.n a0), (NodeT.s a0), (NodeT.keys a0), (NodeT.kids a0)⟩ : NodeT)), (NodeT.keys (⟨(NodeT.kind a0), (NodeT.n a0), (NodeT.s a0), (NodeT.keys a0), (NodeT.kids a0)⟩ : NodeT)), (NodeT.kids (⟨(NodeT.kind a0), (NodeT.n a0), (NodeT.s a0), (NodeT.keys a0), (NodeT.kids a0)⟩ : NodeT))⟩ : NodeT)))
                        (k [.d .bool false])
                        (cond ((fun (a0 : List ByteArray) (a1 : List NodeT) (a2 : Int) => gmk a2 (ctL ct_str a0 + ctL ct_node a1)) (NodeT.keys (⟨(NodeT.kind a0), (NodeT.n a0), (NodeT.s a0), (NodeT.keys a0), (NodeT.kids a0)⟩ : NodeT)) (NodeT.kids (⟨(NodeT.kind a0), (NodeT.n a0), (NodeT.s a0), (NodeT.keys a0), (NodeT.kids a0)⟩ : NodeT)) (1 : Int))
                          (cond (decide ((mkL mk_node ((mkL mk_str (1 : Int) (NodeT.keys (⟨(NodeT.kind a0), (NodeT.n a0), (NodeT.s a0), (NodeT.keys a0), (NodeT.kids a0)⟩ : NodeT))).2) (NodeT.kids (⟨(NodeT.kind a0), (NodeT.n a0), (NodeT.s a0), (NodeT.keys a0), (NodeT.kids a0)⟩ : NodeT))).2 < (0 : Int)))
                            (k [.d .bool false])
                            (cond (gSS (allPtrs (⟨(NodeT.kind (⟨(NodeT.kind a0), (NodeT.n a0), (NodeT.s a0), (NodeT.keys a0), (NodeT.kids a0)⟩ : NodeT)), (NodeT.n (⟨(NodeT.kind a0), (NodeT.n a0), (NodeT.s a0), (NodeT.keys a0), (NodeT.kids a0)⟩ : NodeT)), (NodeT.s (⟨(NodeT.kind a0), (NodeT.n a0), (NodeT.s a0), (NodeT.keys a0), (NodeT.kids a0)⟩ : NodeT)), (NodeT.keys (⟨(NodeT.kind a0), (NodeT.n a0), (NodeT.s a0), (NodeT.keys a0), (NodeT.kids a0)⟩ : NodeT)), (NodeT.kids (⟨(NodeT.kind a0), (NodeT.n a0), (NodeT.s a0), (NodeT.keys a0), (NodeT.kids a0)⟩ : NodeT))⟩ : NodeT)) (allPtrs (⟨(NodeT.kind (⟨(NodeT.kind a0), (NodeT.n a0), (NodeT.s a0), (NodeT.keys a0), (NodeT.kids a0)⟩ : NodeT)), (NodeT.n (⟨(NodeT.kind a0), (NodeT.n a0), (NodeT.s a0), (NodeT.keys a0), (NodeT.kids a0)⟩ : NodeT)), (NodeT.s (⟨(NodeT.kind a0), (NodeT.n a0), (NodeT.s a0), (NodeT.keys a0), (NodeT.kids a0)⟩ : NodeT)), (NodeT.keys (⟨(NodeT.kind a0), (NodeT.n a0), (NodeT.s a0), (NodeT.keys a0), (NodeT.kids a0)⟩ : NodeT)), (NodeT.kids (⟨(NodeT.kind a0), (NodeT.n a0), (NodeT.s a0), (NodeT.keys a0), (NodeT.kids a0)⟩ : NodeT))⟩ : NodeT)))
                              (cond (!(eqD (allPtrs (⟨(NodeT.kind (⟨(NodeT.kind a0), (NodeT.n a0), (NodeT.s a0), (NodeT.keys a0), (NodeT.kids a0)⟩ : NodeT)), (NodeT.n (⟨(NodeT.kind a0), (NodeT.n a0), (NodeT.s a0), (NodeT.keys a0), (NodeT.kids a0)⟩ : NodeT)), (NodeT.s (⟨(NodeT.kind a0), (NodeT.n a0), (NodeT.s a0), (NodeT.keys a0), (NodeT.kids a0)⟩ : NodeT)), (NodeT.keys (⟨(NodeT.kind a0), (NodeT.n a0), (NodeT.s a0), (NodeT.keys a0), (NodeT.kids a0)⟩ : NodeT)), (NodeT.kids (⟨(NodeT.kind a0), (NodeT.n a0), (NodeT.s a0), (NodeT.keys a0), (NodeT.kids a0)⟩ : NodeT))⟩ : NodeT)) (allPtrs (⟨(NodeT.kind (⟨(NodeT.kind a0), (NodeT.n a0), (NodeT.s a0), (NodeT.keys a0), (NodeT.kids a0)⟩ : NodeT)), (NodeT.n (⟨(NodeT.kind a0), (NodeT.n a0), (NodeT.s a0), (NodeT.keys a0), (NodeT.kids a0)⟩ : NodeT)), (NodeT.s (⟨(NodeT.kind a0), (NodeT.n a0), (NodeT.s a0), (NodeT.keys a0), (NodeT.kids a0)⟩ : NodeT)), (NodeT.keys (⟨(NodeT.kind a0), (NodeT.n a0), (NodeT.s a0), (NodeT.keys a0), (NodeT.kids a0)⟩ : NodeT)), (NodeT.kids (⟨(NodeT.kind a0), (NodeT.n a0), (NodeT.s a0), (NodeT.keys a0), (NodeT.kids a0)⟩ : NodeT))⟩ : NodeT))))
                                (k [.d .bool false])
                                (cond (gmkSS (allPtrs (⟨(NodeT.kind (⟨(NodeT.kind a0), (NodeT.n a0), (NodeT.s a0), (NodeT.keys a0), (NodeT.kids a0)⟩ : NodeT)), (NodeT.n (⟨(NodeT.kind a0), (NodeT.n a0), (NodeT.s a0), (NodeT.keys a0), (NodeT.kids a0)⟩ : NodeT)), (NodeT.s (⟨(NodeT.kind a0), (NodeT.n a0), (NodeT.s a0), (NodeT.keys a0), (NodeT.kids a0)⟩ : NodeT)), (NodeT.keys (⟨(NodeT.kind a0), (NodeT.n a0), (NodeT.s a0), (NodeT.keys a0), (NodeT.kids a0)⟩ : NodeT)), (NodeT.kids (⟨(NodeT.kind a0), (NodeT.n a0), (NodeT.s a0), (NodeT.keys a0), (NodeT.kids a0)⟩ : NodeT))⟩ : NodeT)) (1 : Int))
                                  (cond (gmkSS (f3v1 a0) (1 : Int))
                                    (cond (decide ((hdL mk_strs (1 : Int) (f3v1 a0)) < (0 : Int)))
                                      (k [.d .bool false])
                                      (cond ((hdL mk_strs (1 : Int) (f3v1 a0)) != (mkL mk_strs (1 : Int) (allPtrs (⟨(NodeT.kind (⟨(NodeT.kind a0), (NodeT.n a0), (NodeT.s a0), (NodeT.keys a0), (NodeT.kids a0)⟩ : NodeT)), (NodeT.n (⟨(NodeT.kind a0), (NodeT.n a0), (NodeT.s a0), (NodeT.keys a0), (NodeT.kids a0)⟩ : NodeT)), (NodeT.s (⟨(NodeT.kind a0), (NodeT.n a0), (NodeT.s a0), (NodeT.keys a0), (NodeT.kids a0)⟩ : NodeT)), (NodeT.keys (⟨(NodeT.kind a0), (NodeT.n a0), (NodeT.s a0), (NodeT.keys a0), (NodeT.kids a0)⟩ : NodeT)), (NodeT.kids (⟨(NodeT.kind a0), (NodeT.n a0), (NodeT.s a0), (NodeT.keys a0), (NodeT.kids a0)⟩ : NodeT))⟩ : NodeT))).2)
                                        (k [.d .bool false])
                                        (cond (sm_node (⟨(NodeT.kind a0), (NodeT.n a0), (NodeT.s a0), (NodeT.keys a0), (NodeT.kids a0)⟩ : NodeT))
                                          (cond (gPt (⟨(NodeT.kind (⟨(NodeT.kind a0), (NodeT.n a0), (NodeT.s a0), (NodeT.keys a0), (NodeT.kids a0)⟩ : NodeT)), (NodeT.n (⟨(NodeT.kind a0), (NodeT.n a0), (NodeT.s a0), (NodeT.keys a0), (NodeT.kids a0)⟩ : NodeT)), (NodeT.s (⟨(NodeT.kind a0), (NodeT.n a0), (NodeT.s a0), (NodeT.keys a0), (NodeT.kids a0)⟩ : NodeT)), (NodeT.keys (⟨(NodeT.kind a0), (NodeT.n a0), (NodeT.s a0), (NodeT.keys a0), (NodeT.kids a0)⟩ : NodeT)), (NodeT.kids (⟨(NodeT.kind a0), (NodeT.n a0), (NodeT.s a0), (NodeT.keys a0), (NodeT.kids a0)⟩ : NodeT))⟩ : NodeT))
                                            (cond (gSS (allPtrs (⟨(NodeT.kind (⟨(NodeT.kind a0), (NodeT.n a0), (NodeT.s a0), (NodeT.keys a0), (NodeT.kids a0)⟩ : NodeT)), (NodeT.n (⟨(NodeT.kind a0), (NodeT.n a0), (NodeT.s a0), (NodeT.keys a0), (NodeT.kids a0)⟩ : NodeT)), (NodeT.s (⟨(NodeT.kind a0), (NodeT.n a0), (NodeT.s a0), (NodeT.keys a0), (NodeT.kids a0)⟩ : NodeT)), (NodeT.keys (⟨(NodeT.kind a0), (NodeT.n a0), (NodeT.s a0), (NodeT.keys a0), (NodeT.kids a0)⟩ : NodeT)), (NodeT.kids (⟨(NodeT.kind a0), (NodeT.n a0), (NodeT.s a0), (NodeT.keys a0), (NodeT.kids a0)⟩ : NodeT))⟩ : NodeT)) (allPtrs (⟨(NodeT.kind (⟨(NodeT.kind a0), (NodeT.n a0), (NodeT.s a0), (NodeT.keys a0), (NodeT.kids a0)⟩ : NodeT)), (NodeT.n (⟨(NodeT.kind a0), (NodeT.n a0), (NodeT.s a0), (NodeT.keys a0), (NodeT.kids a0)⟩ : NodeT)), (NodeT.s (⟨(NodeT.kind a0), (NodeT.n a0), (NodeT.s a0), (NodeT.keys a0), (NodeT.kids a0)⟩ : NodeT)), (NodeT.keys (⟨(NodeT.kind a0), (NodeT.n a0), (NodeT.s a0), (NodeT.keys a0), (NodeT.kids a0)⟩ : NodeT)), (NodeT.kids (⟨(NodeT.kind a0), (NodeT.n a0), (NodeT.s a0), (NodeT.keys a0), (NodeT.kids a0)⟩ : NodeT))⟩ : NodeT)))
                                              (cond (!(eqD (allPtrs (⟨(NodeT.kind (⟨(NodeT.kind a0), (NodeT.n a0), (NodeT.s a0), (NodeT.keys a0), (NodeT.kids a0)⟩ : NodeT)), (NodeT.n (⟨(NodeT.kind a0), (NodeT.n a0), (NodeT.s a0), (NodeT.keys a0), (NodeT.kids a0)⟩ : NodeT)), (NodeT.s (⟨(NodeT.kind a0), (NodeT.n a0), (NodeT.s a0), (NodeT.keys a0), (NodeT.kids a0)⟩ : NodeT)), (NodeT.keys (⟨(NodeT.kind a0), (NodeT.n a0), (NodeT.s a0), (NodeT.keys a0), (NodeT.kids a0)⟩ : NodeT)), (NodeT.kids (⟨(NodeT.kind a0), (NodeT.n a0), (NodeT.s a0), (NodeT.keys a0), (NodeT.kids a0)⟩ : NodeT))⟩ : NodeT)) (allPtrs (⟨(NodeT.kind (⟨(NodeT.kind a0), (NodeT.n a0), (NodeT.s a0), (NodeT.keys a0), (NodeT.kids a0)⟩ : NodeT)), (NodeT.n (⟨(NodeT.kind a0), (NodeT.n a0), (NodeT.s a0), (NodeT.keys a0), (NodeT.kids a0)⟩ : NodeT)), (NodeT.s (⟨(NodeT.kind a0), (NodeT.n a0), (NodeT.s a0), (NodeT.keys a0), (NodeT.kids a0)⟩ : NodeT)), (NodeT.keys (⟨(NodeT.kind a0), (NodeT.n a0), (NodeT.s a0), (NodeT.keys a0), (NodeT.kids a0)⟩ : NodeT)), (NodeT.kids (⟨(NodeT.kind a0), (NodeT.n a0), (NodeT.s a0), (NodeT.keys a0), (NodeT.kids a0)⟩ : NodeT))⟩ : NodeT))))
                                                (k [.d .bool false])
                                                (cond (gmkSS (f3v1 a0) (1 : Int))
                                                  (cond (decide ((hdL mk_strs (1 : Int) (f3v1 a0)) < (0 : Int)))
                                                    (k [.d .bool false])
                                                    (cond ((hdL mk_strs (1 : Int) (f3v1 a0)) != (mkL mk_strs (1 : Int) (allPtrs (⟨(NodeT.kind (⟨(NodeT.kind a0), (NodeT.n a0), (NodeT.s a0), (NodeT.keys a0), (NodeT.kids a0)⟩ : NodeT)), (NodeT.n (⟨(NodeT.kind a0), (NodeT.n a0), (NodeT.s a0), (NodeT.keys a0), (NodeT.kids a0)⟩ : NodeT)), (NodeT.s (⟨(NodeT.kind a0), (NodeT.n a0), (NodeT.s a0), (NodeT.keys a0), (NodeT.kids a0)⟩ : NodeT)), (NodeT.keys (⟨(NodeT.kind a0), (NodeT.n a0), (NodeT.s a0), (NodeT.keys a0), (NodeT.kids a0)⟩ : NodeT)), (NodeT.kids (⟨(NodeT.kind a0), (NodeT.n a0), (NodeT.s a0), (NodeT.keys a0), (NodeT.kids a0)⟩ : NodeT))⟩ : NodeT))).2)
                                                      (k [.d .bool false])
                                                      (k [.d .bool true])))
                                                  none))
                                              none)
                                            none)
                                          none)))
                                    none)
                                  none))
                              none))
                          none))
                      none)
                    none))
                none)
              none)
            none)
          none)
        none))
    none) := by kernel_rfl
theorem f3_spec (a0 : NodeT) (hg : (ok_node a0) = true) : ∃ keep rounds, ∀ {R : Type} (k : List Dt → Option R), evFn f3e keep rounds f3c [.ro] [false] true [.tmp 2] [4] [.d .node a0] k = k [.d .bool ((fun (_ : NodeT) => true) a0)] := by
  have hg0 := hg
  refine ⟨f3k, 0, fun {R} k => ?_⟩
  rw [f3_run]
  have g0 : gz_node a0 (1048576 : Int) = true := by simp only [gz_node, Bool.and_eq_true, okN_iff]; exact ⟨hg0, by omega, by omega⟩
  have e0 : z_node a0 (1048576 : Int) = szI (szN_node a0) (1048576 : Int) := rfl
  by_cases c0 : szI (szN_node a0) (1048576 : Int) < 0
  · simp only [eta_node, eta_rule, g0, e0, c0, decide_true, decide_false, cond_true, cond_false]
  have b0 : szI (szN_node a0) (1048576 : Int) = (1048576 : Int) - ((szN_node a0) : Nat) := by
    by_cases h : (1048576 : Int) - ((szN_node a0) : Nat) < 0
    · rw [szI_neg h] at c0; omega
    · exact szI_pos h
  have s0 : sm_node a0 = true := sm_node_of hg0 (by omega)
  have n0 : 0 ≤ (szI (szN_node a0) (1048576 : Int)) ∧ (szI (szN_node a0) (1048576 : Int)) ≤ 1048576 := by omega
  have p0 := cts_node_sz a0
  simp only [cts_node] at p0
  have hgp : gPt a0 = true := by
    unfold gPt
    have := nd_sz a0
    rw [s0, Nat.ble_eq_true_of_le (by omega : nd_node a0 ≤ 1048577)]; rfl
  have sA : smSS (allPtrs a0) = true := allPtrs_sm hgp
  have pA := ctL_strs_sm sA
  have lA : Nat.ble (allPtrs a0).length 1048577 = true := by have := sA; simp only [smSS, Bool.and_eq_true] at this; exact this.1
  simp only [f3v0, f3v1]
  simp (disch := omega) only [g0, e0, c0, s0, sm2, eta_node, eta_rule, gmk_of, decide_ge0, decide_false, cond_true, cond_false, Bool.and_self, bne_self_eq_false, beq_self_eq_true, sEq_self, eqD_self, Bool.not_true, mkL_node_ct, mkL_str_ct, hgp, gSS, sA, gmkSS, lA, mkL_len, hdL_marked mk_strs_idem, ctL_mk_strs, mkL_strs_ct]

noncomputable def q3 : List Dt → Option (Bool × List Dt)
  | [.d .node a0] => some (((fun (x0 : NodeT) => ok_node x0) a0), [.d .bool ((fun (_ : NodeT) => true) a0)])
  | _ => none
noncomputable def s3 : Gm.Spec := Gm.Spec.of [.ro] [false] true q3
theorem good3 : Gm.Good Try.prog (3, s3) := by
  have hl : ∀ x ∈ [(8, s8), (9, s9), (10, s10), (11, s11), (12, s12), (13, s13), (14, s14), (15, s15), (16, s16)], Gm.Good Try.prog x := List.forall_mem_cons.2 ⟨good8, List.forall_mem_cons.2 ⟨good9, List.forall_mem_cons.2 ⟨good10, List.forall_mem_cons.2 ⟨good11, List.forall_mem_cons.2 ⟨good12, List.forall_mem_cons.2 ⟨good13, List.forall_mem_cons.2 ⟨good14, List.forall_mem_cons.2 ⟨good15, List.forall_mem_cons.2 ⟨good16, List.forall_mem_nil _⟩⟩⟩⟩⟩⟩⟩⟩⟩
  refine ⟨⟨spec_ok (tab_ok.env hl) (tab.natl hl) Try.func3 (by kernel_rfl : Try.f3.body = some f3c) [4] (by kernel_rfl) ?_, _, Try.func3, by kernel_rfl, of_decide_eq_true (by kernel_rfl)⟩, Gm.Spec.of_natl _ _ _ _⟩
  intro ds outs h
  unfold q3 at h
  split at h
  · simp only [Option.some.injEq, Prod.mk.injEq] at h; obtain ⟨hg, h⟩ := h; cases h; exact f3_spec _ hg
  · cases h
end Go.Proofs.Ytinbejnakemfjaa

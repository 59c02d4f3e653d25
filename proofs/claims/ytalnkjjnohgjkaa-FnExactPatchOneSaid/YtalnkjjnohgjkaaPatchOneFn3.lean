/- What the functions compute, part 3. No conditions. -/
import Derived.Test.YtalnkjjnohgjkaaPatchOneFn2
/- x -/
namespace Go.Proofs.Ytalnkjjnohgjkaa
open Go Go.Gm
/-! ### loop.example/g00465/laws.markText -/
noncomputable def f70c : Code := (Try.f70.body).getD .skip
def f70k : Nat → Kp := kat [⟨[0], [], [], []⟩, ⟨[0, 5], [], [], []⟩, ⟨[2], [], [], []⟩, ⟨[0, 3], [], [], []⟩, ⟨[0, 3, 7], [], [], []⟩, ⟨[0, 3], [], [], []⟩, ⟨[0, 3], [], [], []⟩, ⟨[2], [], [], []⟩]
noncomputable def f70e : Env := tab.env []
noncomputable def f70L0 {R : Type} (n : Nat) (x0 : Int → ByteArray → Bool → Option R)  : Nat → Int → ByteArray → Option R
  | 0, _, _ => none
  | m + 1, vs0, vs3 =>
    (cond (decide (vs0 > (0 : Int)))
      (cond (decide (ByteArray.size (bytesOf ([(IntKind.wrap .u8 (IntKind.wrap .i64 ((48 : Int) + (Int.tmod vs0 (10 : Int)))))] : List Int)) + ByteArray.size vs3 ≤ 9223372036854775807))
        (f70L0 n x0 m (IntKind.wrap .i64 (Int.tdiv vs0 (10 : Int))) ((bytesOf ([(IntKind.wrap .u8 (IntKind.wrap .i64 ((48 : Int) + (Int.tmod vs0 (10 : Int)))))] : List Int)) ++ vs3))
        none)
      (x0 vs0 vs3 (decide (vs0 > (0 : Int)))))
theorem f70L0_b {R : Type} (n : Nat) (k' : Ex → St → Option R) (vs0 : Int) (vs3 : ByteArray) : ev f70e f70k n (cAt [1,1,1,0,0,0] f70c) ⟨[(0, .c (.one (.v (.int .i64 vs0)))), (3, .c (.one (.v (.string vs3))))], [], []⟩ k' =
    (cond (decide (vs0 > (0 : Int)))
    (cond (decide (ByteArray.size (bytesOf ([(IntKind.wrap .u8 (IntKind.wrap .i64 ((48 : Int) + (Int.tmod vs0 (10 : Int)))))] : List Int)) + ByteArray.size vs3 ≤ 9223372036854775807))
      (k' .normal ⟨[(0, .c (.one (.v (.int .i64 (IntKind.wrap .i64 (Int.tdiv vs0 (10 : Int))))))), (3, .c (.one (.v (.string ((bytesOf ([(IntKind.wrap .u8 (IntKind.wrap .i64 ((48 : Int) + (Int.tmod vs0 (10 : Int)))))] : List Int)) ++ vs3)))))], [], []⟩)
      none)
    (k' (.exit 0) ⟨[(0, .c (.one (.v (.int .i64 vs0)))), (3, .c (.one (.v (.string vs3)))), (7, .c (.one (.v (.bool (decide (vs0 > (0 : Int)))))))], [], []⟩)) := by kernel_rfl
theorem f70L0_eq {R : Type} (n : Nat) (k' : Ex → St → Option R)  : ∀ (m : Nat) (vs0 : Int) (vs3 : ByteArray), iter (fun st k => ev f70e f70k n (cAt [1,1,1,0,0,0] f70c) st k) m ⟨[(0, .c (.one (.v (.int .i64 vs0)))), (3, .c (.one (.v (.string vs3))))], [], []⟩ k' = f70L0 n (fun (xvs0 : Int) (xvs3 : ByteArray) (xvs7 : Bool) => k' (.exit 0) ⟨[(0, .c (.one (.v (.int .i64 xvs0)))), (3, .c (.one (.v (.string xvs3)))), (7, .c (.one (.v (.bool xvs7))))], [], []⟩) m vs0 vs3 := by
  intro m; induction m with
  | zero => intros; rfl
  | succ m ih =>
    intro vs0 vs3
    simp only [iter]
    rw [f70L0_b]
    simp only [ih, f70L0]

noncomputable def f70K0 {R : Type} (n : Nat) (k' : Ex → St → Option R) : Ex → St → Option R := (blockK 0 (seqK f70e f70k n (cAt [1,1,1,1] f70c) k'))
theorem f70K0_x0 {R : Type} (n : Nat) (k : List Dt → Option R) (a0 : Int) (xvs0 : Int) (xvs3 : ByteArray) (xvs7 : Bool) : f70K0 n (exitK f70e [.ro] [false] true [.tmp 2] [9] [.d (.i .i64) a0] k) (.exit 0) ⟨[(0, .c (.one (.v (.int .i64 xvs0)))), (3, .c (.one (.v (.string xvs3)))), (7, .c (.one (.v (.bool xvs7))))], [], []⟩ =
    (cond (decide (ByteArray.size (bs [109]) + ByteArray.size xvs3 ≤ 9223372036854775807))
    (k [.d .str ((bs [109]) ++ xvs3)])
    none) := by kernel_rfl

theorem f70_run {R : Type} (n : Nat) (k : List Dt → Option R) (a0 : Int) : evFn f70e f70k n f70c [.ro] [false] true [.tmp 2] [9] [.d (.i .i64) a0] k =
    (cond (decide (a0 ≤ (0 : Int)))
    (k [.d .str (bs [109,48])])
    (f70L0 n (fun (xvs0 : Int) (xvs3 : ByteArray) (xvs7 : Bool) =>
      (cond (decide (ByteArray.size (bs [109]) + ByteArray.size xvs3 ≤ 9223372036854775807))
        (k [.d .str ((bs [109]) ++ xvs3)])
        none)) n a0 ByteArray.empty)) := by
  refine Eq.trans (b := (cond (decide (a0 ≤ (0 : Int)))
    (k [.d .str (bs [109,48])])
    (iter (fun st k => ev f70e f70k n (cAt [1,1,1,0,0,0] f70c) st k) n ⟨[(0, .c (.one (.v (.int .i64 a0)))), (3, .c (.one (.v (.string ByteArray.empty))))], [], []⟩ (f70K0 n (exitK f70e [.ro] [false] true [.tmp 2] [9] [.d (.i .i64) a0] k))))) (by kernel_rfl) ?_
  simp only [f70L0_eq, f70K0_x0]
theorem f70_spec (a0 : Int) (hg : okI a0 = true) : ∃ keep rounds, ∀ {R : Type} (k : List Dt → Option R), evFn f70e keep rounds f70c [.ro] [false] true [.tmp 2] [9] [.d (.i .i64) a0] k = k [.d .str (mkT a0)] := by
  rw [okI_iff] at hg
  refine ⟨f70k, 25, fun {R} k => ?_⟩
  rw [f70_run]
  show _ = k [.d .str (mkT a0)]
  unfold mkT
  by_cases hz : a0 ≤ 0
  · simp only [hz, decide_true, cond_true]
  simp only [hz, decide_false, cond_false]
  have key : ∀ (d m : Nat) (n : Int) (out : ByteArray), 0 ≤ n → n.natAbs < 10 ^ d → d ≤ 20 → d < m → n ≤ 9223372036854775807 → out.size + d ≤ 100 → ∀ X : Int → ByteArray → Bool → Option R, f70L0 25 X m n out = X 0 (digR n.natAbs out) false := by
    intro d
    induction d with
    | zero =>
      intro m n out h0 hn hd hm hw hs X
      obtain ⟨m, rfl⟩ : ∃ m', m = m' + 1 := ⟨m - 1, by omega⟩
      have : n = 0 := by omega
      subst this
      simp only [f70L0]
      rfl
    | succ d ih =>
      intro m n out h0 hn hd hm hw hs X
      obtain ⟨m, rfl⟩ : ∃ m', m = m' + 1 := ⟨m - 1, by omega⟩
      by_cases hn0 : n = 0
      · subst hn0
        simp only [f70L0]
        rfl
      have h0' : decide (n > (0 : Int)) = true := decide_eq_true (by omega)
      have hn2 : n.natAbs / 10 < 10 ^ d := by rw [Nat.pow_succ] at hn; omega
      have hb := byte_dig (n.natAbs % 10) (by omega)
      have hsz : ByteArray.size ⟨#[UInt8.ofNat (48 + n.natAbs % 10)]⟩ = 1 := rfl
      simp only [f70L0, h0', cond_true]
      have t1 : IntKind.wrap .i64 (Int.tdiv n 10) = ((n.natAbs / 10 : Nat) : Int) := by rw [tdiv_pos (by omega)]; exact wrap_id (by omega) (by omega)
      have t2 : Int.tmod n 10 = ((n.natAbs % 10 : Nat) : Int) := tmod_pos (by omega)
      rw [t1, t2, hb]
      have fin := ih m (((n.natAbs / 10 : Nat) : Int)) (⟨#[UInt8.ofNat (48 + n.natAbs % 10)]⟩ ++ out) (by omega) (by omega) (by omega) (by omega) (by omega) (by rw [ByteArray.size_append]; omega) X
      rw [show (((n.natAbs / 10 : Nat) : Int)).natAbs = n.natAbs / 10 by omega, digR_step (by omega)] at fin
      rw [← fin]
      have hle := app_le (a := ⟨#[UInt8.ofNat (48 + n.natAbs % 10)]⟩) (b := out) (by omega)
      simp only [cond_true, hle]
  refine Eq.trans (key 20 25 a0 ByteArray.empty (by omega) (by have : (10 : Nat) ^ 20 = 100000000000000000000 := rfl; omega) (by omega) (by omega) (by omega) (by show 0 + 20 ≤ 100; omega) _) ?_
  have e : digR a0.natAbs ByteArray.empty = ⟨(natDig a0.natAbs).toArray⟩ := by
    unfold digR; rw [if_neg (by omega)]; apply ba_ext; simp
  have hs := digS_size (n := a0) (okI_iff.2 hg)
  have ed : digS a0 = ⟨(natDig a0.natAbs).toArray⟩ := by
    unfold digS; rw [if_neg (by omega)]; simp
  rw [e, ← ed, app_le (by rw [bs_size, List.length_cons, List.length_nil]; omega)]
  rfl

noncomputable def q70 : List Dt → Option (Bool × List Dt)
  | [.d (.i .i64) a0] => some ((okI a0), [.d .str (mkT a0)])
  | _ => none
noncomputable def s70 : Gm.Spec := Gm.Spec.of [.ro] [false] true q70
theorem good70 : Gm.Good Try.prog (70, s70) := by
  have hl : ∀ x ∈ ([] : List (Nat × Gm.Spec)), Gm.Good Try.prog x := fun _ h => by cases h
  refine ⟨⟨spec_ok (tab_ok.env hl) (tab.natl hl) Try.func70 (by kernel_rfl : Try.f70.body = some f70c) [9] (by kernel_rfl) ?_, _, Try.func70, by kernel_rfl, of_decide_eq_true (by kernel_rfl)⟩, Gm.Spec.of_natl _ _ _ _⟩
  intro ds outs h
  unfold q70 at h
  split at h
  · simp only [Option.some.injEq, Prod.mk.injEq] at h; obtain ⟨hg, h⟩ := h; cases h; exact f70_spec _ hg
  · cases h
/-! ### loop.example/g00465/laws.markStringS -/
noncomputable def f68c : Code := (Try.f68.body).getD .skip
def f68k : Nat → Kp := kat [⟨[0, 1], [], [], []⟩, ⟨[0, 1, 5], [], [], []⟩, ⟨[0, 1, 5, 9], [], [], []⟩, ⟨[0, 1, 5], [], [], []⟩, ⟨[0, 1, 5], [], [], []⟩, ⟨[0, 1, 5], [], [], []⟩, ⟨[0, 4], [], [], []⟩]
noncomputable def f68e : Env := tab.env [(70, s70)]
noncomputable def f68L0 {R : Type} (n : Nat) (x0 : Int → Int → Bool → (List ByteArray) → Option R)  : Nat → Int → Int → (List ByteArray) → Option R
  | 0, _, _, _ => none
  | m + 1, vs1, vs5, vr0 =>
    (cond (decide (vs5 < (vr0.length : Int)))
      (cond (okI vs1)
        (cond ((decide ((0 : Int) ≤ vs5)) && (decide (vs5 < (vr0.length : Int))))
          (f68L0 n x0 m (IntKind.wrap .i64 (vs1 + (1 : Int))) (IntKind.wrap .i64 (vs5 + (1 : Int))) (vr0.set (Int.toNat vs5) (mkT vs1)))
          none)
        none)
      (x0 vs1 vs5 (decide (vs5 < (vr0.length : Int))) vr0))
theorem f68L0_b {R : Type} (n : Nat) (k' : Ex → St → Option R) (vs1 : Int) (vs5 : Int) (vr0 : List ByteArray) : ev f68e f68k n (cAt [1,0,1,0,0] f68c) ⟨[(0, .c (.one (.h 0 0 0 []))), (1, .c (.one (.v (.int .i64 vs1)))), (5, .c (.one (.v (.int .i64 vs5))))], [], [(0, .live ⟨.str, .deep, 0, [], vr0⟩)]⟩ k' =
    (cond (decide (vs5 < (vr0.length : Int)))
    (cond (okI vs1)
      (cond ((decide ((0 : Int) ≤ vs5)) && (decide (vs5 < (vr0.length : Int))))
        (k' .normal ⟨[(0, .c (.one (.h 0 0 0 []))), (1, .c (.one (.v (.int .i64 (IntKind.wrap .i64 (vs1 + (1 : Int))))))), (5, .c (.one (.v (.int .i64 (IntKind.wrap .i64 (vs5 + (1 : Int)))))))], [], [(0, .live ⟨.str, .deep, 0, [], (vr0.set (Int.toNat vs5) (mkT vs1))⟩)]⟩)
        none)
      none)
    (k' (.exit 0) ⟨[(0, .c (.one (.h 0 0 0 []))), (1, .c (.one (.v (.int .i64 vs1)))), (5, .c (.one (.v (.int .i64 vs5)))), (9, .c (.one (.v (.bool (decide (vs5 < (vr0.length : Int)))))))], [], [(0, .live ⟨.str, .deep, 0, [], vr0⟩)]⟩)) := by kernel_rfl
theorem f68L0_eq {R : Type} (n : Nat) (k' : Ex → St → Option R)  : ∀ (m : Nat) (vs1 : Int) (vs5 : Int) (vr0 : List ByteArray), iter (fun st k => ev f68e f68k n (cAt [1,0,1,0,0] f68c) st k) m ⟨[(0, .c (.one (.h 0 0 0 []))), (1, .c (.one (.v (.int .i64 vs1)))), (5, .c (.one (.v (.int .i64 vs5))))], [], [(0, .live ⟨.str, .deep, 0, [], vr0⟩)]⟩ k' = f68L0 n (fun (xvs1 : Int) (xvs5 : Int) (xvs9 : Bool) (xvr0 : List ByteArray) => k' (.exit 0) ⟨[(0, .c (.one (.h 0 0 0 []))), (1, .c (.one (.v (.int .i64 xvs1)))), (5, .c (.one (.v (.int .i64 xvs5)))), (9, .c (.one (.v (.bool xvs9))))], [], [(0, .live ⟨.str, .deep, 0, [], xvr0⟩)]⟩) m vs1 vs5 vr0 := by
  intro m; induction m with
  | zero => intros; rfl
  | succ m ih =>
    intro vs1 vs5 vr0
    simp only [iter]
    rw [f68L0_b]
    simp only [ih, f68L0]

noncomputable def f68K0 {R : Type} (n : Nat) (k' : Ex → St → Option R) : Ex → St → Option R := (blockK 0 (seqK f68e f68k n (cAt [1,1] f68c) k'))
theorem f68K0_x0 {R : Type} (n : Nat) (k : List Dt → Option R) (a0 : List ByteArray) (a1 : Int) (xvs1 : Int) (xvs5 : Int) (xvs9 : Bool) (xvr0 : List ByteArray) : f68K0 n (exitK f68e [.«mut», .ro] [false] true [.tmp 4] [3] [.d (.sl .str) a0, .d (.i .i64) a1] k) (.exit 0) ⟨[(0, .c (.one (.h 0 0 0 []))), (1, .c (.one (.v (.int .i64 xvs1)))), (5, .c (.one (.v (.int .i64 xvs5)))), (9, .c (.one (.v (.bool xvs9))))], [], [(0, .live ⟨.str, .deep, 0, [], xvr0⟩)]⟩ =
    (k [.d (.i .i64) xvs1, .d (.sl .str) xvr0]) := by kernel_rfl

theorem f68_run {R : Type} (n : Nat) (k : List Dt → Option R) (a0 : List ByteArray) (a1 : Int) : evFn f68e f68k n f68c [.«mut», .ro] [false] true [.tmp 4] [3] [.d (.sl .str) a0, .d (.i .i64) a1] k =
    (f68L0 n (fun (xvs1 : Int) (xvs5 : Int) (xvs9 : Bool) (xvr0 : List ByteArray) =>
    (k [.d (.i .i64) xvs1, .d (.sl .str) xvr0])) n a1 (0 : Int) a0) := by
  refine Eq.trans (b := (iter (fun st k => ev f68e f68k n (cAt [1,0,1,0,0] f68c) st k) n ⟨[(0, .c (.one (.h 0 0 0 []))), (1, .c (.one (.v (.int .i64 a1)))), (5, .c (.one (.v (.int .i64 (0 : Int)))))], [], [(0, .live ⟨.str, .deep, 0, [], a0⟩)]⟩ (f68K0 n (exitK f68e [.«mut», .ro] [false] true [.tmp 4] [3] [.d (.sl .str) a0, .d (.i .i64) a1] k)))) (by kernel_rfl) ?_
  simp only [f68L0_eq, f68K0_x0]
theorem f68_spec (a0 : List ByteArray) (a1 : Int) (hg : gmk a1 (ctL ct_str a0) = true) : ∃ keep rounds, ∀ {R : Type} (k : List Dt → Option R), evFn f68e keep rounds f68c [.«mut», .ro] [false] true [.tmp 4] [3] [.d (.sl .str) a0, .d (.i .i64) a1] k = k [.d (.i .i64) (mkL mk_str a1 a0).2, .d (.sl .str) (mkL mk_str a1 a0).1] := by
  rw [gmk_iff] at hg
  have hl := ctL_len ct_str_pos a0
  refine ⟨f68k, a0.length + 1, fun {R} k => ?_⟩
  rw [f68_run]
  refine Eq.trans (loop_mark (F := fun m kk i l => f68L0 (a0.length + 1) _ m kk i l) (f := mk_str) (c := ct_str) (good := fun kk l => k [.d (.i .i64) kk, .d (.sl .str) l]) (n := a0.length) mk_str_ct
    (fun m kk j l x hx hln h0 hB => ?_) (fun m kk l hln => by simp only [f68L0, hln, idxE, cond_false]) a0 (a0.length + 1) a1 [] (by simp) (by omega) hg.1 hg.2) rfl
  obtain ⟨h1, h2, _, ht⟩ := idx (lt_of_get hx) (by omega)
  have hA : ∀ a, atI (t := .str) (l.set j a) j = a := fun a => atI_set (t := .str) (lt_of_get hx) a
  have hj := lt_of_get hx
  simp only [ct_str] at hB
  simp (disch := omega) only [f68L0, h1, h2, ht, hA, atI_of (t := .str) hx, List.set_set, List.length_set, wrap_id, gmk_of, okI_of, mk_str, Bool.and_self, cond_true]

noncomputable def q68 : List Dt → Option (Bool × List Dt)
  | [.d (.sl .str) a0, .d (.i .i64) a1] => some (((fun (x : List ByteArray) (k : Int) => gmk k (ctL ct_str x)) a0 a1), [.d (.i .i64) (mkL mk_str a1 a0).2, .d (.sl .str) (mkL mk_str a1 a0).1])
  | _ => none
noncomputable def s68 : Gm.Spec := Gm.Spec.of [.«mut», .ro] [false] true q68
theorem good68 : Gm.Good Try.prog (68, s68) := by
  have hl : ∀ x ∈ [(70, s70)], Gm.Good Try.prog x := List.forall_mem_cons.2 ⟨good70, List.forall_mem_nil _⟩
  refine ⟨⟨spec_ok (tab_ok.env hl) (tab.natl hl) Try.func68 (by kernel_rfl : Try.f68.body = some f68c) [3] (by kernel_rfl) ?_, _, Try.func68, by kernel_rfl, of_decide_eq_true (by kernel_rfl)⟩, Gm.Spec.of_natl _ _ _ _⟩
  intro ds outs h
  unfold q68 at h
  split at h
  · simp only [Option.some.injEq, Prod.mk.injEq] at h; obtain ⟨hg, h⟩ := h; cases h; exact f68_spec _ _ hg
  · cases h
noncomputable def q69 : List Dt → Option (Bool × List Dt)
  | [.d (.sl .node) a0, .d (.i .i64) a1] => some (((fun (x : List NodeT) (k : Int) => gmk k (ctL ct_node x)) a0 a1), [.d (.i .i64) (mkL mk_node a1 a0).2, .d (.sl .node) (mkL mk_node a1 a0).1])
  | _ => none
noncomputable def mu69 : List Dt → Nat
  | [.d (.sl .node) a0, .d (.i .i64) a1] => mmL_node a0 a1
  | _ => 0
noncomputable def s69r (N : Nat) : Gm.Spec := Gm.Spec.of [.«mut», .ro] [false] true (qlt mu69 N q69)
/-! ### loop.example/g00465/laws.markNodeS -/
noncomputable def f69c : Code := (Try.f69.body).getD .skip
def f69k : Nat → Kp := kat [⟨[0, 1], [], [], []⟩, ⟨[0, 1, 5], [], [], []⟩, ⟨[0, 1, 5, 9], [], [], []⟩, ⟨[0, 1, 5], [], [], []⟩, ⟨[0, 1, 5], [], [], []⟩, ⟨[0, 1, 5], [], [], []⟩, ⟨[0, 1, 5], [], [], []⟩, ⟨[0, 1, 5], [], [], []⟩, ⟨[0, 1, 5], [], [], []⟩, ⟨[0, 1, 5], [], [], []⟩, ⟨[0, 1, 5], [], [], []⟩, ⟨[0, 1, 5], [], [], []⟩, ⟨[0, 4], [], [], []⟩]
noncomputable def f69e (N : Nat) : Env := tab.env [(68, s68), (69, s69r N), (70, s70)]
noncomputable def f69v0 (vr0 : List NodeT) (vs5 : Int) (vs1 : Int) : List NodeT :=
  (vr0.set (Int.toNat vs5) (⟨vs1, (NodeT.n (atI (t := .node) vr0 (Int.toNat vs5))), (NodeT.s (atI (t := .node) vr0 (Int.toNat vs5))), (NodeT.keys (atI (t := .node) vr0 (Int.toNat vs5))), (NodeT.kids (atI (t := .node) vr0 (Int.toNat vs5)))⟩ : NodeT))
noncomputable def f69v1 (vr0 : List NodeT) (vs5 : Int) (vs1 : Int) : List NodeT :=
  ((f69v0 vr0 vs5 vs1).set (Int.toNat vs5) (⟨(NodeT.kind (atI (t := .node) (f69v0 vr0 vs5 vs1) (Int.toNat vs5))), (IntKind.wrap .i64 (vs1 + (1 : Int))), (NodeT.s (atI (t := .node) (f69v0 vr0 vs5 vs1) (Int.toNat vs5))), (NodeT.keys (atI (t := .node) (f69v0 vr0 vs5 vs1) (Int.toNat vs5))), (NodeT.kids (atI (t := .node) (f69v0 vr0 vs5 vs1) (Int.toNat vs5)))⟩ : NodeT))
noncomputable def f69v2 (vr0 : List NodeT) (vs5 : Int) (vs1 : Int) : List NodeT :=
  ((f69v1 vr0 vs5 vs1).set (Int.toNat vs5) (⟨(NodeT.kind (atI (t := .node) (f69v1 vr0 vs5 vs1) (Int.toNat vs5))), (NodeT.n (atI (t := .node) (f69v1 vr0 vs5 vs1) (Int.toNat vs5))), (mkT (IntKind.wrap .i64 ((IntKind.wrap .i64 (vs1 + (1 : Int))) + (1 : Int)))), (NodeT.keys (atI (t := .node) (f69v1 vr0 vs5 vs1) (Int.toNat vs5))), (NodeT.kids (atI (t := .node) (f69v1 vr0 vs5 vs1) (Int.toNat vs5)))⟩ : NodeT))
noncomputable def f69v3 (vr0 : List NodeT) (vs5 : Int) (vs1 : Int) : List NodeT :=
  ((f69v2 vr0 vs5 vs1).set (Int.toNat vs5) (⟨(NodeT.kind (atI (t := .node) (f69v2 vr0 vs5 vs1) (Int.toNat vs5))), (NodeT.n (atI (t := .node) (f69v2 vr0 vs5 vs1) (Int.toNat vs5))), (NodeT.s (atI (t := .node) (f69v2 vr0 vs5 vs1) (Int.toNat vs5))), (mkL mk_str (IntKind.wrap .i64 ((IntKind.wrap .i64 ((IntKind.wrap .i64 (vs1 + (1 : Int))) + (1 : Int))) + (1 : Int))) (NodeT.keys (atI (t := .node) (f69v2 vr0 vs5 vs1) (Int.toNat vs5)))).1, (NodeT.kids (atI (t := .node) (f69v2 vr0 vs5 vs1) (Int.toNat vs5)))⟩ : NodeT))
noncomputable def f69v4 (vr0 : List NodeT) (vs5 : Int) (vs1 : Int) : List NodeT :=
  ((f69v3 vr0 vs5 vs1).set (Int.toNat vs5) (⟨(NodeT.kind (atI (t := .node) (f69v3 vr0 vs5 vs1) (Int.toNat vs5))), (NodeT.n (atI (t := .node) (f69v3 vr0 vs5 vs1) (Int.toNat vs5))), (NodeT.s (atI (t := .node) (f69v3 vr0 vs5 vs1) (Int.toNat vs5))), (NodeT.keys (atI (t := .node) (f69v3 vr0 vs5 vs1) (Int.toNat vs5))), (mkL mk_node (mkL mk_str (IntKind.wrap .i64 ((IntKind.wrap .i64 ((IntKind.wrap .i64 (vs1 + (1 : Int))) + (1 : Int))) + (1 : Int))) (NodeT.keys (atI (t := .node) (f69v2 vr0 vs5 vs1) (Int.toNat vs5)))).2 (NodeT.kids (atI (t := .node) (f69v3 vr0 vs5 vs1) (Int.toNat vs5)))).1⟩ : NodeT))
noncomputable def f69L0 {R : Type} (N : Nat) (n : Nat) (x0 : Int → Int → Bool → (List NodeT) → Option R)  : Nat → Int → Int → (List NodeT) → Option R
  | 0, _, _, _ => none
  | m + 1, vs1, vs5, vr0 =>
    (cond (decide (vs5 < (vr0.length : Int)))
      (cond ((decide ((0 : Int) ≤ vs5)) && (decide (vs5 < (vr0.length : Int))))
        (cond ((decide ((0 : Int) ≤ vs5)) && (decide (vs5 < ((f69v0 vr0 vs5 vs1).length : Int))))
          (cond (okI (IntKind.wrap .i64 ((IntKind.wrap .i64 (vs1 + (1 : Int))) + (1 : Int))))
            (cond ((decide ((0 : Int) ≤ vs5)) && (decide (vs5 < ((f69v1 vr0 vs5 vs1).length : Int))))
              (cond ((decide ((0 : Int) ≤ vs5)) && (decide (vs5 < ((f69v2 vr0 vs5 vs1).length : Int))))
                (cond ((fun (x : List ByteArray) (k : Int) => gmk k (ctL ct_str x)) (NodeT.keys (atI (t := .node) (f69v2 vr0 vs5 vs1) (Int.toNat vs5))) (IntKind.wrap .i64 ((IntKind.wrap .i64 ((IntKind.wrap .i64 (vs1 + (1 : Int))) + (1 : Int))) + (1 : Int))))
                  (cond ((decide ((0 : Int) ≤ vs5)) && (decide (vs5 < ((f69v3 vr0 vs5 vs1).length : Int))))
                    (cond (((fun (x : List NodeT) (k : Int) => gmk k (ctL ct_node x)) (NodeT.kids (atI (t := .node) (f69v3 vr0 vs5 vs1) (Int.toNat vs5))) (mkL mk_str (IntKind.wrap .i64 ((IntKind.wrap .i64 ((IntKind.wrap .i64 (vs1 + (1 : Int))) + (1 : Int))) + (1 : Int))) (NodeT.keys (atI (t := .node) (f69v2 vr0 vs5 vs1) (Int.toNat vs5)))).2) && (Nat.blt (mmL_node (NodeT.kids (atI (t := .node) (f69v3 vr0 vs5 vs1) (Int.toNat vs5))) (mkL mk_str (IntKind.wrap .i64 ((IntKind.wrap .i64 ((IntKind.wrap .i64 (vs1 + (1 : Int))) + (1 : Int))) + (1 : Int))) (NodeT.keys (atI (t := .node) (f69v2 vr0 vs5 vs1) (Int.toNat vs5)))).2) N))
                      (f69L0 N n x0 m (mkL mk_node (mkL mk_str (IntKind.wrap .i64 ((IntKind.wrap .i64 ((IntKind.wrap .i64 (vs1 + (1 : Int))) + (1 : Int))) + (1 : Int))) (NodeT.keys (atI (t := .node) (f69v2 vr0 vs5 vs1) (Int.toNat vs5)))).2 (NodeT.kids (atI (t := .node) (f69v3 vr0 vs5 vs1) (Int.toNat vs5)))).2 (IntKind.wrap .i64 (vs5 + (1 : Int))) (f69v4 vr0 vs5 vs1))
                      none)
                    none)
                  none)
                none)
              none)
            none)
          none)
        none)
      (x0 vs1 vs5 (decide (vs5 < (vr0.length : Int))) vr0))
theorem f69L0_b {R : Type} (N : Nat) (n : Nat) (k' : Ex → St → Option R) (vs1 : Int) (vs5 : Int) (vr0 : List NodeT) : ev (f69e N) f69k n (cAt [1,0,1,0,0] f69c) ⟨[(0, .c (.one (.h 0 0 0 []))), (1, .c (.one (.v (.int .i64 vs1)))), (5, .c (.one (.v (.int .i64 vs5))))], [], [(0, .live ⟨.node, .deep, 0, [], vr0⟩)]⟩ k' =
    (cond (decide (vs5 < (vr0.length : Int)))
    (cond ((decide ((0 : Int) ≤ vs5)) && (decide (vs5 < (vr0.length : Int))))
      (cond ((decide ((0 : Int) ≤ vs5)) && (decide (vs5 < ((f69v0 vr0 vs5 vs1).length : Int))))
        (cond (okI (IntKind.wrap .i64 ((IntKind.wrap .i64 (vs1 + (1 : Int))) + (1 : Int))))
          (cond ((decide ((0 : Int) ≤ vs5)) && (decide (vs5 < ((f69v1 vr0 vs5 vs1).length : Int))))
            (cond ((decide ((0 : Int) ≤ vs5)) && (decide (vs5 < ((f69v2 vr0 vs5 vs1).length : Int))))
              (cond ((fun (x : List ByteArray) (k : Int) => gmk k (ctL ct_str x)) (NodeT.keys (atI (t := .node) (f69v2 vr0 vs5 vs1) (Int.toNat vs5))) (IntKind.wrap .i64 ((IntKind.wrap .i64 ((IntKind.wrap .i64 (vs1 + (1 : Int))) + (1 : Int))) + (1 : Int))))
                (cond ((decide ((0 : Int) ≤ vs5)) && (decide (vs5 < ((f69v3 vr0 vs5 vs1).length : Int))))
                  (cond (((fun (x : List NodeT) (k : Int) => gmk k (ctL ct_node x)) (NodeT.kids (atI (t := .node) (f69v3 vr0 vs5 vs1) (Int.toNat vs5))) (mkL mk_str (IntKind.wrap .i64 ((IntKind.wrap .i64 ((IntKind.wrap .i64 (vs1 + (1 : Int))) + (1 : Int))) + (1 : Int))) (NodeT.keys (atI (t := .node) (f69v2 vr0 vs5 vs1) (Int.toNat vs5)))).2) && (Nat.blt (mmL_node (NodeT.kids (atI (t := .node) (f69v3 vr0 vs5 vs1) (Int.toNat vs5))) (mkL mk_str (IntKind.wrap .i64 ((IntKind.wrap .i64 ((IntKind.wrap .i64 (vs1 + (1 : Int))) + (1 : Int))) + (1 : Int))) (NodeT.keys (atI (t := .node) (f69v2 vr0 vs5 vs1) (Int.toNat vs5)))).2) N))
                    (k' .normal ⟨[(0, .c (.one (.h 0 0 0 []))), (1, .c (.one (.v (.int .i64 (mkL mk_node (mkL mk_str (IntKind.wrap .i64 ((IntKind.wrap .i64 ((IntKind.wrap .i64 (vs1 + (1 : Int))) + (1 : Int))) + (1 : Int))) (NodeT.keys (atI (t := .node) (f69v2 vr0 vs5 vs1) (Int.toNat vs5)))).2 (NodeT.kids (atI (t := .node) (f69v3 vr0 vs5 vs1) (Int.toNat vs5)))).2)))), (5, .c (.one (.v (.int .i64 (IntKind.wrap .i64 (vs5 + (1 : Int)))))))], [], [(0, .live ⟨.node, .deep, 0, [], (f69v4 vr0 vs5 vs1)⟩)]⟩)
                    none)
                  none)
                none)
              none)
            none)
          none)
        none)
      none)
    (k' (.exit 0) ⟨[(0, .c (.one (.h 0 0 0 []))), (1, .c (.one (.v (.int .i64 vs1)))), (5, .c (.one (.v (.int .i64 vs5)))), (9, .c (.one (.v (.bool (decide (vs5 < (vr0.length : Int)))))))], [], [(0, .live ⟨.node, .deep, 0, [], vr0⟩)]⟩)) := by kernel_rfl
theorem f69L0_eq {R : Type} (N : Nat) (n : Nat) (k' : Ex → St → Option R)  : ∀ (m : Nat) (vs1 : Int) (vs5 : Int) (vr0 : List NodeT), iter (fun st k => ev (f69e N) f69k n (cAt [1,0,1,0,0] f69c) st k) m ⟨[(0, .c (.one (.h 0 0 0 []))), (1, .c (.one (.v (.int .i64 vs1)))), (5, .c (.one (.v (.int .i64 vs5))))], [], [(0, .live ⟨.node, .deep, 0, [], vr0⟩)]⟩ k' = f69L0 N n (fun (xvs1 : Int) (xvs5 : Int) (xvs9 : Bool) (xvr0 : List NodeT) => k' (.exit 0) ⟨[(0, .c (.one (.h 0 0 0 []))), (1, .c (.one (.v (.int .i64 xvs1)))), (5, .c (.one (.v (.int .i64 xvs5)))), (9, .c (.one (.v (.bool xvs9))))], [], [(0, .live ⟨.node, .deep, 0, [], xvr0⟩)]⟩) m vs1 vs5 vr0 := by
  intro m; induction m with
  | zero => intros; rfl
  | succ m ih =>
    intro vs1 vs5 vr0
    simp only [iter]
    rw [f69L0_b]
    simp only [ih, f69L0]

noncomputable def f69K0 {R : Type} (N : Nat) (n : Nat) (k' : Ex → St → Option R) : Ex → St → Option R := (blockK 0 (seqK (f69e N) f69k n (cAt [1,1] f69c) k'))
theorem f69K0_x0 {R : Type} (N : Nat) (n : Nat) (k : List Dt → Option R) (a0 : List NodeT) (a1 : Int) (xvs1 : Int) (xvs5 : Int) (xvs9 : Bool) (xvr0 : List NodeT) : f69K0 N n (exitK (f69e N) [.«mut», .ro] [false] true [.tmp 4] [3] [.d (.sl .node) a0, .d (.i .i64) a1] k) (.exit 0) ⟨[(0, .c (.one (.h 0 0 0 []))), (1, .c (.one (.v (.int .i64 xvs1)))), (5, .c (.one (.v (.int .i64 xvs5)))), (9, .c (.one (.v (.bool xvs9))))], [], [(0, .live ⟨.node, .deep, 0, [], xvr0⟩)]⟩ =
    (k [.d (.i .i64) xvs1, .d (.sl .node) xvr0]) := by kernel_rfl

theorem f69_run {R : Type} (N : Nat) (n : Nat) (k : List Dt → Option R) (a0 : List NodeT) (a1 : Int) : evFn (f69e N) f69k n f69c [.«mut», .ro] [false] true [.tmp 4] [3] [.d (.sl .node) a0, .d (.i .i64) a1] k =
    (f69L0 N n (fun (xvs1 : Int) (xvs5 : Int) (xvs9 : Bool) (xvr0 : List NodeT) =>
    (k [.d (.i .i64) xvs1, .d (.sl .node) xvr0])) n a1 (0 : Int) a0) := by
  refine Eq.trans (b := (iter (fun st k => ev (f69e N) f69k n (cAt [1,0,1,0,0] f69c) st k) n ⟨[(0, .c (.one (.h 0 0 0 []))), (1, .c (.one (.v (.int .i64 a1)))), (5, .c (.one (.v (.int .i64 (0 : Int)))))], [], [(0, .live ⟨.node, .deep, 0, [], a0⟩)]⟩ (f69K0 N n (exitK (f69e N) [.«mut», .ro] [false] true [.tmp 4] [3] [.d (.sl .node) a0, .d (.i .i64) a1] k)))) (by kernel_rfl) ?_
  simp only [f69L0_eq, f69K0_x0]
theorem f69_spec (N : Nat) (a0 : List NodeT) (a1 : Int) (hg : gmk a1 (ctL ct_node a0) = true) (hm : mu69 [.d (.sl .node) a0, .d (.i .i64) a1] = N) : ∃ keep rounds, ∀ {R : Type} (k : List Dt → Option R), evFn (f69e N) keep rounds f69c [.«mut», .ro] [false] true [.tmp 4] [3] [.d (.sl .node) a0, .d (.i .i64) a1] k = k [.d (.i .i64) (mkL mk_node a1 a0).2, .d (.sl .node) (mkL mk_node a1 a0).1] := by
  have hm : mmL_node a0 a1 = N := hm
  subst hm
  rw [gmk_iff] at hg
  have hl := ctL_len ct_node_pos a0
  refine ⟨f69k, a0.length + 1, fun {R} k => ?_⟩
  rw [f69_run]
  refine Eq.trans (loop_markM (F := fun m kk i l => f69L0 (mmL_node a0 a1) (a0.length + 1) _ m kk i l) (f := mk_node) (c := ct_node) (good := fun kk l => k [.d (.i .i64) kk, .d (.sl .node) l]) (n := a0.length) (fun x => x ∈ a0) mk_node_ct
    (fun m kk j l x hx hxm hln h0 hB => ?_) (fun m kk l hln => by simp only [f69L0, hln, idxE, cond_false]) a0 (a0.length + 1) a1 [] (fun _ h => h) (by simp) (by omega) hg.1 hg.2) rfl
  obtain ⟨h1, h2, _, ht⟩ := idx (lt_of_get hx) (by omega)
  have hA : ∀ a, atI (t := .node) (l.set j a) j = a := fun a => atI_set (t := .node) (lt_of_get hx) a
  have hj := lt_of_get hx
  have hb : ∀ q, Nat.blt (mmL_node x.kids q) (mmL_node a0 a1) = true := fun q => by
    have := ndL_mem (f := nd_node) hxm
    rw [nd_node_def] at this
    rw [Nat.blt_eq]; simp only [mmL_node]; omega
  rw [ct_node_def] at hB
  simp (disch := omega) only [f69L0, f69v0, f69v1, f69v2, f69v3, f69v4, h1, h2, ht, hA, atI_of (t := .node) hx, List.set_set, List.length_set, wrap_id, gmk_of, okI_of, mk_node_def, mkL_node_ct, mkL_str_ct, hb, Bool.and_self, cond_true]

noncomputable def s69 : Gm.Spec := Gm.Spec.of [.«mut», .ro] [false] true q69
theorem good69 : Gm.Good Try.prog (69, s69) := by
  refine ⟨⟨spec_rec mu69 fun N hr => ?_, _, Try.func69, by kernel_rfl, of_decide_eq_true (by kernel_rfl)⟩, Gm.Spec.of_natl _ _ _ _⟩
  have hl : ∀ x ∈ [(68, s68), (69, s69r N), (70, s70)], Gm.Good Try.prog x := List.forall_mem_cons.2 ⟨good68, List.forall_mem_cons.2 ⟨⟨⟨hr, _, Try.func69, by kernel_rfl, of_decide_eq_true (by kernel_rfl)⟩, Gm.Spec.of_natl _ _ _ _⟩, List.forall_mem_cons.2 ⟨good70, List.forall_mem_nil _⟩⟩⟩
  intro R
  refine spec_ok (E := f69e N) (tab_ok.env hl) (tab.natl hl) Try.func69 (by kernel_rfl : Try.f69.body = some f69c) [3] (by kernel_rfl) ?_
  intro ds outs h
  obtain ⟨h, hm⟩ := qeq_some h
  unfold q69 at h
  split at h
  · simp only [Option.some.injEq, Prod.mk.injEq] at h; obtain ⟨hg, h⟩ := h; cases h; exact f69_spec N _ _ hg hm
  · cases h
/-! ### loop.example/g00465/laws.markNode -/
noncomputable def f25c : Code := (Try.f25.body).getD .skip
def f25k : Nat → Kp := kat [⟨[0, 1, 2], [], [], []⟩, ⟨[0, 1, 2], [], [], []⟩, ⟨[0, 1], [], [], []⟩, ⟨[0, 4], [], [], []⟩]
noncomputable def f25e : Env := tab.env [(68, s68), (69, s69)]
theorem f25_run {R : Type} (n : Nat) (k : List Dt → Option R) (a0 : List ByteArray) (a1 : List NodeT) (a2 : Int) (z0 : Dt) (z1 : Dt) (z2 : Dt) : evFnS f25e f25k n f25c [.skp, .skp, .skp, .«mut», .«mut»] [.ro] [false] [.tmp 4] [3] [z0, z1, z2, .d (.sl .str) a0, .d (.sl .node) a1] [.d (.i .i64) a2] k =
    (cond ((fun (x : List ByteArray) (k : Int) => gmk k (ctL ct_str x)) a0 a2)
    (cond ((fun (x : List NodeT) (k : Int) => gmk k (ctL ct_node x)) a1 (mkL mk_str a2 a0).2)
      (k [.d (.i .i64) (mkL mk_node (mkL mk_str a2 a0).2 a1).2, .d (.sl .str) (mkL mk_str a2 a0).1, .d (.sl .node) (mkL mk_node (mkL mk_str a2 a0).2 a1).1])
      none)
    none) := by kernel_rfl
theorem f25_spec (a0 : List ByteArray) (a1 : List NodeT) (a2 : Int) (z0 : Dt) (z1 : Dt) (z2 : Dt) (hg : gmk a2 (ctL ct_str a0 + ctL ct_node a1) = true) : ∃ keep rounds, ∀ {R : Type} (k : List Dt → Option R), evFnS f25e keep rounds f25c [.skp, .skp, .skp, .«mut», .«mut»] [.ro] [false] [.tmp 4] [3] [z0, z1, z2, .d (.sl .str) a0, .d (.sl .node) a1] [.d (.i .i64) a2] k = k [.d (.i .i64) (mkL mk_node ((mkL mk_str a2 a0).2) a1).2, .d (.sl .str) (mkL mk_str a2 a0).1, .d (.sl .node) (mkL mk_node ((mkL mk_str a2 a0).2) a1).1] := by
  rw [gmk_iff] at hg
  refine ⟨f25k, 0, fun {R} k => ?_⟩
  rw [f25_run]
  simp (disch := omega) only [gmk_of, mkL_node_ct, mkL_str_ct, cond_true]

noncomputable def q25 : List Dt → Option (Bool × List Dt)
  | [_, _, _, .d (.sl .str) a0, .d (.sl .node) a1, .d (.i .i64) a2] => some (((fun (a0 : List ByteArray) (a1 : List NodeT) (a2 : Int) => gmk a2 (ctL ct_str a0 + ctL ct_node a1)) a0 a1 a2), [.d (.i .i64) (mkL mk_node ((mkL mk_str a2 a0).2) a1).2, .d (.sl .str) (mkL mk_str a2 a0).1, .d (.sl .node) (mkL mk_node ((mkL mk_str a2 a0).2) a1).1])
  | _ => none
noncomputable def s25 : Gm.Spec := Gm.Spec.ofS [.skp, .skp, .skp, .«mut», .«mut»] [.ro] [false] q25
theorem good25 : Gm.Good Try.prog (25, s25) := by
  have hl : ∀ x ∈ [(68, s68), (69, s69)], Gm.Good Try.prog x := List.forall_mem_cons.2 ⟨good68, List.forall_mem_cons.2 ⟨good69, List.forall_mem_nil _⟩⟩
  refine ⟨⟨spec_okS (tab_ok.env hl) (tab.natl hl) Try.func25 (by kernel_rfl : Try.f25.body = some f25c) [3] (by kernel_rfl) ?_, _, Try.func25, by kernel_rfl, of_decide_eq_true (by kernel_rfl)⟩, Gm.Spec.ofS_natl _ _ _ _⟩
  intro ds outs h _
  unfold q25 at h
  split at h
  · simp only [Option.some.injEq, Prod.mk.injEq] at h; obtain ⟨hg, h⟩ := h; cases h; exact f25_spec _ _ _ _ _ _ hg
  · cases h
/-! ### loop.example/g00465/laws.markPatchOp -/
noncomputable def f31c : Code := (Try.f31.body).getD .skip
def f31k : Nat → Kp := kat [⟨[0, 1, 2], [], [], []⟩, ⟨[0, 1, 2], [], [], []⟩, ⟨[0, 1, 2], [], [], []⟩, ⟨[0, 1], [], [], []⟩, ⟨[0, 4], [], [], []⟩]
noncomputable def f31e : Env := tab.env [(25, s25), (68, s68)]
theorem f31_run {R : Type} (n : Nat) (k : List Dt → Option R) (a0 : List ByteArray) (a1 : List ByteArray) (a2 : List ByteArray) (a3 : List NodeT) (a4 : Int) (z0 : Dt) (z1 : Dt) (z2 : Dt) (z3 : Dt) : evFnS f31e f31k n f31c [.skp, .«mut», .«mut», .skp, .skp, .skp, .«mut», .«mut»] [.ro] [false] [.tmp 4] [3] [z0, .d (.sl .str) a0, .d (.sl .str) a1, z1, z2, z3, .d (.sl .str) a2, .d (.sl .node) a3] [.d (.i .i64) a4] k =
    (cond ((fun (x : List ByteArray) (k : Int) => gmk k (ctL ct_str x)) a0 a4)
    (cond ((fun (x : List ByteArray) (k : Int) => gmk k (ctL ct_str x)) a1 (mkL mk_str a4 a0).2)
      (cond ((fun (a0 : List ByteArray) (a1 : List NodeT) (a2 : Int) => gmk a2 (ctL ct_str a0 + ctL ct_node a1)) a2 a3 (mkL mk_str (mkL mk_str a4 a0).2 a1).2)
        (k [.d (.i .i64) (mkL mk_node ((mkL mk_str ((mkL mk_str (mkL mk_str a4 a0).2 a1).2) a2).2) a3).2, .d (.sl .str) (mkL mk_str a4 a0).1, .d (.sl .str) (mkL mk_str (mkL mk_str a4 a0).2 a1).1, .d (.sl .str) (mkL mk_str ((mkL mk_str (mkL mk_str a4 a0).2 a1).2) a2).1, .d (.sl .node) (mkL mk_node ((mkL mk_str ((mkL mk_str (mkL mk_str a4 a0).2 a1).2) a2).2) a3).1])
        none)
      none)
    none) := by kernel_rfl
theorem f31_spec (a0 : List ByteArray) (a1 : List ByteArray) (a2 : List ByteArray) (a3 : List NodeT) (a4 : Int) (z0 : Dt) (z1 : Dt) (z2 : Dt) (z3 : Dt) (hg : gmk a4 (ctL ct_str a0 + ctL ct_str a1 + ctL ct_str a2 + ctL ct_node a3) = true) : ∃ keep rounds, ∀ {R : Type} (k : List Dt → Option R), evFnS f31e keep rounds f31c [.skp, .«mut», .«mut», .skp, .skp, .skp, .«mut», .«mut»] [.ro] [false] [.tmp 4] [3] [z0, .d (.sl .str) a0, .d (.sl .str) a1, z1, z2, z3, .d (.sl .str) a2, .d (.sl .node) a3] [.d (.i .i64) a4] k = k [.d (.i .i64) (mkL mk_node ((mkL mk_str ((mkL mk_str ((mkL mk_str a4 a0).2) a1).2) a2).2) a3).2, .d (.sl .str) (mkL mk_str a4 a0).1, .d (.sl .str) (mkL mk_str ((mkL mk_str a4 a0).2) a1).1, .d (.sl .str) (mkL mk_str ((mkL mk_str ((mkL mk_str a4 a0).2) a1).2) a2).1, .d (.sl .node) (mkL mk_node ((mkL mk_str ((mkL mk_str ((mkL mk_str a4 a0).2) a1).2) a2).2) a3).1] := by
  rw [gmk_iff] at hg
  refine ⟨f31k, 0, fun {R} k => ?_⟩
  rw [f31_run]
  simp (disch := omega) only [gmk_of, mkL_node_ct, mkL_str_ct, cond_true]

noncomputable def q31 : List Dt → Option (Bool × List Dt)
  | [_, .d (.sl .str) a0, .d (.sl .str) a1, _, _, _, .d (.sl .str) a2, .d (.sl .node) a3, .d (.i .i64) a4] => some (((fun (a0 : List ByteArray) (a1 : List ByteArray) (a2 : List ByteArray) (a3 : List NodeT) (a4 : Int) => gmk a4 (ctL ct_str a0 + ctL ct_str a1 + ctL ct_str a2 + ctL ct_node a3)) a0 a1 a2 a3 a4), [.d (.i .i64) (mkL mk_node ((mkL mk_str ((mkL mk_str ((mkL mk_str a4 a0).2) a1).2) a2).2) a3).2, .d (.sl .str) (mkL mk_str a4 a0).1, .d (.sl .str) (mkL mk_str ((mkL mk_str a4 a0).2) a1).1, .d (.sl .str) (mkL mk_str ((mkL mk_str ((mkL mk_str a4 a0).2) a1).2) a2).1, .d (.sl .node) (mkL mk_node ((mkL mk_str ((mkL mk_str ((mkL mk_str a4 a0).2) a1).2) a2).2) a3).1])
  | _ => none
noncomputable def s31 : Gm.Spec := Gm.Spec.ofS [.skp, .«mut», .«mut», .skp, .skp, .skp, .«mut», .«mut»] [.ro] [false] q31
theorem good31 : Gm.Good Try.prog (31, s31) := by
  have hl : ∀ x ∈ [(25, s25), (68, s68)], Gm.Good Try.prog x := List.forall_mem_cons.2 ⟨good25, List.forall_mem_cons.2 ⟨good68, List.forall_mem_nil _⟩⟩
  refine ⟨⟨spec_okS (tab_ok.env hl) (tab.natl hl) Try.func31 (by kernel_rfl : Try.f31.body = some f31c) [3] (by kernel_rfl) ?_, _, Try.func31, by kernel_rfl, of_decide_eq_true (by kernel_rfl)⟩, Gm.Spec.ofS_natl _ _ _ _⟩
  intro ds outs h _
  unfold q31 at h
  split at h
  · simp only [Option.some.injEq, Prod.mk.injEq] at h; obtain ⟨hg, h⟩ := h; cases h; exact f31_spec _ _ _ _ _ _ _ _ _ hg
  · cases h
/-! ### loop.example/g00465/laws.heldStringS -/
noncomputable def f71c : Code := (Try.f71.body).getD .skip
def f71k : Nat → Kp := kat [⟨[0, 1], [], [], []⟩, ⟨[0, 1, 5], [], [], []⟩, ⟨[0, 1, 5, 9], [], [], []⟩, ⟨[0, 1, 5], [], [], []⟩, ⟨[0, 1, 5, 18], [], [], []⟩, ⟨[4], [], [], []⟩, ⟨[0, 1, 5], [], [], []⟩, ⟨[4], [], [], []⟩]
noncomputable def f71e : Env := tab.env [(70, s70)]
noncomputable def f71L0 {R : Type} (n : Nat) (x0 : Option R) (x1 : Int → Int → Bool → Option R) (vs0 : List ByteArray) : Nat → Int → Int → Option R
  | 0, _, _ => none
  | m + 1, vs1, vs5 =>
    (cond (decide (vs5 < (vs0.length : Int)))
      (cond ((decide ((0 : Int) ≤ vs5)) && (decide (vs5 < (vs0.length : Int))))
        (cond (okI vs1)
          (cond (!(sEq (atI (t := .str) vs0 (Int.toNat vs5)) (mkT vs1)))
            (x0)
            (f71L0 n x0 x1 vs0 m (IntKind.wrap .i64 (vs1 + (1 : Int))) (IntKind.wrap .i64 (vs5 + (1 : Int)))))
          none)
        none)
      (x1 vs1 vs5 (decide (vs5 < (vs0.length : Int)))))
theorem f71L0_b {R : Type} (n : Nat) (k' : Ex → St → Option R) (vs0 : List ByteArray) (vs1 : Int) (vs5 : Int) : ev f71e f71k n (cAt [1,0,1,0,0] f71c) ⟨[(0, .c (.one (.ro .str vs0))), (1, .c (.one (.v (.int .i64 vs1)))), (5, .c (.one (.v (.int .i64 vs5))))], [], []⟩ k' =
    (cond (decide (vs5 < (vs0.length : Int)))
    (cond ((decide ((0 : Int) ≤ vs5)) && (decide (vs5 < (vs0.length : Int))))
      (cond (okI vs1)
        (cond (!(sEq (atI (t := .str) vs0 (Int.toNat vs5)) (mkT vs1)))
          (k' .ret ⟨[(4, .c (.one (.v (.int .i64 (-1 : Int)))))], [], []⟩)
          (k' .normal ⟨[(0, .c (.one (.ro .str vs0))), (1, .c (.one (.v (.int .i64 (IntKind.wrap .i64 (vs1 + (1 : Int))))))), (5, .c (.one (.v (.int .i64 (IntKind.wrap .i64 (vs5 + (1 : Int)))))))], [], []⟩))
        none)
      none)
    (k' (.exit 0) ⟨[(0, .c (.one (.ro .str vs0))), (1, .c (.one (.v (.int .i64 vs1)))), (5, .c (.one (.v (.int .i64 vs5)))), (9, .c (.one (.v (.bool (decide (vs5 < (vs0.length : Int)))))))], [], []⟩)) := by kernel_rfl
theorem f71L0_eq {R : Type} (n : Nat) (k' : Ex → St → Option R) (vs0 : List ByteArray) : ∀ (m : Nat) (vs1 : Int) (vs5 : Int), iter (fun st k => ev f71e f71k n (cAt [1,0,1,0,0] f71c) st k) m ⟨[(0, .c (.one (.ro .str vs0))), (1, .c (.one (.v (.int .i64 vs1)))), (5, .c (.one (.v (.int .i64 vs5))))], [], []⟩ k' = f71L0 n (k' .ret ⟨[(4, .c (.one (.v (.int .i64 (-1 : Int)))))], [], []⟩) (fun (xvs1 : Int) (xvs5 : Int) (xvs9 : Bool) => k' (.exit 0) ⟨[(0, .c (.one (.ro .str vs0))), (1, .c (.one (.v (.int .i64 xvs1)))), (5, .c (.one (.v (.int .i64 xvs5)))), (9, .c (.one (.v (.bool xvs9))))], [], []⟩) vs0 m vs1 vs5 := by
  intro m; induction m with
  | zero => intros; rfl
  | succ m ih =>
    intro vs1 vs5
    simp only [iter]
    rw [f71L0_b]
    simp only [ih, f71L0]

noncomputable def f71K0 {R : Type} (n : Nat) (k' : Ex → St → Option R) : Ex → St → Option R := (blockK 0 (seqK f71e f71k n (cAt [1,1] f71c) k'))
theorem f71K0_x0 {R : Type} (n : Nat) (k : List Dt → Option R) (a0 : List ByteArray) (a1 : Int)  : f71K0 n (exitK f71e [.ro, .ro] [false] true [.tmp 4] [3] [.d (.sl .str) a0, .d (.i .i64) a1] k) .ret ⟨[(4, .c (.one (.v (.int .i64 (-1 : Int)))))], [], []⟩ =
    (k [.d (.i .i64) (-1 : Int)]) := by kernel_rfl
theorem f71K0_x1 {R : Type} (n : Nat) (k : List Dt → Option R) (a0 : List ByteArray) (a1 : Int) (vs0 : List ByteArray) (xvs1 : Int) (xvs5 : Int) (xvs9 : Bool) : f71K0 n (exitK f71e [.ro, .ro] [false] true [.tmp 4] [3] [.d (.sl .str) a0, .d (.i .i64) a1] k) (.exit 0) ⟨[(0, .c (.one (.ro .str vs0))), (1, .c (.one (.v (.int .i64 xvs1)))), (5, .c (.one (.v (.int .i64 xvs5)))), (9, .c (.one (.v (.bool xvs9))))], [], []⟩ =
    (k [.d (.i .i64) xvs1]) := by kernel_rfl

theorem f71_run {R : Type} (n : Nat) (k : List Dt → Option R) (a0 : List ByteArray) (a1 : Int) : evFn f71e f71k n f71c [.ro, .ro] [false] true [.tmp 4] [3] [.d (.sl .str) a0, .d (.i .i64) a1] k =
    (f71L0 n (k [.d (.i .i64) (-1 : Int)]) (fun (xvs1 : Int) (xvs5 : Int) (xvs9 : Bool) =>
    (k [.d (.i .i64) xvs1])) a0 n a1 (0 : Int)) := by
  refine Eq.trans (b := (iter (fun st k => ev f71e f71k n (cAt [1,0,1,0,0] f71c) st k) n ⟨[(0, .c (.one (.ro .str a0))), (1, .c (.one (.v (.int .i64 a1)))), (5, .c (.one (.v (.int .i64 (0 : Int)))))], [], []⟩ (f71K0 n (exitK f71e [.ro, .ro] [false] true [.tmp 4] [3] [.d (.sl .str) a0, .d (.i .i64) a1] k)))) (by kernel_rfl) ?_
  simp only [f71L0_eq, f71K0_x0, f71K0_x1]
theorem f71_spec (a0 : List ByteArray) (a1 : Int) (hg : gmk a1 (ctL ct_str a0) = true) : ∃ keep rounds, ∀ {R : Type} (k : List Dt → Option R), evFn f71e keep rounds f71c [.ro, .ro] [false] true [.tmp 4] [3] [.d (.sl .str) a0, .d (.i .i64) a1] k = k [.d (.i .i64) (hdL mk_str a1 a0)] := by
  rw [gmk_iff] at hg
  have hl := ctL_len ct_str_pos a0
  refine ⟨f71k, a0.length + 1, fun {R} k => ?_⟩
  rw [f71_run]
  refine Eq.trans (loop_held (xs := a0) (F := fun m kk i => f71L0 (a0.length + 1) _ _ a0 m kk i) (f := mk_str) (c := ct_str) (good := fun kk => k [.d (.i .i64) kk]) (bad := k [.d (.i .i64) (-1 : Int)]) mk_str_ct
    (fun m kk j x hx h0 hB => ?_) (fun m kk => by simp only [f71L0, idxE, cond_false]) a0.length 0 (a0.length + 1) a1 (by omega) (by omega) hg.1 (by rw [List.drop_zero]; exact hg.2)) ?_
  · obtain ⟨h1, h2, _, ht⟩ := idx (lt_of_get hx) (by omega)
    have hj := lt_of_get hx
    simp only [ct_str] at hB
    simp (disch := omega) only [f71L0, h1, h2, ht, atI_of (t := .str) hx, wrap_id, gmk_of, okI_of, mk_str, eqD_str, Bool.cond_not, cond_and, bne, decide_ge0, decide_m1, cond_true, cond_false, Bool.cond_self, Bool.and_self]
  · rw [List.drop_zero]
    show _ = k [.d (.i .i64) (hdL mk_str a1 a0)]
    unfold hdL
    cases eqD a0 (mkL mk_str a1 a0).1 <;> rfl

noncomputable def q71 : List Dt → Option (Bool × List Dt)
  | [.d (.sl .str) a0, .d (.i .i64) a1] => some (((fun (x : List ByteArray) (k : Int) => gmk k (ctL ct_str x)) a0 a1), [.d (.i .i64) (hdL mk_str a1 a0)])
  | _ => none
noncomputable def s71 : Gm.Spec := Gm.Spec.of [.ro, .ro] [false] true q71
theorem good71 : Gm.Good Try.prog (71, s71) := by
  have hl : ∀ x ∈ [(70, s70)], Gm.Good Try.prog x := List.forall_mem_cons.2 ⟨good70, List.forall_mem_nil _⟩
  refine ⟨⟨spec_ok (tab_ok.env hl) (tab.natl hl) Try.func71 (by kernel_rfl : Try.f71.body = some f71c) [3] (by kernel_rfl) ?_, _, Try.func71, by kernel_rfl, of_decide_eq_true (by kernel_rfl)⟩, Gm.Spec.of_natl _ _ _ _⟩
  intro ds outs h
  unfold q71 at h
  split at h
  · simp only [Option.some.injEq, Prod.mk.injEq] at h; obtain ⟨hg, h⟩ := h; cases h; exact f71_spec _ _ hg
  · cases h
noncomputable def q72 : List Dt → Option (Bool × List Dt)
  | [.d (.sl .node) a0, .d (.i .i64) a1] => some (((fun (x : List NodeT) (k : Int) => gmk k (ctL ct_node x)) a0 a1), [.d (.i .i64) (hdL mk_node a1 a0)])
  | _ => none
noncomputable def mu72 : List Dt → Nat
  | [.d (.sl .node) a0, .d (.i .i64) a1] => mmL_node a0 a1
  | _ => 0
noncomputable def s72r (N : Nat) : Gm.Spec := Gm.Spec.of [.ro, .ro] [false] true (qlt mu72 N q72)
/-! ### loop.example/g00465/laws.heldNodeS -/
noncomputable def f72c : Code := (Try.f72.body).getD .skip
def f72k : Nat → Kp := kat [⟨[0, 1], [], [], []⟩, ⟨[0, 1, 5], [], [], []⟩, ⟨[0, 1, 5, 9], [], [], []⟩, ⟨[0, 1, 5], [], [], []⟩, ⟨[0, 1, 5, 18], [], [], []⟩, ⟨[4], [], [], []⟩, ⟨[0, 1, 5], [], [], []⟩, ⟨[0, 1, 5, 27], [], [], []⟩, ⟨[4], [], [], []⟩, ⟨[0, 1, 5], [], [], []⟩, ⟨[0, 1, 5, 37], [], [], []⟩, ⟨[4], [], [], []⟩, ⟨[0, 1, 5], [], [], []⟩, ⟨[0, 1, 5], [], [], []⟩, ⟨[0, 1, 5, 48], [], [], []⟩, ⟨[4], [], [], []⟩, ⟨[0, 1, 5], [], [], []⟩, ⟨[0, 1, 5, 57], [], [], []⟩, ⟨[4], [], [], []⟩, ⟨[4], [], [], []⟩]
noncomputable def f72e (N : Nat) : Env := tab.env [(70, s70), (71, s71), (72, s72r N)]
noncomputable def f72L0 {R : Type} (N : Nat) (n : Nat) (x0 : Option R) (x1 : Int → Int → Bool → Option R) (vs0 : List NodeT) : Nat → Int → Int → Option R
  | 0, _, _ => none
  | m + 1, vs1, vs5 =>
    (cond (decide (vs5 < (vs0.length : Int)))
      (cond ((decide ((0 : Int) ≤ vs5)) && (decide (vs5 < (vs0.length : Int))))
        (cond ((NodeT.kind (atI (t := .node) vs0 (Int.toNat vs5))) != vs1)
          (x0)
          (cond ((decide ((0 : Int) ≤ vs5)) && (decide (vs5 < (vs0.length : Int))))
            (cond ((NodeT.n (atI (t := .node) vs0 (Int.toNat vs5))) != (IntKind.wrap .i64 (vs1 + (1 : Int))))
              (x0)
              (cond ((decide ((0 : Int) ≤ vs5)) && (decide (vs5 < (vs0.length : Int))))
                (cond (okI (IntKind.wrap .i64 ((IntKind.wrap .i64 (vs1 + (1 : Int))) + (1 : Int))))
                  (cond (!(sEq (NodeT.s (atI (t := .node) vs0 (Int.toNat vs5))) (mkT (IntKind.wrap .i64 ((IntKind.wrap .i64 (vs1 + (1 : Int))) + (1 : Int))))))
                    (x0)
                    (cond ((decide ((0 : Int) ≤ vs5)) && (decide (vs5 < (vs0.length : Int))))
                      (cond ((fun (x : List ByteArray) (k : Int) => gmk k (ctL ct_str x)) (NodeT.keys (atI (t := .node) vs0 (Int.toNat vs5))) (IntKind.wrap .i64 ((IntKind.wrap .i64 ((IntKind.wrap .i64 (vs1 + (1 : Int))) + (1 : Int))) + (1 : Int))))
                        (cond (decide ((hdL mk_str (IntKind.wrap .i64 ((IntKind.wrap .i64 ((IntKind.wrap .i64 (vs1 + (1 : Int))) + (1 : Int))) + (1 : Int))) (NodeT.keys (atI (t := .node) vs0 (Int.toNat vs5)))) < (0 : Int)))
                          (x0)
                          (cond ((decide ((0 : Int) ≤ vs5)) && (decide (vs5 < (vs0.length : Int))))
                            (cond (((fun (x : List NodeT) (k : Int) => gmk k (ctL ct_node x)) (NodeT.kids (atI (t := .node) vs0 (Int.toNat vs5))) (hdL mk_str (IntKind.wrap .i64 ((IntKind.wrap .i64 ((IntKind.wrap .i64 (vs1 + (1 : Int))) + (1 : Int))) + (1 : Int))) (NodeT.keys (atI (t := .node) vs0 (Int.toNat vs5))))) && (Nat.blt (mmL_node (NodeT.kids (atI (t := .node) vs0 (Int.toNat vs5))) (hdL mk_str (IntKind.wrap .i64 ((IntKind.wrap .i64 ((IntKind.wrap .i64 (vs1 + (1 : Int))) + (1 : Int))) + (1 : Int))) (NodeT.keys (atI (t := .node) vs0 (Int.toNat vs5))))) N))
                              (cond (decide ((hdL mk_node (hdL mk_str (IntKind.wrap .i64 ((IntKind.wrap .i64 ((IntKind.wrap .i64 (vs1 + (1 : Int))) + (1 : Int))) + (1 : Int))) (NodeT.keys (atI (t := .node) vs0 (Int.toNat vs5)))) (NodeT.kids (atI (t := .node) vs0 (Int.toNat vs5)))) < (0 : Int)))
                                (x0)
                                (f72L0 N n x0 x1 vs0 m (hdL mk_node (hdL mk_str (IntKind.wrap .i64 ((IntKind.wrap .i64 ((IntKind.wrap .i64 (vs1 + (1 : Int))) + (1 : Int))) + (1 : Int))) (NodeT.keys (atI (t := .node) vs0 (Int.toNat vs5)))) (NodeT.kids (atI (t := .node) vs0 (Int.toNat vs5)))) (IntKind.wrap .i64 (vs5 + (1 : Int)))))
                              none)
                            none))
                        none)
                      none))
                  none)
                none))
            none))
        none)
      (x1 vs1 vs5 (decide (vs5 < (vs0.length : Int)))))
theorem f72L0_b {R : Type} (N : Nat) (n : Nat) (k' : Ex → St → Option R) (vs0 : List NodeT) (vs1 : Int) (vs5 : Int) : ev (f72e N) f72k n (cAt [1,0,1,0,0] f72c) ⟨[(0, .c (.one (.ro .node vs0))), (1, .c (.one (.v (.int .i64 vs1)))), (5, .c (.one (.v (.int .i64 vs5))))], [], []⟩ k' =
    (cond (decide (vs5 < (vs0.length : Int)))
    (cond ((decide ((0 : Int) ≤ vs5)) && (decide (vs5 < (vs0.length : Int))))
      (cond ((NodeT.kind (atI (t := .node) vs0 (Int.toNat vs5))) != vs1)
        (k' .ret ⟨[(4, .c (.one (.v (.int .i64 (-1 : Int)))))], [], []⟩)
        (cond ((decide ((0 : Int) ≤ vs5)) && (decide (vs5 < (vs0.length : Int))))
          (cond ((NodeT.n (atI (t := .node) vs0 (Int.toNat vs5))) != (IntKind.wrap .i64 (vs1 + (1 : Int))))
            (k' .ret ⟨[(4, .c (.one (.v (.int .i64 (-1 : Int)))))], [], []⟩)
            (cond ((decide ((0 : Int) ≤ vs5)) && (decide (vs5 < (vs0.length : Int))))
              (cond (okI (IntKind.wrap .i64 ((IntKind.wrap .i64 (vs1 + (1 : Int))) + (1 : Int))))
                (cond (!(sEq (NodeT.s (atI (t := .node) vs0 (Int.toNat vs5))) (mkT (IntKind.wrap .i64 ((IntKind.wrap .i64 (vs1 + (1 : Int))) + (1 : Int))))))
                  (k' .ret ⟨[(4, .c (.one (.v (.int .i64 (-1 : Int)))))], [], []⟩)
                  (cond ((decide ((0 : Int) ≤ vs5)) && (decide (vs5 < (vs0.length : Int))))
                    (cond ((fun (x : List ByteArray) (k : Int) => gmk k (ctL ct_str x)) (NodeT.keys (atI (t := .node) vs0 (Int.toNat vs5))) (IntKind.wrap .i64 ((IntKind.wrap .i64 ((IntKind.wrap .i64 (vs1 + (1 : Int))) + (1 : Int))) + (1 : Int))))
                      (cond (decide ((hdL mk_str (IntKind.wrap .i64 ((IntKind.wrap .i64 ((IntKind.wrap .i64 (vs1 + (1 : Int))) + (1 : Int))) + (1 : Int))) (NodeT.keys (atI (t := .node) vs0 (Int.toNat vs5)))) < (0 : Int)))
                        (k' .ret ⟨[(4, .c (.one (.v (.int .i64 (-1 : Int)))))], [], []⟩)
                        (cond ((decide ((0 : Int) ≤ vs5)) && (decide (vs5 < (vs0.length : Int))))
                          (cond (((fun (x : List NodeT) (k : Int) => gmk k (ctL ct_node x)) (NodeT.kids (atI (t := .node) vs0 (Int.toNat vs5))) (hdL mk_str (IntKind.wrap .i64 ((IntKind.wrap .i64 ((IntKind.wrap .i64 (vs1 + (1 : Int))) + (1 : Int))) + (1 : Int))) (NodeT.keys (atI (t := .node) vs0 (Int.toNat vs5))))) && (Nat.blt (mmL_node (NodeT.kids (atI (t := .node) vs0 (Int.toNat vs5))) (hdL mk_str (IntKind.wrap .i64 ((IntKind.wrap .i64 ((IntKind.wrap .i64 (vs1 + (1 : Int))) + (1 : Int))) + (1 : Int))) (NodeT.keys (atI (t := .node) vs0 (Int.toNat vs5))))) N))
                            (cond (decide ((hdL mk_node (hdL mk_str (IntKind.wrap .i64 ((IntKind.wrap .i64 ((IntKind.wrap .i64 (vs1 + (1 : Int))) + (1 : Int))) + (1 : Int))) (NodeT.keys (atI (t := .node) vs0 (Int.toNat vs5)))) (NodeT.kids (atI (t := .node) vs0 (Int.toNat vs5)))) < (0 : Int)))
                              (k' .ret ⟨[(4, .c (.one (.v (.int .i64 (-1 : Int)))))], [], []⟩)
                              (k' .normal ⟨[(0, .c (.one (.ro .node vs0))), (1, .c (.one (.v (.int .i64 (hdL mk_node (hdL mk_str (IntKind.wrap .i64 ((IntKind.wrap .i64 ((IntKind.wrap .i64 (vs1 + (1 : Int))) + (1 : Int))) + (1 : Int))) (NodeT.keys (atI (t := .node) vs0 (Int.toNat vs5)))) (NodeT.kids (atI (t := .node) vs0 (Int.toNat vs5)))))))), (5, .c (.one (.v (.int .i64 (IntKind.wrap .i64 (vs5 + (1 : Int)))))))], [], []⟩))
                            none)
                          none))
                      none)
                    none))
                none)
              none))
          none))
      none)
    (k' (.exit 0) ⟨[(0, .c (.one (.ro .node vs0))), (1, .c (.one (.v (.int .i64 vs1)))), (5, .c (.one (.v (.int .i64 vs5)))), (9, .c (.one (.v (.bool (decide (vs5 < (vs0.length : Int)))))))], [], []⟩)) := by kernel_rfl
theorem f72L0_eq {R : Type} (N : Nat) (n : Nat) (k' : Ex → St → Option R) (vs0 : List NodeT) : ∀ (m : Nat) (vs1 : Int) (vs5 : Int), iter (fun st k => ev (f72e N) f72k n (cAt [1,0,1,0,0] f72c) st k) m ⟨[(0, .c (.one (.ro .node vs0))), (1, .c (.one (.v (.int .i64 vs1)))), (5, .c (.one (.v (.int .i64 vs5))))], [], []⟩ k' = f72L0 N n (k' .ret ⟨[(4, .c (.one (.v (.int .i64 (-1 : Int)))))], [], []⟩) (fun (xvs1 : Int) (xvs5 : Int) (xvs9 : Bool) => k' (.exit 0) ⟨[(0, .c (.one (.ro .node vs0))), (1, .c (.one (.v (.int .i64 xvs1)))), (5, .c (.one (.v (.int .i64 xvs5)))), (9, .c (.one (.v (.bool xvs9))))], [], []⟩) vs0 m vs1 vs5 := by
  intro m; induction m with
  | zero => intros; rfl
  | succ m ih =>
    intro vs1 vs5
    simp only [iter]
    rw [f72L0_b]
    simp only [ih, f72L0]

noncomputable def f72K0 {R : Type} (N : Nat) (n : Nat) (k' : Ex → St → Option R) : Ex → St → Option R := (blockK 0 (seqK (f72e N) f72k n (cAt [1,1] f72c) k'))
theorem f72K0_x0 {R : Type} (N : Nat) (n : Nat) (k : List Dt → Option R) (a0 : List NodeT) (a1 : Int)  : f72K0 N n (exitK (f72e N) [.ro, .ro] [false] true [.tmp 4] [3] [.d (.sl .node) a0, .d (.i .i64) a1] k) .ret ⟨[(4, .c (.one (.v (.int .i64 (-1 : Int)))))], [], []⟩ =
    (k [.d (.i .i64) (-1 : Int)]) := by kernel_rfl
theorem f72K0_x1 {R : Type} (N : Nat) (n : Nat) (k : List Dt → Option R) (a0 : List NodeT) (a1 : Int) (vs0 : List NodeT) (xvs1 : Int) (xvs5 : Int) (xvs9 : Bool) : f72K0 N n (exitK (f72e N) [.ro, .ro] [false] true [.tmp 4] [3] [.d (.sl .node) a0, .d (.i .i64) a1] k) (.exit 0) ⟨[(0, .c (.one (.ro .node vs0))), (1, .c (.one (.v (.int .i64 xvs1)))), (5, .c (.one (.v (.int .i64 xvs5)))), (9, .c (.one (.v (.bool xvs9))))], [], []⟩ =
    (k [.d (.i .i64) xvs1]) := by kernel_rfl

theorem f72_run {R : Type} (N : Nat) (n : Nat) (k : List Dt → Option R) (a0 : List NodeT) (a1 : Int) : evFn (f72e N) f72k n f72c [.ro, .ro] [false] true [.tmp 4] [3] [.d (.sl .node) a0, .d (.i .i64) a1] k =
    (f72L0 N n (k [.d (.i .i64) (-1 : Int)]) (fun (xvs1 : Int) (xvs5 : Int) (xvs9 : Bool) =>
    (k [.d (.i .i64) xvs1])) a0 n a1 (0 : Int)) := by
  refine Eq.trans (b := (iter (fun st k => ev (f72e N) f72k n (cAt [1,0,1,0,0] f72c) st k) n ⟨[(0, .c (.one (.ro .node a0))), (1, .c (.one (.v (.int .i64 a1)))), (5, .c (.one (.v (.int .i64 (0 : Int)))))], [], []⟩ (f72K0 N n (exitK (f72e N) [.ro, .ro] [false] true [.tmp 4] [3] [.d (.sl .node) a0, .d (.i .i64) a1] k)))) (by kernel_rfl) ?_
  simp only [f72L0_eq, f72K0_x0, f72K0_x1]
theorem f72_spec (N : Nat) (a0 : List NodeT) (a1 : Int) (hg : gmk a1 (ctL ct_node a0) = true) (hm : mu72 [.d (.sl .node) a0, .d (.i .i64) a1] = N) : ∃ keep rounds, ∀ {R : Type} (k : List Dt → Option R), evFn (f72e N) keep rounds f72c [.ro, .ro] [false] true [.tmp 4] [3] [.d (.sl .node) a0, .d (.i .i64) a1] k = k [.d (.i .i64) (hdL mk_node a1 a0)] := by
  have hm : mmL_node a0 a1 = N := hm
  subst hm
  rw [gmk_iff] at hg
  have hl := ctL_len ct_node_pos a0
  refine ⟨f72k, a0.length + 1, fun {R} k => ?_⟩
  rw [f72_run]
  refine Eq.trans (loop_held (xs := a0) (F := fun m kk i => f72L0 (mmL_node a0 a1) (a0.length + 1) _ _ a0 m kk i) (f := mk_node) (c := ct_node) (good := fun kk => k [.d (.i .i64) kk]) (bad := k [.d (.i .i64) (-1 : Int)]) mk_node_ct
    (fun m kk j x hx h0 hB => ?_) (fun m kk => by simp only [f72L0, idxE, cond_false]) a0.length 0 (a0.length + 1) a1 (by omega) (by omega) hg.1 (by rw [List.drop_zero]; exact hg.2)) ?_
  · obtain ⟨h1, h2, _, ht⟩ := idx (lt_of_get hx) (by omega)
    have hj := lt_of_get hx
    have hb : ∀ q, Nat.blt (mmL_node x.kids q) (mmL_node a0 a1) = true := fun q => by
      have := ndL_mem (f := nd_node) (List.mem_of_getElem? hx)
      rw [nd_node_def] at this
      rw [Nat.blt_eq]; simp only [mmL_node]; omega
    rw [ct_node_def] at hB
    rcases hdL_cases mk_str (kk + 1 + 1 + 1) x.keys with ⟨q0, v0⟩ | ⟨q0, v0⟩ <;>
    rcases hdL_cases mk_node ((mkL mk_str (kk + 1 + 1 + 1) x.keys).2) x.kids with ⟨q1, v1⟩ | ⟨q1, v1⟩ <;>
    simp (disch := omega) only [mkL_node_ct, mkL_str_ct] at q0 v0 q1 v1 <;>
    simp (disch := omega) only [f72L0, h1, h2, ht, atI_of (t := .node) hx, wrap_id, gmk_of, okI_of, mk_node_def, mkL_node_ct, mkL_str_ct, eqD_node, hb, Bool.cond_not, cond_and, bne, decide_ge0, decide_m1, cond_true, cond_false, Bool.cond_self, q0, v0, q1, v1, Bool.and_self]
  · rw [List.drop_zero]
    show _ = k [.d (.i .i64) (hdL mk_node a1 a0)]
    unfold hdL
    cases eqD a0 (mkL mk_node a1 a0).1 <;> rfl

noncomputable def s72 : Gm.Spec := Gm.Spec.of [.ro, .ro] [false] true q72
theorem good72 : Gm.Good Try.prog (72, s72) := by
  refine ⟨⟨spec_rec mu72 fun N hr => ?_, _, Try.func72, by kernel_rfl, of_decide_eq_true (by kernel_rfl)⟩, Gm.Spec.of_natl _ _ _ _⟩
  have hl : ∀ x ∈ [(70, s70), (71, s71), (72, s72r N)], Gm.Good Try.prog x := List.forall_mem_cons.2 ⟨good70, List.forall_mem_cons.2 ⟨good71, List.forall_mem_cons.2 ⟨⟨⟨hr, _, Try.func72, by kernel_rfl, of_decide_eq_true (by kernel_rfl)⟩, Gm.Spec.of_natl _ _ _ _⟩, List.forall_mem_nil _⟩⟩⟩
  intro R
  refine spec_ok (E := f72e N) (tab_ok.env hl) (tab.natl hl) Try.func72 (by kernel_rfl : Try.f72.body = some f72c) [3] (by kernel_rfl) ?_
  intro ds outs h
  obtain ⟨h, hm⟩ := qeq_some h
  unfold q72 at h
  split at h
  · simp only [Option.some.injEq, Prod.mk.injEq] at h; obtain ⟨hg, h⟩ := h; cases h; exact f72_spec N _ _ hg hm
  · cases h
/-! ### loop.example/g00465/laws.heldNode -/
noncomputable def f32c : Code := (Try.f32.body).getD .skip
def f32k : Nat → Kp := kat [⟨[1, 2], [], [], []⟩, ⟨[1, 2], [], [], []⟩, ⟨[1, 2, 10], [], [], []⟩, ⟨[4], [], [], []⟩, ⟨[1], [], [], []⟩, ⟨[1, 16], [], [], []⟩, ⟨[4], [], [], []⟩, ⟨[4], [], [], []⟩]
noncomputable def f32e : Env := tab.env [(71, s71), (72, s72)]
theorem f32_run {R : Type} (n : Nat) (k : List Dt → Option R) (a0 : NodeT) (a1 : Int) : evFn f32e f32k n f32c [.ro, .ro] [false] true [.tmp 4] [3] [.d .node a0, .d (.i .i64) a1] k =
    (cond ((fun (x : List ByteArray) (k : Int) => gmk k (ctL ct_str x)) (NodeT.keys a0) a1)
    (cond (decide ((hdL mk_str a1 (NodeT.keys a0)) < (0 : Int)))
      (k [.d (.i .i64) (-1 : Int)])
      (cond ((fun (x : List NodeT) (k : Int) => gmk k (ctL ct_node x)) (NodeT.kids a0) (hdL mk_str a1 (NodeT.keys a0)))
        (cond (decide ((hdL mk_node (hdL mk_str a1 (NodeT.keys a0)) (NodeT.kids a0)) < (0 : Int)))
          (k [.d (.i .i64) (-1 : Int)])
          (k [.d (.i .i64) (hdL mk_node (hdL mk_str a1 (NodeT.keys a0)) (NodeT.kids a0))]))
        none))
    none) := by kernel_rfl
theorem f32_spec (a0 : NodeT) (a1 : Int) (hg : gmk a1 (cts_node a0) = true) : ∃ keep rounds, ∀ {R : Type} (k : List Dt → Option R), evFn f32e keep rounds f32c [.ro, .ro] [false] true [.tmp 4] [3] [.d .node a0, .d (.i .i64) a1] k = k [.d (.i .i64) (hds_node a1 a0)] := by
  rw [gmk_iff] at hg
  simp only [cts_node] at hg
  refine ⟨f32k, 0, fun {R} k => ?_⟩
  rw [f32_run]
  show _ = k [.d (.i .i64) (hds_node a1 a0)]
  unfold hds_node
  rcases hdL_cases mk_str (a1) a0.keys with ⟨q0, v0⟩ | ⟨q0, v0⟩ <;>
  rcases hdL_cases mk_node ((mkL mk_str (a1) a0.keys).2) a0.kids with ⟨q1, v1⟩ | ⟨q1, v1⟩ <;>
  (try simp (disch := omega) only [mkL_node_ct, mkL_str_ct] at q0 v0 q1 v1) <;>
  simp (disch := omega) only [gmk_of, mks_node, mkL_node_ct, mkL_str_ct, eqD_node, Bool.cond_not, cond_and, bne, decide_ge0, decide_m1, cond_true, cond_false, Bool.cond_self, q0, v0, q1, v1, beq_self_eq_true, sEq_self, eqD_self, Bool.and_self, Bool.true_and, Bool.and_true, Bool.and_false, Bool.false_and]

noncomputable def q32 : List Dt → Option (Bool × List Dt)
  | [.d .node a0, .d (.i .i64) a1] => some (((fun (x : NodeT) (k : Int) => gmk k (cts_node x)) a0 a1), [.d (.i .i64) (hds_node a1 a0)])
  | _ => none
noncomputable def s32 : Gm.Spec := Gm.Spec.of [.ro, .ro] [false] true q32
theorem good32 : Gm.Good Try.prog (32, s32) := by
  have hl : ∀ x ∈ [(71, s71), (72, s72)], Gm.Good Try.prog x := List.forall_mem_cons.2 ⟨good71, List.forall_mem_cons.2 ⟨good72, List.forall_mem_nil _⟩⟩
  refine ⟨⟨spec_ok (tab_ok.env hl) (tab.natl hl) Try.func32 (by kernel_rfl : Try.f32.body = some f32c) [3] (by kernel_rfl) ?_, _, Try.func32, by kernel_rfl, of_decide_eq_true (by kernel_rfl)⟩, Gm.Spec.of_natl _ _ _ _⟩
  intro ds outs h
  unfold q32 at h
  split at h
  · simp only [Option.some.injEq, Prod.mk.injEq] at h; obtain ⟨hg, h⟩ := h; cases h; exact f32_spec _ _ hg
  · cases h
end Go.Proofs.Ytalnkjjnohgjkaa

/- x -/
namespace Go.Proofs.Ytalnkjjnohgjkaa
open Go Go.Gm
/-! ### loop.example/g00465/laws.FnExactPatchOne -/
noncomputable def f6c : Code := (Try.f6.body).getD .skip
def f6k : Nat → Kp := kat [⟨[2, 3], [], [], []⟩, ⟨[2, 3, 5], [], [], []⟩, ⟨[2, 3, 5], [], [], []⟩, ⟨[2, 3, 5, 21], [], [], []⟩, ⟨[4], [], [], []⟩, ⟨[2, 3, 5], [], [], []⟩, ⟨[2, 3, 26], [], [], []⟩, ⟨[4], [], [], []⟩, ⟨[2, 3, 6, 7], [], [], []⟩, ⟨[2, 3, 6, 7, 8], [], [], []⟩, ⟨[2, 3, 6, 7, 8, 9], [], [], []⟩, ⟨[2, 3, 6, 7, 8, 9, 10, 11], [], [], []⟩, ⟨[2, 3, 6, 7, 8, 9, 10, 11, 53], [], [], []⟩, ⟨[4], [], [], []⟩, ⟨[2, 3, 6, 7, 8, 9, 10, 11, 58], [], [], []⟩, ⟨[4], [], [], []⟩, ⟨[2, 3, 6, 7, 8, 9, 10, 11, 63], [], [], []⟩, ⟨[4], [], [], []⟩, ⟨[2, 3, 6, 7, 8, 9, 10, 11, 12], [], [], []⟩, ⟨[2, 3, 6, 7, 9, 10, 11, 12], [], [], []⟩, ⟨[2, 3, 6, 7, 10, 11, 12], [], [], []⟩, ⟨[2, 3, 6, 7, 10, 82], [], [], []⟩, ⟨[4], [], [], []⟩, ⟨[2, 3, 6, 7, 10, 13], [], [], []⟩, ⟨[2, 3, 6, 7, 10, 13], [], [], []⟩, ⟨[2, 3, 6, 7, 10, 13, 14], [], [], []⟩, ⟨[2, 3, 6, 7, 10, 13, 14], [], [], []⟩, ⟨[2, 3, 6, 7, 10, 13, 14, 90], [], [], []⟩, ⟨[4], [], [], []⟩, ⟨[2, 3, 6, 7, 10, 13, 93], [], [], []⟩, ⟨[4], [], [], []⟩, ⟨[6, 7, 10, 13, 15, 16], [], [], []⟩, ⟨[10, 13, 110], [], [], []⟩, ⟨[4], [], [], []⟩, ⟨[10, 13, 14], [], [], []⟩, ⟨[13, 14], [], [], []⟩, ⟨[13, 14, 115], [], [], []⟩, ⟨[4], [], [], []⟩, ⟨[118], [], [], []⟩, ⟨[4], [], [], []⟩, ⟨[4], [], [], []⟩]
noncomputable def f6e : Env := tab.env [(13, s13), (15, s15), (19, s19), (21, s21), (24, s24), (25, s25), (28, s28), (29, s29), (30, s30), (31, s31), (32, s32)]
noncomputable def f6v0 (a0 : NodeT) (a1 : PopT) : List ByteArray :=
  (mkL mk_str ((mkL mk_str ((mkL mk_str ((mkL mk_node ((mkL mk_str (1 : Int) (NodeT.keys a0)).2) (NodeT.kids a0)).2) (PopT.path a1)).2) (PopT.src a1)).2) (NodeT.keys (PopT.x a1))).1
noncomputable def f6v1 (a0 : NodeT) (a1 : PopT) : List NodeT :=
  (mkL mk_node ((mkL mk_str ((mkL mk_str ((mkL mk_str ((mkL mk_node ((mkL mk_str (1 : Int) (NodeT.keys a0)).2) (NodeT.kids a0)).2) (PopT.path a1)).2) (PopT.src a1)).2) (NodeT.keys (PopT.x a1))).2) (NodeT.kids (PopT.x a1))).1
noncomputable def f6v2 (a0 : NodeT) (a1 : PopT) : List NodeT :=
  (mkL mk_node ((mkL mk_str (1 : Int) (NodeT.keys ((patchOne (eN a0) (⟨(PopT.kind a1), (PopT.path a1), (PopT.src a1), (eN (PopT.x a1))⟩ : PopT)).1))).2) (NodeT.kids ((patchOne (eN a0) (⟨(PopT.kind a1), (PopT.path a1), (PopT.src a1), (eN (PopT.x a1))⟩ : PopT)).1))).1
theorem f6_run {R : Type} (n : Nat) (k : List Dt → Option R) (a0 : NodeT) (a1 : PopT) : evFn f6e f6k n f6c [.ro, .ro] [false] true [.tmp 4] [4] [.d .node a0, .d .pop a1] k =
    (cond (gz_node (eN a0) (1048576 : Int))
    (cond (decide ((z_node (eN a0) (1048576 : Int)) < (0 : Int)))
      (k [.d .bool true])
      (cond (gz_pop (⟨(PopT.kind a1), (PopT.path a1), (PopT.src a1), (eN (PopT.x a1))⟩ : PopT) (z_node (eN a0) (1048576 : Int)))
        (cond (decide ((z_pop (⟨(PopT.kind a1), (PopT.path a1), (PopT.src a1), (eN (PopT.x a1))⟩ : PopT) (z_node (eN a0) (1048576 : Int))) < (0 : Int)))
          (k [.d .bool true])
          (cond (sm_node (eN a0))
            (cond (sm_pop (⟨(PopT.kind a1), (PopT.path a1), (PopT.src a1), (eN (PopT.x a1))⟩ : PopT))
              (cond (gP2 (eN a0) (⟨(PopT.kind a1), (PopT.path a1), (PopT.src a1), (eN (PopT.x a1))⟩ : PopT))
                (cond (sm_node (eN a0))
                  (cond (sm_pop (⟨(PopT.kind a1), (PopT.path a1), (PopT.src a1), (eN (PopT.x a1))⟩ : PopT))
                    (cond (gP2 (eN a0) (⟨(PopT.kind a1), (PopT.path a1), (PopT.src a1), (eN (PopT.x a1))⟩ : PopT))
                      (cond (sm2 sm_node (eN ((patchOne (eN a0) (⟨(PopT.kind a1), (PopT.path a1), (PopT.src a1), (eN (PopT.x a1))⟩ : PopT)).1)) (eN ((patchOne (eN a0) (⟨(PopT.kind a1), (PopT.path a1), (PopT.src a1), (eN (PopT.x a1))⟩ : PopT)).1)))
                        (cond (!(eqD (eN ((patchOne (eN a0) (⟨(PopT.kind a1), (PopT.path a1), (PopT.src a1), (eN (PopT.x a1))⟩ : PopT)).1)) (eN ((patchOne (eN a0) (⟨(PopT.kind a1), (PopT.path a1), (PopT.src a1), (eN (PopT.x a1))⟩ : PopT)).1))))
                          (k [.d .bool false])
                          (cond (!(((patchOne (eN a0) (⟨(PopT.kind a1), (PopT.path a1), (PopT.src a1), (eN (PopT.x a1))⟩ : PopT)).2) == ((patchOne (eN a0) (⟨(PopT.kind a1), (PopT.path a1), (PopT.src a1), (eN (PopT.x a1))⟩ : PopT)).2)))
                            (k [.d .bool false])
                            (cond (sm_node (eN a0))
                              (cond (sm2 sm_node (eN a0) (eN a0))
                                (cond (!(eqD (eN a0) (eN a0)))
                                  (k [.d .bool false])
                                  (cond (sm_pop (⟨(PopT.kind a1), (PopT.path a1), (PopT.src a1), (eN (PopT.x a1))⟩ : PopT))
                                    (cond (sm2 sm_pop (⟨(PopT.kind a1), (PopT.path a1), (PopT.src a1), (eN (PopT.x a1))⟩ : PopT) (⟨(PopT.kind a1), (PopT.path a1), (PopT.src a1), (eN (PopT.x a1))⟩ : PopT))
                                      (cond (!(eqD (⟨(PopT.kind a1), (PopT.path a1), (PopT.src a1), (eN (PopT.x a1))⟩ : PopT) (⟨(PopT.kind a1), (PopT.path a1), (PopT.src a1), (eN (PopT.x a1))⟩ : PopT)))
                                        (k [.d .bool false])
                                        (cond ((fun (a0 : List ByteArray) (a1 : List NodeT) (a2 : Int) => gmk a2 (ctL ct_str a0 + ctL ct_node a1)) (NodeT.keys a0) (NodeT.kids a0) (1 : Int))
                                          (cond ((fun (a0 : List ByteArray) (a1 : List ByteArray) (a2 : List ByteArray) (a3 : List NodeT) (a4 : Int) => gmk a4 (ctL ct_str a0 + ctL ct_str a1 + ctL ct_str a2 + ctL ct_node a3)) (PopT.path a1) (PopT.src a1) (NodeT.keys (PopT.x a1)) (NodeT.kids (PopT.x a1)) (mkL mk_node ((mkL mk_str (1 : Int) (NodeT.keys a0)).2) (NodeT.kids a0)).2)
                                            (cond (decide ((mkL mk_node ((mkL mk_str ((mkL mk_str ((mkL mk_str ((mkL mk_node ((mkL mk_str (1 : Int) (NodeT.keys a0)).2) (NodeT.kids a0)).2) (PopT.path a1)).2) (PopT.src a1)).2) (NodeT.keys (PopT.x a1))).2) (NodeT.kids (PopT.x a1))).2 < (0 : Int)))
                                              (k [.d .bool false])
                                              (cond (sm2 sm_node (eN ((patchOne (eN a0) (⟨(PopT.kind a1), (PopT.path a1), (PopT.src a1), (eN (PopT.x a1))⟩ : PopT)).1)) (eN ((patchOne (eN a0) (⟨(PopT.kind a1), (PopT.path a1), (PopT.src a1), (eN (PopT.x a1))⟩ : PopT)).1)))
                                                (cond (!(eqD (eN ((patchOne (eN a0) (⟨(PopT.kind a1), (PopT.path a1), (PopT.src a1), (eN (PopT.x a1))⟩ : PopT)).1)) (eN ((patchOne (eN a0) (⟨(PopT.kind a1), (PopT.path a1), (PopT.src a1), (eN (PopT.x a1))⟩ : PopT)).1))))
                                                  (k [.d .bool false])
                                                  (cond (!(((patchOne (eN a0) (⟨(PopT.kind a1), (PopT.path a1), (PopT.src a1), (eN (PopT.x a1))⟩ : PopT)).2) == ((patchOne (eN a0) (⟨(PopT.kind a1), (PopT.path a1), (PopT.src a1), (eN (PopT.x a1))⟩ : PopT)).2)))
                                                    (k [.d .bool false])
                                                    (cond ((fun (a0 : List ByteArray) (a1 : List NodeT) (a2 : Int) => gmk a2 (ctL ct_str a0 + ctL ct_node a1)) (NodeT.keys ((patchOne (eN a0) (⟨(PopT.kind a1), (PopT.path a1), (PopT.src a1), (eN (PopT.x a1))⟩ : PopT)).1)) (NodeT.kids ((patchOne (eN a0) (⟨(PopT.kind a1), (PopT.path a1), (PopT.src a1), (eN (PopT.x a1))⟩ : PopT)).1)) (1 : Int))
                                                      (cond ((fun (x : NodeT) (k : Int) => gmk k (cts_node x)) (⟨(NodeT.kind ((patchOne (eN a0) (⟨(PopT.kind a1), (PopT.path a1), (PopT.src a1), (eN (PopT.x a1))⟩ : PopT)).1)), (NodeT.n ((patchOne (eN a0) (⟨(PopT.kind a1), (PopT.path a1), (PopT.src a1), (eN (PopT.x a1))⟩ : PopT)).1)), (NodeT.s ((patchOne (eN a0) (⟨(PopT.kind a1), (PopT.path a1), (PopT.src a1), (eN (PopT.x a1))⟩ : PopT)).1)), (mkL mk_str (1 : Int) (NodeT.keys ((patchOne (eN a0) (⟨(PopT.kind a1), (PopT.path a1), (PopT.src a1), (eN (PopT.x a1))⟩ : PopT)).1))).1, (f6v2 a0 a1)⟩ : NodeT) (1 : Int))
                                                        (cond (decide ((hds_node (1 : Int) (⟨(NodeT.kind ((patchOne (eN a0) (⟨(PopT.kind a1), (PopT.path a1), (PopT.src a1), (eN (PopT.x a1))⟩ : PopT)).1)), (NodeT.n ((patchOne (eN a0) (⟨(PopT.kind a1), (PopT.path a1), (PopT.src a1), (eN (PopT.x a1))⟩ : PopT)).1)), (NodeT.s ((patchOne (eN a0) (⟨(PopT.kind a1), (PopT.path a1), (PopT.src a1), (eN (PopT.x a1))⟩ : PopT)).1)), (mkL mk_str (1 : Int) (NodeT.keys ((patchOne (eN a0) (⟨(PopT.kind a1), (PopT.path a1), (PopT.src a1), (eN (PopT.x a1))⟩ : PopT)).1))).1, (f6v2 a0 a1)⟩ : NodeT)) < (0 : Int)))
                                                          (k [.d .bool false])
                                                          (cond ((hds_node (1 : Int) (⟨(NodeT.kind ((patchOne (eN a0) (⟨(PopT.kind a1), (PopT.path a1), (PopT.src a1), (eN (PopT.x a1))⟩ : PopT)).1)), (NodeT.n ((patchOne (eN a0) (⟨(PopT.kind a1), (PopT.path a1), (PopT.src a1), (eN (PopT.x a1))⟩ : PopT)).1)), (NodeT.s ((patchOne (eN a0) (⟨(PopT.kind a1), (PopT.path a1), (PopT.src a1), (eN (PopT.x a1))⟩ : PopT)).1)), (mkL mk_str (1 : Int) (NodeT.keys ((patchOne (eN a0) (⟨(PopT.kind a1), (PopT.path a1), (PopT.src a1), (eN (PopT.x a1))⟩ : PopT)).1))).1, (f6v2 a0 a1)⟩ : NodeT)) != (mkL mk_node ((mkL mk_str (1 : Int) (NodeT.keys ((patchOne (eN a0) (⟨(PopT.kind a1), (PopT.path a1), (PopT.src a1), (eN (PopT.x a1))⟩ : PopT)).1))).2) (NodeT.kids ((patchOne (eN a0) (⟨(PopT.kind a1), (PopT.path a1), (PopT.src a1), (eN (PopT.x a1))⟩ : PopT)).1))).2)
                                                            (k [.d .bool false])
                                                            (cond (sm_node (eN a0))
                                                              (cond (sm_pop (⟨(PopT.kind a1), (PopT.path a1), (PopT.src a1), (eN (PopT.x a1))⟩ : PopT))
                                                                (cond (gP2 (eN a0) (⟨(PopT.kind a1), (PopT.path a1), (PopT.src a1), (eN (PopT.x a1))⟩ : PopT))
                                                                  (cond (sm2 sm_node (eN ((patchOne (eN a0) (⟨(PopT.kind a1), (PopT.path a1), (PopT.src a1), (eN (PopT.x a1))⟩ : PopT)).1)) (eN ((patchOne (eN a0) (⟨(PopT.kind a1), (PopT.path a1), (PopT.src a1), (eN (PopT.x a1))⟩ : PopT)).1)))
                                                                    (cond (!(eqD (eN ((patchOne (eN a0) (⟨(PopT.kind a1), (PopT.path a1), (PopT.src a1), (eN (PopT.x a1))⟩ : PopT)).1)) (eN ((patchOne (eN a0) (⟨(PopT.kind a1), (PopT.path a1), (PopT.src a1), (eN (PopT.x a1))⟩ : PopT)).1))))
                                                                      (k [.d .bool false])
                                                                      (cond (!(((patchOne (eN a0) (⟨(PopT.kind a1), (PopT.path a1), (PopT.src a1), (eN (PopT.x a1))⟩ : PopT)).2) == ((patchOne (eN a0) (⟨(PopT.kind a1), (PopT.path a1), (PopT.src a1), (eN (PopT.x a1))⟩ : PopT)).2)))
                                                                        (k [.d .bool false])
                                                                        (cond ((fun (x : NodeT) (k : Int) => gmk k (cts_node x)) (⟨(NodeT.kind ((patchOne (eN a0) (⟨(PopT.kind a1), (PopT.path a1), (PopT.src a1), (eN (PopT.x a1))⟩ : PopT)).1)), (NodeT.n ((patchOne (eN a0) (⟨(PopT.kind a1), (PopT.path a1), (PopT.src a1), (eN (PopT.x a1))⟩ : PopT)).1)), (NodeT.s ((patchOne (eN a0) (⟨(PopT.kind a1), (PopT.path a1), (PopT.src a1), (eN (PopT.x a1))⟩ : PopT)).1)), (mkL mk_str (1 : Int) (NodeT.keys ((patchOne (eN a0) (⟨(PopT.kind a1), (PopT.path a1), (PopT.src a1), (eN (PopT.x a1))⟩ : PopT)).1))).1, (f6v2 a0 a1)⟩ : NodeT) (1 : Int))
                                                                          (cond (decide ((hds_node (1 : Int) (⟨(NodeT.kind ((patchOne (eN a0) (⟨(PopT.kind a1), (PopT.path a1), (PopT.src a1), (eN (PopT.x a1))⟩ : PopT)).1)), (NodeT.n ((patchOne (eN a0) (⟨(PopT.kind a1), (PopT.path a1), (PopT.src a1), (eN (PopT.x a1))⟩ : PopT)).1)), (NodeT.s ((patchOne (eN a0) (⟨(PopT.kind a1), (PopT.path a1), (PopT.src a1), (eN (PopT.x a1))⟩ : PopT)).1)), (mkL mk_str (1 : Int) (NodeT.keys ((patchOne (eN a0) (⟨(PopT.kind a1), (PopT.path a1), (PopT.src a1), (eN (PopT.x a1))⟩ : PopT)).1))).1, (f6v2 a0 a1)⟩ : NodeT)) < (0 : Int)))
                                                                            (k [.d .bool false])
                                                                            (cond ((hds_node (1 : Int) (⟨(NodeT.kind ((patchOne (eN a0) (⟨(PopT.kind a1), (PopT.path a1), (PopT.src a1), (eN (PopT.x a1))⟩ : PopT)).1)), (NodeT.n ((patchOne (eN a0) (⟨(PopT.kind a1), (PopT.path a1), (PopT.src a1), (eN (PopT.x a1))⟩ : PopT)).1)), (NodeT.s ((patchOne (eN a0) (⟨(PopT.kind a1), (PopT.path a1), (PopT.src a1), (eN (PopT.x a1))⟩ : PopT)).1)), (mkL mk_str (1 : Int) (NodeT.keys ((patchOne (eN a0) (⟨(PopT.kind a1), (PopT.path a1), (PopT.src a1), (eN (PopT.x a1))⟩ : PopT)).1))).1, (f6v2 a0 a1)⟩ : NodeT)) != (mkL mk_node ((mkL mk_str (1 : Int) (NodeT.keys ((patchOne (eN a0) (⟨(PopT.kind a1), (PopT.path a1), (PopT.src a1), (eN (PopT.x a1))⟩ : PopT)).1))).2) (NodeT.kids ((patchOne (eN a0) (⟨(PopT.kind a1), (PopT.path a1), (PopT.src a1), (eN (PopT.x a1))⟩ : PopT)).1))).2)
                                                                              (k [.d .bool false])
                                                                              (k [.d .bool true])))
                                                                          none)))
                                                                    none)
                                                                  none)
                                                                none)
                                                              none)))
                                                        none)
                                                      none)))
                                                none))
                                            none)
                                          none))
                                      none)
                                    none))
                                none)
                              none)))
                        none)
                      none)
                    none)
                  none)
                none)
              none)
            none))
        none))
    none) := by kernel_rfl
theorem f6_spec (a0 : NodeT) (a1 : PopT) (hg : (ok_node a0 && ok_pop a1) = true) : ∃ keep rounds, ∀ {R : Type} (k : List Dt → Option R), evFn f6e keep rounds f6c [.ro, .ro] [false] true [.tmp 4] [4] [.d .node a0, .d .pop a1] k = k [.d .bool ((fun (_ : NodeT) (_ : PopT) => true) a0 a1)] := by
  simp only [Bool.and_eq_true] at hg
  obtain ⟨hg0, hg1⟩ := hg
  refine ⟨f6k, 0, fun {R} k => ?_⟩
  rw [f6_run]
  have g0 : gz_node a0 (1048576 : Int) = true := by simp only [gz_node, Bool.and_eq_true, okN_iff]; exact ⟨hg0, by omega, by omega⟩
  have e0 : z_node a0 (1048576 : Int) = szI (szN_node a0) (1048576 : Int) := rfl
  by_cases c0 : szI (szN_node a0) (1048576 : Int) < 0
  · simp only [eta_node, eN_eq, eta_rule, eR_eq, eta_pop, g0, e0, c0, decide_true, decide_false, cond_true, cond_false]
  have b0 : szI (szN_node a0) (1048576 : Int) = (1048576 : Int) - ((szN_node a0) : Nat) := by
    by_cases h : (1048576 : Int) - ((szN_node a0) : Nat) < 0
    · rw [szI_neg h] at c0; omega
    · exact szI_pos h
  have s0 : sm_node a0 = true := sm_node_of hg0 (by omega)
  have n0 : 0 ≤ (szI (szN_node a0) (1048576 : Int)) ∧ (szI (szN_node a0) (1048576 : Int)) ≤ 1048576 := by omega
  have p0 := cts_node_sz a0
  simp only [cts_node] at p0
  have g1 : gz_pop a1 (szI (szN_node a0) (1048576 : Int)) = true := by simp only [gz_pop, Bool.and_eq_true, okN_iff]; exact ⟨hg1, by omega, by omega⟩
  have e1 : z_pop a1 (szI (szN_node a0) (1048576 : Int)) = szI (szN_pop a1) (szI (szN_node a0) (1048576 : Int)) := rfl
  by_cases c1 : szI (szN_pop a1) (szI (szN_node a0) (1048576 : Int)) < 0
  · simp only [eta_node, eN_eq, eta_rule, eR_eq, eta_pop, g0, e0, c0, g1, e1, c1, decide_true, decide_false, cond_true, cond_false]
  have b1 : szI (szN_pop a1) (szI (szN_node a0) (1048576 : Int)) = (szI (szN_node a0) (1048576 : Int)) - ((szN_pop a1) : Nat) := by
    by_cases h : (szI (szN_node a0) (1048576 : Int)) - ((szN_pop a1) : Nat) < 0
    · rw [szI_neg h] at c1; omega
    · exact szI_pos h
  have s1 : sm_pop a1 = true := sm_pop_of hg1 (by omega)
  have n1 : 0 ≤ (szI (szN_pop a1) (szI (szN_node a0) (1048576 : Int))) ∧ (szI (szN_pop a1) (szI (szN_node a0) (1048576 : Int))) ≤ 1048576 := by omega
  obtain ⟨sp1a, sp1b, sp1c⟩ := sm_pop_parts s1
  have p1a := ctL_sm ct_str_sm sp1a
  have p1b := ctL_sm ct_str_sm sp1b
  have p1c := cts_node_sz a1.x
  simp only [cts_node] at p1c
  have p1z : szN_pop a1 = szL ByteArray.size a1.path + szL ByteArray.size a1.src + szN_node a1.x := rfl
  have sA0 : sm_node ((patchOne a0 a1).1) = true := (patchOne_ok s0 s1 (by omega)).1
  have zA0 : szN_node ((patchOne a0 a1).1) ≤ 8388608 := Nat.le_trans (patchOne_ok s0 s1 (by omega)).2 (by omega)
  have pA0 := cts_node_sz ((patchOne a0 a1).1)
  simp only [cts_node] at pA0
  have hgp : gP2 a0 a1 = true := by simp only [gP2, s0, s1, Bool.and_self]
  simp only [f6v0, f6v1, f6v2, cts_node_mk, hds_node_mk]
  simp (disch := omega) only [g0, e0, c0, g1, e1, c1, s0, s1, sA0, sm2, eta_node, eN_eq, eta_rule, eR_eq, eta_pop, gmk_of, decide_ge0, decide_false, cond_true, cond_false, Bool.and_self, bne_self_eq_false, beq_self_eq_true, sEq_self, eqD_self, Bool.not_true, mkL_node_ct, mkL_str_ct, cts_node, hgp]

noncomputable def q6 : List Dt → Option (Bool × List Dt)
  | [.d .node a0, .d .pop a1] => some (((fun (x0 : NodeT) (x1 : PopT) => ok_node x0 && ok_pop x1) a0 a1), [.d .bool ((fun (_ : NodeT) (_ : PopT) => true) a0 a1)])
  | _ => none
noncomputable def s6 : Gm.Spec := Gm.Spec.of [.ro, .ro] [false] true q6
theorem good6 : Gm.Good Try.prog (6, s6) := by
  have hl : ∀ x ∈ [(13, s13), (15, s15), (19, s19), (21, s21), (24, s24), (25, s25), (28, s28), (29, s29), (30, s30), (31, s31), (32, s32)], Gm.Good Try.prog x := List.forall_mem_cons.2 ⟨good13, List.forall_mem_cons.2 ⟨good15, List.forall_mem_cons.2 ⟨good19, List.forall_mem_cons.2 ⟨good21, List.forall_mem_cons.2 ⟨good24, List.forall_mem_cons.2 ⟨good25, List.forall_mem_cons.2 ⟨good28, List.forall_mem_cons.2 ⟨good29, List.forall_mem_cons.2 ⟨good30, List.forall_mem_cons.2 ⟨good31, List.forall_mem_cons.2 ⟨good32, List.forall_mem_nil _⟩⟩⟩⟩⟩⟩⟩⟩⟩⟩⟩
  refine ⟨⟨spec_ok (tab_ok.env hl) (tab.natl hl) Try.func6 (by kernel_rfl : Try.f6.body = some f6c) [4] (by kernel_rfl) ?_, _, Try.func6, by kernel_rfl, of_decide_eq_true (by kernel_rfl)⟩, Gm.Spec.of_natl _ _ _ _⟩
  intro ds outs h
  unfold q6 at h
  split at h
  · simp only [Option.some.injEq, Prod.mk.injEq] at h; obtain ⟨hg, h⟩ := h; cases h; exact f6_spec _ _ hg
  · cases h
end Go.Proofs.Ytalnkjjnohgjkaa

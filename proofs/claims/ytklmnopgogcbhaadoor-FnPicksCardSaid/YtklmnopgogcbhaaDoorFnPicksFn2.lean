/- What the functions compute, part 2. No conditions. -/
import Derived.Test.YtklmnopgogcbhaaDoorFnPicksFn1
/- x -/
namespace Go.Proofs.YtklmnopgogcbhaaDoor
open Go Go.Gm
/-! ### loop.example/g00465/spec.l1New -/
noncomputable def f31S0 (y0 : List Int) (y1 : Int) (y2 : Int) : St := ⟨[(0, .c (.one (.rk (.i .u8) y0))), (3, .c (.one (.v (.int .i64 y1)))), (4, .c (.one (.v (.int .i64 y2))))], [], []⟩
noncomputable def f31S1 (y0 : List Int) (y1 : Int) (y2 : Int) (y3 : Bool) : St := ⟨[(0, .c (.one (.rk (.i .u8) y0))), (3, .c (.one (.v (.int .i64 y1)))), (4, .c (.one (.v (.int .i64 y2)))), (15, .c (.one (.v (.bool y3))))], [], []⟩
noncomputable def f31c : Code := (Tryd.f31.body).getD .skip
def f31k : Nat → Kp := kat [⟨[0], [], [], []⟩, ⟨[0, 3], [], [], []⟩, ⟨[0, 3, 4], [], [], []⟩, ⟨[0, 3, 4, 15], [], [], []⟩, ⟨[0, 3, 4], [], [], []⟩, ⟨[0, 3, 4], [], [], []⟩, ⟨[2], [], [], []⟩]
noncomputable def f31e : Env := tab.env []
noncomputable def f31L0 {R : Type} (n : Nat) (x0 : Int → Int → Bool → Option R) (x1 : Int → Int → Option R) (vs0 : List Int) : Nat → Int → Int → Option R
  | 0, _, _ => none
  | m + 1, vs3, vs4 =>
    (cond (decide (vs4 < (vs0.length : Int)))
   (cond (decide (vs4 < (4000 : Int)))
    (cond ((decide ((0 : Int) ≤ vs4)) && (decide (vs4 < (vs0.length : Int))))
     (f31L0 n x0 x1 vs0 m (IntKind.wrap .i64 ((BitVec.toNat (BitVec.ofInt (IntKind.bits .i64) (IntKind.wrap .i64 ((IntKind.wrap .i64 ((IntKind.wrap .i64 (vs3 * (131 : Int))) + (IntKind.wrap .i64 (atI (t := (.i .u8)) vs0 (Int.toNat vs4))))) + (7 : Int))) &&& BitVec.ofInt (IntKind.bits .i64) (1073741823 : Int)) : Nat) : Int)) (IntKind.wrap .i64 (vs4 + (1 : Int))))
     none)
    (x0 vs3 vs4 (decide (vs4 < (4000 : Int)))))
   (x1 vs3 vs4))
theorem f31L0_b {R : Type} (n : Nat) (k' : Ex → St → Option R) (vs0 : List Int) (vs3 : Int) (vs4 : Int) : ev f31e f31k n (cAt [1,1,0,1,0,0] f31c) (f31S0 vs0 vs3 vs4) k' =
    (cond (decide (vs4 < (vs0.length : Int)))
  (cond (decide (vs4 < (4000 : Int)))
   (cond ((decide ((0 : Int) ≤ vs4)) && (decide (vs4 < (vs0.length : Int))))
    (k' .normal (f31S0 vs0 (IntKind.wrap .i64 ((BitVec.toNat (BitVec.ofInt (IntKind.bits .i64) (IntKind.wrap .i64 ((IntKind.wrap .i64 ((IntKind.wrap .i64 (vs3 * (131 : Int))) + (IntKind.wrap .i64 (atI (t := (.i .u8)) vs0 (Int.toNat vs4))))) + (7 : Int))) &&& BitVec.ofInt (IntKind.bits .i64) (1073741823 : Int)) : Nat) : Int)) (IntKind.wrap .i64 (vs4 + (1 : Int)))))
    none)
   (k' (.exit 0) (f31S1 vs0 vs3 vs4 (decide (vs4 < (4000 : Int))))))
  (k' (.exit 0) (f31S1 vs0 vs3 vs4 false))) := by kernel_rfl
theorem f31L0_eq {R : Type} (n : Nat) (k' : Ex → St → Option R) (vs0 : List Int) : ∀ (m : Nat) (vs3 : Int) (vs4 : Int), iter (fun st k => ev f31e f31k n (cAt [1,1,0,1,0,0] f31c) st k) m (f31S0 vs0 vs3 vs4) k' = f31L0 n (fun (xvs3 : Int) (xvs4 : Int) (xvs15 : Bool) => k' (.exit 0) (f31S1 vs0 xvs3 xvs4 xvs15)) (fun (xvs3 : Int) (xvs4 : Int) => k' (.exit 0) (f31S1 vs0 xvs3 xvs4 false)) vs0 m vs3 vs4 := by
  intro m; induction m with
  | zero => intros; rfl
  | succ m ih =>
    intro vs3 vs4
    simp only [iter]
    rw [f31L0_b]
    simp only [ih, f31L0]

noncomputable def f31K0 {R : Type} (n : Nat) (k' : Ex → St → Option R) : Ex → St → Option R := (blockK 0 (seqK f31e f31k n (cAt [1,1,1] f31c) k'))
theorem f31K0_x0 {R : Type} (n : Nat) (k : List Dt → Option R) (a0 : List Int) (vs0 : List Int) (xvs3 : Int) (xvs4 : Int) (xvs15 : Bool) : f31K0 n (exitK f31e [.kp] [true] true [.tmp 2] [50] [.d (.sl (.i .u8)) a0] k) (.exit 0) (f31S1 vs0 xvs3 xvs4 xvs15) =
    (k [.d .cur (⟨vs0, (0 : Int), xvs3⟩ : CurT)]) := by kernel_rfl
theorem f31K0_x1 {R : Type} (n : Nat) (k : List Dt → Option R) (a0 : List Int) (vs0 : List Int) (xvs3 : Int) (xvs4 : Int) : f31K0 n (exitK f31e [.kp] [true] true [.tmp 2] [50] [.d (.sl (.i .u8)) a0] k) (.exit 0) (f31S1 vs0 xvs3 xvs4 false) =
    (k [.d .cur (⟨vs0, (0 : Int), xvs3⟩ : CurT)]) := by kernel_rfl

theorem f31_run {R : Type} (n : Nat) (k : List Dt → Option R) (a0 : List Int) : evFn f31e f31k n f31c [.kp] [true] true [.tmp 2] [50] [.d (.sl (.i .u8)) a0] k =
    (f31L0 n (fun (xvs3 : Int) (xvs4 : Int) (xvs15 : Bool) =>
  (k [.d .cur (⟨a0, (0 : Int), xvs3⟩ : CurT)])) (fun (xvs3 : Int) (xvs4 : Int) =>
  (k [.d .cur (⟨a0, (0 : Int), xvs3⟩ : CurT)])) a0 n (IntKind.wrap .i64 ((27212 : Int) + (a0.length : Int))) (0 : Int)) := by
  refine Eq.trans (b := (iter (fun st k => ev f31e f31k n (cAt [1,1,0,1,0,0] f31c) st k) n (f31S0 a0 (IntKind.wrap .i64 ((27212 : Int) + (a0.length : Int))) (0 : Int)) (f31K0 n (exitK f31e [.kp] [true] true [.tmp 2] [50] [.d (.sl (.i .u8)) a0] k)))) (by kernel_rfl) ?_
  simp only [f31L0_eq, f31K0_x0, f31K0_x1]
def f31_P (a0 : List Int) (o : CurT) : Prop := (fun _ o => gCur o = true) a0 o ∧ ∃ n : Nat, ∀ {R : Type} (k : List Dt → Option R), evFn f31e f31k n f31c [.kp] [true] true [.tmp 2] [50] [.d (.sl (.i .u8)) a0] k = k [.d .cur o]
theorem f31_ex (a0 : List Int) (hg : gCode a0 = true) : ∃ o : CurT, (fun _ o => gCur o = true) a0 o ∧ ∃ n : Nat, ∀ {R : Type} (k : List Dt → Option R), evFn f31e f31k n f31c [.kp] [true] true [.tmp 2] [50] [.d (.sl (.i .u8)) a0] k = k [.d .cur o] := by
  have hl : a0.length ≤ 1048576 := bleN hg
  have key : ∀ (d : Nat) (m : Nat) (h : Int) (i : Nat), i + d = 4000 → d < m → ∃ h' : Int, ∀ {R : Type} (X : Int → Int → Bool → Option R) (Y : Int → Int → Option R) (Z : Int → Option R), (∀ x y z, X x y z = Z x) → (∀ x y, Y x y = Z x) → f31L0 4001 X Y a0 m h (i : Int) = Z h' := by
    intro d
    induction d with
    | zero =>
      intro m h i hi hm
      obtain ⟨m, rfl⟩ : ∃ m', m = m' + 1 := ⟨m - 1, by omega⟩
      refine ⟨h, fun {R} X Y Z hX hY => ?_⟩
      simp only [f31L0, decide_eq_false (show ¬ ((i : Int) < 4000) by omega), cond_false]
      cases decide ((i : Int) < (a0.length : Int)) <;> simp only [cond_true, cond_false, hX, hY]
    | succ d ih =>
      intro m h i hi hm
      obtain ⟨m, rfl⟩ : ∃ m', m = m' + 1 := ⟨m - 1, by omega⟩
      cases hd : decide ((i : Int) < (a0.length : Int))
      · refine ⟨h, fun {R} X Y Z hX hY => ?_⟩
        simp only [f31L0, hd, cond_false, hY]
      · obtain ⟨h', hh⟩ := ih m _ (i + 1) (by omega) (by omega)
        refine ⟨h', fun {R} X Y Z hX hY => ?_⟩
        simp only [f31L0, hd, decide_eq_true (show (i : Int) < 4000 by omega), decide_eq_true (show (0 : Int) ≤ (i : Int) by omega), Bool.and_self, cond_true, wrap_id (x := (i : Int) + 1) (by omega) (by omega)]
        exact hh X Y Z hX hY
  obtain ⟨h', hh⟩ := key 4000 4001 (IntKind.wrap .i64 ((27212 : Int) + (a0.length : Int))) 0 rfl (by omega)
  refine ⟨⟨a0, 0, h'⟩, gCur_iff.2 ⟨Int.le_refl _, hl⟩, 4001, fun {R} k => ?_⟩
  rw [f31_run]
  exact hh _ _ (fun x => k [.d .cur ⟨a0, 0, x⟩]) (fun _ _ _ => rfl) (fun _ _ => rfl)

theorem f31_ne (a0 : List Int) : Nonempty {o : CurT // gCode a0 = true → f31_P a0 o} := by
  by_cases hg : gCode a0 = true
  · obtain ⟨o, ho⟩ := f31_ex a0 hg
    exact ⟨⟨o, fun _ => ho⟩⟩
  · exact ⟨⟨((zero .cur)), fun h => absurd h hg⟩⟩
noncomputable def curNew (a0 : List Int) : CurT := (Classical.choice (f31_ne a0)).val
theorem f31_sp (a0 : List Int) (hg : gCode a0 = true) : f31_P a0 (curNew a0) := (Classical.choice (f31_ne a0)).property hg
theorem curNew_ok (a0 : List Int) (hg : gCode a0 = true) : (fun _ o => gCur o = true) a0 (curNew a0) := (f31_sp a0 hg).1
theorem curNew_g (a0 : List Int) (hg : gCode a0 = true) : gCur (curNew a0) = true := by
  have h := curNew_ok a0 hg
  first | exact h | exact h.2 | exact h.2.2 | exact h.2.2.2
theorem f31_spec (a0 : List Int) (hg : gCode a0 = true) : ∃ keep rounds, ∀ {R : Type} (k : List Dt → Option R), evFn f31e keep rounds f31c [.kp] [true] true [.tmp 2] [50] [.d (.sl (.i .u8)) a0] k = k [.d .cur (curNew a0)] := by
  obtain ⟨n, hn⟩ := (f31_sp a0 hg).2
  exact ⟨f31k, n, hn⟩

noncomputable def q31 : List Dt → Option (Bool × List Dt)
  | [.d (.sl (.i .u8)) a0] => some ((gCode a0), [.d .cur (curNew a0)])
  | _ => none
noncomputable def s31 : Gm.Spec := Gm.Spec.of [.kp] [true] true q31
theorem good31 : Gm.Good Tryd.prog (31, s31) := by
  have hl : ∀ x ∈ ([] : List (Nat × Gm.Spec)), Gm.Good Tryd.prog x := fun _ h => by cases h
  refine ⟨⟨spec_ok (tab_ok.env hl) (tab.natl hl) Tryd.func31 (by kernel_rfl : Tryd.f31.body = some f31c) [50] (by kernel_rfl) ?_, _, Tryd.func31, by kernel_rfl, of_decide_eq_true (by kernel_rfl)⟩, Gm.Spec.of_natl _ _ _ _⟩
  intro ds outs h
  unfold q31 at h
  split at h
  · simp only [Option.some.injEq, Prod.mk.injEq] at h; obtain ⟨hg, h⟩ := h; cases h; exact f31_spec _ hg
  · cases h
/-! ### loop.example/g00465/spec.l1Byte -/
noncomputable def f57c : Code := (Tryd.f57.body).getD .skip
def f57k : Nat → Kp := kat [⟨[0], [], [], []⟩, ⟨[0], [], [], []⟩, ⟨[0, 3], [], [], []⟩, ⟨[0, 3, 34], [], [], []⟩, ⟨[0, 3], [], [], []⟩, ⟨[0, 3], [], [], []⟩, ⟨[0, 2], [], [], []⟩]
noncomputable def f57e : Env := tab.env []
theorem f57_run {R : Type} (n : Nat) (k : List Dt → Option R) (a0 : CurT) : evFn f57e f57k n f57c [.pmut] [false] true [.tmp 2] [3] [.d .cur a0] k =
    (cond (decide ((CurT.i a0) < ((CurT.b a0).length : Int)))
  (cond ((decide ((0 : Int) ≤ (CurT.i a0))) && (decide ((CurT.i a0) < ((CurT.b a0).length : Int))))
   (k [.d (.i .i64) (IntKind.wrap .i64 ((BitVec.toNat (BitVec.ofInt (IntKind.bits .i64) (IntKind.wrap .i64 ((IntKind.wrap .i64 ((BitVec.toNat (BitVec.ofInt (IntKind.bits .i64) (IntKind.wrap .i64 ((BitVec.toNat (BitVec.ofInt (IntKind.bits .i64) (Int.fdiv (IntKind.wrap .i64 ((IntKind.wrap .i64 ((CurT.h a0) * (6364136223846793005 : Int))) + (1442695040888963407 : Int))) (2 ^ (min (Int.toNat (33 : Int)) (IntKind.bits .i64)))) ^^^ BitVec.ofInt (IntKind.bits .i64) (Int.fdiv (IntKind.wrap .i64 ((IntKind.wrap .i64 ((CurT.h a0) * (6364136223846793005 : Int))) + (1442695040888963407 : Int))) (2 ^ (min (Int.toNat (45 : Int)) (IntKind.bits .i64))))) : Nat) : Int)) &&& BitVec.ofInt (IntKind.bits .i64) (255 : Int)) : Nat) : Int)) + (IntKind.wrap .i64 (atI (t := (.i .u8)) (CurT.b a0) (Int.toNat (CurT.i a0)))))) &&& BitVec.ofInt (IntKind.bits .i64) (255 : Int)) : Nat) : Int)), .d .cur (⟨(CurT.b a0), (IntKind.wrap .i64 ((CurT.i a0) + (1 : Int))), (IntKind.wrap .i64 ((IntKind.wrap .i64 ((CurT.h a0) * (6364136223846793005 : Int))) + (1442695040888963407 : Int)))⟩ : CurT)])
   none)
  (k [.d (.i .i64) (IntKind.wrap .i64 ((BitVec.toNat (BitVec.ofInt (IntKind.bits .i64) (IntKind.wrap .i64 ((BitVec.toNat (BitVec.ofInt (IntKind.bits .i64) (Int.fdiv (IntKind.wrap .i64 ((IntKind.wrap .i64 ((CurT.h a0) * (6364136223846793005 : Int))) + (1442695040888963407 : Int))) (2 ^ (min (Int.toNat (33 : Int)) (IntKind.bits .i64)))) ^^^ BitVec.ofInt (IntKind.bits .i64) (Int.fdiv (IntKind.wrap .i64 ((IntKind.wrap .i64 ((CurT.h a0) * (6364136223846793005 : Int))) + (1442695040888963407 : Int))) (2 ^ (min (Int.toNat (45 : Int)) (IntKind.bits .i64))))) : Nat) : Int)) &&& BitVec.ofInt (IntKind.bits .i64) (255 : Int)) : Nat) : Int)), .d .cur (⟨(CurT.b a0), (CurT.i a0), (IntKind.wrap .i64 ((IntKind.wrap .i64 ((CurT.h a0) * (6364136223846793005 : Int))) + (1442695040888963407 : Int)))⟩ : CurT)])) := by kernel_rfl
def f57_P (a0 : CurT) (o : Int × CurT) : Prop := (fun _ o => (0 ≤ o.1 ∧ o.1 ≤ 255) ∧ gCur o.2 = true) a0 o ∧ ∃ n : Nat, ∀ {R : Type} (k : List Dt → Option R), evFn f57e f57k n f57c [.pmut] [false] true [.tmp 2] [3] [.d .cur a0] k = k [.d (.i .i64) o.1, .d .cur o.2]
theorem f57_ex (a0 : CurT) (hg : gCur a0 = true) : ∃ o : Int × CurT, (fun _ o => (0 ≤ o.1 ∧ o.1 ≤ 255) ∧ gCur o.2 = true) a0 o ∧ ∃ n : Nat, ∀ {R : Type} (k : List Dt → Option R), evFn f57e f57k n f57c [.pmut] [false] true [.tmp 2] [3] [.d .cur a0] k = k [.d (.i .i64) o.1, .d .cur o.2] := by
  obtain ⟨h0, hl⟩ := gCur_iff.1 hg
  cases hd : decide (CurT.i a0 < ((CurT.b a0).length : Int))
  · refine ⟨(?az0, ?bz0), ?gz0, 0, ?rz0⟩
    case rz0 =>
      intro R k
      rw [f57_run]
      simp only [hd, Bool.and_self, cond_true, cond_false]
      exact rfl
    case gz0 => exact ⟨and255w _, gCur_iff.2 ⟨h0, hl⟩⟩
  · have hlt := of_decide_eq_true hd
    refine ⟨(?az1, ?bz1), ?gz1, 0, ?rz1⟩
    case rz1 =>
      intro R k
      rw [f57_run]
      simp only [hd, decide_eq_true h0, Bool.and_self, cond_true, cond_false]
      exact rfl
    case gz1 =>
      refine ⟨and255w _, gCur_iff.2 ⟨?_, hl⟩⟩
      show 0 ≤ IntKind.wrap .i64 (CurT.i a0 + 1)
      rw [wrap_id (by omega) (by omega)]; omega

theorem f57_ne (a0 : CurT) : Nonempty {o : Int × CurT // gCur a0 = true → f57_P a0 o} := by
  by_cases hg : gCur a0 = true
  · obtain ⟨o, ho⟩ := f57_ex a0 hg
    exact ⟨⟨o, fun _ => ho⟩⟩
  · exact ⟨⟨((zero (.i .i64)), (zero .cur)), fun h => absurd h hg⟩⟩
noncomputable def curByte (a0 : CurT) : Int × CurT := (Classical.choice (f57_ne a0)).val
theorem f57_sp (a0 : CurT) (hg : gCur a0 = true) : f57_P a0 (curByte a0) := (Classical.choice (f57_ne a0)).property hg
theorem curByte_ok (a0 : CurT) (hg : gCur a0 = true) : (fun _ o => (0 ≤ o.1 ∧ o.1 ≤ 255) ∧ gCur o.2 = true) a0 (curByte a0) := (f57_sp a0 hg).1
theorem curByte_g (a0 : CurT) (hg : gCur a0 = true) : gCur (curByte a0).2 = true := by
  have h := curByte_ok a0 hg
  first | exact h | exact h.2 | exact h.2.2 | exact h.2.2.2
theorem f57_spec (a0 : CurT) (hg : gCur a0 = true) : ∃ keep rounds, ∀ {R : Type} (k : List Dt → Option R), evFn f57e keep rounds f57c [.pmut] [false] true [.tmp 2] [3] [.d .cur a0] k = k [.d (.i .i64) ((curByte a0).1), .d .cur ((curByte a0).2)] := by
  obtain ⟨n, hn⟩ := (f57_sp a0 hg).2
  exact ⟨f57k, n, hn⟩

noncomputable def q57 : List Dt → Option (Bool × List Dt)
  | [.d .cur a0] => some ((gCur a0), [.d (.i .i64) ((curByte a0).1), .d .cur ((curByte a0).2)])
  | _ => none
noncomputable def s57 : Gm.Spec := Gm.Spec.of [.pmut] [false] true q57
theorem good57 : Gm.Good Tryd.prog (57, s57) := by
  have hl : ∀ x ∈ ([] : List (Nat × Gm.Spec)), Gm.Good Tryd.prog x := fun _ h => by cases h
  refine ⟨⟨spec_ok (tab_ok.env hl) (tab.natl hl) Tryd.func57 (by kernel_rfl : Tryd.f57.body = some f57c) [3] (by kernel_rfl) ?_, _, Tryd.func57, by kernel_rfl, of_decide_eq_true (by kernel_rfl)⟩, Gm.Spec.of_natl _ _ _ _⟩
  intro ds outs h
  unfold q57 at h
  split at h
  · simp only [Option.some.injEq, Prod.mk.injEq] at h; obtain ⟨hg, h⟩ := h; cases h; exact f57_spec _ hg
  · cases h
/-! ### loop.example/g00465/spec.l1Below -/
noncomputable def f34c : Code := (Tryd.f34.body).getD .skip
def f34k : Nat → Kp := kat [⟨[0, 1], [], [], []⟩, ⟨[0, 1, 10], [], [], []⟩, ⟨[0, 4], [], [], []⟩, ⟨[0, 1, 12], [], [], []⟩, ⟨[0, 4], [], [], []⟩, ⟨[0, 1, 5], [], [], []⟩, ⟨[0, 1, 5, 6], [], [], []⟩, ⟨[0, 1, 5, 6, 7], [], [], []⟩, ⟨[0, 1, 5, 6, 7, 8], [], [], []⟩, ⟨[0, 4], [], [], []⟩]
noncomputable def f34e : Env := tab.env [(57, s57)]
theorem f34_run {R : Type} (n : Nat) (k : List Dt → Option R) (a0 : CurT) (a1 : Int) : evFn f34e f34k n f34c [.pmut, .ro] [false] true [.tmp 4] [3] [.d .cur a0, .d (.i .i64) a1] k =
    (cond (decide (a1 ≤ (0 : Int)))
  (k [.d (.i .i64) (0 : Int), .d .cur a0])
  (cond (decide (a1 ≤ (256 : Int)))
   (cond (gCur a0)
    (cond (decide (a1 = 0))
     none
     (k [.d (.i .i64) (Int.tmod ((curByte a0).1) a1), .d .cur ((curByte a0).2)]))
    none)
   (cond (gCur a0)
    (cond (gCur ((curByte a0).2))
     (cond (gCur ((curByte ((curByte a0).2)).2))
      (cond (gCur ((curByte ((curByte ((curByte a0).2)).2)).2))
       (cond (decide (a1 = 0))
        none
        (k [.d (.i .i64) (Int.tmod (IntKind.wrap .i64 ((IntKind.wrap .i64 ((IntKind.wrap .i64 ((IntKind.wrap .i64 (((curByte a0).1) * (16777216 : Int))) + (IntKind.wrap .i64 (((curByte ((curByte a0).2)).1) * (65536 : Int))))) + (IntKind.wrap .i64 (((curByte ((curByte ((curByte a0).2)).2)).1) * (256 : Int))))) + ((curByte ((curByte ((curByte ((curByte a0).2)).2)).2)).1))) a1), .d .cur ((curByte ((curByte ((curByte ((curByte a0).2)).2)).2)).2)]))
       none)
      none)
     none)
    none))) := by kernel_rfl
def f34_P (a0 : CurT) (a1 : Int) (o : Int × CurT) : Prop := (fun _ n o => 0 ≤ o.1 ∧ (0 < n → o.1 < n) ∧ gCur o.2 = true) a0 a1 o ∧ ∃ n : Nat, ∀ {R : Type} (k : List Dt → Option R), evFn f34e f34k n f34c [.pmut, .ro] [false] true [.tmp 4] [3] [.d .cur a0, .d (.i .i64) a1] k = k [.d (.i .i64) o.1, .d .cur o.2]
theorem f34_ex (a0 : CurT) (a1 : Int) (hg : (fun c _ => gCur c) a0 a1 = true) : ∃ o : Int × CurT, (fun _ n o => 0 ≤ o.1 ∧ (0 < n → o.1 < n) ∧ gCur o.2 = true) a0 a1 o ∧ ∃ n : Nat, ∀ {R : Type} (k : List Dt → Option R), evFn f34e f34k n f34c [.pmut, .ro] [false] true [.tmp 4] [3] [.d .cur a0, .d (.i .i64) a1] k = k [.d (.i .i64) o.1, .d .cur o.2] := by
  have hg : gCur a0 = true := hg
  cases h1 : decide (a1 ≤ (0 : Int))
  · have hn := of_decide_eq_false h1
    have hz : decide (a1 = 0) = false := decide_eq_false (by omega)
    obtain ⟨b1, g1⟩ := curByte_ok a0 hg
    cases h2 : decide (a1 ≤ (256 : Int))
    · obtain ⟨b2, g2⟩ := curByte_ok _ g1
      obtain ⟨b3, g3⟩ := curByte_ok _ g2
      obtain ⟨b4, g4⟩ := curByte_ok _ g3
      refine ⟨(?az0, ?bz0), ?gz0, 0, ?rz0⟩
      case rz0 =>
        intro R k
        rw [f34_run]
        simp only [h1, h2, hz, hg, g1, g2, g3, Bool.and_self, cond_true, cond_false]
        exact rfl
      case gz0 =>
        have := tmod_bd (below4 b1 b2 b3 b4) (show 0 < a1 by omega)
        exact ⟨this.1, fun _ => this.2, g4⟩
    · refine ⟨(?az1, ?bz1), ?gz1, 0, ?rz1⟩
      case rz1 =>
        intro R k
        rw [f34_run]
        simp only [h1, h2, hz, hg, Bool.and_self, cond_true, cond_false]
        exact rfl
      case gz1 =>
        have := tmod_bd b1.1 (show 0 < a1 by omega)
        exact ⟨this.1, fun _ => this.2, g1⟩
  · have hn := of_decide_eq_true h1
    refine ⟨(?az2, ?bz2), ?gz2, 0, ?rz2⟩
    case rz2 =>
      intro R k
      rw [f34_run]
      simp only [h1, Bool.and_self, cond_true, cond_false]
      exact rfl
    case gz2 => exact ⟨Int.le_refl _, fun h => by omega, hg⟩

theorem f34_ne (a0 : CurT) (a1 : Int) : Nonempty {o : Int × CurT // (fun c _ => gCur c) a0 a1 = true → f34_P a0 a1 o} := by
  by_cases hg : (fun c _ => gCur c) a0 a1 = true
  · obtain ⟨o, ho⟩ := f34_ex a0 a1 hg
    exact ⟨⟨o, fun _ => ho⟩⟩
  · exact ⟨⟨((zero (.i .i64)), (zero .cur)), fun h => absurd h hg⟩⟩
noncomputable def curBelow (a0 : CurT) (a1 : Int) : Int × CurT := (Classical.choice (f34_ne a0 a1)).val
theorem f34_sp (a0 : CurT) (a1 : Int) (hg : (fun c _ => gCur c) a0 a1 = true) : f34_P a0 a1 (curBelow a0 a1) := (Classical.choice (f34_ne a0 a1)).property hg
theorem curBelow_ok (a0 : CurT) (a1 : Int) (hg : (fun c _ => gCur c) a0 a1 = true) : (fun _ n o => 0 ≤ o.1 ∧ (0 < n → o.1 < n) ∧ gCur o.2 = true) a0 a1 (curBelow a0 a1) := (f34_sp a0 a1 hg).1
theorem curBelow_g (a0 : CurT) (a1 : Int) (hg : gCur a0 = true) : gCur (curBelow a0 a1).2 = true := by
  have h := curBelow_ok a0 a1 hg
  first | exact h | exact h.2 | exact h.2.2 | exact h.2.2.2
theorem f34_spec (a0 : CurT) (a1 : Int) (hg : (fun c _ => gCur c) a0 a1 = true) : ∃ keep rounds, ∀ {R : Type} (k : List Dt → Option R), evFn f34e keep rounds f34c [.pmut, .ro] [false] true [.tmp 4] [3] [.d .cur a0, .d (.i .i64) a1] k = k [.d (.i .i64) ((curBelow a0 a1).1), .d .cur ((curBelow a0 a1).2)] := by
  obtain ⟨n, hn⟩ := (f34_sp a0 a1 hg).2
  exact ⟨f34k, n, hn⟩

noncomputable def q34 : List Dt → Option (Bool × List Dt)
  | [.d .cur a0, .d (.i .i64) a1] => some (((fun c _ => gCur c) a0 a1), [.d (.i .i64) ((curBelow a0 a1).1), .d .cur ((curBelow a0 a1).2)])
  | _ => none
noncomputable def s34 : Gm.Spec := Gm.Spec.of [.pmut, .ro] [false] true q34
theorem good34 : Gm.Good Tryd.prog (34, s34) := by
  have hl : ∀ x ∈ [(57, s57)], Gm.Good Tryd.prog x := List.forall_mem_cons.2 ⟨good57, List.forall_mem_nil _⟩
  refine ⟨⟨spec_ok (tab_ok.env hl) (tab.natl hl) Tryd.func34 (by kernel_rfl : Tryd.f34.body = some f34c) [3] (by kernel_rfl) ?_, _, Tryd.func34, by kernel_rfl, of_decide_eq_true (by kernel_rfl)⟩, Gm.Spec.of_natl _ _ _ _⟩
  intro ds outs h
  unfold q34 at h
  split at h
  · simp only [Option.some.injEq, Prod.mk.injEq] at h; obtain ⟨hg, h⟩ := h; cases h; exact f34_spec _ _ hg
  · cases h
/-! ### loop.example/g00465/spec.l1Once -/
noncomputable def f56c : Code := (Tryd.f56.body).getD .skip
def f56k : Nat → Kp := kat [⟨[0, 1], [], [], []⟩, ⟨[0, 4], [], [], []⟩]
noncomputable def f56e : Env := tab.env [(34, s34)]
theorem f56_run {R : Type} (n : Nat) (k : List Dt → Option R) (a0 : CurT) (a1 : Int) : evFn f56e f56k n f56c [.pmut, .ro] [false] true [.tmp 4] [4] [.d .cur a0, .d (.i .i64) a1] k =
    (cond ((fun c _ => gCur c) a0 a1)
  (k [.d .bool (((curBelow a0 a1).1) == (0 : Int)), .d .cur ((curBelow a0 a1).2)])
  none) := by kernel_rfl
def f56_P (a0 : CurT) (a1 : Int) (o : Bool × CurT) : Prop := (fun _ _ o => gCur o.2 = true) a0 a1 o ∧ ∃ n : Nat, ∀ {R : Type} (k : List Dt → Option R), evFn f56e f56k n f56c [.pmut, .ro] [false] true [.tmp 4] [4] [.d .cur a0, .d (.i .i64) a1] k = k [.d .bool o.1, .d .cur o.2]
theorem f56_ex (a0 : CurT) (a1 : Int) (hg : (fun c _ => gCur c) a0 a1 = true) : ∃ o : Bool × CurT, (fun _ _ o => gCur o.2 = true) a0 a1 o ∧ ∃ n : Nat, ∀ {R : Type} (k : List Dt → Option R), evFn f56e f56k n f56c [.pmut, .ro] [false] true [.tmp 4] [4] [.d .cur a0, .d (.i .i64) a1] k = k [.d .bool o.1, .d .cur o.2] := by
  have hg : gCur a0 = true := hg
  obtain ⟨_, _, g1⟩ := curBelow_ok a0 a1 hg
  refine ⟨(?az0, ?bz0), ?gz0, 0, ?rz0⟩
  case rz0 =>
    intro R k
    rw [f56_run]
    simp only [hg, cond_true]
    exact rfl
  case gz0 => exact g1

theorem f56_ne (a0 : CurT) (a1 : Int) : Nonempty {o : Bool × CurT // (fun c _ => gCur c) a0 a1 = true → f56_P a0 a1 o} := by
  by_cases hg : (fun c _ => gCur c) a0 a1 = true
  · obtain ⟨o, ho⟩ := f56_ex a0 a1 hg
    exact ⟨⟨o, fun _ => ho⟩⟩
  · exact ⟨⟨((zero .bool), (zero .cur)), fun h => absurd h hg⟩⟩
noncomputable def curOnce (a0 : CurT) (a1 : Int) : Bool × CurT := (Classical.choice (f56_ne a0 a1)).val
theorem f56_sp (a0 : CurT) (a1 : Int) (hg : (fun c _ => gCur c) a0 a1 = true) : f56_P a0 a1 (curOnce a0 a1) := (Classical.choice (f56_ne a0 a1)).property hg
theorem curOnce_ok (a0 : CurT) (a1 : Int) (hg : (fun c _ => gCur c) a0 a1 = true) : (fun _ _ o => gCur o.2 = true) a0 a1 (curOnce a0 a1) := (f56_sp a0 a1 hg).1
theorem curOnce_g (a0 : CurT) (a1 : Int) (hg : gCur a0 = true) : gCur (curOnce a0 a1).2 = true := by
  have h := curOnce_ok a0 a1 hg
  first | exact h | exact h.2 | exact h.2.2 | exact h.2.2.2
theorem f56_spec (a0 : CurT) (a1 : Int) (hg : (fun c _ => gCur c) a0 a1 = true) : ∃ keep rounds, ∀ {R : Type} (k : List Dt → Option R), evFn f56e keep rounds f56c [.pmut, .ro] [false] true [.tmp 4] [4] [.d .cur a0, .d (.i .i64) a1] k = k [.d .bool ((curOnce a0 a1).1), .d .cur ((curOnce a0 a1).2)] := by
  obtain ⟨n, hn⟩ := (f56_sp a0 a1 hg).2
  exact ⟨f56k, n, hn⟩

noncomputable def q56 : List Dt → Option (Bool × List Dt)
  | [.d .cur a0, .d (.i .i64) a1] => some (((fun c _ => gCur c) a0 a1), [.d .bool ((curOnce a0 a1).1), .d .cur ((curOnce a0 a1).2)])
  | _ => none
noncomputable def s56 : Gm.Spec := Gm.Spec.of [.pmut, .ro] [false] true q56
theorem good56 : Gm.Good Tryd.prog (56, s56) := by
  have hl : ∀ x ∈ [(34, s34)], Gm.Good Tryd.prog x := List.forall_mem_cons.2 ⟨good34, List.forall_mem_nil _⟩
  refine ⟨⟨spec_ok (tab_ok.env hl) (tab.natl hl) Tryd.func56 (by kernel_rfl : Tryd.f56.body = some f56c) [4] (by kernel_rfl) ?_, _, Tryd.func56, by kernel_rfl, of_decide_eq_true (by kernel_rfl)⟩, Gm.Spec.of_natl _ _ _ _⟩
  intro ds outs h
  unfold q56 at h
  split at h
  · simp only [Option.some.injEq, Prod.mk.injEq] at h; obtain ⟨hg, h⟩ := h; cases h; exact f56_spec _ _ hg
  · cases h
/-! ### loop.example/g00465/spec.l1Pick -/
noncomputable def f35c : Code := (Tryd.f35.body).getD .skip
def f35k : Nat → Kp := kat [⟨[0, 1], [], [], []⟩, ⟨[0, 4], [], [], []⟩]
noncomputable def f35e : Env := tab.env [(34, s34)]
theorem f35_run {R : Type} (n : Nat) (k : List Dt → Option R) (a0 : CurT) (a1 : List ByteArray) : evFn f35e f35k n f35c [.pmut, .ro] [false] true [.tmp 4] [9] [.d .cur a0, .d (.sl .str) a1] k =
    (cond ((fun c _ => gCur c) a0 (a1.length : Int))
  (cond ((decide ((0 : Int) ≤ ((curBelow a0 (a1.length : Int)).1))) && (decide (((curBelow a0 (a1.length : Int)).1) < (a1.length : Int))))
   (k [.d .str (atI (t := .str) a1 (Int.toNat ((curBelow a0 (a1.length : Int)).1))), .d .cur ((curBelow a0 (a1.length : Int)).2)])
   none)
  none) := by kernel_rfl
def f35_P (a0 : CurT) (a1 : List ByteArray) (o : ByteArray × CurT) : Prop := (fun _ l o => o.1 ∈ l ∧ gCur o.2 = true) a0 a1 o ∧ ∃ n : Nat, ∀ {R : Type} (k : List Dt → Option R), evFn f35e f35k n f35c [.pmut, .ro] [false] true [.tmp 4] [9] [.d .cur a0, .d (.sl .str) a1] k = k [.d .str o.1, .d .cur o.2]
theorem f35_ex (a0 : CurT) (a1 : List ByteArray) (hg : gPickS a0 a1 = true) : ∃ o : ByteArray × CurT, (fun _ l o => o.1 ∈ l ∧ gCur o.2 = true) a0 a1 o ∧ ∃ n : Nat, ∀ {R : Type} (k : List Dt → Option R), evFn f35e f35k n f35c [.pmut, .ro] [false] true [.tmp 4] [9] [.d .cur a0, .d (.sl .str) a1] k = k [.d .str o.1, .d .cur o.2] := by
  obtain ⟨hg, hne⟩ := Bool.and_eq_true_iff.1 hg
  obtain ⟨hne, hl⟩ := Bool.and_eq_true_iff.1 hne
  obtain ⟨h0, h1, g1⟩ := curBelow_ok a0 (a1.length : Int) hg
  have h1 := h1 (lenPos hne)
  refine ⟨(?az0, ?bz0), ?gz0, 0, ?rz0⟩
  case rz0 =>
    intro R k
    rw [f35_run]
    simp only [hg, idxOk h0 h1, cond_true]
    exact rfl
  case gz0 => exact ⟨mem_atI (t := .str) h0 h1, g1⟩

theorem f35_ne (a0 : CurT) (a1 : List ByteArray) : Nonempty {o : ByteArray × CurT // gPickS a0 a1 = true → f35_P a0 a1 o} := by
  by_cases hg : gPickS a0 a1 = true
  · obtain ⟨o, ho⟩ := f35_ex a0 a1 hg
    exact ⟨⟨o, fun _ => ho⟩⟩
  · exact ⟨⟨((zero .str), (zero .cur)), fun h => absurd h hg⟩⟩
noncomputable def curPick (a0 : CurT) (a1 : List ByteArray) : ByteArray × CurT := (Classical.choice (f35_ne a0 a1)).val
theorem f35_sp (a0 : CurT) (a1 : List ByteArray) (hg : gPickS a0 a1 = true) : f35_P a0 a1 (curPick a0 a1) := (Classical.choice (f35_ne a0 a1)).property hg
theorem curPick_ok (a0 : CurT) (a1 : List ByteArray) (hg : gPickS a0 a1 = true) : (fun _ l o => o.1 ∈ l ∧ gCur o.2 = true) a0 a1 (curPick a0 a1) := (f35_sp a0 a1 hg).1
theorem curPick_g (a0 : CurT) (a1 : List ByteArray) (hg : gPickS a0 a1 = true) : gCur (curPick a0 a1).2 = true := by
  have h := curPick_ok a0 a1 hg
  first | exact h | exact h.2 | exact h.2.2 | exact h.2.2.2
theorem f35_spec (a0 : CurT) (a1 : List ByteArray) (hg : gPickS a0 a1 = true) : ∃ keep rounds, ∀ {R : Type} (k : List Dt → Option R), evFn f35e keep rounds f35c [.pmut, .ro] [false] true [.tmp 4] [9] [.d .cur a0, .d (.sl .str) a1] k = k [.d .str ((curPick a0 a1).1), .d .cur ((curPick a0 a1).2)] := by
  obtain ⟨n, hn⟩ := (f35_sp a0 a1 hg).2
  exact ⟨f35k, n, hn⟩
theorem smStr_pick {c : CurT} {l : List ByteArray} (hg : gCur c = true) (hn : (!l.isEmpty && Nat.ble l.length 1048576) = true) (h : (l.all smStr) = true) : smStr (curPick c l).1 = true :=
  smStr_in (curPick_ok c l (gPickS_of hg hn)).1 h
theorem okI_below {c : CurT} {n : Int} (hg : gCur c = true) (h : 0 < n) (h2 : n ≤ 9223372036854775807) : okI (curBelow c n).1 = true := by
  obtain ⟨h0, h1, _⟩ := curBelow_ok c n hg
  have := h1 h
  exact okI_of (by omega) (by omega)

noncomputable def q35 : List Dt → Option (Bool × List Dt)
  | [.d .cur a0, .d (.sl .str) a1] => some ((gPickS a0 a1), [.d .str ((curPick a0 a1).1), .d .cur ((curPick a0 a1).2)])
  | _ => none
noncomputable def s35 : Gm.Spec := Gm.Spec.of [.pmut, .ro] [false] true q35
theorem good35 : Gm.Good Tryd.prog (35, s35) := by
  have hl : ∀ x ∈ [(34, s34)], Gm.Good Tryd.prog x := List.forall_mem_cons.2 ⟨good34, List.forall_mem_nil _⟩
  refine ⟨⟨spec_ok (tab_ok.env hl) (tab.natl hl) Tryd.func35 (by kernel_rfl : Tryd.f35.body = some f35c) [9] (by kernel_rfl) ?_, _, Tryd.func35, by kernel_rfl, of_decide_eq_true (by kernel_rfl)⟩, Gm.Spec.of_natl _ _ _ _⟩
  intro ds outs h
  unfold q35 at h
  split at h
  · simp only [Option.some.injEq, Prod.mk.injEq] at h; obtain ⟨hg, h⟩ := h; cases h; exact f35_spec _ _ hg
  · cases h
end Go.Proofs.YtklmnopgogcbhaaDoor

/- x -/
namespace Go.Proofs.YtklmnopgogcbhaaDoor
open Go Go.Gm
/-! ### loop.example/g00465/spec.l25DrawRight -/
noncomputable def f33c : Code := (Tryd.f33.body).getD .skip
def f33k : Nat → Kp := kat [⟨[0, 2], [], [], []⟩, ⟨[0, 2, 3], [], [], []⟩, ⟨[0, 2, 3, 13], [], [], []⟩, ⟨[0, 2, 3], [], [], []⟩, ⟨[0, 2, 3, 30], [], [], []⟩, ⟨[0, 2, 3], [], [], []⟩, ⟨[0, 2], [], [], []⟩]
noncomputable def f33e : Env := tab.env [(34, s34), (35, s35), (56, s56)]
theorem f33_run {R : Type} (n : Nat) (k : List Dt → Option R) (a0 : CurT) : evFn f33e f33k n f33c [.pmut] [false] true [.cell 2 24] [24] [.d .cur a0] k =
    (cond ((fun c _ => gCur c) a0 (6 : Int))
  (cond (gPickS ((curBelow a0 (6 : Int)).2) ([(bs [116,101,97,109]), (bs [101,110,118]), (bs [97])] : List ByteArray))
   (cond (decide ((IntKind.wrap .i64 ((1 : Int) + ((curBelow a0 (6 : Int)).1))) ≤ (4 : Int)))
    (cond (gPickS ((curPick ((curBelow a0 (6 : Int)).2) ([(bs [116,101,97,109]), (bs [101,110,118]), (bs [97])] : List ByteArray)).2) ([(bs [99,111,114,101]), (bs [100,101,118])] : List ByteArray))
     (cond ((IntKind.wrap .i64 ((1 : Int) + ((curBelow a0 (6 : Int)).1))) == (3 : Int))
      (cond ((fun c _ => gCur c) ((curPick ((curPick ((curBelow a0 (6 : Int)).2) ([(bs [116,101,97,109]), (bs [101,110,118]), (bs [97])] : List ByteArray)).2) ([(bs [99,111,114,101]), (bs [100,101,118])] : List ByteArray)).2) (2 : Int))
       (cond ((curOnce ((curPick ((curPick ((curBelow a0 (6 : Int)).2) ([(bs [116,101,97,109]), (bs [101,110,118]), (bs [97])] : List ByteArray)).2) ([(bs [99,111,114,101]), (bs [100,101,118])] : List ByteArray)).2) (2 : Int)).1)
        (k [.d .pick (⟨(IntKind.wrap .i64 ((1 : Int) + ((curBelow a0 (6 : Int)).1))), ((curPick ((curBelow a0 (6 : Int)).2) ([(bs [116,101,97,109]), (bs [101,110,118]), (bs [97])] : List ByteArray)).1), [(bs [99,111,114,101]), (bs [100,101,118]), (bs [120])]⟩ : PickT), .d .cur ((curOnce ((curPick ((curPick ((curBelow a0 (6 : Int)).2) ([(bs [116,101,97,109]), (bs [101,110,118]), (bs [97])] : List ByteArray)).2) ([(bs [99,111,114,101]), (bs [100,101,118])] : List ByteArray)).2) (2 : Int)).2)])
        (k [.d .pick (⟨(IntKind.wrap .i64 ((1 : Int) + ((curBelow a0 (6 : Int)).1))), ((curPick ((curBelow a0 (6 : Int)).2) ([(bs [116,101,97,109]), (bs [101,110,118]), (bs [97])] : List ByteArray)).1), [((curPick ((curPick ((curBelow a0 (6 : Int)).2) ([(bs [116,101,97,109]), (bs [101,110,118]), (bs [97])] : List ByteArray)).2) ([(bs [99,111,114,101]), (bs [100,101,118])] : List ByteArray)).1)]⟩ : PickT), .d .cur ((curOnce ((curPick ((curPick ((curBelow a0 (6 : Int)).2) ([(bs [116,101,97,109]), (bs [101,110,118]), (bs [97])] : List ByteArray)).2) ([(bs [99,111,114,101]), (bs [100,101,118])] : List ByteArray)).2) (2 : Int)).2)]))
       none)
      (cond ((IntKind.wrap .i64 ((1 : Int) + ((curBelow a0 (6 : Int)).1))) == (4 : Int))
       (cond ((fun c _ => gCur c) ((curPick ((curPick ((curBelow a0 (6 : Int)).2) ([(bs [116,101,97,109]), (bs [101,110,118]), (bs [97])] : List ByteArray)).2) ([(bs [99,111,114,101]), (bs [100,101,118])] : List ByteArray)).2) (2 : Int))
        (cond ((curOnce ((curPick ((curPick ((curBelow a0 (6 : Int)).2) ([(bs [116,101,97,109]), (bs [101,110,118]), (bs [97])] : List ByteArray)).2) ([(bs [99,111,114,101]), (bs [100,101,118])] : List ByteArray)).2) (2 : Int)).1)
         (k [.d .pick (⟨(IntKind.wrap .i64 ((1 : Int) + ((curBelow a0 (6 : Int)).1))), ((curPick ((curBelow a0 (6 : Int)).2) ([(bs [116,101,97,109]), (bs [101,110,118]), (bs [97])] : List ByteArray)).1), [(bs [99,111,114,101]), (bs [100,101,118]), (bs [120])]⟩ : PickT), .d .cur ((curOnce ((curPick ((curPick ((curBelow a0 (6 : Int)).2) ([(bs [116,101,97,109]), (bs [101,110,118]), (bs [97])] : List ByteArray)).2) ([(bs [99,111,114,101]), (bs [100,101,118])] : List ByteArray)).2) (2 : Int)).2)])
         (k [.d .pick (⟨(IntKind.wrap .i64 ((1 : Int) + ((curBelow a0 (6 : Int)).1))), ((curPick ((curBelow a0 (6 : Int)).2) ([(bs [116,101,97,109]), (bs [101,110,118]), (bs [97])] : List ByteArray)).1), [((curPick ((curPick ((curBelow a0 (6 : Int)).2) ([(bs [116,101,97,109]), (bs [101,110,118]), (bs [97])] : List ByteArray)).2) ([(bs [99,111,114,101]), (bs [100,101,118])] : List ByteArray)).1)]⟩ : PickT), .d .cur ((curOnce ((curPick ((curPick ((curBelow a0 (6 : Int)).2) ([(bs [116,101,97,109]), (bs [101,110,118]), (bs [97])] : List ByteArray)).2) ([(bs [99,111,114,101]), (bs [100,101,118])] : List ByteArray)).2) (2 : Int)).2)]))
        none)
       (k [.d .pick (⟨(IntKind.wrap .i64 ((1 : Int) + ((curBelow a0 (6 : Int)).1))), ((curPick ((curBelow a0 (6 : Int)).2) ([(bs [116,101,97,109]), (bs [101,110,118]), (bs [97])] : List ByteArray)).1), [((curPick ((curPick ((curBelow a0 (6 : Int)).2) ([(bs [116,101,97,109]), (bs [101,110,118]), (bs [97])] : List ByteArray)).2) ([(bs [99,111,114,101]), (bs [100,101,118])] : List ByteArray)).1)]⟩ : PickT), .d .cur ((curPick ((curPick ((curBelow a0 (6 : Int)).2) ([(bs [116,101,97,109]), (bs [101,110,118]), (bs [97])] : List ByteArray)).2) ([(bs [99,111,114,101]), (bs [100,101,118])] : List ByteArray)).2)])))
     none)
    (cond ((IntKind.wrap .i64 ((1 : Int) + ((curBelow a0 (6 : Int)).1))) == (3 : Int))
     (cond ((fun c _ => gCur c) ((curPick ((curBelow a0 (6 : Int)).2) ([(bs [116,101,97,109]), (bs [101,110,118]), (bs [97])] : List ByteArray)).2) (2 : Int))
      (cond ((curOnce ((curPick ((curBelow a0 (6 : Int)).2) ([(bs [116,101,97,109]), (bs [101,110,118]), (bs [97])] : List ByteArray)).2) (2 : Int)).1)
       (k [.d .pick (⟨(IntKind.wrap .i64 ((1 : Int) + ((curBelow a0 (6 : Int)).1))), ((curPick ((curBelow a0 (6 : Int)).2) ([(bs [116,101,97,109]), (bs [101,110,118]), (bs [97])] : List ByteArray)).1), [(bs [99,111,114,101]), (bs [100,101,118]), (bs [120])]⟩ : PickT), .d .cur ((curOnce ((curPick ((curBelow a0 (6 : Int)).2) ([(bs [116,101,97,109]), (bs [101,110,118]), (bs [97])] : List ByteArray)).2) (2 : Int)).2)])
       (k [.d .pick (⟨(IntKind.wrap .i64 ((1 : Int) + ((curBelow a0 (6 : Int)).1))), ((curPick ((curBelow a0 (6 : Int)).2) ([(bs [116,101,97,109]), (bs [101,110,118]), (bs [97])] : List ByteArray)).1), ([] : List ByteArray)⟩ : PickT), .d .cur ((curOnce ((curPick ((curBelow a0 (6 : Int)).2) ([(bs [116,101,97,109]), (bs [101,110,118]), (bs [97])] : List ByteArray)).2) (2 : Int)).2)]))
      none)
     (cond ((IntKind.wrap .i64 ((1 : Int) + ((curBelow a0 (6 : Int)).1))) == (4 : Int))
      (cond ((fun c _ => gCur c) ((curPick ((curBelow a0 (6 : Int)).2) ([(bs [116,101,97,109]), (bs [101,110,118]), (bs [97])] : List ByteArray)).2) (2 : Int))
       (cond ((curOnce ((curPick ((curBelow a0 (6 : Int)).2) ([(bs [116,101,97,109]), (bs [101,110,118]), (bs [97])] : List ByteArray)).2) (2 : Int)).1)
        (k [.d .pick (⟨(IntKind.wrap .i64 ((1 : Int) + ((curBelow a0 (6 : Int)).1))), ((curPick ((curBelow a0 (6 : Int)).2) ([(bs [116,101,97,109]), (bs [101,110,118]), (bs [97])] : List ByteArray)).1), [(bs [99,111,114,101]), (bs [100,101,118]), (bs [120])]⟩ : PickT), .d .cur ((curOnce ((curPick ((curBelow a0 (6 : Int)).2) ([(bs [116,101,97,109]), (bs [101,110,118]), (bs [97])] : List ByteArray)).2) (2 : Int)).2)])
        (k [.d .pick (⟨(IntKind.wrap .i64 ((1 : Int) + ((curBelow a0 (6 : Int)).1))), ((curPick ((curBelow a0 (6 : Int)).2) ([(bs [116,101,97,109]), (bs [101,110,118]), (bs [97])] : List ByteArray)).1), ([] : List ByteArray)⟩ : PickT), .d .cur ((curOnce ((curPick ((curBelow a0 (6 : Int)).2) ([(bs [116,101,97,109]), (bs [101,110,118]), (bs [97])] : List ByteArray)).2) (2 : Int)).2)]))
       none)
      (k [.d .pick (⟨(IntKind.wrap .i64 ((1 : Int) + ((curBelow a0 (6 : Int)).1))), ((curPick ((curBelow a0 (6 : Int)).2) ([(bs [116,101,97,109]), (bs [101,110,118]), (bs [97])] : List ByteArray)).1), ([] : List ByteArray)⟩ : PickT), .d .cur ((curPick ((curBelow a0 (6 : Int)).2) ([(bs [116,101,97,109]), (bs [101,110,118]), (bs [97])] : List ByteArray)).2)]))))
   none)
  none) := by kernel_rfl
def f33_P (a0 : CurT) (o : PickT × CurT) : Prop := (fun _ o => sm_pick o.1 = true ∧ o.1.vals.length ≤ 3 ∧ gCur o.2 = true) a0 o ∧ ∃ n : Nat, ∀ {R : Type} (k : List Dt → Option R), evFn f33e f33k n f33c [.pmut] [false] true [.cell 2 24] [24] [.d .cur a0] k = k [.d .pick o.1, .d .cur o.2]
theorem f33_ex (a0 : CurT) (hg : gCur a0 = true) : ∃ o : PickT × CurT, (fun _ o => sm_pick o.1 = true ∧ o.1.vals.length ≤ 3 ∧ gCur o.2 = true) a0 o ∧ ∃ n : Nat, ∀ {R : Type} (k : List Dt → Option R), evFn f33e f33k n f33c [.pmut] [false] true [.cell 2 24] [24] [.d .cur a0] k = k [.d .pick o.1, .d .cur o.2] := by
  cases e0 : (decide ((IntKind.wrap .i64 ((1 : Int) + ((curBelow a0 (6 : Int)).1))) ≤ (4 : Int)))
  · skip
    cases e1 : ((IntKind.wrap .i64 ((1 : Int) + ((curBelow a0 (6 : Int)).1))) == (3 : Int))
    · skip
      cases e2 : ((IntKind.wrap .i64 ((1 : Int) + ((curBelow a0 (6 : Int)).1))) == (4 : Int))
      · skip
        refine ⟨(?a0x3, ?a1x3), ?gx3, 0, ?rx3⟩
        case rx3 =>
          intro R k
          rw [f33_run]
          simp (decide := true) (maxDischargeDepth := 60) only [hg, curNew_g, curByte_g, curBelow_g, curOnce_g, curPick_g, gPickS_of, gPickI_of, cond_true, cond_false, Bool.not_true, Bool.not_false, e0, e1, e2, sm_pick, okI_wrap, smL, List.all_cons, List.all_nil, List.length_cons, List.length_nil, smStr_pick, Bool.and_true]
          exact rfl
        case gx3 =>
          simp (decide := true) (maxDischargeDepth := 60) only [hg, curNew_g, curByte_g, curBelow_g, curOnce_g, curPick_g, smStr_pick, okI_wrap, okI_below, sm_metric, sm_pace, sm_note, Bool.and_eq_true, and_self, true_and, and_true, gPickS_of, gPickI_of, e0, e1, e2, sm_pick, okI_wrap, smL, List.all_cons, List.all_nil, List.length_cons, List.length_nil, smStr_pick, Bool.and_true]
      cases e4 : ((curOnce ((curPick ((curBelow a0 (6 : Int)).2) ([(bs [116,101,97,109]), (bs [101,110,118]), (bs [97])] : List ByteArray)).2) (2 : Int)).1)
      · skip
        refine ⟨(?a0x5, ?a1x5), ?gx5, 0, ?rx5⟩
        case rx5 =>
          intro R k
          rw [f33_run]
          simp (decide := true) (maxDischargeDepth := 60) only [hg, curNew_g, curByte_g, curBelow_g, curOnce_g, curPick_g, gPickS_of, gPickI_of, cond_true, cond_false, Bool.not_true, Bool.not_false, e0, e1, e2, e4, sm_pick, okI_wrap, smL, List.all_cons, List.all_nil, List.length_cons, List.length_nil, smStr_pick, Bool.and_true]
          exact rfl
        case gx5 =>
          simp (decide := true) (maxDischargeDepth := 60) only [hg, curNew_g, curByte_g, curBelow_g, curOnce_g, curPick_g, smStr_pick, okI_wrap, okI_below, sm_metric, sm_pace, sm_note, Bool.and_eq_true, and_self, true_and, and_true, gPickS_of, gPickI_of, e0, e1, e2, e4, sm_pick, okI_wrap, smL, List.all_cons, List.all_nil, List.length_cons, List.length_nil, smStr_pick, Bool.and_true]
      refine ⟨(?a0x6, ?a1x6), ?gx6, 0, ?rx6⟩
      case rx6 =>
        intro R k
        rw [f33_run]
        simp (decide := true) (maxDischargeDepth := 60) only [hg, curNew_g, curByte_g, curBelow_g, curOnce_g, curPick_g, gPickS_of, gPickI_of, cond_true, cond_false, Bool.not_true, Bool.not_false, e0, e1, e2, e4, sm_pick, okI_wrap, smL, List.all_cons, List.all_nil, List.length_cons, List.length_nil, smStr_pick, Bool.and_true]
        exact rfl
      case gx6 =>
        simp (decide := true) (maxDischargeDepth := 60) only [hg, curNew_g, curByte_g, curBelow_g, curOnce_g, curPick_g, smStr_pick, okI_wrap, okI_below, sm_metric, sm_pace, sm_note, Bool.and_eq_true, and_self, true_and, and_true, gPickS_of, gPickI_of, e0, e1, e2, e4, sm_pick, okI_wrap, smL, List.all_cons, List.all_nil, List.length_cons, List.length_nil, smStr_pick, Bool.and_true]
    cases e7 : ((curOnce ((curPick ((curBelow a0 (6 : Int)).2) ([(bs [116,101,97,109]), (bs [101,110,118]), (bs [97])] : List ByteArray)).2) (2 : Int)).1)
    · skip
      refine ⟨(?a0x8, ?a1x8), ?gx8, 0, ?rx8⟩
      case rx8 =>
        intro R k
        rw [f33_run]
        simp (decide := true) (maxDischargeDepth := 60) only [hg, curNew_g, curByte_g, curBelow_g, curOnce_g, curPick_g, gPickS_of, gPickI_of, cond_true, cond_false, Bool.not_true, Bool.not_false, e0, e1, e7, sm_pick, okI_wrap, smL, List.all_cons, List.all_nil, List.length_cons, List.length_nil, smStr_pick, Bool.and_true]
        exact rfl
      case gx8 =>
        simp (decide := true) (maxDischargeDepth := 60) only [hg, curNew_g, curByte_g, curBelow_g, curOnce_g, curPick_g, smStr_pick, okI_wrap, okI_below, sm_metric, sm_pace, sm_note, Bool.and_eq_true, and_self, true_and, and_true, gPickS_of, gPickI_of, e0, e1, e7, sm_pick, okI_wrap, smL, List.all_cons, List.all_nil, List.length_cons, List.length_nil, smStr_pick, Bool.and_true]
    refine ⟨(?a0x9, ?a1x9), ?gx9, 0, ?rx9⟩
    case rx9 =>
      intro R k
      rw [f33_run]
      simp (decide := true) (maxDischargeDepth := 60) only [hg, curNew_g, curByte_g, curBelow_g, curOnce_g, curPick_g, gPickS_of, gPickI_of, cond_true, cond_false, Bool.not_true, Bool.not_false, e0, e1, e7, sm_pick, okI_wrap, smL, List.all_cons, List.all_nil, List.length_cons, List.length_nil, smStr_pick, Bool.and_true]
      exact rfl
    case gx9 =>
      simp (decide := true) (maxDischargeDepth := 60) only [hg, curNew_g, curByte_g, curBelow_g, curOnce_g, curPick_g, smStr_pick, okI_wrap, okI_below, sm_metric, sm_pace, sm_note, Bool.and_eq_true, and_self, true_and, and_true, gPickS_of, gPickI_of, e0, e1, e7, sm_pick, okI_wrap, smL, List.all_cons, List.all_nil, List.length_cons, List.length_nil, smStr_pick, Bool.and_true]
  cases e10 : ((IntKind.wrap .i64 ((1 : Int) + ((curBelow a0 (6 : Int)).1))) == (3 : Int))
  · skip
    cases e11 : ((IntKind.wrap .i64 ((1 : Int) + ((curBelow a0 (6 : Int)).1))) == (4 : Int))
    · skip
      refine ⟨(?a0x12, ?a1x12), ?gx12, 0, ?rx12⟩
      case rx12 =>
        intro R k
        rw [f33_run]
        simp (decide := true) (maxDischargeDepth := 60) only [hg, curNew_g, curByte_g, curBelow_g, curOnce_g, curPick_g, gPickS_of, gPickI_of, cond_true, cond_false, Bool.not_true, Bool.not_false, e0, e10, e11, sm_pick, okI_wrap, smL, List.all_cons, List.all_nil, List.length_cons, List.length_nil, smStr_pick, Bool.and_true]
        exact rfl
      case gx12 =>
        simp (decide := true) (maxDischargeDepth := 60) only [hg, curNew_g, curByte_g, curBelow_g, curOnce_g, curPick_g, smStr_pick, okI_wrap, okI_below, sm_metric, sm_pace, sm_note, Bool.and_eq_true, and_self, true_and, and_true, gPickS_of, gPickI_of, e0, e10, e11, sm_pick, okI_wrap, smL, List.all_cons, List.all_nil, List.length_cons, List.length_nil, smStr_pick, Bool.and_true]
    cases e13 : ((curOnce ((curPick ((curPick ((curBelow a0 (6 : Int)).2) ([(bs [116,101,97,109]), (bs [101,110,118]), (bs [97])] : List ByteArray)).2) ([(bs [99,111,114,101]), (bs [100,101,118])] : List ByteArray)).2) (2 : Int)).1)
    · skip
      refine ⟨(?a0x14, ?a1x14), ?gx14, 0, ?rx14⟩
      case rx14 =>
        intro R k
        rw [f33_run]
        simp (decide := true) (maxDischargeDepth := 60) only [hg, curNew_g, curByte_g, curBelow_g, curOnce_g, curPick_g, gPickS_of, gPickI_of, cond_true, cond_false, Bool.not_true, Bool.not_false, e0, e10, e11, e13, sm_pick, okI_wrap, smL, List.all_cons, List.all_nil, List.length_cons, List.length_nil, smStr_pick, Bool.and_true]
        exact rfl
      case gx14 =>
        simp (decide := true) (maxDischargeDepth := 60) only [hg, curNew_g, curByte_g, curBelow_g, curOnce_g, curPick_g, smStr_pick, okI_wrap, okI_below, sm_metric, sm_pace, sm_note, Bool.and_eq_true, and_self, true_and, and_true, gPickS_of, gPickI_of, e0, e10, e11, e13, sm_pick, okI_wrap, smL, List.all_cons, List.all_nil, List.length_cons, List.length_nil, smStr_pick, Bool.and_true]
    refine ⟨(?a0x15, ?a1x15), ?gx15, 0, ?rx15⟩
    case rx15 =>
      intro R k
      rw [f33_run]
      simp (decide := true) (maxDischargeDepth := 60) only [hg, curNew_g, curByte_g, curBelow_g, curOnce_g, curPick_g, gPickS_of, gPickI_of, cond_true, cond_false, Bool.not_true, Bool.not_false, e0, e10, e11, e13, sm_pick, okI_wrap, smL, List.all_cons, List.all_nil, List.length_cons, List.length_nil, smStr_pick, Bool.and_true]
      exact rfl
    case gx15 =>
      simp (decide := true) (maxDischargeDepth := 60) only [hg, curNew_g, curByte_g, curBelow_g, curOnce_g, curPick_g, smStr_pick, okI_wrap, okI_below, sm_metric, sm_pace, sm_note, Bool.and_eq_true, and_self, true_and, and_true, gPickS_of, gPickI_of, e0, e10, e11, e13, sm_pick, okI_wrap, smL, List.all_cons, List.all_nil, List.length_cons, List.length_nil, smStr_pick, Bool.and_true]
  cases e16 : ((curOnce ((curPick ((curPick ((curBelow a0 (6 : Int)).2) ([(bs [116,101,97,109]), (bs [101,110,118]), (bs [97])] : List ByteArray)).2) ([(bs [99,111,114,101]), (bs [100,101,118])] : List ByteArray)).2) (2 : Int)).1)
  · skip
    refine ⟨(?a0x17, ?a1x17), ?gx17, 0, ?rx17⟩
    case rx17 =>
      intro R k
      rw [f33_run]
      simp (decide := true) (maxDischargeDepth := 60) only [hg, curNew_g, curByte_g, curBelow_g, curOnce_g, curPick_g, gPickS_of, gPickI_of, cond_true, cond_false, Bool.not_true, Bool.not_false, e0, e10, e16, sm_pick, okI_wrap, smL, List.all_cons, List.all_nil, List.length_cons, List.length_nil, smStr_pick, Bool.and_true]
      exact rfl
    case gx17 =>
      simp (decide := true) (maxDischargeDepth := 60) only [hg, curNew_g, curByte_g, curBelow_g, curOnce_g, curPick_g, smStr_pick, okI_wrap, okI_below, sm_metric, sm_pace, sm_note, Bool.and_eq_true, and_self, true_and, and_true, gPickS_of, gPickI_of, e0, e10, e16, sm_pick, okI_wrap, smL, List.all_cons, List.all_nil, List.length_cons, List.length_nil, smStr_pick, Bool.and_true]
  refine ⟨(?a0x18, ?a1x18), ?gx18, 0, ?rx18⟩
  case rx18 =>
    intro R k
    rw [f33_run]
    simp (decide := true) (maxDischargeDepth := 60) only [hg, curNew_g, curByte_g, curBelow_g, curOnce_g, curPick_g, gPickS_of, gPickI_of, cond_true, cond_false, Bool.not_true, Bool.not_false, e0, e10, e16, sm_pick, okI_wrap, smL, List.all_cons, List.all_nil, List.length_cons, List.length_nil, smStr_pick, Bool.and_true]
    exact rfl
  case gx18 =>
    simp (decide := true) (maxDischargeDepth := 60) only [hg, curNew_g, curByte_g, curBelow_g, curOnce_g, curPick_g, smStr_pick, okI_wrap, okI_below, sm_metric, sm_pace, sm_note, Bool.and_eq_true, and_self, true_and, and_true, gPickS_of, gPickI_of, e0, e10, e16, sm_pick, okI_wrap, smL, List.all_cons, List.all_nil, List.length_cons, List.length_nil, smStr_pick, Bool.and_true]

theorem f33_ne (a0 : CurT) : Nonempty {o : PickT × CurT // gCur a0 = true → f33_P a0 o} := by
  by_cases hg : gCur a0 = true
  · obtain ⟨o, ho⟩ := f33_ex a0 hg
    exact ⟨⟨o, fun _ => ho⟩⟩
  · exact ⟨⟨((zero .pick), (zero .cur)), fun h => absurd h hg⟩⟩
noncomputable def kRight (a0 : CurT) : PickT × CurT := (Classical.choice (f33_ne a0)).val
theorem f33_sp (a0 : CurT) (hg : gCur a0 = true) : f33_P a0 (kRight a0) := (Classical.choice (f33_ne a0)).property hg
theorem kRight_ok (a0 : CurT) (hg : gCur a0 = true) : (fun _ o => sm_pick o.1 = true ∧ o.1.vals.length ≤ 3 ∧ gCur o.2 = true) a0 (kRight a0) := (f33_sp a0 hg).1
theorem kRight_g (a0 : CurT) (hg : gCur a0 = true) : gCur (kRight a0).2 = true := by
  have h := kRight_ok a0 hg
  first | exact h | exact h.2 | exact h.2.2 | exact h.2.2.2
theorem f33_spec (a0 : CurT) (hg : gCur a0 = true) : ∃ keep rounds, ∀ {R : Type} (k : List Dt → Option R), evFn f33e keep rounds f33c [.pmut] [false] true [.cell 2 24] [24] [.d .cur a0] k = k [.d .pick ((kRight a0).1), .d .cur ((kRight a0).2)] := by
  obtain ⟨n, hn⟩ := (f33_sp a0 hg).2
  exact ⟨f33k, n, hn⟩

noncomputable def q33 : List Dt → Option (Bool × List Dt)
  | [.d .cur a0] => some ((gCur a0), [.d .pick ((kRight a0).1), .d .cur ((kRight a0).2)])
  | _ => none
noncomputable def s33 : Gm.Spec := Gm.Spec.of [.pmut] [false] true q33
theorem good33 : Gm.Good Tryd.prog (33, s33) := by
  have hl : ∀ x ∈ [(34, s34), (35, s35), (56, s56)], Gm.Good Tryd.prog x := List.forall_mem_cons.2 ⟨good34, List.forall_mem_cons.2 ⟨good35, List.forall_mem_cons.2 ⟨good56, List.forall_mem_nil _⟩⟩⟩
  refine ⟨⟨spec_ok (tab_ok.env hl) (tab.natl hl) Tryd.func33 (by kernel_rfl : Tryd.f33.body = some f33c) [24] (by kernel_rfl) ?_, _, Tryd.func33, by kernel_rfl, of_decide_eq_true (by kernel_rfl)⟩, Gm.Spec.of_natl _ _ _ _⟩
  intro ds outs h
  unfold q33 at h
  split at h
  · simp only [Option.some.injEq, Prod.mk.injEq] at h; obtain ⟨hg, h⟩ := h; cases h; exact f33_spec _ hg
  · cases h
/-! ### loop.example/g00465/spec.l25Draw -/
noncomputable def f30c : Code := (Tryd.f30.body).getD .skip
def f30k : Nat → Kp := kat [⟨[0, 2], [], [], []⟩, ⟨[0, 2, 3], [], [], []⟩, ⟨[0, 2, 3, 7], [], [], []⟩, ⟨[0, 2, 3, 7, 8], [], [], []⟩, ⟨[0, 2, 3], [], [], []⟩, ⟨[0, 2, 3, 7, 14], [], [], []⟩, ⟨[0, 2, 3], [], [], []⟩, ⟨[0, 2, 3, 20], [], [], []⟩, ⟨[0, 2, 3], [], [], []⟩, ⟨[0, 2], [], [], []⟩]
noncomputable def f30e : Env := tab.env [(33, s33), (34, s34), (35, s35)]
theorem f30_run {R : Type} (n : Nat) (k : List Dt → Option R) (a0 : CurT) : evFn f30e f30k n f30c [.pmut] [false] true [.cell 2 24] [24] [.d .cur a0] k =
    (cond (gCur a0)
  (cond ((fun c _ => gCur c) ((kRight a0).2) (10 : Int))
   (cond (((curBelow ((kRight a0).2) (10 : Int)).1) == (0 : Int))
    (cond ((fun c _ => gCur c) ((curBelow ((kRight a0).2) (10 : Int)).2) (9 : Int))
     (k [.d .pick (⟨(IntKind.wrap .i64 (((curBelow ((curBelow ((kRight a0).2) (10 : Int)).2) (9 : Int)).1) - (1 : Int))), (PickT.key ((kRight a0).1)), (PickT.vals ((kRight a0).1))⟩ : PickT), .d .cur ((curBelow ((curBelow ((kRight a0).2) (10 : Int)).2) (9 : Int)).2)])
     none)
    (cond (((curBelow ((kRight a0).2) (10 : Int)).1) == (1 : Int))
     (cond (gPickS ((curBelow ((kRight a0).2) (10 : Int)).2) ([ByteArray.empty, (bs [49,97]), (bs [97,32,98])] : List ByteArray))
      (k [.d .pick (⟨(PickT.op ((kRight a0).1)), ((curPick ((curBelow ((kRight a0).2) (10 : Int)).2) ([ByteArray.empty, (bs [49,97]), (bs [97,32,98])] : List ByteArray)).1), (PickT.vals ((kRight a0).1))⟩ : PickT), .d .cur ((curPick ((curBelow ((kRight a0).2) (10 : Int)).2) ([ByteArray.empty, (bs [49,97]), (bs [97,32,98])] : List ByteArray)).2)])
      none)
     (cond (((curBelow ((kRight a0).2) (10 : Int)).1) == (2 : Int))
      (cond (gPickS ((curBelow ((kRight a0).2) (10 : Int)).2) ([(bs [97]), (bs [122]), ByteArray.empty] : List ByteArray))
       (cond (Nat.ble ((PickT.vals ((kRight a0).1)).length + 1) LIM)
        (k [.d .pick (⟨(PickT.op ((kRight a0).1)), (PickT.key ((kRight a0).1)), ((PickT.vals ((kRight a0).1)) ++ ([((curPick ((curBelow ((kRight a0).2) (10 : Int)).2) ([(bs [97]), (bs [122]), ByteArray.empty] : List ByteArray)).1)] : List ByteArray))⟩ : PickT), .d .cur ((curPick ((curBelow ((kRight a0).2) (10 : Int)).2) ([(bs [97]), (bs [122]), ByteArray.empty] : List ByteArray)).2)])
        none)
       none)
      (k [.d .pick ((kRight a0).1), .d .cur ((curBelow ((kRight a0).2) (10 : Int)).2)]))))
   none)
  none) := by kernel_rfl
def f30_P (a0 : CurT) (o : PickT × CurT) : Prop := (fun _ o => sm_pick o.1 = true ∧ gCur o.2 = true) a0 o ∧ ∃ n : Nat, ∀ {R : Type} (k : List Dt → Option R), evFn f30e f30k n f30c [.pmut] [false] true [.cell 2 24] [24] [.d .cur a0] k = k [.d .pick o.1, .d .cur o.2]
theorem f30_ex (a0 : CurT) (hg : gCur a0 = true) : ∃ o : PickT × CurT, (fun _ o => sm_pick o.1 = true ∧ gCur o.2 = true) a0 o ∧ ∃ n : Nat, ∀ {R : Type} (k : List Dt → Option R), evFn f30e f30k n f30c [.pmut] [false] true [.cell 2 24] [24] [.d .cur a0] k = k [.d .pick o.1, .d .cur o.2] := by
  obtain ⟨hs, l1, g1⟩ := kRight_ok a0 hg
  simp only [sm_pick, Bool.and_eq_true] at hs
  obtain ⟨q1, q2, q3⟩ := hs
  have b1 := ble_lim (n := (kRight a0).1.vals.length) (by omega)
  replace l1 := blt_of (n := (kRight a0).1.vals.length) (m := 1048576) (by omega)
  cases e0 : (((curBelow ((kRight a0).2) (10 : Int)).1) == (0 : Int))
  · skip
    cases e1 : (((curBelow ((kRight a0).2) (10 : Int)).1) == (1 : Int))
    · skip
      cases e2 : (((curBelow ((kRight a0).2) (10 : Int)).1) == (2 : Int))
      · skip
        refine ⟨(?a0x3, ?a1x3), ?gx3, 0, ?rx3⟩
        case rx3 =>
          intro R k
          rw [f30_run]
          simp (decide := true) (maxDischargeDepth := 60) only [hg, curNew_g, curByte_g, curBelow_g, curOnce_g, curPick_g, kRight_g, gPickS_of, gPickI_of, cond_true, cond_false, Bool.not_true, Bool.not_false, e0, e1, e2, sm_pick, okI_wrap, smStr_pick, smL_app, q1, q2, q3, l1, b1, g1]
          exact rfl
        case gx3 =>
          simp (decide := true) (maxDischargeDepth := 60) only [hg, curNew_g, curByte_g, curBelow_g, curOnce_g, curPick_g, kRight_g, smStr_pick, okI_wrap, okI_below, sm_metric, sm_pace, sm_note, Bool.and_eq_true, and_self, true_and, and_true, gPickS_of, gPickI_of, e0, e1, e2, sm_pick, okI_wrap, smStr_pick, smL_app, q1, q2, q3, l1, b1, g1]
      refine ⟨(?a0x4, ?a1x4), ?gx4, 0, ?rx4⟩
      case rx4 =>
        intro R k
        rw [f30_run]
        simp (decide := true) (maxDischargeDepth := 60) only [hg, curNew_g, curByte_g, curBelow_g, curOnce_g, curPick_g, kRight_g, gPickS_of, gPickI_of, cond_true, cond_false, Bool.not_true, Bool.not_false, e0, e1, e2, sm_pick, okI_wrap, smStr_pick, smL_app, q1, q2, q3, l1, b1, g1]
        exact rfl
      case gx4 =>
        simp (decide := true) (maxDischargeDepth := 60) only [hg, curNew_g, curByte_g, curBelow_g, curOnce_g, curPick_g, kRight_g, smStr_pick, okI_wrap, okI_below, sm_metric, sm_pace, sm_note, Bool.and_eq_true, and_self, true_and, and_true, gPickS_of, gPickI_of, e0, e1, e2, sm_pick, okI_wrap, smStr_pick, smL_app, q1, q2, q3, l1, b1, g1]
    refine ⟨(?a0x5, ?a1x5), ?gx5, 0, ?rx5⟩
    case rx5 =>
      intro R k
      rw [f30_run]
      simp (decide := true) (maxDischargeDepth := 60) only [hg, curNew_g, curByte_g, curBelow_g, curOnce_g, curPick_g, kRight_g, gPickS_of, gPickI_of, cond_true, cond_false, Bool.not_true, Bool.not_false, e0, e1, sm_pick, okI_wrap, smStr_pick, smL_app, q1, q2, q3, l1, b1, g1]
      exact rfl
    case gx5 =>
      simp (decide := true) (maxDischargeDepth := 60) only [hg, curNew_g, curByte_g, curBelow_g, curOnce_g, curPick_g, kRight_g, smStr_pick, okI_wrap, okI_below, sm_metric, sm_pace, sm_note, Bool.and_eq_true, and_self, true_and, and_true, gPickS_of, gPickI_of, e0, e1, sm_pick, okI_wrap, smStr_pick, smL_app, q1, q2, q3, l1, b1, g1]
  refine ⟨(?a0x6, ?a1x6), ?gx6, 0, ?rx6⟩
  case rx6 =>
    intro R k
    rw [f30_run]
    simp (decide := true) (maxDischargeDepth := 60) only [hg, curNew_g, curByte_g, curBelow_g, curOnce_g, curPick_g, kRight_g, gPickS_of, gPickI_of, cond_true, cond_false, Bool.not_true, Bool.not_false, e0, sm_pick, okI_wrap, smStr_pick, smL_app, q1, q2, q3, l1, b1, g1]
    exact rfl
  case gx6 =>
    simp (decide := true) (maxDischargeDepth := 60) only [hg, curNew_g, curByte_g, curBelow_g, curOnce_g, curPick_g, kRight_g, smStr_pick, okI_wrap, okI_below, sm_metric, sm_pace, sm_note, Bool.and_eq_true, and_self, true_and, and_true, gPickS_of, gPickI_of, e0, sm_pick, okI_wrap, smStr_pick, smL_app, q1, q2, q3, l1, b1, g1]

theorem f30_ne (a0 : CurT) : Nonempty {o : PickT × CurT // gCur a0 = true → f30_P a0 o} := by
  by_cases hg : gCur a0 = true
  · obtain ⟨o, ho⟩ := f30_ex a0 hg
    exact ⟨⟨o, fun _ => ho⟩⟩
  · exact ⟨⟨((zero .pick), (zero .cur)), fun h => absurd h hg⟩⟩
noncomputable def kDraw (a0 : CurT) : PickT × CurT := (Classical.choice (f30_ne a0)).val
theorem f30_sp (a0 : CurT) (hg : gCur a0 = true) : f30_P a0 (kDraw a0) := (Classical.choice (f30_ne a0)).property hg
theorem kDraw_ok (a0 : CurT) (hg : gCur a0 = true) : (fun _ o => sm_pick o.1 = true ∧ gCur o.2 = true) a0 (kDraw a0) := (f30_sp a0 hg).1
theorem f30_spec (a0 : CurT) (hg : gCur a0 = true) : ∃ keep rounds, ∀ {R : Type} (k : List Dt → Option R), evFn f30e keep rounds f30c [.pmut] [false] true [.cell 2 24] [24] [.d .cur a0] k = k [.d .pick ((kDraw a0).1), .d .cur ((kDraw a0).2)] := by
  obtain ⟨n, hn⟩ := (f30_sp a0 hg).2
  exact ⟨f30k, n, hn⟩

noncomputable def q30 : List Dt → Option (Bool × List Dt)
  | [.d .cur a0] => some ((gCur a0), [.d .pick ((kDraw a0).1), .d .cur ((kDraw a0).2)])
  | _ => none
noncomputable def s30 : Gm.Spec := Gm.Spec.of [.pmut] [false] true q30
theorem good30 : Gm.Good Tryd.prog (30, s30) := by
  have hl : ∀ x ∈ [(33, s33), (34, s34), (35, s35)], Gm.Good Tryd.prog x := List.forall_mem_cons.2 ⟨good33, List.forall_mem_cons.2 ⟨good34, List.forall_mem_cons.2 ⟨good35, List.forall_mem_nil _⟩⟩⟩
  refine ⟨⟨spec_ok (tab_ok.env hl) (tab.natl hl) Tryd.func30 (by kernel_rfl : Tryd.f30.body = some f30c) [24] (by kernel_rfl) ?_, _, Tryd.func30, by kernel_rfl, of_decide_eq_true (by kernel_rfl)⟩, Gm.Spec.of_natl _ _ _ _⟩
  intro ds outs h
  unfold q30 at h
  split at h
  · simp only [Option.some.injEq, Prod.mk.injEq] at h; obtain ⟨hg, h⟩ := h; cases h; exact f30_spec _ hg
  · cases h
/-! ### loop.example/g00465/spec.l25DrawNotes -/
noncomputable def f36S0 (y0 : Int) (y1 : List Int) (y2 : Int) (y3 : Int) (y4 : List NoteT) : St := ⟨[(0, .c (.one (.pt 0 0))), (3, .c (.one (.h 384 0 0 []))), (4, .c (.one (.v (.int .i64 y0))))], [(0, ⟨.cur, [.rk (.i .u8) y1, .v (.int .i64 y2), .v (.int .i64 y3)]⟩)], [(384, .live ⟨.note, .deep, 0, [], y4⟩)]⟩
noncomputable def f36S1 (y0 : Int) (y1 : Bool) (y2 : List Int) (y3 : Int) (y4 : Int) (y5 : List NoteT) : St := ⟨[(0, .c (.one (.pt 0 0))), (3, .c (.one (.h 384 0 0 []))), (4, .c (.one (.v (.int .i64 y0)))), (10, .c (.one (.v (.bool y1))))], [(0, ⟨.cur, [.rk (.i .u8) y2, .v (.int .i64 y3), .v (.int .i64 y4)]⟩)], [(384, .live ⟨.note, .deep, 0, [], y5⟩)]⟩
noncomputable def f36c : Code := (Tryd.f36.body).getD .skip
def f36k : Nat → Kp := kat [⟨[0], [], [], []⟩, ⟨[0, 3], [], [], []⟩, ⟨[0, 3, 4], [], [], []⟩, ⟨[0, 3, 4, 10], [], [], []⟩, ⟨[0, 3, 4], [], [], []⟩, ⟨[0, 3, 4, 5], [], [], []⟩, ⟨[0, 3, 4], [], [], []⟩, ⟨[0, 2], [], [], []⟩]
noncomputable def f36e : Env := tab.env [(34, s34), (35, s35)]
noncomputable def f36L0 {R : Type} (n : Nat) (x0 : Int → Bool → (List Int) → Int → Int → (List NoteT) → Option R)  : Nat → Int → (List Int) → Int → Int → (List NoteT) → Option R
  | 0, _, _, _, _, _ => none
  | m + 1, vs4, vb0_0, vb0_1, vb0_2, vr384 =>
    (cond ((fun c _ => gCur c) (⟨vb0_0, vb0_1, vb0_2⟩ : CurT) (4 : Int))
   (cond (decide (vs4 < ((curBelow (⟨vb0_0, vb0_1, vb0_2⟩ : CurT) (4 : Int)).1)))
    (cond (gPickS ((curBelow (⟨vb0_0, vb0_1, vb0_2⟩ : CurT) (4 : Int)).2) ([(bs [116,101,97,109]), (bs [101,110,118]), (bs [97])] : List ByteArray))
     (cond (gPickS ((curPick ((curBelow (⟨vb0_0, vb0_1, vb0_2⟩ : CurT) (4 : Int)).2) ([(bs [116,101,97,109]), (bs [101,110,118]), (bs [97])] : List ByteArray)).2) ([(bs [99,111,114,101]), (bs [100,101,118]), ByteArray.empty, (bs [120])] : List ByteArray))
      (cond (Nat.ble (vr384.length + 1) LIM)
       (f36L0 n x0 m (IntKind.wrap .i64 (vs4 + (1 : Int))) (CurT.b ((curPick ((curPick ((curBelow (⟨vb0_0, vb0_1, vb0_2⟩ : CurT) (4 : Int)).2) ([(bs [116,101,97,109]), (bs [101,110,118]), (bs [97])] : List ByteArray)).2) ([(bs [99,111,114,101]), (bs [100,101,118]), ByteArray.empty, (bs [120])] : List ByteArray)).2)) (CurT.i ((curPick ((curPick ((curBelow (⟨vb0_0, vb0_1, vb0_2⟩ : CurT) (4 : Int)).2) ([(bs [116,101,97,109]), (bs [101,110,118]), (bs [97])] : List ByteArray)).2) ([(bs [99,111,114,101]), (bs [100,101,118]), ByteArray.empty, (bs [120])] : List ByteArray)).2)) (CurT.h ((curPick ((curPick ((curBelow (⟨vb0_0, vb0_1, vb0_2⟩ : CurT) (4 : Int)).2) ([(bs [116,101,97,109]), (bs [101,110,118]), (bs [97])] : List ByteArray)).2) ([(bs [99,111,114,101]), (bs [100,101,118]), ByteArray.empty, (bs [120])] : List ByteArray)).2)) (vr384 ++ ([(⟨((curPick ((curBelow (⟨vb0_0, vb0_1, vb0_2⟩ : CurT) (4 : Int)).2) ([(bs [116,101,97,109]), (bs [101,110,118]), (bs [97])] : List ByteArray)).1), ((curPick ((curPick ((curBelow (⟨vb0_0, vb0_1, vb0_2⟩ : CurT) (4 : Int)).2) ([(bs [116,101,97,109]), (bs [101,110,118]), (bs [97])] : List ByteArray)).2) ([(bs [99,111,114,101]), (bs [100,101,118]), ByteArray.empty, (bs [120])] : List ByteArray)).1)⟩ : NoteT)] : List NoteT)))
       none)
      none)
     none)
    (x0 vs4 (decide (vs4 < ((curBelow (⟨vb0_0, vb0_1, vb0_2⟩ : CurT) (4 : Int)).1))) (CurT.b ((curBelow (⟨vb0_0, vb0_1, vb0_2⟩ : CurT) (4 : Int)).2)) (CurT.i ((curBelow (⟨vb0_0, vb0_1, vb0_2⟩ : CurT) (4 : Int)).2)) (CurT.h ((curBelow (⟨vb0_0, vb0_1, vb0_2⟩ : CurT) (4 : Int)).2)) vr384))
   none)
theorem f36L0_b {R : Type} (n : Nat) (k' : Ex → St → Option R) (vs4 : Int) (vb0_0 : List Int) (vb0_1 : Int) (vb0_2 : Int) (vr384 : List NoteT) : ev f36e f36k n (cAt [1,1,0,1,0,0] f36c) (f36S0 vs4 vb0_0 vb0_1 vb0_2 vr384) k' =
    (cond ((fun c _ => gCur c) (⟨vb0_0, vb0_1, vb0_2⟩ : CurT) (4 : Int))
  (cond (decide (vs4 < ((curBelow (⟨vb0_0, vb0_1, vb0_2⟩ : CurT) (4 : Int)).1)))
   (cond (gPickS ((curBelow (⟨vb0_0, vb0_1, vb0_2⟩ : CurT) (4 : Int)).2) ([(bs [116,101,97,109]), (bs [101,110,118]), (bs [97])] : List ByteArray))
    (cond (gPickS ((curPick ((curBelow (⟨vb0_0, vb0_1, vb0_2⟩ : CurT) (4 : Int)).2) ([(bs [116,101,97,109]), (bs [101,110,118]), (bs [97])] : List ByteArray)).2) ([(bs [99,111,114,101]), (bs [100,101,118]), ByteArray.empty, (bs [120])] : List ByteArray))
     (cond (Nat.ble (vr384.length + 1) LIM)
      (k' .normal (f36S0 (IntKind.wrap .i64 (vs4 + (1 : Int))) (CurT.b ((curPick ((curPick ((curBelow (⟨vb0_0, vb0_1, vb0_2⟩ : CurT) (4 : Int)).2) ([(bs [116,101,97,109]), (bs [101,110,118]), (bs [97])] : List ByteArray)).2) ([(bs [99,111,114,101]), (bs [100,101,118]), ByteArray.empty, (bs [120])] : List ByteArray)).2)) (CurT.i ((curPick ((curPick ((curBelow (⟨vb0_0, vb0_1, vb0_2⟩ : CurT) (4 : Int)).2) ([(bs [116,101,97,109]), (bs [101,110,118]), (bs [97])] : List ByteArray)).2) ([(bs [99,111,114,101]), (bs [100,101,118]), ByteArray.empty, (bs [120])] : List ByteArray)).2)) (CurT.h ((curPick ((curPick ((curBelow (⟨vb0_0, vb0_1, vb0_2⟩ : CurT) (4 : Int)).2) ([(bs [116,101,97,109]), (bs [101,110,118]), (bs [97])] : List ByteArray)).2) ([(bs [99,111,114,101]), (bs [100,101,118]), ByteArray.empty, (bs [120])] : List ByteArray)).2)) (vr384 ++ ([(⟨((curPick ((curBelow (⟨vb0_0, vb0_1, vb0_2⟩ : CurT) (4 : Int)).2) ([(bs [116,101,97,109]), (bs [101,110,118]), (bs [97])] : List ByteArray)).1), ((curPick ((curPick ((curBelow (⟨vb0_0, vb0_1, vb0_2⟩ : CurT) (4 : Int)).2) ([(bs [116,101,97,109]), (bs [101,110,118]), (bs [97])] : List ByteArray)).2) ([(bs [99,111,114,101]), (bs [100,101,118]), ByteArray.empty, (bs [120])] : List ByteArray)).1)⟩ : NoteT)] : List NoteT))))
      none)
     none)
    none)
   (k' (.exit 0) (f36S1 vs4 (decide (vs4 < ((curBelow (⟨vb0_0, vb0_1, vb0_2⟩ : CurT) (4 : Int)).1))) (CurT.b ((curBelow (⟨vb0_0, vb0_1, vb0_2⟩ : CurT) (4 : Int)).2)) (CurT.i ((curBelow (⟨vb0_0, vb0_1, vb0_2⟩ : CurT) (4 : Int)).2)) (CurT.h ((curBelow (⟨vb0_0, vb0_1, vb0_2⟩ : CurT) (4 : Int)).2)) vr384)))
  none) := by kernel_rfl
theorem f36L0_eq {R : Type} (n : Nat) (k' : Ex → St → Option R)  : ∀ (m : Nat) (vs4 : Int) (vb0_0 : List Int) (vb0_1 : Int) (vb0_2 : Int) (vr384 : List NoteT), iter (fun st k => ev f36e f36k n (cAt [1,1,0,1,0,0] f36c) st k) m (f36S0 vs4 vb0_0 vb0_1 vb0_2 vr384) k' = f36L0 n (fun (xvs4 : Int) (xvs10 : Bool) (xvb0_0 : List Int) (xvb0_1 : Int) (xvb0_2 : Int) (xvr384 : List NoteT) => k' (.exit 0) (f36S1 xvs4 xvs10 xvb0_0 xvb0_1 xvb0_2 xvr384)) m vs4 vb0_0 vb0_1 vb0_2 vr384 := by
  intro m; induction m with
  | zero => intros; rfl
  | succ m ih =>
    intro vs4 vb0_0 vb0_1 vb0_2 vr384
    simp only [iter]
    rw [f36L0_b]
    simp only [ih, f36L0]

noncomputable def f36K0 {R : Type} (n : Nat) (k' : Ex → St → Option R) : Ex → St → Option R := (blockK 0 (seqK f36e f36k n (cAt [1,1,1] f36c) k'))
theorem f36K0_x0 {R : Type} (n : Nat) (k : List Dt → Option R) (a0 : CurT) (xvs4 : Int) (xvs10 : Bool) (xvb0_0 : List Int) (xvb0_1 : Int) (xvb0_2 : Int) (xvr384 : List NoteT) : f36K0 n (exitK f36e [.pmut] [false] true [.tmp 2] [35] [.d .cur a0] k) (.exit 0) (f36S1 xvs4 xvs10 xvb0_0 xvb0_1 xvb0_2 xvr384) =
    (k [.d (.sl .note) xvr384, .d .cur (⟨xvb0_0, xvb0_1, xvb0_2⟩ : CurT)]) := by kernel_rfl

theorem f36_run {R : Type} (n : Nat) (k : List Dt → Option R) (a0 : CurT) : evFn f36e f36k n f36c [.pmut] [false] true [.tmp 2] [35] [.d .cur a0] k =
    (f36L0 n (fun (xvs4 : Int) (xvs10 : Bool) (xvb0_0 : List Int) (xvb0_1 : Int) (xvb0_2 : Int) (xvr384 : List NoteT) =>
  (k [.d (.sl .note) xvr384, .d .cur (⟨xvb0_0, xvb0_1, xvb0_2⟩ : CurT)])) n (0 : Int) (CurT.b a0) (CurT.i a0) (CurT.h a0) ([] : List NoteT)) := by
  refine Eq.trans (b := (iter (fun st k => ev f36e f36k n (cAt [1,1,0,1,0,0] f36c) st k) n (f36S0 (0 : Int) (CurT.b a0) (CurT.i a0) (CurT.h a0) ([] : List NoteT)) (f36K0 n (exitK f36e [.pmut] [false] true [.tmp 2] [35] [.d .cur a0] k)))) (by kernel_rfl) ?_
  simp only [f36L0_eq, f36K0_x0]
def f36_P (a0 : CurT) (o : List NoteT × CurT) : Prop := (fun _ o => smL sm_note o.1 = true ∧ gCur o.2 = true) a0 o ∧ ∃ n : Nat, ∀ {R : Type} (k : List Dt → Option R), evFn f36e f36k n f36c [.pmut] [false] true [.tmp 2] [35] [.d .cur a0] k = k [.d (.sl .note) o.1, .d .cur o.2]
theorem f36_ex (a0 : CurT) (hg : gCur a0 = true) : ∃ o : List NoteT × CurT, (fun _ o => smL sm_note o.1 = true ∧ gCur o.2 = true) a0 o ∧ ∃ n : Nat, ∀ {R : Type} (k : List Dt → Option R), evFn f36e f36k n f36c [.pmut] [false] true [.tmp 2] [35] [.d .cur a0] k = k [.d (.sl .note) o.1, .d .cur o.2] := by
  have key : ∀ (d m : Nat) (i : Int) (ns : List NoteT) (c : CurT), 0 ≤ i → 4 ≤ i + d → i ≤ 4 → d < m → smL sm_note ns = true → (ns.length : Int) ≤ i → gCur c = true →
      ∃ o : List NoteT × CurT, (smL sm_note o.1 = true ∧ gCur o.2 = true) ∧ ∀ {R : Type} (X : Int → Bool → (List Int) → Int → Int → (List NoteT) → Option R) (Z : List NoteT → CurT → Option R), (∀ i b c1 c2 c3 l, X i b c1 c2 c3 l = Z l ⟨c1, c2, c3⟩) → f36L0 5 X m i c.b c.i c.h ns = Z o.1 o.2 := by
    intro d
    induction d with
    | zero =>
      intro m i ns c h0 hi hi2 hm hs hl hc
      obtain ⟨m, rfl⟩ : ∃ m', m = m' + 1 := ⟨m - 1, by omega⟩
      obtain ⟨b0, b1, g1⟩ := curBelow_ok c 4 hc
      have b1 := b1 (by omega)
      refine ⟨(ns, (curBelow c 4).2), ⟨hs, g1⟩, fun {R} X Z hX => ?_⟩
      simp only [f36L0, eta_cur, hc, decide_eq_false (show ¬ i < (curBelow c 4).1 by omega), cond_true, cond_false, hX]
    | succ d ih =>
      intro m i ns c h0 hi hi2 hm hs hl hc
      obtain ⟨m, rfl⟩ : ∃ m', m = m' + 1 := ⟨m - 1, by omega⟩
      obtain ⟨b0, b1, g1⟩ := curBelow_ok c 4 hc
      have b1 := b1 (by omega)
      cases hd : decide (i < (curBelow c 4).1)
      · refine ⟨(ns, (curBelow c 4).2), ⟨hs, g1⟩, fun {R} X Z hX => ?_⟩
        simp only [f36L0, eta_cur, hc, hd, cond_true, cond_false, hX]
      have hlt := of_decide_eq_true hd
      have hw : IntKind.wrap .i64 (i + 1) = i + 1 := wrap_id (by omega) (by omega)
      have p1 := gPickS_of (l := ([(bs [116,101,97,109]), (bs [101,110,118]), (bs [97])] : List ByteArray)) g1 rfl
      obtain ⟨m1, g2⟩ := curPick_ok _ _ p1
      have p2 := gPickS_of (l := ([(bs [99,111,114,101]), (bs [100,101,118]), ByteArray.empty, (bs [120])] : List ByteArray)) g2 rfl
      obtain ⟨m2, g3⟩ := curPick_ok _ _ p2
      have hb : Nat.ble (ns.length + 1) LIM = true := ble_lim (by omega)
      have hx : sm_note ⟨(curPick (curBelow c 4).2 ([(bs [116,101,97,109]), (bs [101,110,118]), (bs [97])] : List ByteArray)).1, (curPick (curPick (curBelow c 4).2 ([(bs [116,101,97,109]), (bs [101,110,118]), (bs [97])] : List ByteArray)).2 ([(bs [99,111,114,101]), (bs [100,101,118]), ByteArray.empty, (bs [120])] : List ByteArray)).1⟩ = true := by
        simp only [sm_note, smStr_in m1 (by decide), smStr_in m2 (by decide), Bool.and_self]
      obtain ⟨o1, ho1, hh1⟩ := ih m (i + 1) (ns ++ [⟨(curPick (curBelow c 4).2 ([(bs [116,101,97,109]), (bs [101,110,118]), (bs [97])] : List ByteArray)).1, (curPick (curPick (curBelow c 4).2 ([(bs [116,101,97,109]), (bs [101,110,118]), (bs [97])] : List ByteArray)).2 ([(bs [99,111,114,101]), (bs [100,101,118]), ByteArray.empty, (bs [120])] : List ByteArray)).1⟩]) (curPick (curPick (curBelow c 4).2 ([(bs [116,101,97,109]), (bs [101,110,118]), (bs [97])] : List ByteArray)).2 ([(bs [99,111,114,101]), (bs [100,101,118]), ByteArray.empty, (bs [120])] : List ByteArray)).2 (by omega) (by omega) (by omega) (by omega) (smL_snoc hs hx (by omega)) (by simp only [List.length_append, List.length_cons, List.length_nil]; omega) g3
      exact ⟨o1, ho1, fun {R} X Z hX => by
        simp only [f36L0, eta_cur, hc, hd, p1, p2, hb, hw, cond_true, cond_false]
        exact hh1 X Z hX⟩
  obtain ⟨o, ho, hh⟩ := key 4 5 0 [] a0 (by omega) (by omega) (by omega) (by omega) rfl (by decide) hg
  refine ⟨o, ho, 5, fun {R} k => ?_⟩
  rw [f36_run]
  exact hh _ (fun s c => k [.d (.sl .note) s, .d .cur c]) (fun _ _ _ _ _ _ => rfl)

theorem f36_ne (a0 : CurT) : Nonempty {o : List NoteT × CurT // gCur a0 = true → f36_P a0 o} := by
  by_cases hg : gCur a0 = true
  · obtain ⟨o, ho⟩ := f36_ex a0 hg
    exact ⟨⟨o, fun _ => ho⟩⟩
  · exact ⟨⟨([], (zero .cur)), fun h => absurd h hg⟩⟩
noncomputable def kNotes (a0 : CurT) : List NoteT × CurT := (Classical.choice (f36_ne a0)).val
theorem f36_sp (a0 : CurT) (hg : gCur a0 = true) : f36_P a0 (kNotes a0) := (Classical.choice (f36_ne a0)).property hg
theorem kNotes_ok (a0 : CurT) (hg : gCur a0 = true) : (fun _ o => smL sm_note o.1 = true ∧ gCur o.2 = true) a0 (kNotes a0) := (f36_sp a0 hg).1
theorem f36_spec (a0 : CurT) (hg : gCur a0 = true) : ∃ keep rounds, ∀ {R : Type} (k : List Dt → Option R), evFn f36e keep rounds f36c [.pmut] [false] true [.tmp 2] [35] [.d .cur a0] k = k [.d (.sl .note) ((kNotes a0).1), .d .cur ((kNotes a0).2)] := by
  obtain ⟨n, hn⟩ := (f36_sp a0 hg).2
  exact ⟨f36k, n, hn⟩

noncomputable def q36 : List Dt → Option (Bool × List Dt)
  | [.d .cur a0] => some ((gCur a0), [.d (.sl .note) ((kNotes a0).1), .d .cur ((kNotes a0).2)])
  | _ => none
noncomputable def s36 : Gm.Spec := Gm.Spec.of [.pmut] [false] true q36
theorem good36 : Gm.Good Tryd.prog (36, s36) := by
  have hl : ∀ x ∈ [(34, s34), (35, s35)], Gm.Good Tryd.prog x := List.forall_mem_cons.2 ⟨good34, List.forall_mem_cons.2 ⟨good35, List.forall_mem_nil _⟩⟩
  refine ⟨⟨spec_ok (tab_ok.env hl) (tab.natl hl) Tryd.func36 (by kernel_rfl : Tryd.f36.body = some f36c) [35] (by kernel_rfl) ?_, _, Tryd.func36, by kernel_rfl, of_decide_eq_true (by kernel_rfl)⟩, Gm.Spec.of_natl _ _ _ _⟩
  intro ds outs h
  unfold q36 at h
  split at h
  · simp only [Option.some.injEq, Prod.mk.injEq] at h; obtain ⟨hg, h⟩ := h; cases h; exact f36_spec _ hg
  · cases h
/-! ### loop.example/g00465/spec.DrawPickText -/
noncomputable def f11c : Code := (Tryd.f11.body).getD .skip
def f11k : Nat → Kp := kat [⟨[0, 2], [], [], []⟩, ⟨[2], [], [], []⟩]
noncomputable def f11e : Env := tab.env [(30, s30), (31, s31)]
theorem f11_run {R : Type} (n : Nat) (k : List Dt → Option R) (a0 : List Int) : evFn f11e f11k n f11c [.kp] [false] true [.cell 2 24] [24] [.d (.sl (.i .u8)) a0] k =
    (cond (gCode a0)
  (cond (gCur (curNew a0))
   (k [.d .pick ((kDraw (curNew a0)).1)])
   none)
  none) := by kernel_rfl
def f11_P (a0 : List Int) (o : PickT) : Prop := (fun _ o => sm_pick o = true) a0 o ∧ ∃ n : Nat, ∀ {R : Type} (k : List Dt → Option R), evFn f11e f11k n f11c [.kp] [false] true [.cell 2 24] [24] [.d (.sl (.i .u8)) a0] k = k [.d .pick o]
theorem f11_ex (a0 : List Int) (hg : gCode a0 = true) : ∃ o : PickT, (fun _ o => sm_pick o = true) a0 o ∧ ∃ n : Nat, ∀ {R : Type} (k : List Dt → Option R), evFn f11e f11k n f11c [.kp] [false] true [.cell 2 24] [24] [.d (.sl (.i .u8)) a0] k = k [.d .pick o] := by
  have g0 := curNew_ok a0 hg
  obtain ⟨h1, g1⟩ := kDraw_ok _ g0
  refine ⟨?az0, ?gz0, 0, ?rz0⟩
  case rz0 =>
    intro R k
    rw [f11_run]
    simp only [hg, g0, cond_true]
    exact rfl
  case gz0 => exact h1

theorem f11_ne (a0 : List Int) : Nonempty {o : PickT // gCode a0 = true → f11_P a0 o} := by
  by_cases hg : gCode a0 = true
  · obtain ⟨o, ho⟩ := f11_ex a0 hg
    exact ⟨⟨o, fun _ => ho⟩⟩
  · exact ⟨⟨((zero .pick)), fun h => absurd h hg⟩⟩
noncomputable def dPickT (a0 : List Int) : PickT := (Classical.choice (f11_ne a0)).val
theorem f11_sp (a0 : List Int) (hg : gCode a0 = true) : f11_P a0 (dPickT a0) := (Classical.choice (f11_ne a0)).property hg
theorem dPickT_ok (a0 : List Int) (hg : gCode a0 = true) : (fun _ o => sm_pick o = true) a0 (dPickT a0) := (f11_sp a0 hg).1
theorem f11_spec (a0 : List Int) (hg : gCode a0 = true) : ∃ keep rounds, ∀ {R : Type} (k : List Dt → Option R), evFn f11e keep rounds f11c [.kp] [false] true [.cell 2 24] [24] [.d (.sl (.i .u8)) a0] k = k [.d .pick (dPickT a0)] := by
  obtain ⟨n, hn⟩ := (f11_sp a0 hg).2
  exact ⟨f11k, n, hn⟩

noncomputable def q11 : List Dt → Option (Bool × List Dt)
  | [.d (.sl (.i .u8)) a0] => some ((gCode a0), [.d .pick (dPickT a0)])
  | _ => none
noncomputable def s11 : Gm.Spec := Gm.Spec.of [.kp] [false] true q11
theorem good11 : Gm.Good Tryd.prog (11, s11) := by
  have hl : ∀ x ∈ [(30, s30), (31, s31)], Gm.Good Tryd.prog x := List.forall_mem_cons.2 ⟨good30, List.forall_mem_cons.2 ⟨good31, List.forall_mem_nil _⟩⟩
  refine ⟨⟨spec_ok (tab_ok.env hl) (tab.natl hl) Tryd.func11 (by kernel_rfl : Tryd.f11.body = some f11c) [24] (by kernel_rfl) ?_, _, Tryd.func11, by kernel_rfl, of_decide_eq_true (by kernel_rfl)⟩, Gm.Spec.of_natl _ _ _ _⟩
  intro ds outs h
  unfold q11 at h
  split at h
  · simp only [Option.some.injEq, Prod.mk.injEq] at h; obtain ⟨hg, h⟩ := h; cases h; exact f11_spec _ hg
  · cases h
/-! ### loop.example/g00465/spec.DrawPickOk -/
noncomputable def f15c : Code := (Tryd.f15.body).getD .skip
def f15k : Nat → Kp := kat [⟨[0, 2], [], [], []⟩, ⟨[2], [], [], []⟩]
noncomputable def f15e : Env := tab.env [(30, s30), (31, s31)]
theorem f15_run {R : Type} (n : Nat) (k : List Dt → Option R) (a0 : List Int) : evFn f15e f15k n f15c [.kp] [false] true [.cell 2 24] [24] [.d (.sl (.i .u8)) a0] k =
    (cond (gCode a0)
  (cond (gCur (curNew a0))
   (k [.d .pick ((kDraw (curNew a0)).1)])
   none)
  none) := by kernel_rfl
def f15_P (a0 : List Int) (o : PickT) : Prop := (fun _ o => sm_pick o = true) a0 o ∧ ∃ n : Nat, ∀ {R : Type} (k : List Dt → Option R), evFn f15e f15k n f15c [.kp] [false] true [.cell 2 24] [24] [.d (.sl (.i .u8)) a0] k = k [.d .pick o]
theorem f15_ex (a0 : List Int) (hg : gCode a0 = true) : ∃ o : PickT, (fun _ o => sm_pick o = true) a0 o ∧ ∃ n : Nat, ∀ {R : Type} (k : List Dt → Option R), evFn f15e f15k n f15c [.kp] [false] true [.cell 2 24] [24] [.d (.sl (.i .u8)) a0] k = k [.d .pick o] := by
  have g0 := curNew_ok a0 hg
  obtain ⟨h1, g1⟩ := kDraw_ok _ g0
  refine ⟨?az0, ?gz0, 0, ?rz0⟩
  case rz0 =>
    intro R k
    rw [f15_run]
    simp only [hg, g0, cond_true]
    exact rfl
  case gz0 => exact h1

theorem f15_ne (a0 : List Int) : Nonempty {o : PickT // gCode a0 = true → f15_P a0 o} := by
  by_cases hg : gCode a0 = true
  · obtain ⟨o, ho⟩ := f15_ex a0 hg
    exact ⟨⟨o, fun _ => ho⟩⟩
  · exact ⟨⟨((zero .pick)), fun h => absurd h hg⟩⟩
noncomputable def dPickOk (a0 : List Int) : PickT := (Classical.choice (f15_ne a0)).val
theorem f15_sp (a0 : List Int) (hg : gCode a0 = true) : f15_P a0 (dPickOk a0) := (Classical.choice (f15_ne a0)).property hg
theorem dPickOk_ok (a0 : List Int) (hg : gCode a0 = true) : (fun _ o => sm_pick o = true) a0 (dPickOk a0) := (f15_sp a0 hg).1
theorem f15_spec (a0 : List Int) (hg : gCode a0 = true) : ∃ keep rounds, ∀ {R : Type} (k : List Dt → Option R), evFn f15e keep rounds f15c [.kp] [false] true [.cell 2 24] [24] [.d (.sl (.i .u8)) a0] k = k [.d .pick (dPickOk a0)] := by
  obtain ⟨n, hn⟩ := (f15_sp a0 hg).2
  exact ⟨f15k, n, hn⟩

noncomputable def q15 : List Dt → Option (Bool × List Dt)
  | [.d (.sl (.i .u8)) a0] => some ((gCode a0), [.d .pick (dPickOk a0)])
  | _ => none
noncomputable def s15 : Gm.Spec := Gm.Spec.of [.kp] [false] true q15
theorem good15 : Gm.Good Tryd.prog (15, s15) := by
  have hl : ∀ x ∈ [(30, s30), (31, s31)], Gm.Good Tryd.prog x := List.forall_mem_cons.2 ⟨good30, List.forall_mem_cons.2 ⟨good31, List.forall_mem_nil _⟩⟩
  refine ⟨⟨spec_ok (tab_ok.env hl) (tab.natl hl) Tryd.func15 (by kernel_rfl : Tryd.f15.body = some f15c) [24] (by kernel_rfl) ?_, _, Tryd.func15, by kernel_rfl, of_decide_eq_true (by kernel_rfl)⟩, Gm.Spec.of_natl _ _ _ _⟩
  intro ds outs h
  unfold q15 at h
  split at h
  · simp only [Option.some.injEq, Prod.mk.injEq] at h; obtain ⟨hg, h⟩ := h; cases h; exact f15_spec _ hg
  · cases h
/-! ### loop.example/g00465/spec.DrawFits -/
noncomputable def f14c : Code := (Tryd.f14.body).getD .skip
def f14k : Nat → Kp := kat [⟨[0, 2], [], [], []⟩, ⟨[2, 4], [], [], []⟩, ⟨[2, 4, 5], [], [], []⟩, ⟨[2, 3], [], [], []⟩]
noncomputable def f14e : Env := tab.env [(30, s30), (31, s31), (36, s36)]
theorem f14_run {R : Type} (n : Nat) (k : List Dt → Option R) (a0 : List Int) : evFn f14e f14k n f14c [.kp] [false, false] true [.cell 2 24, .tmp 3] [24, 35] [.d (.sl (.i .u8)) a0] k =
    (cond (gCode a0)
  (cond (gCur (curNew a0))
   (cond (gCur ((kDraw (curNew a0)).2))
    (k [.d .pick ((kDraw (curNew a0)).1), .d (.sl .note) ((kNotes ((kDraw (curNew a0)).2)).1)])
    none)
   none)
  none) := by kernel_rfl
def f14_P (a0 : List Int) (o : PickT × List NoteT) : Prop := (fun _ o => sm_pick o.1 = true ∧ smL sm_note o.2 = true) a0 o ∧ ∃ n : Nat, ∀ {R : Type} (k : List Dt → Option R), evFn f14e f14k n f14c [.kp] [false, false] true [.cell 2 24, .tmp 3] [24, 35] [.d (.sl (.i .u8)) a0] k = k [.d .pick o.1, .d (.sl .note) o.2]
theorem f14_ex (a0 : List Int) (hg : gCode a0 = true) : ∃ o : PickT × List NoteT, (fun _ o => sm_pick o.1 = true ∧ smL sm_note o.2 = true) a0 o ∧ ∃ n : Nat, ∀ {R : Type} (k : List Dt → Option R), evFn f14e f14k n f14c [.kp] [false, false] true [.cell 2 24, .tmp 3] [24, 35] [.d (.sl (.i .u8)) a0] k = k [.d .pick o.1, .d (.sl .note) o.2] := by
  have g0 := curNew_ok a0 hg
  obtain ⟨h1, g1⟩ := kDraw_ok _ g0
  obtain ⟨h2, g2⟩ := kNotes_ok _ g1
  refine ⟨(?az0, ?bz0), ?gz0, 0, ?rz0⟩
  case rz0 =>
    intro R k
    rw [f14_run]
    simp only [hg, g0, g1, Bool.not_true, Bool.not_false, cond_true, cond_false]
    exact rfl
  case gz0 => exact ⟨h1, h2⟩

theorem f14_ne (a0 : List Int) : Nonempty {o : PickT × List NoteT // gCode a0 = true → f14_P a0 o} := by
  by_cases hg : gCode a0 = true
  · obtain ⟨o, ho⟩ := f14_ex a0 hg
    exact ⟨⟨o, fun _ => ho⟩⟩
  · exact ⟨⟨((zero .pick), []), fun h => absurd h hg⟩⟩
noncomputable def dFits (a0 : List Int) : PickT × List NoteT := (Classical.choice (f14_ne a0)).val
theorem f14_sp (a0 : List Int) (hg : gCode a0 = true) : f14_P a0 (dFits a0) := (Classical.choice (f14_ne a0)).property hg
theorem dFits_ok (a0 : List Int) (hg : gCode a0 = true) : (fun _ o => sm_pick o.1 = true ∧ smL sm_note o.2 = true) a0 (dFits a0) := (f14_sp a0 hg).1
theorem f14_spec (a0 : List Int) (hg : gCode a0 = true) : ∃ keep rounds, ∀ {R : Type} (k : List Dt → Option R), evFn f14e keep rounds f14c [.kp] [false, false] true [.cell 2 24, .tmp 3] [24, 35] [.d (.sl (.i .u8)) a0] k = k [.d .pick ((dFits a0).1), .d (.sl .note) ((dFits a0).2)] := by
  obtain ⟨n, hn⟩ := (f14_sp a0 hg).2
  exact ⟨f14k, n, hn⟩

noncomputable def q14 : List Dt → Option (Bool × List Dt)
  | [.d (.sl (.i .u8)) a0] => some ((gCode a0), [.d .pick ((dFits a0).1), .d (.sl .note) ((dFits a0).2)])
  | _ => none
noncomputable def s14 : Gm.Spec := Gm.Spec.of [.kp] [false, false] true q14
theorem good14 : Gm.Good Tryd.prog (14, s14) := by
  have hl : ∀ x ∈ [(30, s30), (31, s31), (36, s36)], Gm.Good Tryd.prog x := List.forall_mem_cons.2 ⟨good30, List.forall_mem_cons.2 ⟨good31, List.forall_mem_cons.2 ⟨good36, List.forall_mem_nil _⟩⟩⟩
  refine ⟨⟨spec_ok (tab_ok.env hl) (tab.natl hl) Tryd.func14 (by kernel_rfl : Tryd.f14.body = some f14c) [24, 35] (by kernel_rfl) ?_, _, Tryd.func14, by kernel_rfl, of_decide_eq_true (by kernel_rfl)⟩, Gm.Spec.of_natl _ _ _ _⟩
  intro ds outs h
  unfold q14 at h
  split at h
  · simp only [Option.some.injEq, Prod.mk.injEq] at h; obtain ⟨hg, h⟩ := h; cases h; exact f14_spec _ hg
  · cases h
/-! ### loop.example/g00465/spec.DrawPickOf -/
noncomputable def f13c : Code := (Tryd.f13.body).getD .skip
def f13k : Nat → Kp := kat [⟨[0], [], [], []⟩, ⟨[3], [], [], []⟩, ⟨[3, 4], [], [], []⟩, ⟨[3, 4, 5], [], [], []⟩, ⟨[3, 4, 5, 17], [], [], []⟩, ⟨[3, 4, 5, 17, 18], [], [], []⟩, ⟨[2], [], [], []⟩, ⟨[3, 4, 5, 23], [], [], []⟩, ⟨[2], [], [], []⟩, ⟨[2], [], [], []⟩]
noncomputable def f13e : Env := tab.env [(16, s16), (31, s31), (33, s33), (34, s34), (35, s35)]
theorem f13_run {R : Type} (n : Nat) (k : List Dt → Option R) (a0 : List Int) : evFn f13e f13k n f13c [.kp] [false] true [.tmp 2] [9] [.d (.sl (.i .u8)) a0] k =
    (cond (gCode a0)
  (cond (gCur (curNew a0))
   (cond (sm_pick ((kRight (curNew a0)).1))
    (cond ((fun c _ => gCur c) ((kRight (curNew a0)).2) (IntKind.wrap .i64 ((ByteArray.size (pickText ((kRight (curNew a0)).1)) : Int) + (1 : Int))))
     (cond ((fun c _ => gCur c) ((curBelow ((kRight (curNew a0)).2) (IntKind.wrap .i64 ((ByteArray.size (pickText ((kRight (curNew a0)).1)) : Int) + (1 : Int)))).2) (5 : Int))
      (cond (((curBelow ((curBelow ((kRight (curNew a0)).2) (IntKind.wrap .i64 ((ByteArray.size (pickText ((kRight (curNew a0)).1)) : Int) + (1 : Int)))).2) (5 : Int)).1) == (0 : Int))
       (cond ((decide ((0 : Int) ≤ ((curBelow ((kRight (curNew a0)).2) (IntKind.wrap .i64 ((ByteArray.size (pickText ((kRight (curNew a0)).1)) : Int) + (1 : Int)))).1))) && (decide (((curBelow ((kRight (curNew a0)).2) (IntKind.wrap .i64 ((ByteArray.size (pickText ((kRight (curNew a0)).1)) : Int) + (1 : Int)))).1) ≤ (ByteArray.size (pickText ((kRight (curNew a0)).1)) : Int))))
        (k [.d .str (ByteArray.extract (pickText ((kRight (curNew a0)).1)) 0 (Int.toNat ((curBelow ((kRight (curNew a0)).2) (IntKind.wrap .i64 ((ByteArray.size (pickText ((kRight (curNew a0)).1)) : Int) + (1 : Int)))).1)))])
        none)
       (cond (((curBelow ((curBelow ((kRight (curNew a0)).2) (IntKind.wrap .i64 ((ByteArray.size (pickText ((kRight (curNew a0)).1)) : Int) + (1 : Int)))).2) (5 : Int)).1) == (1 : Int))
        (cond ((decide ((0 : Int) ≤ ((curBelow ((kRight (curNew a0)).2) (IntKind.wrap .i64 ((ByteArray.size (pickText ((kRight (curNew a0)).1)) : Int) + (1 : Int)))).1))) && (decide (((curBelow ((kRight (curNew a0)).2) (IntKind.wrap .i64 ((ByteArray.size (pickText ((kRight (curNew a0)).1)) : Int) + (1 : Int)))).1) ≤ (ByteArray.size (pickText ((kRight (curNew a0)).1)) : Int))))
         (cond (gPickS ((curBelow ((curBelow ((kRight (curNew a0)).2) (IntKind.wrap .i64 ((ByteArray.size (pickText ((kRight (curNew a0)).1)) : Int) + (1 : Int)))).2) (5 : Int)).2) ([(bs [61]), (bs [33]), (bs [32]), (bs [44]), (bs [97]), (bs [40])] : List ByteArray))
          (cond (decide (ByteArray.size (ByteArray.extract (pickText ((kRight (curNew a0)).1)) 0 (Int.toNat ((curBelow ((kRight (curNew a0)).2) (IntKind.wrap .i64 ((ByteArray.size (pickText ((kRight (curNew a0)).1)) : Int) + (1 : Int)))).1))) + ByteArray.size ((curPick ((curBelow ((curBelow ((kRight (curNew a0)).2) (IntKind.wrap .i64 ((ByteArray.size (pickText ((kRight (curNew a0)).1)) : Int) + (1 : Int)))).2) (5 : Int)).2) ([(bs [61]), (bs [33]), (bs [32]), (bs [44]), (bs [97]), (bs [40])] : List ByteArray)).1) ≤ 9223372036854775807))
           (cond ((decide ((0 : Int) ≤ ((curBelow ((kRight (curNew a0)).2) (IntKind.wrap .i64 ((ByteArray.size (pickText ((kRight (curNew a0)).1)) : Int) + (1 : Int)))).1))) && ((decide (((curBelow ((kRight (curNew a0)).2) (IntKind.wrap .i64 ((ByteArray.size (pickText ((kRight (curNew a0)).1)) : Int) + (1 : Int)))).1) ≤ (ByteArray.size (pickText ((kRight (curNew a0)).1)) : Int))) && (decide ((ByteArray.size (pickText ((kRight (curNew a0)).1)) : Int) ≤ (ByteArray.size (pickText ((kRight (curNew a0)).1)) : Int)))))
            (cond (decide (ByteArray.size ((ByteArray.extract (pickText ((kRight (curNew a0)).1)) 0 (Int.toNat ((curBelow ((kRight (curNew a0)).2) (IntKind.wrap .i64 ((ByteArray.size (pickText ((kRight (curNew a0)).1)) : Int) + (1 : Int)))).1))) ++ ((curPick ((curBelow ((curBelow ((kRight (curNew a0)).2) (IntKind.wrap .i64 ((ByteArray.size (pickText ((kRight (curNew a0)).1)) : Int) + (1 : Int)))).2) (5 : Int)).2) ([(bs [61]), (bs [33]), (bs [32]), (bs [44]), (bs [97]), (bs [40])] : List ByteArray)).1)) + ByteArray.size (ByteArray.extract (pickText ((kRight (curNew a0)).1)) (Int.toNat ((curBelow ((kRight (curNew a0)).2) (IntKind.wrap .i64 ((ByteArray.size (pickText ((kRight (curNew a0)).1)) : Int) + (1 : Int)))).1)) (Int.toNat (ByteArray.size (pickText ((kRight (curNew a0)).1)) : Int))) ≤ 9223372036854775807))
             (k [.d .str (((ByteArray.extract (pickText ((kRight (curNew a0)).1)) 0 (Int.toNat ((curBelow ((kRight (curNew a0)).2) (IntKind.wrap .i64 ((ByteArray.size (pickText ((kRight (curNew a0)).1)) : Int) + (1 : Int)))).1))) ++ ((curPick ((curBelow ((curBelow ((kRight (curNew a0)).2) (IntKind.wrap .i64 ((ByteArray.size (pickText ((kRight (curNew a0)).1)) : Int) + (1 : Int)))).2) (5 : Int)).2) ([(bs [61]), (bs [33]), (bs [32]), (bs [44]), (bs [97]), (bs [40])] : List ByteArray)).1)) ++ (ByteArray.extract (pickText ((kRight (curNew a0)).1)) (Int.toNat ((curBelow ((kRight (curNew a0)).2) (IntKind.wrap .i64 ((ByteArray.size (pickText ((kRight (curNew a0)).1)) : Int) + (1 : Int)))).1)) (Int.toNat (ByteArray.size (pickText ((kRight (curNew a0)).1)) : Int))))])
             none)
            none)
           none)
          none)
         none)
        (k [.d .str (pickText ((kRight (curNew a0)).1))])))
      none)
     none)
    none)
   none)
  none) := by kernel_rfl
def f13_P (a0 : List Int) (o : ByteArray) : Prop := (fun _ o => o.size ≤ 2000) a0 o ∧ ∃ n : Nat, ∀ {R : Type} (k : List Dt → Option R), evFn f13e f13k n f13c [.kp] [false] true [.tmp 2] [9] [.d (.sl (.i .u8)) a0] k = k [.d .str o]
theorem f13_ex (a0 : List Int) (hg : gCode a0 = true) : ∃ o : ByteArray, (fun _ o => o.size ≤ 2000) a0 o ∧ ∃ n : Nat, ∀ {R : Type} (k : List Dt → Option R), evFn f13e f13k n f13c [.kp] [false] true [.tmp 2] [9] [.d (.sl (.i .u8)) a0] k = k [.d .str o] := by
  have g0 := curNew_ok a0 hg
  obtain ⟨sp, _, g1⟩ := kRight_ok _ g0
  have hz := pickText_sz (kRight (curNew a0)).1
  have hw : IntKind.wrap .i64 ((ByteArray.size (pickText (kRight (curNew a0)).1) : Int) + (1 : Int)) = (ByteArray.size (pickText (kRight (curNew a0)).1) : Int) + 1 := wrap_id (by omega) (by omega)
  generalize hS : pickText (kRight (curNew a0)).1 = S at *
  obtain ⟨b0, b1, g2⟩ := curBelow_ok (kRight (curNew a0)).2 ((S.size : Int) + 1) g1
  have b1 := b1 (by omega)
  obtain ⟨_, _, g3⟩ := curBelow_ok (curBelow (kRight (curNew a0)).2 ((S.size : Int) + 1)).2 5 g2
  have c0 := decide_eq_true b0
  have c1 : decide ((curBelow (kRight (curNew a0)).2 ((S.size : Int) + 1)).1 ≤ (S.size : Int)) = true := decide_eq_true (by omega)
  have c2 : decide ((S.size : Int) ≤ (S.size : Int)) = true := decide_eq_true (Int.le_refl _)
  have hp := gPickS_of (l := ([(bs [61]), (bs [33]), (bs [32]), (bs [44]), (bs [97]), (bs [40])] : List ByteArray)) g3 rfl
  obtain ⟨hmem, g4⟩ := curPick_ok _ _ hp
  have hz2 := bleN (List.all_eq_true.1 (show (([(bs [61]), (bs [33]), (bs [32]), (bs [44]), (bs [97]), (bs [40])] : List ByteArray).all fun x => Nat.ble x.size 3) = true from rfl) _ hmem)
  cases e0 : ((curBelow (curBelow (kRight (curNew a0)).2 ((S.size : Int) + 1)).2 5).1 == (0 : Int))
  rotate_left
  · refine ⟨?az0, ?gz0, 0, ?rz0⟩
    case rz0 =>
      intro R k
      rw [f13_run]
      simp only [hS, hg, sp, hw, g0, g1, g2, e0, c0, c1, Bool.and_self, cond_true, cond_false]
      exact rfl
    case gz0 =>
      show ByteArray.size _ ≤ 2000
      rw [ByteArray.size_extract]; omega
  cases e1 : ((curBelow (curBelow (kRight (curNew a0)).2 ((S.size : Int) + 1)).2 5).1 == (1 : Int))
  · refine ⟨?bz0, ?gz0, 0, ?rz0⟩
    case rz0 =>
      intro R k
      rw [f13_run]
      simp only [hS, hg, sp, hw, g0, g1, g2, e0, e1, Bool.and_self, cond_true, cond_false]
      exact rfl
    case gz0 =>
      show ByteArray.size _ ≤ 2000
      omega
  · have d1 : decide (ByteArray.size (S.extract 0 (Int.toNat (curBelow (kRight (curNew a0)).2 ((S.size : Int) + 1)).1)) + ByteArray.size (curPick (curBelow (curBelow (kRight (curNew a0)).2 ((S.size : Int) + 1)).2 5).2 ([(bs [61]), (bs [33]), (bs [32]), (bs [44]), (bs [97]), (bs [40])] : List ByteArray)).1 ≤ 9223372036854775807) = true :=
      decide_eq_true (by rw [ByteArray.size_extract]; omega)
    have d2 : decide (ByteArray.size (S.extract 0 (Int.toNat (curBelow (kRight (curNew a0)).2 ((S.size : Int) + 1)).1) ++ (curPick (curBelow (curBelow (kRight (curNew a0)).2 ((S.size : Int) + 1)).2 5).2 ([(bs [61]), (bs [33]), (bs [32]), (bs [44]), (bs [97]), (bs [40])] : List ByteArray)).1) + ByteArray.size (S.extract (Int.toNat (curBelow (kRight (curNew a0)).2 ((S.size : Int) + 1)).1) (Int.toNat (S.size : Int))) ≤ 9223372036854775807) = true :=
      decide_eq_true (by rw [ByteArray.size_append, ByteArray.size_extract, ByteArray.size_extract]; omega)
    refine ⟨?c, ?gz0, 0, ?rz0⟩
    case rz0 =>
      intro R k
      rw [f13_run]
      simp only [hS, hg, sp, hw, g0, g1, g2, e0, e1, c0, c1, c2, hp, d1, d2, Bool.and_self, cond_true, cond_false]
      exact rfl
    case gz0 =>
      show ByteArray.size _ ≤ 2000
      rw [ByteArray.size_append, ByteArray.size_append, ByteArray.size_extract, ByteArray.size_extract]; omega

theorem f13_ne (a0 : List Int) : Nonempty {o : ByteArray // gCode a0 = true → f13_P a0 o} := by
  by_cases hg : gCode a0 = true
  · obtain ⟨o, ho⟩ := f13_ex a0 hg
    exact ⟨⟨o, fun _ => ho⟩⟩
  · exact ⟨⟨((zero .str)), fun h => absurd h hg⟩⟩
noncomputable def dPickO (a0 : List Int) : ByteArray := (Classical.choice (f13_ne a0)).val
theorem f13_sp (a0 : List Int) (hg : gCode a0 = true) : f13_P a0 (dPickO a0) := (Classical.choice (f13_ne a0)).property hg
theorem dPickO_ok (a0 : List Int) (hg : gCode a0 = true) : (fun _ o => o.size ≤ 2000) a0 (dPickO a0) := (f13_sp a0 hg).1
theorem f13_spec (a0 : List Int) (hg : gCode a0 = true) : ∃ keep rounds, ∀ {R : Type} (k : List Dt → Option R), evFn f13e keep rounds f13c [.kp] [false] true [.tmp 2] [9] [.d (.sl (.i .u8)) a0] k = k [.d .str (dPickO a0)] := by
  obtain ⟨n, hn⟩ := (f13_sp a0 hg).2
  exact ⟨f13k, n, hn⟩

noncomputable def q13 : List Dt → Option (Bool × List Dt)
  | [.d (.sl (.i .u8)) a0] => some ((gCode a0), [.d .str (dPickO a0)])
  | _ => none
noncomputable def s13 : Gm.Spec := Gm.Spec.of [.kp] [false] true q13
theorem good13 : Gm.Good Tryd.prog (13, s13) := by
  have hl : ∀ x ∈ [(16, s16), (31, s31), (33, s33), (34, s34), (35, s35)], Gm.Good Tryd.prog x := List.forall_mem_cons.2 ⟨good16, List.forall_mem_cons.2 ⟨good31, List.forall_mem_cons.2 ⟨good33, List.forall_mem_cons.2 ⟨good34, List.forall_mem_cons.2 ⟨good35, List.forall_mem_nil _⟩⟩⟩⟩⟩
  refine ⟨⟨spec_ok (tab_ok.env hl) (tab.natl hl) Tryd.func13 (by kernel_rfl : Tryd.f13.body = some f13c) [9] (by kernel_rfl) ?_, _, Tryd.func13, by kernel_rfl, of_decide_eq_true (by kernel_rfl)⟩, Gm.Spec.of_natl _ _ _ _⟩
  intro ds outs h
  unfold q13 at h
  split at h
  · simp only [Option.some.injEq, Prod.mk.injEq] at h; obtain ⟨hg, h⟩ := h; cases h; exact f13_spec _ hg
  · cases h
end Go.Proofs.YtklmnopgogcbhaaDoor

/- x -/
namespace Go.Proofs.YtklmnopgogcbhaaDoor
open Go Go.Gm
/-! ### loop.example/g00465/laws.big -/
noncomputable def f10c : Code := (Tryd.f10.body).getD .skip
def f10k : Nat → Kp := kat [⟨[0], [], [], []⟩, ⟨[2], [], [], []⟩]
noncomputable def f10e : Env := tab.env []
theorem f10_run {R : Type} (n : Nat) (k : List Dt → Option R) (a0 : List Int) : evFn f10e f10k n f10c [.ro] [false] true [.tmp 2] [4] [.d (.sl (.i .u8)) a0] k =
    (k [.d .bool (decide ((a0.length : Int) > (1048576 : Int)))]) := by kernel_rfl
theorem f10_spec (a0 : List Int) : ∃ keep rounds, ∀ {R : Type} (k : List Dt → Option R), evFn f10e keep rounds f10c [.ro] [false] true [.tmp 2] [4] [.d (.sl (.i .u8)) a0] k = k [.d .bool (bigC a0)] := by
  exact ⟨f10k, 0, fun k => f10_run 0 k a0⟩

noncomputable def q10 : List Dt → Option (Bool × List Dt)
  | [.d (.sl (.i .u8)) a0] => some (true, [.d .bool (bigC a0)])
  | _ => none
noncomputable def s10 : Gm.Spec := Gm.Spec.of [.ro] [false] true q10
theorem good10 : Gm.Good Tryd.prog (10, s10) := by
  have hl : ∀ x ∈ ([] : List (Nat × Gm.Spec)), Gm.Good Tryd.prog x := fun _ h => by cases h
  refine ⟨⟨spec_ok (tab_ok.env hl) (tab.natl hl) Tryd.func10 (by kernel_rfl : Tryd.f10.body = some f10c) [4] (by kernel_rfl) ?_, _, Tryd.func10, by kernel_rfl, of_decide_eq_true (by kernel_rfl)⟩, Gm.Spec.of_natl _ _ _ _⟩
  intro ds outs h
  unfold q10 at h
  split at h
  · cases h; exact f10_spec _
  · cases h
/-! ### loop.example/g00465/laws.sameTexts -/
noncomputable def f38S0 (y0 : List ByteArray) (y1 : List ByteArray) (y2 : Int) : St := ⟨[(0, .c (.one (.ro .str y0))), (1, .c (.one (.ro .str y1))), (5, .c (.one (.v (.int .i64 y2))))], [], []⟩
noncomputable def f38S1 : St := ⟨[(4, .c (.one (.v (.bool false))))], [], []⟩
noncomputable def f38S2 (y0 : List ByteArray) (y1 : List ByteArray) (y2 : Int) (y3 : Bool) : St := ⟨[(0, .c (.one (.ro .str y0))), (1, .c (.one (.ro .str y1))), (5, .c (.one (.v (.int .i64 y2)))), (14, .c (.one (.v (.bool y3))))], [], []⟩
noncomputable def f38c : Code := (Tryd.f38.body).getD .skip
def f38k : Nat → Kp := kat [⟨[0, 1], [], [], []⟩, ⟨[0, 1, 10], [], [], []⟩, ⟨[4], [], [], []⟩, ⟨[0, 1, 5], [], [], []⟩, ⟨[0, 1, 5, 14], [], [], []⟩, ⟨[0, 1, 5], [], [], []⟩, ⟨[0, 1, 5, 25], [], [], []⟩, ⟨[4], [], [], []⟩, ⟨[4], [], [], []⟩]
noncomputable def f38e : Env := tab.env []
noncomputable def f38L0 {R : Type} (n : Nat) (x0 : Option R) (x1 : Int → Bool → Option R) (vs0 : List ByteArray) (vs1 : List ByteArray) : Nat → Int → Option R
  | 0, _ => none
  | m + 1, vs5 =>
    (cond (decide (vs5 < (vs0.length : Int)))
   (cond ((decide ((0 : Int) ≤ vs5)) && (decide (vs5 < (vs0.length : Int))))
    (cond ((decide ((0 : Int) ≤ vs5)) && (decide (vs5 < (vs1.length : Int))))
     (cond (!(sEq (atI (t := .str) vs0 (Int.toNat vs5)) (atI (t := .str) vs1 (Int.toNat vs5))))
      (x0)
      (f38L0 n x0 x1 vs0 vs1 m (IntKind.wrap .i64 (vs5 + (1 : Int)))))
     none)
    none)
   (x1 vs5 (decide (vs5 < (vs0.length : Int)))))
theorem f38L0_b {R : Type} (n : Nat) (k' : Ex → St → Option R) (vs0 : List ByteArray) (vs1 : List ByteArray) (vs5 : Int) : ev f38e f38k n (cAt [1,1,0,1,0,0] f38c) (f38S0 vs0 vs1 vs5) k' =
    (cond (decide (vs5 < (vs0.length : Int)))
  (cond ((decide ((0 : Int) ≤ vs5)) && (decide (vs5 < (vs0.length : Int))))
   (cond ((decide ((0 : Int) ≤ vs5)) && (decide (vs5 < (vs1.length : Int))))
    (cond (!(sEq (atI (t := .str) vs0 (Int.toNat vs5)) (atI (t := .str) vs1 (Int.toNat vs5))))
     (k' .ret f38S1)
     (k' .normal (f38S0 vs0 vs1 (IntKind.wrap .i64 (vs5 + (1 : Int))))))
    none)
   none)
  (k' (.exit 0) (f38S2 vs0 vs1 vs5 (decide (vs5 < (vs0.length : Int)))))) := by kernel_rfl
theorem f38L0_eq {R : Type} (n : Nat) (k' : Ex → St → Option R) (vs0 : List ByteArray) (vs1 : List ByteArray) : ∀ (m : Nat) (vs5 : Int), iter (fun st k => ev f38e f38k n (cAt [1,1,0,1,0,0] f38c) st k) m (f38S0 vs0 vs1 vs5) k' = f38L0 n (k' .ret f38S1) (fun (xvs5 : Int) (xvs14 : Bool) => k' (.exit 0) (f38S2 vs0 vs1 xvs5 xvs14)) vs0 vs1 m vs5 := by
  intro m; induction m with
  | zero => intros; rfl
  | succ m ih =>
    intro vs5
    simp only [iter]
    rw [f38L0_b]
    simp only [ih, f38L0]

noncomputable def f38K0 {R : Type} (n : Nat) (k' : Ex → St → Option R) : Ex → St → Option R := (blockK 0 (seqK f38e f38k n (cAt [1,1,1] f38c) k'))
theorem f38K0_x0 {R : Type} (n : Nat) (k : List Dt → Option R) (a0 : List ByteArray) (a1 : List ByteArray)  : f38K0 n (exitK f38e [.ro, .ro] [false] true [.tmp 4] [4] [.d (.sl .str) a0, .d (.sl .str) a1] k) .ret f38S1 =
    (k [.d .bool false]) := by kernel_rfl
theorem f38K0_x1 {R : Type} (n : Nat) (k : List Dt → Option R) (a0 : List ByteArray) (a1 : List ByteArray) (vs0 : List ByteArray) (vs1 : List ByteArray) (xvs5 : Int) (xvs14 : Bool) : f38K0 n (exitK f38e [.ro, .ro] [false] true [.tmp 4] [4] [.d (.sl .str) a0, .d (.sl .str) a1] k) (.exit 0) (f38S2 vs0 vs1 xvs5 xvs14) =
    (k [.d .bool true]) := by kernel_rfl

theorem f38_run {R : Type} (n : Nat) (k : List Dt → Option R) (a0 : List ByteArray) (a1 : List ByteArray) : evFn f38e f38k n f38c [.ro, .ro] [false] true [.tmp 4] [4] [.d (.sl .str) a0, .d (.sl .str) a1] k =
    (cond ((a0.length : Int) != (a1.length : Int))
  (k [.d .bool false])
  (f38L0 n (k [.d .bool false]) (fun (xvs5 : Int) (xvs14 : Bool) =>
   (k [.d .bool true])) a0 a1 n (0 : Int))) := by
  refine Eq.trans (b := (cond ((a0.length : Int) != (a1.length : Int))
  (k [.d .bool false])
  (iter (fun st k => ev f38e f38k n (cAt [1,1,0,1,0,0] f38c) st k) n (f38S0 a0 a1 (0 : Int)) (f38K0 n (exitK f38e [.ro, .ro] [false] true [.tmp 4] [4] [.d (.sl .str) a0, .d (.sl .str) a1] k))))) (by kernel_rfl) ?_
  simp only [f38L0_eq, f38K0_x0, f38K0_x1]
theorem f38_spec (a0 : List ByteArray) (a1 : List ByteArray) (hg : gSame gLenW a0 a1 = true) : ∃ keep rounds, ∀ {R : Type} (k : List Dt → Option R), evFn f38e keep rounds f38c [.ro, .ro] [false] true [.tmp 4] [4] [.d (.sl .str) a0, .d (.sl .str) a1] k = k [.d .bool ((fun (_ _ : List ByteArray) => true) a0 a1)] := by
  obtain ⟨hl, rfl⟩ := gSame_iff.1 hg
  have hl := gLenW_le hl
  refine ⟨f38k, a0.length + 1, fun {R} k => ?_⟩
  rw [f38_run, bne_self_eq_false]
  show _ = k [.d .bool true]
  have key : ∀ (X : Option R) (Y : Int → Bool → Option R), (∀ i b, Y i b = k [.d .bool true]) → ∀ d j m, j + d = a0.length → d < m → f38L0 (a0.length + 1) X Y a0 a0 m (j : Int) = k [.d .bool true] := by
    intro X Y hY d
    induction d with
    | zero =>
      intro j m hj hm
      obtain ⟨m, rfl⟩ : ∃ m', m = m' + 1 := ⟨m - 1, by omega⟩
      simp only [f38L0, decide_eq_false (show ¬ ((j : Int) < (a0.length : Int)) by omega), cond_false, hY]
    | succ d ih =>
      intro j m hj hm
      obtain ⟨m, rfl⟩ : ∃ m', m = m' + 1 := ⟨m - 1, by omega⟩
      obtain ⟨h1, h0, hw, ht⟩ := idx (show j < a0.length by omega) (by omega)
      simp only [f38L0, h1, h0, hw, ht, sEq_self, bab_self, beq_self_eq_true, Bool.and_self, Bool.not_true, cond_true, cond_false]
      exact ih (j + 1) m (by omega) (by omega)
  exact key _ _ (fun _ _ => rfl) a0.length 0 (a0.length + 1) (by omega) (by omega)

noncomputable def q38 : List Dt → Option (Bool × List Dt)
  | [.d (.sl .str) a0, .d (.sl .str) a1] => some (((gSame (gLenW (α := ByteArray))) a0 a1), [.d .bool ((fun (_ _ : List ByteArray) => true) a0 a1)])
  | _ => none
noncomputable def s38 : Gm.Spec := Gm.Spec.of [.ro, .ro] [false] true q38
theorem good38 : Gm.Good Tryd.prog (38, s38) := by
  have hl : ∀ x ∈ ([] : List (Nat × Gm.Spec)), Gm.Good Tryd.prog x := fun _ h => by cases h
  refine ⟨⟨spec_ok (tab_ok.env hl) (tab.natl hl) Tryd.func38 (by kernel_rfl : Tryd.f38.body = some f38c) [4] (by kernel_rfl) ?_, _, Tryd.func38, by kernel_rfl, of_decide_eq_true (by kernel_rfl)⟩, Gm.Spec.of_natl _ _ _ _⟩
  intro ds outs h
  unfold q38 at h
  split at h
  · simp only [Option.some.injEq, Prod.mk.injEq] at h; obtain ⟨hg, h⟩ := h; cases h; exact f38_spec _ _ hg
  · cases h
/-! ### loop.example/g00465/laws.samePick -/
noncomputable def f17c : Code := (Tryd.f17.body).getD .skip
def f17k : Nat → Kp := kat [⟨[2, 3], [], [], []⟩, ⟨[4], [], [], []⟩]
noncomputable def f17e : Env := tab.env [(38, s38)]
theorem f17_run {R : Type} (n : Nat) (k : List Dt → Option R) (a0 : PickT) (a1 : PickT) : evFn f17e f17k n f17c [.ro, .ro] [false] true [.tmp 4] [4] [.d .pick a0, .d .pick a1] k =
    (cond ((PickT.op a0) == (PickT.op a1))
  (cond (sEq (PickT.key a0) (PickT.key a1))
   (cond ((gSame (gLenW (α := ByteArray))) (PickT.vals a0) (PickT.vals a1))
    (k [.d .bool ((fun (_ _ : List ByteArray) => true) (PickT.vals a0) (PickT.vals a1))])
    none)
   (k [.d .bool false]))
  (k [.d .bool false])) := by kernel_rfl
theorem f17_spec (a0 : PickT) (a1 : PickT) (hg : gSame sm_pick a0 a1 = true) : ∃ keep rounds, ∀ {R : Type} (k : List Dt → Option R), evFn f17e keep rounds f17c [.ro, .ro] [false] true [.tmp 4] [4] [.d .pick a0, .d .pick a1] k = k [.d .bool ((fun (_ _ : PickT) => true) a0 a1)] := by
  obtain ⟨hs, rfl⟩ := gSame_iff.1 hg
  simp only [sm_pick, Bool.and_eq_true] at hs
  refine ⟨f17k, 0, fun {R} k => ?_⟩
  rw [f17_run]
  simp only [beq_self_eq_true, sEq_self, gSame_self (gLen_sm hs.2.2), cond_true]

noncomputable def q17 : List Dt → Option (Bool × List Dt)
  | [.d .pick a0, .d .pick a1] => some (((gSame sm_pick) a0 a1), [.d .bool ((fun (_ _ : PickT) => true) a0 a1)])
  | _ => none
noncomputable def s17 : Gm.Spec := Gm.Spec.of [.ro, .ro] [false] true q17
theorem good17 : Gm.Good Tryd.prog (17, s17) := by
  have hl : ∀ x ∈ [(38, s38)], Gm.Good Tryd.prog x := List.forall_mem_cons.2 ⟨good38, List.forall_mem_nil _⟩
  refine ⟨⟨spec_ok (tab_ok.env hl) (tab.natl hl) Tryd.func17 (by kernel_rfl : Tryd.f17.body = some f17c) [4] (by kernel_rfl) ?_, _, Tryd.func17, by kernel_rfl, of_decide_eq_true (by kernel_rfl)⟩, Gm.Spec.of_natl _ _ _ _⟩
  intro ds outs h
  unfold q17 at h
  split at h
  · simp only [Option.some.injEq, Prod.mk.injEq] at h; obtain ⟨hg, h⟩ := h; cases h; exact f17_spec _ _ hg
  · cases h
end Go.Proofs.YtklmnopgogcbhaaDoor

/- x -/
namespace Go.Proofs.YtklmnopgogcbhaaDoor
open Go Go.Gm
/-! ### loop.example/g00465/laws.FnPicks -/
noncomputable def f4c : Code := (Tryd.f4.body).getD .skip
def f4k : Nat → Kp := kat [⟨[0], [], [], []⟩, ⟨[0, 17], [], [], []⟩, ⟨[2], [], [], []⟩, ⟨[0, 3], [], [], []⟩, ⟨[0, 3, 4], [], [], []⟩, ⟨[0, 3, 4, 5], [], [], []⟩, ⟨[0, 3, 4, 5, 6, 7], [], [], []⟩, ⟨[0, 3, 4, 5, 6, 7, 8, 9], [], [], []⟩, ⟨[0, 3, 4, 5, 6, 7, 8, 9, 10, 11], [], [], []⟩, ⟨[3, 4, 5, 6, 7, 8, 9, 10, 11, 12], [], [], []⟩, ⟨[3, 4, 10, 11, 80], [], [], []⟩, ⟨[2], [], [], []⟩, ⟨[3, 4, 10, 11, 82], [], [], []⟩, ⟨[3, 10, 11, 13, 14], [], [], []⟩, ⟨[10, 11, 95], [], [], []⟩, ⟨[2], [], [], []⟩, ⟨[10, 11, 98], [], [], []⟩, ⟨[2], [], [], []⟩, ⟨[10, 11, 15], [], [], []⟩, ⟨[10, 11, 15], [], [], []⟩, ⟨[2], [], [], []⟩]
noncomputable def f4e : Env := tab.env [(5, s5), (6, s6), (10, s10), (11, s11), (12, s12), (13, s13), (14, s14), (15, s15), (16, s16), (17, s17), (18, s18), (19, s19), (20, s20), (21, s21)]
theorem f4_run {R : Type} (n : Nat) (k : List Dt → Option R) (a0 : List Int) : evFn f4e f4k n f4c [.kp] [false] true [.tmp 2] [4] [.d (.sl (.i .u8)) a0] k =
    (cond (bigC a0)
  (k [.d .bool true])
  (cond (gCode a0)
   (cond (sm_pick (dPickT a0))
    (cond (gCode a0)
     (cond (gPickOf (dPickO a0))
      (cond (gPickOf (dPickO a0))
       (cond (gCode a0)
        (cond (gCode a0)
         (cond (sm_pick (dPickT a0))
          (cond (!(sEq (pickText (dPickT a0)) (pickText (dPickT a0))))
           (k [.d .bool false])
           (cond (!(((pickOf (dPickO a0)).2) == ((pickOf (dPickO a0)).2)))
            (k [.d .bool false])
            (cond ((gSame sm_pick) ((pickOf (dPickO a0)).1) ((pickOf (dPickO a0)).1))
             (cond (!((fun (_ _ : PickT) => true) ((pickOf (dPickO a0)).1) ((pickOf (dPickO a0)).1)))
              (k [.d .bool false])
              (cond (gFits ((dFits a0).1) ((dFits a0).2))
               (cond (gFits ((dFits a0).1) ((dFits a0).2))
                (cond (!((fits ((dFits a0).1) ((dFits a0).2)) == (fits ((dFits a0).1) ((dFits a0).2))))
                 (k [.d .bool false])
                 (cond (okPick (dPickOk a0))
                  (cond (okPick (dPickOk a0))
                   (cond (!((pickOk (dPickOk a0)) == (pickOk (dPickOk a0))))
                    (k [.d .bool false])
                    (cond ((pickOf (dPickO a0)).2)
                     (cond (sm_pick ((pickOf (dPickO a0)).1))
                      (cond (!(sEq (pickText ((pickOf (dPickO a0)).1)) (dPickO a0)))
                       (k [.d .bool false])
                       (cond (okPick (dPickT a0))
                        (cond (pickOk (dPickT a0))
                         (cond (gPickOf (pickText (dPickT a0)))
                          (cond (!((pickOf (pickText (dPickT a0))).2))
                           (k [.d .bool false])
                           (cond ((gSame sm_pick) ((pickOf (pickText (dPickT a0))).1) (dPickT a0))
                            (cond (!((fun (_ _ : PickT) => true) ((pickOf (pickText (dPickT a0))).1) (dPickT a0)))
                             (k [.d .bool false])
                             (cond (okPick ((dFits a0).1))
                              (cond (!(pickOk ((dFits a0).1)))
                               (cond (gFits ((dFits a0).1) ((dFits a0).2))
                                (k [.d .bool (!(fits ((dFits a0).1) ((dFits a0).2)))])
                                none)
                               (cond ((decide ((0 : Int) ≤ (PickT.op ((dFits a0).1)))) && (decide ((PickT.op ((dFits a0).1)) < (7 : Int))))
                                (cond (gFits (⟨(atI (t := (.i .i64)) ([(0 : Int), (2 : Int), (1 : Int), (4 : Int), (3 : Int), (6 : Int), (5 : Int)] : List Int) (Int.toNat (PickT.op ((dFits a0).1)))), (PickT.key ((dFits a0).1)), (PickT.vals ((dFits a0).1))⟩ : PickT) ((dFits a0).2))
                                 (cond (gFits ((dFits a0).1) ((dFits a0).2))
                                  (k [.d .bool (!((fits (⟨(atI (t := (.i .i64)) ([(0 : Int), (2 : Int), (1 : Int), (4 : Int), (3 : Int), (6 : Int), (5 : Int)] : List Int) (Int.toNat (PickT.op ((dFits a0).1)))), (PickT.key ((dFits a0).1)), (PickT.vals ((dFits a0).1))⟩ : PickT) ((dFits a0).2)) == (fits ((dFits a0).1) ((dFits a0).2))))])
                                  none)
                                 none)
                                none))
                              none))
                            none))
                          none)
                         (cond (okPick ((dFits a0).1))
                          (cond (!(pickOk ((dFits a0).1)))
                           (cond (gFits ((dFits a0).1) ((dFits a0).2))
                            (k [.d .bool (!(fits ((dFits a0).1) ((dFits a0).2)))])
                            none)
                           (cond ((decide ((0 : Int) ≤ (PickT.op ((dFits a0).1)))) && (decide ((PickT.op ((dFits a0).1)) < (7 : Int))))
                            (cond (gFits (⟨(atI (t := (.i .i64)) ([(0 : Int), (2 : Int), (1 : Int), (4 : Int), (3 : Int), (6 : Int), (5 : Int)] : List Int) (Int.toNat (PickT.op ((dFits a0).1)))), (PickT.key ((dFits a0).1)), (PickT.vals ((dFits a0).1))⟩ : PickT) ((dFits a0).2))
                             (cond (gFits ((dFits a0).1) ((dFits a0).2))
                              (k [.d .bool (!((fits (⟨(atI (t := (.i .i64)) ([(0 : Int), (2 : Int), (1 : Int), (4 : Int), (3 : Int), (6 : Int), (5 : Int)] : List Int) (Int.toNat (PickT.op ((dFits a0).1)))), (PickT.key ((dFits a0).1)), (PickT.vals ((dFits a0).1))⟩ : PickT) ((dFits a0).2)) == (fits ((dFits a0).1) ((dFits a0).2))))])
                              none)
                             none)
                            none))
                          none))
                        none))
                      none)
                     (cond (okPick (dPickT a0))
                      (cond (pickOk (dPickT a0))
                       (cond (gPickOf (pickText (dPickT a0)))
                        (cond (!((pickOf (pickText (dPickT a0))).2))
                         (k [.d .bool false])
                         (cond ((gSame sm_pick) ((pickOf (pickText (dPickT a0))).1) (dPickT a0))
                          (cond (!((fun (_ _ : PickT) => true) ((pickOf (pickText (dPickT a0))).1) (dPickT a0)))
                           (k [.d .bool false])
                           (cond (okPick ((dFits a0).1))
                            (cond (!(pickOk ((dFits a0).1)))
                             (cond (gFits ((dFits a0).1) ((dFits a0).2))
                              (k [.d .bool (!(fits ((dFits a0).1) ((dFits a0).2)))])
                              none)
                             (cond ((decide ((0 : Int) ≤ (PickT.op ((dFits a0).1)))) && (decide ((PickT.op ((dFits a0).1)) < (7 : Int))))
                              (cond (gFits (⟨(atI (t := (.i .i64)) ([(0 : Int), (2 : Int), (1 : Int), (4 : Int), (3 : Int), (6 : Int), (5 : Int)] : List Int) (Int.toNat (PickT.op ((dFits a0).1)))), (PickT.key ((dFits a0).1)), (PickT.vals ((dFits a0).1))⟩ : PickT) ((dFits a0).2))
                               (cond (gFits ((dFits a0).1) ((dFits a0).2))
                                (k [.d .bool (!((fits (⟨(atI (t := (.i .i64)) ([(0 : Int), (2 : Int), (1 : Int), (4 : Int), (3 : Int), (6 : Int), (5 : Int)] : List Int) (Int.toNat (PickT.op ((dFits a0).1)))), (PickT.key ((dFits a0).1)), (PickT.vals ((dFits a0).1))⟩ : PickT) ((dFits a0).2)) == (fits ((dFits a0).1) ((dFits a0).2))))])
                                none)
                               none)
                              none))
                            none))
                          none))
                        none)
                       (cond (okPick ((dFits a0).1))
                        (cond (!(pickOk ((dFits a0).1)))
                         (cond (gFits ((dFits a0).1) ((dFits a0).2))
                          (k [.d .bool (!(fits ((dFits a0).1) ((dFits a0).2)))])
                          none)
                         (cond ((decide ((0 : Int) ≤ (PickT.op ((dFits a0).1)))) && (decide ((PickT.op ((dFits a0).1)) < (7 : Int))))
                          (cond (gFits (⟨(atI (t := (.i .i64)) ([(0 : Int), (2 : Int), (1 : Int), (4 : Int), (3 : Int), (6 : Int), (5 : Int)] : List Int) (Int.toNat (PickT.op ((dFits a0).1)))), (PickT.key ((dFits a0).1)), (PickT.vals ((dFits a0).1))⟩ : PickT) ((dFits a0).2))
                           (cond (gFits ((dFits a0).1) ((dFits a0).2))
                            (k [.d .bool (!((fits (⟨(atI (t := (.i .i64)) ([(0 : Int), (2 : Int), (1 : Int), (4 : Int), (3 : Int), (6 : Int), (5 : Int)] : List Int) (Int.toNat (PickT.op ((dFits a0).1)))), (PickT.key ((dFits a0).1)), (PickT.vals ((dFits a0).1))⟩ : PickT) ((dFits a0).2)) == (fits ((dFits a0).1) ((dFits a0).2))))])
                            none)
                           none)
                          none))
                        none))
                      none)))
                   none)
                  none))
                none)
               none))
             none)))
          none)
         none)
        none)
       none)
      none)
     none)
    none)
   none)) := by kernel_rfl
theorem f4_spec (a0 : List Int) : ∃ keep rounds, ∀ {R : Type} (k : List Dt → Option R), evFn f4e keep rounds f4c [.kp] [false] true [.tmp 2] [4] [.d (.sl (.i .u8)) a0] k = k [.d .bool ((fun (_ : List Int) => true) a0)] := by
  refine ⟨f4k, 0, fun {R} k => ?_⟩
  rw [f4_run]
  show _ = k [.d .bool true]
  cases hbig : bigC a0
  rotate_left
  · simp only [cond_true]
  have hc := gCode_of hbig
  have s1 := dPickT_ok a0 hc
  have s2 := dPickO_ok a0 hc
  obtain ⟨s3, s4⟩ := dFits_ok a0 hc
  have s5 := dPickOk_ok a0 hc
  revert s1 s2 s3 s4 s5
  generalize dPickT a0 = p, dPickO a0 = t, (dFits a0).1 = q, (dFits a0).2 = ns, dPickOk a0 = o
  intro s1 s2 s3 s4 s5
  have gp1 : gPickOf t = true := Nat.ble_eq_true_of_le (by omega)
  have gp2 : gPickOf (pickText p) = true := Nat.ble_eq_true_of_le (by have := pickText_sz p; omega)
  have sa : sm_pick (pickOf t).1 = true := pickOf_sm (smStr_of (by omega))
  have m1 : gSame sm_pick (pickOf t).1 (pickOf t).1 = true := gSame_self sa
  have m2 : gSame sm_pick p p = true := gSame_self s1
  have k1 := okPick_sm s1
  have k3 := okPick_sm s3
  have k5 := okPick_sm s5
  have gn : gLenW ns = true := gLen_sm s4
  have gf : gFits q ns = true := by unfold gFits; rw [k3, gn]; rfl
  have tail : cond (okPick q) (cond (!(pickOk q)) (cond (gFits q ns) (k [.d .bool (!(fits q ns))]) none)
      (cond ((decide ((0 : Int) ≤ q.op)) && (decide (q.op < (7 : Int)))) (cond (gFits (opposite q) ns) (cond (gFits q ns) (k [.d .bool (!((fits (opposite q) ns) == (fits q ns)))]) none) none) none)) none = k [.d .bool true] := by
    cases hq : pickOk q
    · have : fits q ns = false := by unfold fits; rw [hq]; rfl
      simp only [k3, gf, this, Bool.not_false, cond_true]
    · have ho := pickOk_op hq
      have o1 : decide ((0 : Int) ≤ q.op) = true := decide_eq_true (by omega)
      have o2 : decide (q.op < (7 : Int)) = true := decide_eq_true (by omega)
      have g2 : gFits (opposite q) ns = true := by
        have : okPick (opposite q) = okPick q := rfl
        unfold gFits; rw [this, k3, gn]; rfl
      simp only [k3, gf, o1, o2, g2, fits_flip hq, Bool.and_self, Bool.not_true, cond_true, cond_false]
      cases fits q ns <;> rfl
  have hyes := @pickOf_yes t
  cases hk : (pickOf t).2 <;> cases hpk : pickOk p
  · simp only [hc, s1, gp1, k1, k5, sEq_self, m1, gf, hk, hpk, beq_self_eq_true, Bool.not_true, cond_true, cond_false]
    simp only [gf, cond_true] at tail
    exact tail
  · have hb := pickOf_text hpk
    simp only [hc, s1, gp1, gp2, k1, k5, sEq_self, m1, m2, gf, hk, hpk, hb, beq_self_eq_true, Bool.not_true, cond_true, cond_false]
    simp only [gf, cond_true] at tail
    exact tail
  · simp only [hc, s1, sa, gp1, k1, k5, sEq_self, m1, gf, hk, hpk, hyes hk, beq_self_eq_true, Bool.not_true, cond_true, cond_false]
    simp only [gf, cond_true] at tail
    exact tail
  · have hb := pickOf_text hpk
    simp only [hc, s1, sa, gp1, gp2, k1, k5, sEq_self, m1, m2, gf, hk, hpk, hb, hyes hk, beq_self_eq_true, Bool.not_true, cond_true, cond_false]
    simp only [gf, cond_true] at tail
    exact tail

noncomputable def q4 : List Dt → Option (Bool × List Dt)
  | [.d (.sl (.i .u8)) a0] => some (true, [.d .bool ((fun (_ : List Int) => true) a0)])
  | _ => none
noncomputable def s4 : Gm.Spec := Gm.Spec.of [.kp] [false] true q4
theorem good4 : Gm.Good Tryd.prog (4, s4) := by
  have hl : ∀ x ∈ [(5, s5), (6, s6), (10, s10), (11, s11), (12, s12), (13, s13), (14, s14), (15, s15), (16, s16), (17, s17), (18, s18), (19, s19), (20, s20), (21, s21)], Gm.Good Tryd.prog x := List.forall_mem_cons.2 ⟨good5, List.forall_mem_cons.2 ⟨good6, List.forall_mem_cons.2 ⟨good10, List.forall_mem_cons.2 ⟨good11, List.forall_mem_cons.2 ⟨good12, List.forall_mem_cons.2 ⟨good13, List.forall_mem_cons.2 ⟨good14, List.forall_mem_cons.2 ⟨good15, List.forall_mem_cons.2 ⟨good16, List.forall_mem_cons.2 ⟨good17, List.forall_mem_cons.2 ⟨good18, List.forall_mem_cons.2 ⟨good19, List.forall_mem_cons.2 ⟨good20, List.forall_mem_cons.2 ⟨good21, List.forall_mem_nil _⟩⟩⟩⟩⟩⟩⟩⟩⟩⟩⟩⟩⟩⟩
  refine ⟨⟨spec_ok (tab_ok.env hl) (tab.natl hl) Tryd.func4 (by kernel_rfl : Tryd.f4.body = some f4c) [4] (by kernel_rfl) ?_, _, Tryd.func4, by kernel_rfl, of_decide_eq_true (by kernel_rfl)⟩, Gm.Spec.of_natl _ _ _ _⟩
  intro ds outs h
  unfold q4 at h
  split at h
  · cases h; exact f4_spec _
  · cases h
end Go.Proofs.YtklmnopgogcbhaaDoor

/- What the functions compute, part 2. No conditions. -/
import Derived.Test.YthjkdgbijfkmaaaWorldTextFn1
/- x -/
namespace Go.Proofs.Ythjkdgbijfkmaaa
open Go Go.Gm
/-! ### loop.example/g00465/laws.szAnswer -/
noncomputable def f7c : Code := (Try.f7.body).getD .skip
def f7k : Nat → Kp := kat [⟨[1, 2], []⟩, ⟨[1], []⟩, ⟨[1, 11], []⟩, ⟨[4], []⟩, ⟨[4], []⟩]
noncomputable def f7e : Env := tab.env []
theorem f7_run {R : Type} (n : Nat) (k : List Dt → Option R) (a0 : AnswerT) (a1 : Int) : evFn f7e f7k n f7c [.ro, .ro] [false] true [.tmp 4] [3] [.d .answer a0, .d (.i .i64) a1] k =
    (cond (decide ((IntKind.wrap .i64 (a1 - (ByteArray.size (AnswerT.text a0) : Int))) < (0 : Int)))
    (k [.d (.i .i64) (-1 : Int)])
    (k [.d (.i .i64) (IntKind.wrap .i64 (a1 - (ByteArray.size (AnswerT.text a0) : Int)))])) := by kernel_rfl
theorem f7_spec (a0 : AnswerT) (a1 : Int) (hg : gz_answer a0 a1 = true) : ∃ keep rounds, ∀ {R : Type} (k : List Dt → Option R), evFn f7e keep rounds f7c [.ro, .ro] [false] true [.tmp 4] [3] [.d .answer a0, .d (.i .i64) a1] k = k [.d (.i .i64) (z_answer a0 a1)] := by
  simp only [gz_answer, ok_answer, Bool.and_eq_true, okN_iff] at hg
  obtain ⟨⟨hf_code, hf_ver, hf_text⟩, hn1, hn2⟩ := hg
  have hf_textb : a0.text.size ≤ 9223372036854775807 := bleN hf_text
  have eN : szN_answer a0 = a0.text.size := rfl
  refine ⟨f7k, 0, fun k => ?_⟩
  rw [f7_run]
  show _ = k [.d (.i .i64) (z_answer a0 a1)]
  unfold z_answer
  rw [wrap_id (x := a1 - ((a0.text.size : Nat) : Int)) (by omega) (by omega)]
  by_cases h1 : a1 - ((a0.text.size : Nat) : Int) < 0
  · simp only [h1, decide_true, cond_true]; rw [szI_neg (by omega)]
  simp only [h1, decide_false, cond_false]
  rw [szI_pos (by omega)]
  first
    | rfl
    | rw [show (a1 - ((a0.text.size : Nat) : Int)) = a1 - ((szN_answer a0 : Nat) : Int) by omega]

noncomputable def q7 : List Dt → Option (Bool × List Dt)
  | [.d .answer a0, .d (.i .i64) a1] => some ((gz_answer a0 a1), [.d (.i .i64) (z_answer a0 a1)])
  | _ => none
noncomputable def s7 : Gm.Spec := Gm.Spec.of [.ro, .ro] [false] true q7
theorem good7 : Gm.Good Try.prog (7, s7) := by
  have hl : ∀ x ∈ ([] : List (Nat × Gm.Spec)), Gm.Good Try.prog x := fun _ h => by cases h
  refine ⟨⟨spec_ok (tab_ok.env hl) (tab.natl hl) Try.func7 (by kernel_rfl : Try.f7.body = some f7c) [3] (by kernel_rfl) ?_, _, Try.func7, by kernel_rfl, of_decide_eq_true (by kernel_rfl)⟩, Gm.Spec.of_natl _ _ _ _⟩
  intro ds outs h
  unfold q7 at h
  split at h
  · simp only [Option.some.injEq, Prod.mk.injEq] at h; obtain ⟨hg, h⟩ := h; cases h; exact f7_spec _ _ hg
  · cases h
/-! ### loop.example/g00465/laws.toAnswer -/
noncomputable def f9c : Code := (Try.f9.body).getD .skip
def f9k : Nat → Kp := kat [⟨[1, 2], []⟩, ⟨[1, 2, 3], []⟩, ⟨[1, 2, 3], []⟩, ⟨[1, 2, 3], []⟩, ⟨[2, 3], []⟩, ⟨[2], []⟩]
noncomputable def f9e : Env := tab.env []
theorem f9_run {R : Type} (n : Nat) (k : List Dt → Option R) (a0 : AnswerT) : evFn f9e f9k n f9c [.ro] [false] true [.cell 2 26] [26] [.d .answer a0] k =
    (k [.d .answer a0]) := by kernel_rfl
theorem f9_spec (a0 : AnswerT) (hg : sm_answer a0 = true) : ∃ keep rounds, ∀ {R : Type} (k : List Dt → Option R), evFn f9e keep rounds f9c [.ro] [false] true [.cell 2 26] [26] [.d .answer a0] k = k [.d .answer a0] := by
  exact ⟨f9k, 0, fun k => f9_run 0 k a0⟩

noncomputable def q9 : List Dt → Option (Bool × List Dt)
  | [.d .answer a0] => some ((sm_answer a0), [.d .answer a0])
  | _ => none
noncomputable def s9 : Gm.Spec := Gm.Spec.of [.ro] [false] true q9
theorem good9 : Gm.Good Try.prog (9, s9) := by
  have hl : ∀ x ∈ ([] : List (Nat × Gm.Spec)), Gm.Good Try.prog x := fun _ h => by cases h
  refine ⟨⟨spec_ok (tab_ok.env hl) (tab.natl hl) Try.func9 (by kernel_rfl : Try.f9.body = some f9c) [26] (by kernel_rfl) ?_, _, Try.func9, by kernel_rfl, of_decide_eq_true (by kernel_rfl)⟩, Gm.Spec.of_natl _ _ _ _⟩
  intro ds outs h
  unfold q9 at h
  split at h
  · simp only [Option.some.injEq, Prod.mk.injEq] at h; obtain ⟨hg, h⟩ := h; cases h; exact f9_spec _ hg
  · cases h
/-! ### loop.example/g00465/laws.szRecS -/
noncomputable def f31c : Code := (Try.f31.body).getD .skip
def f31k : Nat → Kp := kat [⟨[0, 1], []⟩, ⟨[1], []⟩, ⟨[1, 10], []⟩, ⟨[4], []⟩, ⟨[4], []⟩]
noncomputable def f31e : Env := tab.env []
theorem f31_run {R : Type} (n : Nat) (k : List Dt → Option R) (a0 : List RcdT) (a1 : Int) : evFn f31e f31k n f31c [.ro, .ro] [false] true [.tmp 4] [3] [.d (.sl .rcd) a0, .d (.i .i64) a1] k =
    (cond (decide ((IntKind.wrap .i64 (a1 - (a0.length : Int))) < (0 : Int)))
    (k [.d (.i .i64) (-1 : Int)])
    (k [.d (.i .i64) (IntKind.wrap .i64 (a1 - (a0.length : Int)))])) := by kernel_rfl
theorem f31_spec (a0 : List RcdT) (a1 : Int) (hg : gzL_rcd a0 a1 = true) : ∃ keep rounds, ∀ {R : Type} (k : List Dt → Option R), evFn f31e keep rounds f31c [.ro, .ro] [false] true [.tmp 4] [3] [.d (.sl .rcd) a0, .d (.i .i64) a1] k = k [.d (.i .i64) (zL_rcd a0 a1)] := by
  simp only [gzL_rcd, okL, Bool.and_eq_true, okN_iff] at hg
  obtain ⟨⟨hl, hs⟩, hn⟩ := hg
  have hl : a0.length ≤ 9223372036854775807 := bleN hl
  refine ⟨f31k, 0, fun k => ?_⟩
  rw [f31_run, wrap_id (x := a1 - (a0.length : Int)) (by omega) (by omega)]
  show _ = k [.d (.i .i64) (zL_rcd a0 a1)]
  unfold zL_rcd
  have eL : szL szN_rcd a0 = a0.length := by
    have z : ∀ l : List _, (l.map szN_rcd).sum = 0 := fun l => by induction l with | nil => rfl | cons x r ih => rw [List.map_cons, List.sum_cons, ih]; rfl
    unfold szL; rw [z]; rfl
  rw [eL]
  by_cases hc : a1 - (a0.length : Int) < 0
  · simp only [hc, decide_true, cond_true]
    rw [szI_neg (by omega)]
  · simp only [hc, decide_false, cond_false]
    rw [szI_pos (by omega)]

noncomputable def q31 : List Dt → Option (Bool × List Dt)
  | [.d (.sl .rcd) a0, .d (.i .i64) a1] => some ((gzL_rcd a0 a1), [.d (.i .i64) (zL_rcd a0 a1)])
  | _ => none
noncomputable def s31 : Gm.Spec := Gm.Spec.of [.ro, .ro] [false] true q31
theorem good31 : Gm.Good Try.prog (31, s31) := by
  have hl : ∀ x ∈ ([] : List (Nat × Gm.Spec)), Gm.Good Try.prog x := fun _ h => by cases h
  refine ⟨⟨spec_ok (tab_ok.env hl) (tab.natl hl) Try.func31 (by kernel_rfl : Try.f31.body = some f31c) [3] (by kernel_rfl) ?_, _, Try.func31, by kernel_rfl, of_decide_eq_true (by kernel_rfl)⟩, Gm.Spec.of_natl _ _ _ _⟩
  intro ds outs h
  unfold q31 at h
  split at h
  · simp only [Option.some.injEq, Prod.mk.injEq] at h; obtain ⟨hg, h⟩ := h; cases h; exact f31_spec _ _ hg
  · cases h
/-! ### loop.example/g00465/laws.szScale -/
noncomputable def f11c : Code := (Try.f11.body).getD .skip
def f11k : Nat → Kp := kat [⟨[1, 2], []⟩, ⟨[1, 2], []⟩, ⟨[1, 2, 11], []⟩, ⟨[4], []⟩, ⟨[1], []⟩, ⟨[1, 17], []⟩, ⟨[4], []⟩, ⟨[4], []⟩]
noncomputable def f11e : Env := tab.env [(31, s31)]
theorem f11_run {R : Type} (n : Nat) (k : List Dt → Option R) (a0 : ScaleT) (a1 : Int) : evFn f11e f11k n f11c [.ro, .ro] [false] true [.tmp 4] [3] [.d .scale a0, .d (.i .i64) a1] k =
    (cond (decide ((IntKind.wrap .i64 (a1 - (ByteArray.size (ScaleT.name a0) : Int))) < (0 : Int)))
    (k [.d (.i .i64) (-1 : Int)])
    (cond (gzL_rcd (ScaleT.recs a0) (IntKind.wrap .i64 (a1 - (ByteArray.size (ScaleT.name a0) : Int))))
      (cond (decide ((zL_rcd (ScaleT.recs a0) (IntKind.wrap .i64 (a1 - (ByteArray.size (ScaleT.name a0) : Int)))) < (0 : Int)))
        (k [.d (.i .i64) (-1 : Int)])
        (k [.d (.i .i64) (zL_rcd (ScaleT.recs a0) (IntKind.wrap .i64 (a1 - (ByteArray.size (ScaleT.name a0) : Int))))]))
      none)) := by kernel_rfl
theorem f11_spec (a0 : ScaleT) (a1 : Int) (hg : gz_scale a0 a1 = true) : ∃ keep rounds, ∀ {R : Type} (k : List Dt → Option R), evFn f11e keep rounds f11c [.ro, .ro] [false] true [.tmp 4] [3] [.d .scale a0, .d (.i .i64) a1] k = k [.d (.i .i64) (z_scale a0 a1)] := by
  simp only [gz_scale, ok_scale, Bool.and_eq_true, okN_iff] at hg
  obtain ⟨⟨hf_name, hf_now, hf_recs⟩, hn1, hn2⟩ := hg
  have hf_nameb : a0.name.size ≤ 9223372036854775807 := bleN hf_name
  have eN : szN_scale a0 = a0.name.size + szL szN_rcd a0.recs := rfl
  refine ⟨f11k, 0, fun k => ?_⟩
  rw [f11_run]
  show _ = k [.d (.i .i64) (z_scale a0 a1)]
  unfold z_scale
  rw [wrap_id (x := a1 - ((a0.name.size : Nat) : Int)) (by omega) (by omega)]
  by_cases h1 : a1 - ((a0.name.size : Nat) : Int) < 0
  · simp only [h1, decide_true, cond_true]; rw [szI_neg (by omega)]
  simp only [h1, decide_false, cond_false]
  have g2 : gzL_rcd a0.recs (a1 - ((a0.name.size : Nat) : Int)) = true := by simp only [gzL_rcd, Bool.and_eq_true, okN_iff]; exact ⟨hf_recs, by omega, by omega⟩
  have z3 : zL_rcd a0.recs (a1 - ((a0.name.size : Nat) : Int)) = szI (szL szN_rcd a0.recs) (a1 - ((a0.name.size : Nat) : Int)) := rfl
  rw [g2, z3]
  by_cases h3 : (a1 - ((a0.name.size : Nat) : Int)) - ((szL szN_rcd a0.recs : Nat) : Int) < 0
  · rw [szI_neg h3, szI_neg (by omega)]; rfl
  rw [szI_pos h3]
  simp only [cond_true, h3, decide_false, cond_false]
  rw [szI_pos (by omega)]
  first
    | rfl
    | rw [show ((a1 - ((a0.name.size : Nat) : Int)) - ((szL szN_rcd a0.recs : Nat) : Int)) = a1 - ((szN_scale a0 : Nat) : Int) by omega]

noncomputable def q11 : List Dt → Option (Bool × List Dt)
  | [.d .scale a0, .d (.i .i64) a1] => some ((gz_scale a0 a1), [.d (.i .i64) (z_scale a0 a1)])
  | _ => none
noncomputable def s11 : Gm.Spec := Gm.Spec.of [.ro, .ro] [false] true q11
theorem good11 : Gm.Good Try.prog (11, s11) := by
  have hl : ∀ x ∈ [(31, s31)], Gm.Good Try.prog x := List.forall_mem_cons.2 ⟨good31, List.forall_mem_nil _⟩
  refine ⟨⟨spec_ok (tab_ok.env hl) (tab.natl hl) Try.func11 (by kernel_rfl : Try.f11.body = some f11c) [3] (by kernel_rfl) ?_, _, Try.func11, by kernel_rfl, of_decide_eq_true (by kernel_rfl)⟩, Gm.Spec.of_natl _ _ _ _⟩
  intro ds outs h
  unfold q11 at h
  split at h
  · simp only [Option.some.injEq, Prod.mk.injEq] at h; obtain ⟨hg, h⟩ := h; cases h; exact f11_spec _ _ hg
  · cases h
/-! ### loop.example/g00465/laws.toRec -/
noncomputable def f56c : Code := (Try.f56.body).getD .skip
def f56k : Nat → Kp := kat [⟨[1, 2], []⟩, ⟨[1, 2, 3], []⟩, ⟨[1, 2, 3], []⟩, ⟨[2, 3], []⟩, ⟨[2], []⟩]
noncomputable def f56e : Env := tab.env []
theorem f56_run {R : Type} (n : Nat) (k : List Dt → Option R) (a0 : RcdT) : evFn f56e f56k n f56c [.ro] [false] true [.cell 2 81] [81] [.d .rcd a0] k =
    (k [.d .rcd a0]) := by kernel_rfl
theorem f56_spec (a0 : RcdT) (hg : sm_rcd a0 = true) : ∃ keep rounds, ∀ {R : Type} (k : List Dt → Option R), evFn f56e keep rounds f56c [.ro] [false] true [.cell 2 81] [81] [.d .rcd a0] k = k [.d .rcd a0] := by
  exact ⟨f56k, 0, fun k => f56_run 0 k a0⟩

noncomputable def q56 : List Dt → Option (Bool × List Dt)
  | [.d .rcd a0] => some ((sm_rcd a0), [.d .rcd a0])
  | _ => none
noncomputable def s56 : Gm.Spec := Gm.Spec.of [.ro] [false] true q56
theorem good56 : Gm.Good Try.prog (56, s56) := by
  have hl : ∀ x ∈ ([] : List (Nat × Gm.Spec)), Gm.Good Try.prog x := fun _ h => by cases h
  refine ⟨⟨spec_ok (tab_ok.env hl) (tab.natl hl) Try.func56 (by kernel_rfl : Try.f56.body = some f56c) [81] (by kernel_rfl) ?_, _, Try.func56, by kernel_rfl, of_decide_eq_true (by kernel_rfl)⟩, Gm.Spec.of_natl _ _ _ _⟩
  intro ds outs h
  unfold q56 at h
  split at h
  · simp only [Option.some.injEq, Prod.mk.injEq] at h; obtain ⟨hg, h⟩ := h; cases h; exact f56_spec _ hg
  · cases h
/-! ### loop.example/g00465/laws.toRecS -/
noncomputable def f32c : Code := (Try.f32.body).getD .skip
def f32k : Nat → Kp := kat [⟨[0], []⟩, ⟨[0, 3], []⟩, ⟨[0, 3, 4], []⟩, ⟨[0, 3, 4, 11], []⟩, ⟨[0, 3, 4], []⟩, ⟨[0, 3, 4], []⟩, ⟨[2], []⟩]
noncomputable def f32e : Env := tab.env [(56, s56)]
noncomputable def f32L0 {R : Type} (n : Nat) (x0 : Int → Bool → (List RcdT) → Option R) (vs0 : List RcdT) : Nat → Int → (List RcdT) → Option R
  | 0, _, _ => none
  | m + 1, vs4, vr448 =>
    (cond (decide (vs4 < (vs0.length : Int)))
      (cond ((decide ((0 : Int) ≤ vs4)) && (decide (vs4 < (vs0.length : Int))))
        (cond (sm_rcd (atI (t := .rcd) vs0 (Int.toNat vs4)))
          (cond ((decide ((0 : Int) ≤ vs4)) && (decide (vs4 < (vr448.length : Int))))
            (f32L0 n x0 vs0 m (IntKind.wrap .i64 (vs4 + (1 : Int))) (vr448.set (Int.toNat vs4) (atI (t := .rcd) vs0 (Int.toNat vs4))))
            none)
          none)
        none)
      (x0 vs4 (decide (vs4 < (vs0.length : Int))) vr448))
theorem f32L0_b {R : Type} (n : Nat) (k' : Ex → St → Option R) (vs0 : List RcdT) (vs4 : Int) (vr448 : List RcdT) : ev f32e f32k n (cAt [1,1,0,1,0,0] f32c) ⟨[(0, .c (.one (.ro .rcd vs0))), (3, .c (.one (.h 448 0 0 []))), (4, .c (.one (.v (.int .i64 vs4))))], [], [(448, .live ⟨.rcd, .deep, 0, [], vr448⟩)]⟩ k' =
    (cond (decide (vs4 < (vs0.length : Int)))
    (cond ((decide ((0 : Int) ≤ vs4)) && (decide (vs4 < (vs0.length : Int))))
      (cond (sm_rcd (atI (t := .rcd) vs0 (Int.toNat vs4)))
        (cond ((decide ((0 : Int) ≤ vs4)) && (decide (vs4 < (vr448.length : Int))))
          (k' .normal ⟨[(0, .c (.one (.ro .rcd vs0))), (3, .c (.one (.h 448 0 0 []))), (4, .c (.one (.v (.int .i64 (IntKind.wrap .i64 (vs4 + (1 : Int)))))))], [], [(448, .live ⟨.rcd, .deep, 0, [], (vr448.set (Int.toNat vs4) (atI (t := .rcd) vs0 (Int.toNat vs4)))⟩)]⟩)
          none)
        none)
      none)
    (k' (.exit 0) ⟨[(0, .c (.one (.ro .rcd vs0))), (3, .c (.one (.h 448 0 0 []))), (4, .c (.one (.v (.int .i64 vs4)))), (11, .c (.one (.v (.bool (decide (vs4 < (vs0.length : Int)))))))], [], [(448, .live ⟨.rcd, .deep, 0, [], vr448⟩)]⟩)) := by kernel_rfl
theorem f32L0_eq {R : Type} (n : Nat) (k' : Ex → St → Option R) (vs0 : List RcdT) : ∀ (m : Nat) (vs4 : Int) (vr448 : List RcdT), iter (fun st k => ev f32e f32k n (cAt [1,1,0,1,0,0] f32c) st k) m ⟨[(0, .c (.one (.ro .rcd vs0))), (3, .c (.one (.h 448 0 0 []))), (4, .c (.one (.v (.int .i64 vs4))))], [], [(448, .live ⟨.rcd, .deep, 0, [], vr448⟩)]⟩ k' = f32L0 n (fun (xvs4 : Int) (xvs11 : Bool) (xvr448 : List RcdT) => k' (.exit 0) ⟨[(0, .c (.one (.ro .rcd vs0))), (3, .c (.one (.h 448 0 0 []))), (4, .c (.one (.v (.int .i64 xvs4)))), (11, .c (.one (.v (.bool xvs11))))], [], [(448, .live ⟨.rcd, .deep, 0, [], xvr448⟩)]⟩) vs0 m vs4 vr448 := by
  intro m; induction m with
  | zero => intros; rfl
  | succ m ih =>
    intro vs4 vr448
    simp only [iter]
    rw [f32L0_b]
    simp only [ih, f32L0]

noncomputable def f32K0 {R : Type} (n : Nat) (k' : Ex → St → Option R) : Ex → St → Option R := (blockK 0 (seqK f32e f32k n (cAt [1,1,1] f32c) k'))
theorem f32K0_x0 {R : Type} (n : Nat) (k : List Dt → Option R) (a0 : List RcdT) (vs0 : List RcdT) (xvs4 : Int) (xvs11 : Bool) (xvr448 : List RcdT) : f32K0 n (exitK f32e [.ro] [false] true [.tmp 2] [34] [.d (.sl .rcd) a0] k) (.exit 0) ⟨[(0, .c (.one (.ro .rcd vs0))), (3, .c (.one (.h 448 0 0 []))), (4, .c (.one (.v (.int .i64 xvs4)))), (11, .c (.one (.v (.bool xvs11))))], [], [(448, .live ⟨.rcd, .deep, 0, [], xvr448⟩)]⟩ =
    (k [.d (.sl .rcd) xvr448]) := by kernel_rfl

theorem f32_run {R : Type} (n : Nat) (k : List Dt → Option R) (a0 : List RcdT) : evFn f32e f32k n f32c [.ro] [false] true [.tmp 2] [34] [.d (.sl .rcd) a0] k =
    (cond ((decide ((a0.length : Int) = (a0.length : Int))) && ((decide ((0 : Int) ≤ (a0.length : Int))) && (decide ((a0.length : Int) ≤ (LIM : Int)))))
    (f32L0 n (fun (xvs4 : Int) (xvs11 : Bool) (xvr448 : List RcdT) =>
      (k [.d (.sl .rcd) xvr448])) a0 n (0 : Int) (List.replicate (Int.toNat (a0.length : Int)) (⟨(0 : Int), (0 : Int)⟩ : RcdT)))
    none) := by
  refine Eq.trans (b := (cond ((decide ((a0.length : Int) = (a0.length : Int))) && ((decide ((0 : Int) ≤ (a0.length : Int))) && (decide ((a0.length : Int) ≤ (LIM : Int)))))
    (iter (fun st k => ev f32e f32k n (cAt [1,1,0,1,0,0] f32c) st k) n ⟨[(0, .c (.one (.ro .rcd a0))), (3, .c (.one (.h 448 0 0 []))), (4, .c (.one (.v (.int .i64 (0 : Int)))))], [], [(448, .live ⟨.rcd, .deep, 0, [], (List.replicate (Int.toNat (a0.length : Int)) (⟨(0 : Int), (0 : Int)⟩ : RcdT))⟩)]⟩ (f32K0 n (exitK f32e [.ro] [false] true [.tmp 2] [34] [.d (.sl .rcd) a0] k)))
    none)) (by kernel_rfl) ?_
  simp only [f32L0_eq, f32K0_x0]
theorem f32_spec (a0 : List RcdT) (hg : smL sm_rcd a0 = true) : ∃ keep rounds, ∀ {R : Type} (k : List Dt → Option R), evFn f32e keep rounds f32c [.ro] [false] true [.tmp 2] [34] [.d (.sl .rcd) a0] k = k [.d (.sl .rcd) a0] := by
  have hl : a0.length ≤ 1048576 := smL_len hg
  have hs := smL_all hg
  refine ⟨f32k, a0.length + 1, fun k => ?_⟩
  rw [f32_run, mkOk hl]
  simp only [cond_true]
  have := loop_copy (xs := a0) (f := fun x => x) (F := fun m j out => f32L0 (a0.length + 1) (fun (xvs4 : Int) (xvs11 : Bool) (xvr448 : List RcdT) => (k [.d (.sl .rcd) xvr448])) a0 m (j : Int) out) (good := fun out => k [.d (.sl .rcd) out]) (⟨(0 : Int), (0 : Int)⟩ : RcdT)
    (fun m j out x hx hl' => by
      obtain ⟨h1, h0, hw, ht⟩ := idx (lt_of_get hx) (by omega)
      obtain ⟨h2, _, _, _⟩ := idx (show j < out.length by rw [hl']; exact lt_of_get hx) (by omega)
      have hx2 := List.all_eq_true.1 hs x (List.mem_of_getElem? hx)
      simp only [f32L0, h1, h0, h2, hw, ht, atI_of (t := .rcd) hx, Bool.and_self, cond_true, hx2])
    (fun m out => by simp only [f32L0, idxE, cond_false]) a0.length 0 (a0.length + 1) (by omega) (by omega)
  simpa using this

noncomputable def q32 : List Dt → Option (Bool × List Dt)
  | [.d (.sl .rcd) a0] => some ((smL sm_rcd a0), [.d (.sl .rcd) a0])
  | _ => none
noncomputable def s32 : Gm.Spec := Gm.Spec.of [.ro] [false] true q32
theorem good32 : Gm.Good Try.prog (32, s32) := by
  have hl : ∀ x ∈ [(56, s56)], Gm.Good Try.prog x := List.forall_mem_cons.2 ⟨good56, List.forall_mem_nil _⟩
  refine ⟨⟨spec_ok (tab_ok.env hl) (tab.natl hl) Try.func32 (by kernel_rfl : Try.f32.body = some f32c) [34] (by kernel_rfl) ?_, _, Try.func32, by kernel_rfl, of_decide_eq_true (by kernel_rfl)⟩, Gm.Spec.of_natl _ _ _ _⟩
  intro ds outs h
  unfold q32 at h
  split at h
  · simp only [Option.some.injEq, Prod.mk.injEq] at h; obtain ⟨hg, h⟩ := h; cases h; exact f32_spec _ hg
  · cases h
/-! ### loop.example/g00465/laws.toScale -/
noncomputable def f13c : Code := (Try.f13.body).getD .skip
def f13k : Nat → Kp := kat [⟨[1, 2], []⟩, ⟨[1, 2, 3], []⟩, ⟨[1, 2, 3], []⟩, ⟨[1, 2, 3], []⟩, ⟨[2, 3], []⟩, ⟨[2], []⟩]
noncomputable def f13e : Env := tab.env [(32, s32)]
theorem f13_run {R : Type} (n : Nat) (k : List Dt → Option R) (a0 : ScaleT) : evFn f13e f13k n f13c [.ro] [false] true [.cell 2 36] [36] [.d .scale a0] k =
    (cond (smL sm_rcd (ScaleT.recs a0))
    (k [.d .scale a0])
    none) := by kernel_rfl
theorem f13_spec (a0 : ScaleT) (hg : sm_scale a0 = true) : ∃ keep rounds, ∀ {R : Type} (k : List Dt → Option R), evFn f13e keep rounds f13c [.ro] [false] true [.cell 2 36] [36] [.d .scale a0] k = k [.d .scale a0] := by
  simp only [sm_scale, Bool.and_eq_true] at hg
  refine ⟨f13k, 0, fun k => ?_⟩
  rw [f13_run]
  simp only [hg, cond_true]

noncomputable def q13 : List Dt → Option (Bool × List Dt)
  | [.d .scale a0] => some ((sm_scale a0), [.d .scale a0])
  | _ => none
noncomputable def s13 : Gm.Spec := Gm.Spec.of [.ro] [false] true q13
theorem good13 : Gm.Good Try.prog (13, s13) := by
  have hl : ∀ x ∈ [(32, s32)], Gm.Good Try.prog x := List.forall_mem_cons.2 ⟨good32, List.forall_mem_nil _⟩
  refine ⟨⟨spec_ok (tab_ok.env hl) (tab.natl hl) Try.func13 (by kernel_rfl : Try.f13.body = some f13c) [36] (by kernel_rfl) ?_, _, Try.func13, by kernel_rfl, of_decide_eq_true (by kernel_rfl)⟩, Gm.Spec.of_natl _ _ _ _⟩
  intro ds outs h
  unfold q13 at h
  split at h
  · simp only [Option.some.injEq, Prod.mk.injEq] at h; obtain ⟨hg, h⟩ := h; cases h; exact f13_spec _ hg
  · cases h
/-! ### loop.example/g00465/laws.eqRec -/
noncomputable def f57c : Code := (Try.f57.body).getD .skip
def f57k : Nat → Kp := kat [⟨[2, 3], []⟩, ⟨[2, 3, 9], []⟩, ⟨[4], []⟩, ⟨[14], []⟩, ⟨[4], []⟩, ⟨[4], []⟩]
noncomputable def f57e : Env := tab.env []
theorem f57_run {R : Type} (n : Nat) (k : List Dt → Option R) (a0 : RcdT) (a1 : RcdT) : evFn f57e f57k n f57c [.ro, .ro] [false] true [.tmp 4] [4] [.d .rcd a0, .d .rcd a1] k =
    (cond ((RcdT.time a0) != (RcdT.time a1))
    (k [.d .bool false])
    (cond ((RcdT.n a0) != (RcdT.n a1))
      (k [.d .bool false])
      (k [.d .bool true]))) := by kernel_rfl
theorem f57_spec (a0 : RcdT) (a1 : RcdT) (hg : sm2 sm_rcd a0 a1 = true) : ∃ keep rounds, ∀ {R : Type} (k : List Dt → Option R), evFn f57e keep rounds f57c [.ro, .ro] [false] true [.tmp 4] [4] [.d .rcd a0, .d .rcd a1] k = k [.d .bool (eqD a0 a1)] := by
  simp only [sm2, sm_rcd, Bool.and_eq_true] at hg
  refine ⟨f57k, 0, fun k => ?_⟩
  rw [f57_run, eqD_rcd]
  try simp only [bne]
  cases (a0.time == a1.time) <;> cases (a0.n == a1.n) <;> rfl

noncomputable def q57 : List Dt → Option (Bool × List Dt)
  | [.d .rcd a0, .d .rcd a1] => some ((sm2 sm_rcd a0 a1), [.d .bool (eqD a0 a1)])
  | _ => none
noncomputable def s57 : Gm.Spec := Gm.Spec.of [.ro, .ro] [false] true q57
theorem good57 : Gm.Good Try.prog (57, s57) := by
  have hl : ∀ x ∈ ([] : List (Nat × Gm.Spec)), Gm.Good Try.prog x := fun _ h => by cases h
  refine ⟨⟨spec_ok (tab_ok.env hl) (tab.natl hl) Try.func57 (by kernel_rfl : Try.f57.body = some f57c) [4] (by kernel_rfl) ?_, _, Try.func57, by kernel_rfl, of_decide_eq_true (by kernel_rfl)⟩, Gm.Spec.of_natl _ _ _ _⟩
  intro ds outs h
  unfold q57 at h
  split at h
  · simp only [Option.some.injEq, Prod.mk.injEq] at h; obtain ⟨hg, h⟩ := h; cases h; exact f57_spec _ _ hg
  · cases h
/-! ### loop.example/g00465/laws.eqRecS -/
noncomputable def f33c : Code := (Try.f33.body).getD .skip
def f33k : Nat → Kp := kat [⟨[0, 1], []⟩, ⟨[0, 1, 10], []⟩, ⟨[4], []⟩, ⟨[0, 1, 5], []⟩, ⟨[0, 1, 5, 14], []⟩, ⟨[0, 1, 5], []⟩, ⟨[0, 1, 5, 26], []⟩, ⟨[4], []⟩, ⟨[4], []⟩]
noncomputable def f33e : Env := tab.env [(57, s57)]
noncomputable def f33L0 {R : Type} (n : Nat) (x0 : Option R) (x1 : Int → Bool → Option R) (vs0 : List RcdT) (vs1 : List RcdT) : Nat → Int → Option R
  | 0, _ => none
  | m + 1, vs5 =>
    (cond (decide (vs5 < (vs0.length : Int)))
      (cond ((decide ((0 : Int) ≤ vs5)) && (decide (vs5 < (vs0.length : Int))))
        (cond ((decide ((0 : Int) ≤ vs5)) && (decide (vs5 < (vs1.length : Int))))
          (cond (sm2 sm_rcd (atI (t := .rcd) vs0 (Int.toNat vs5)) (atI (t := .rcd) vs1 (Int.toNat vs5)))
            (cond (!(eqD (atI (t := .rcd) vs0 (Int.toNat vs5)) (atI (t := .rcd) vs1 (Int.toNat vs5))))
              (x0)
              (f33L0 n x0 x1 vs0 vs1 m (IntKind.wrap .i64 (vs5 + (1 : Int)))))
            none)
          none)
        none)
      (x1 vs5 (decide (vs5 < (vs0.length : Int)))))
theorem f33L0_b {R : Type} (n : Nat) (k' : Ex → St → Option R) (vs0 : List RcdT) (vs1 : List RcdT) (vs5 : Int) : ev f33e f33k n (cAt [1,1,0,1,0,0] f33c) ⟨[(0, .c (.one (.ro .rcd vs0))), (1, .c (.one (.ro .rcd vs1))), (5, .c (.one (.v (.int .i64 vs5))))], [], []⟩ k' =
    (cond (decide (vs5 < (vs0.length : Int)))
    (cond ((decide ((0 : Int) ≤ vs5)) && (decide (vs5 < (vs0.length : Int))))
      (cond ((decide ((0 : Int) ≤ vs5)) && (decide (vs5 < (vs1.length : Int))))
        (cond (sm2 sm_rcd (atI (t := .rcd) vs0 (Int.toNat vs5)) (atI (t := .rcd) vs1 (Int.toNat vs5)))
          (cond (!(eqD (atI (t := .rcd) vs0 (Int.toNat vs5)) (atI (t := .rcd) vs1 (Int.toNat vs5))))
            (k' .ret ⟨[(4, .c (.one (.v (.bool false))))], [], []⟩)
            (k' .normal ⟨[(0, .c (.one (.ro .rcd vs0))), (1, .c (.one (.ro .rcd vs1))), (5, .c (.one (.v (.int .i64 (IntKind.wrap .i64 (vs5 + (1 : Int)))))))], [], []⟩))
          none)
        none)
      none)
    (k' (.exit 0) ⟨[(0, .c (.one (.ro .rcd vs0))), (1, .c (.one (.ro .rcd vs1))), (5, .c (.one (.v (.int .i64 vs5)))), (14, .c (.one (.v (.bool (decide (vs5 < (vs0.length : Int)))))))], [], []⟩)) := by kernel_rfl
theorem f33L0_eq {R : Type} (n : Nat) (k' : Ex → St → Option R) (vs0 : List RcdT) (vs1 : List RcdT) : ∀ (m : Nat) (vs5 : Int), iter (fun st k => ev f33e f33k n (cAt [1,1,0,1,0,0] f33c) st k) m ⟨[(0, .c (.one (.ro .rcd vs0))), (1, .c (.one (.ro .rcd vs1))), (5, .c (.one (.v (.int .i64 vs5))))], [], []⟩ k' = f33L0 n (k' .ret ⟨[(4, .c (.one (.v (.bool false))))], [], []⟩) (fun (xvs5 : Int) (xvs14 : Bool) => k' (.exit 0) ⟨[(0, .c (.one (.ro .rcd vs0))), (1, .c (.one (.ro .rcd vs1))), (5, .c (.one (.v (.int .i64 xvs5)))), (14, .c (.one (.v (.bool xvs14))))], [], []⟩) vs0 vs1 m vs5 := by
  intro m; induction m with
  | zero => intros; rfl
  | succ m ih =>
    intro vs5
    simp only [iter]
    rw [f33L0_b]
    simp only [ih, f33L0]

noncomputable def f33K0 {R : Type} (n : Nat) (k' : Ex → St → Option R) : Ex → St → Option R := (blockK 0 (seqK f33e f33k n (cAt [1,1,1] f33c) k'))
theorem f33K0_x0 {R : Type} (n : Nat) (k : List Dt → Option R) (a0 : List RcdT) (a1 : List RcdT)  : f33K0 n (exitK f33e [.ro, .ro] [false] true [.tmp 4] [4] [.d (.sl .rcd) a0, .d (.sl .rcd) a1] k) .ret ⟨[(4, .c (.one (.v (.bool false))))], [], []⟩ =
    (k [.d .bool false]) := by kernel_rfl
theorem f33K0_x1 {R : Type} (n : Nat) (k : List Dt → Option R) (a0 : List RcdT) (a1 : List RcdT) (vs0 : List RcdT) (vs1 : List RcdT) (xvs5 : Int) (xvs14 : Bool) : f33K0 n (exitK f33e [.ro, .ro] [false] true [.tmp 4] [4] [.d (.sl .rcd) a0, .d (.sl .rcd) a1] k) (.exit 0) ⟨[(0, .c (.one (.ro .rcd vs0))), (1, .c (.one (.ro .rcd vs1))), (5, .c (.one (.v (.int .i64 xvs5)))), (14, .c (.one (.v (.bool xvs14))))], [], []⟩ =
    (k [.d .bool true]) := by kernel_rfl

theorem f33_run {R : Type} (n : Nat) (k : List Dt → Option R) (a0 : List RcdT) (a1 : List RcdT) : evFn f33e f33k n f33c [.ro, .ro] [false] true [.tmp 4] [4] [.d (.sl .rcd) a0, .d (.sl .rcd) a1] k =
    (cond ((a0.length : Int) != (a1.length : Int))
    (k [.d .bool false])
    (f33L0 n (k [.d .bool false]) (fun (xvs5 : Int) (xvs14 : Bool) =>
      (k [.d .bool true])) a0 a1 n (0 : Int))) := by
  refine Eq.trans (b := (cond ((a0.length : Int) != (a1.length : Int))
    (k [.d .bool false])
    (iter (fun st k => ev f33e f33k n (cAt [1,1,0,1,0,0] f33c) st k) n ⟨[(0, .c (.one (.ro .rcd a0))), (1, .c (.one (.ro .rcd a1))), (5, .c (.one (.v (.int .i64 (0 : Int)))))], [], []⟩ (f33K0 n (exitK f33e [.ro, .ro] [false] true [.tmp 4] [4] [.d (.sl .rcd) a0, .d (.sl .rcd) a1] k))))) (by kernel_rfl) ?_
  simp only [f33L0_eq, f33K0_x0, f33K0_x1]
theorem f33_spec (a0 : List RcdT) (a1 : List RcdT) (hg : sm2 (smL sm_rcd) a0 a1 = true) : ∃ keep rounds, ∀ {R : Type} (k : List Dt → Option R), evFn f33e keep rounds f33c [.ro, .ro] [false] true [.tmp 4] [4] [.d (.sl .rcd) a0, .d (.sl .rcd) a1] k = k [.d .bool (eqD a0 a1)] := by
  simp only [sm2, Bool.and_eq_true] at hg
  obtain ⟨hg0, hg1⟩ := hg
  have hl : a0.length ≤ 1048576 := smL_len hg0
  refine ⟨f33k, a0.length + 1, fun k => ?_⟩
  rw [f33_run]
  by_cases hc : a0.length = a1.length
  · have hc' : ((a0.length : Int) != (a1.length : Int)) = false := by simp [hc]
    simp only [hc', cond_false]
    refine Eq.trans (loop_idx (n := a0.length) (F := fun m i => f33L0 (a0.length + 1) _ _ a0 a1 m i) (p := fun j => eqD (atI (t := .rcd) a0 j) (atI (t := .rcd) a1 j)) (good := k [.d .bool true]) (bad := k [.d .bool false])
      (fun m j hj => ?_) (fun m => by simp only [f33L0, idxE, cond_false]) a0.length 0 (a0.length + 1) (by omega) (by omega)) ?_
    · obtain ⟨h1, h0, hw, ht⟩ := idx hj (by omega)
      obtain ⟨h2, _, _, _⟩ := idx (show j < a1.length by omega) (by omega)
      have ha := smL_at (t := .rcd) hg0 hj
      have hb := smL_at (t := .rcd) hg1 (show j < a1.length by omega)
      simp only [f33L0, h1, h0, h2, hw, ht, Bool.and_self, cond_true, sm2, ha, hb]
      cases eqD (atI (t := .rcd) a0 j) (atI (t := .rcd) a1 j) <;> rfl
    · rw [allN_eq hc (fun j x y hx hy => by rw [atI_of (t := .rcd) hx, atI_of (t := .rcd) hy])]
      cases eqD a0 a1 <;> rfl
  · simp only [bneLen hc, cond_true]
    rw [eqD_ne (fun e => hc (by rw [e]))]

noncomputable def q33 : List Dt → Option (Bool × List Dt)
  | [.d (.sl .rcd) a0, .d (.sl .rcd) a1] => some ((sm2 (smL sm_rcd) a0 a1), [.d .bool (eqD a0 a1)])
  | _ => none
noncomputable def s33 : Gm.Spec := Gm.Spec.of [.ro, .ro] [false] true q33
theorem good33 : Gm.Good Try.prog (33, s33) := by
  have hl : ∀ x ∈ [(57, s57)], Gm.Good Try.prog x := List.forall_mem_cons.2 ⟨good57, List.forall_mem_nil _⟩
  refine ⟨⟨spec_ok (tab_ok.env hl) (tab.natl hl) Try.func33 (by kernel_rfl : Try.f33.body = some f33c) [4] (by kernel_rfl) ?_, _, Try.func33, by kernel_rfl, of_decide_eq_true (by kernel_rfl)⟩, Gm.Spec.of_natl _ _ _ _⟩
  intro ds outs h
  unfold q33 at h
  split at h
  · simp only [Option.some.injEq, Prod.mk.injEq] at h; obtain ⟨hg, h⟩ := h; cases h; exact f33_spec _ _ hg
  · cases h
/-! ### loop.example/g00465/laws.eqScale -/
noncomputable def f15c : Code := (Try.f15.body).getD .skip
def f15k : Nat → Kp := kat [⟨[2, 3], []⟩, ⟨[2, 3, 9], []⟩, ⟨[4], []⟩, ⟨[2, 3, 14], []⟩, ⟨[4], []⟩, ⟨[20], []⟩, ⟨[4], []⟩, ⟨[4], []⟩]
noncomputable def f15e : Env := tab.env [(33, s33)]
theorem f15_run {R : Type} (n : Nat) (k : List Dt → Option R) (a0 : ScaleT) (a1 : ScaleT) : evFn f15e f15k n f15c [.ro, .ro] [false] true [.tmp 4] [4] [.d .scale a0, .d .scale a1] k =
    (cond (!(sEq (ScaleT.name a0) (ScaleT.name a1)))
    (k [.d .bool false])
    (cond ((ScaleT.now a0) != (ScaleT.now a1))
      (k [.d .bool false])
      (cond (sm2 (smL sm_rcd) (ScaleT.recs a0) (ScaleT.recs a1))
        (cond (!(eqD (ScaleT.recs a0) (ScaleT.recs a1)))
          (k [.d .bool false])
          (k [.d .bool true]))
        none))) := by kernel_rfl
theorem f15_spec (a0 : ScaleT) (a1 : ScaleT) (hg : sm2 sm_scale a0 a1 = true) : ∃ keep rounds, ∀ {R : Type} (k : List Dt → Option R), evFn f15e keep rounds f15c [.ro, .ro] [false] true [.tmp 4] [4] [.d .scale a0, .d .scale a1] k = k [.d .bool (eqD a0 a1)] := by
  simp only [sm2, sm_scale, Bool.and_eq_true] at hg
  refine ⟨f15k, 0, fun k => ?_⟩
  rw [f15_run, eqD_scale]
  simp only [bne, sm2, hg, Bool.and_self, Bool.true_and, cond_true]
  cases sEq a0.name a1.name <;> cases (a0.now == a1.now) <;> cases eqD a0.recs a1.recs <;> rfl

noncomputable def q15 : List Dt → Option (Bool × List Dt)
  | [.d .scale a0, .d .scale a1] => some ((sm2 sm_scale a0 a1), [.d .bool (eqD a0 a1)])
  | _ => none
noncomputable def s15 : Gm.Spec := Gm.Spec.of [.ro, .ro] [false] true q15
theorem good15 : Gm.Good Try.prog (15, s15) := by
  have hl : ∀ x ∈ [(33, s33)], Gm.Good Try.prog x := List.forall_mem_cons.2 ⟨good33, List.forall_mem_nil _⟩
  refine ⟨⟨spec_ok (tab_ok.env hl) (tab.natl hl) Try.func15 (by kernel_rfl : Try.f15.body = some f15c) [4] (by kernel_rfl) ?_, _, Try.func15, by kernel_rfl, of_decide_eq_true (by kernel_rfl)⟩, Gm.Spec.of_natl _ _ _ _⟩
  intro ds outs h
  unfold q15 at h
  split at h
  · simp only [Option.some.injEq, Prod.mk.injEq] at h; obtain ⟨hg, h⟩ := h; cases h; exact f15_spec _ _ hg
  · cases h
/-! ### loop.example/g00465/laws.szMetric -/
noncomputable def f58c : Code := (Try.f58.body).getD .skip
def f58k : Nat → Kp := kat [⟨[1, 2], []⟩, ⟨[1], []⟩, ⟨[1, 11], []⟩, ⟨[4], []⟩, ⟨[4], []⟩]
noncomputable def f58e : Env := tab.env []
theorem f58_run {R : Type} (n : Nat) (k : List Dt → Option R) (a0 : MetricT) (a1 : Int) : evFn f58e f58k n f58c [.ro, .ro] [false] true [.tmp 4] [3] [.d .metric a0, .d (.i .i64) a1] k =
    (cond (decide ((IntKind.wrap .i64 (a1 - (ByteArray.size (MetricT.name a0) : Int))) < (0 : Int)))
    (k [.d (.i .i64) (-1 : Int)])
    (k [.d (.i .i64) (IntKind.wrap .i64 (a1 - (ByteArray.size (MetricT.name a0) : Int)))])) := by kernel_rfl
theorem f58_spec (a0 : MetricT) (a1 : Int) (hg : gz_metric a0 a1 = true) : ∃ keep rounds, ∀ {R : Type} (k : List Dt → Option R), evFn f58e keep rounds f58c [.ro, .ro] [false] true [.tmp 4] [3] [.d .metric a0, .d (.i .i64) a1] k = k [.d (.i .i64) (z_metric a0 a1)] := by
  simp only [gz_metric, ok_metric, Bool.and_eq_true, okN_iff] at hg
  obtain ⟨⟨hf_name, hf_kind, hf_goal⟩, hn1, hn2⟩ := hg
  have hf_nameb : a0.name.size ≤ 9223372036854775807 := bleN hf_name
  have eN : szN_metric a0 = a0.name.size := rfl
  refine ⟨f58k, 0, fun k => ?_⟩
  rw [f58_run]
  show _ = k [.d (.i .i64) (z_metric a0 a1)]
  unfold z_metric
  rw [wrap_id (x := a1 - ((a0.name.size : Nat) : Int)) (by omega) (by omega)]
  by_cases h1 : a1 - ((a0.name.size : Nat) : Int) < 0
  · simp only [h1, decide_true, cond_true]; rw [szI_neg (by omega)]
  simp only [h1, decide_false, cond_false]
  rw [szI_pos (by omega)]
  first
    | rfl
    | rw [show (a1 - ((a0.name.size : Nat) : Int)) = a1 - ((szN_metric a0 : Nat) : Int) by omega]

noncomputable def q58 : List Dt → Option (Bool × List Dt)
  | [.d .metric a0, .d (.i .i64) a1] => some ((gz_metric a0 a1), [.d (.i .i64) (z_metric a0 a1)])
  | _ => none
noncomputable def s58 : Gm.Spec := Gm.Spec.of [.ro, .ro] [false] true q58
theorem good58 : Gm.Good Try.prog (58, s58) := by
  have hl : ∀ x ∈ ([] : List (Nat × Gm.Spec)), Gm.Good Try.prog x := fun _ h => by cases h
  refine ⟨⟨spec_ok (tab_ok.env hl) (tab.natl hl) Try.func58 (by kernel_rfl : Try.f58.body = some f58c) [3] (by kernel_rfl) ?_, _, Try.func58, by kernel_rfl, of_decide_eq_true (by kernel_rfl)⟩, Gm.Spec.of_natl _ _ _ _⟩
  intro ds outs h
  unfold q58 at h
  split at h
  · simp only [Option.some.injEq, Prod.mk.injEq] at h; obtain ⟨hg, h⟩ := h; cases h; exact f58_spec _ _ hg
  · cases h
/-! ### loop.example/g00465/laws.szMetricS -/
noncomputable def f34c : Code := (Try.f34.body).getD .skip
def f34k : Nat → Kp := kat [⟨[0, 1], []⟩, ⟨[0, 1], []⟩, ⟨[0, 1, 11], []⟩, ⟨[4], []⟩, ⟨[0, 1, 5], []⟩, ⟨[0, 1, 5, 15], []⟩, ⟨[0, 1, 5], []⟩, ⟨[0, 1, 5], []⟩, ⟨[0, 1, 5, 25], []⟩, ⟨[4], []⟩, ⟨[4], []⟩]
noncomputable def f34e : Env := tab.env [(58, s58)]
noncomputable def f34L0 {R : Type} (n : Nat) (x0 : Option R) (x1 : Int → Int → Bool → Option R) (vs0 : List MetricT) : Nat → Int → Int → Option R
  | 0, _, _ => none
  | m + 1, vs1, vs5 =>
    (cond (decide (vs5 < (vs0.length : Int)))
      (cond ((decide ((0 : Int) ≤ vs5)) && (decide (vs5 < (vs0.length : Int))))
        (cond (gz_metric (atI (t := .metric) vs0 (Int.toNat vs5)) vs1)
          (cond (decide ((z_metric (atI (t := .metric) vs0 (Int.toNat vs5)) vs1) < (0 : Int)))
            (x0)
            (f34L0 n x0 x1 vs0 m (z_metric (atI (t := .metric) vs0 (Int.toNat vs5)) vs1) (IntKind.wrap .i64 (vs5 + (1 : Int)))))
          none)
        none)
      (x1 vs1 vs5 (decide (vs5 < (vs0.length : Int)))))
theorem f34L0_b {R : Type} (n : Nat) (k' : Ex → St → Option R) (vs0 : List MetricT) (vs1 : Int) (vs5 : Int) : ev f34e f34k n (cAt [1,1,1,0,1,0,0] f34c) ⟨[(0, .c (.one (.ro .metric vs0))), (1, .c (.one (.v (.int .i64 vs1)))), (5, .c (.one (.v (.int .i64 vs5))))], [], []⟩ k' =
    (cond (decide (vs5 < (vs0.length : Int)))
    (cond ((decide ((0 : Int) ≤ vs5)) && (decide (vs5 < (vs0.length : Int))))
      (cond (gz_metric (atI (t := .metric) vs0 (Int.toNat vs5)) vs1)
        (cond (decide ((z_metric (atI (t := .metric) vs0 (Int.toNat vs5)) vs1) < (0 : Int)))
          (k' .ret ⟨[(4, .c (.one (.v (.int .i64 (-1 : Int)))))], [], []⟩)
          (k' .normal ⟨[(0, .c (.one (.ro .metric vs0))), (1, .c (.one (.v (.int .i64 (z_metric (atI (t := .metric) vs0 (Int.toNat vs5)) vs1))))), (5, .c (.one (.v (.int .i64 (IntKind.wrap .i64 (vs5 + (1 : Int)))))))], [], []⟩))
        none)
      none)
    (k' (.exit 0) ⟨[(0, .c (.one (.ro .metric vs0))), (1, .c (.one (.v (.int .i64 vs1)))), (5, .c (.one (.v (.int .i64 vs5)))), (15, .c (.one (.v (.bool (decide (vs5 < (vs0.length : Int)))))))], [], []⟩)) := by kernel_rfl
theorem f34L0_eq {R : Type} (n : Nat) (k' : Ex → St → Option R) (vs0 : List MetricT) : ∀ (m : Nat) (vs1 : Int) (vs5 : Int), iter (fun st k => ev f34e f34k n (cAt [1,1,1,0,1,0,0] f34c) st k) m ⟨[(0, .c (.one (.ro .metric vs0))), (1, .c (.one (.v (.int .i64 vs1)))), (5, .c (.one (.v (.int .i64 vs5))))], [], []⟩ k' = f34L0 n (k' .ret ⟨[(4, .c (.one (.v (.int .i64 (-1 : Int)))))], [], []⟩) (fun (xvs1 : Int) (xvs5 : Int) (xvs15 : Bool) => k' (.exit 0) ⟨[(0, .c (.one (.ro .metric vs0))), (1, .c (.one (.v (.int .i64 xvs1)))), (5, .c (.one (.v (.int .i64 xvs5)))), (15, .c (.one (.v (.bool xvs15))))], [], []⟩) vs0 m vs1 vs5 := by
  intro m; induction m with
  | zero => intros; rfl
  | succ m ih =>
    intro vs1 vs5
    simp only [iter]
    rw [f34L0_b]
    simp only [ih, f34L0]

noncomputable def f34K0 {R : Type} (n : Nat) (k' : Ex → St → Option R) : Ex → St → Option R := (blockK 0 (seqK f34e f34k n (cAt [1,1,1,1] f34c) k'))
theorem f34K0_x0 {R : Type} (n : Nat) (k : List Dt → Option R) (a0 : List MetricT) (a1 : Int)  : f34K0 n (exitK f34e [.ro, .ro] [false] true [.tmp 4] [3] [.d (.sl .metric) a0, .d (.i .i64) a1] k) .ret ⟨[(4, .c (.one (.v (.int .i64 (-1 : Int)))))], [], []⟩ =
    (k [.d (.i .i64) (-1 : Int)]) := by kernel_rfl
theorem f34K0_x1 {R : Type} (n : Nat) (k : List Dt → Option R) (a0 : List MetricT) (a1 : Int) (vs0 : List MetricT) (xvs1 : Int) (xvs5 : Int) (xvs15 : Bool) : f34K0 n (exitK f34e [.ro, .ro] [false] true [.tmp 4] [3] [.d (.sl .metric) a0, .d (.i .i64) a1] k) (.exit 0) ⟨[(0, .c (.one (.ro .metric vs0))), (1, .c (.one (.v (.int .i64 xvs1)))), (5, .c (.one (.v (.int .i64 xvs5)))), (15, .c (.one (.v (.bool xvs15))))], [], []⟩ =
    (k [.d (.i .i64) xvs1]) := by kernel_rfl

theorem f34_run {R : Type} (n : Nat) (k : List Dt → Option R) (a0 : List MetricT) (a1 : Int) : evFn f34e f34k n f34c [.ro, .ro] [false] true [.tmp 4] [3] [.d (.sl .metric) a0, .d (.i .i64) a1] k =
    (cond (decide ((IntKind.wrap .i64 (a1 - (a0.length : Int))) < (0 : Int)))
    (k [.d (.i .i64) (-1 : Int)])
    (f34L0 n (k [.d (.i .i64) (-1 : Int)]) (fun (xvs1 : Int) (xvs5 : Int) (xvs15 : Bool) =>
      (k [.d (.i .i64) xvs1])) a0 n (IntKind.wrap .i64 (a1 - (a0.length : Int))) (0 : Int))) := by
  refine Eq.trans (b := (cond (decide ((IntKind.wrap .i64 (a1 - (a0.length : Int))) < (0 : Int)))
    (k [.d (.i .i64) (-1 : Int)])
    (iter (fun st k => ev f34e f34k n (cAt [1,1,1,0,1,0,0] f34c) st k) n ⟨[(0, .c (.one (.ro .metric a0))), (1, .c (.one (.v (.int .i64 (IntKind.wrap .i64 (a1 - (a0.length : Int))))))), (5, .c (.one (.v (.int .i64 (0 : Int)))))], [], []⟩ (f34K0 n (exitK f34e [.ro, .ro] [false] true [.tmp 4] [3] [.d (.sl .metric) a0, .d (.i .i64) a1] k))))) (by kernel_rfl) ?_
  simp only [f34L0_eq, f34K0_x0, f34K0_x1]
theorem f34_spec (a0 : List MetricT) (a1 : Int) (hg : gzL_metric a0 a1 = true) : ∃ keep rounds, ∀ {R : Type} (k : List Dt → Option R), evFn f34e keep rounds f34c [.ro, .ro] [false] true [.tmp 4] [3] [.d (.sl .metric) a0, .d (.i .i64) a1] k = k [.d (.i .i64) (zL_metric a0 a1)] := by
  simp only [gzL_metric, okL, Bool.and_eq_true, okN_iff] at hg
  obtain ⟨⟨hl, hs⟩, hn⟩ := hg
  have hl : a0.length ≤ 9223372036854775807 := bleN hl
  refine ⟨f34k, a0.length + 1, fun k => ?_⟩
  rw [f34_run, wrap_id (x := a1 - (a0.length : Int)) (by omega) (by omega)]
  show _ = k [.d (.i .i64) (zL_metric a0 a1)]
  unfold zL_metric
  have eL : szL szN_metric a0 = a0.length + (a0.map szN_metric).sum := rfl
  by_cases hc : a1 - (a0.length : Int) < 0
  · simp only [hc, decide_true, cond_true]
    rw [szI_neg (by omega)]
  · simp only [hc, decide_false, cond_false]
    refine Eq.trans (loop_fold (xs := a0) (F := fun m j left => f34L0 (a0.length + 1) _ _ a0 m left (j : Int)) (step := szStep szN_metric)
      (out := fun _ => k [.d (.i .i64) (-1 : Int)]) (good := fun left => k [.d (.i .i64) left]) (fun n => 0 ≤ n ∧ n ≤ 1048576)
      (fun x n n' hx hn h => by
        unfold szStep at h
        split at h
        · cases h
        · cases h; omega)
      (fun m j n x hx hn => ?_)
      (fun m n hn => by simp only [f34L0, idxE, cond_false]) a0.length 0 (a0.length + 1) (a1 - (a0.length : Int)) (by omega) (by omega) (by omega)) ?_
    · obtain ⟨h1, h0, hw, ht⟩ := idx (lt_of_get hx) (by omega)
      have hx2 := List.all_eq_true.1 hs x (List.mem_of_getElem? hx)
      have hg2 : gz_metric x n = true := by simp only [gz_metric, Bool.and_eq_true, okN_iff]; exact ⟨hx2, by omega, by omega⟩
      have hz : z_metric x n = szI (szN_metric x) n := rfl
      simp only [f34L0, h1, h0, hw, ht, atI_of (t := .metric) hx, Bool.and_self, cond_true, hg2, hz]
      unfold szStep
      by_cases h : n - (szN_metric x : Int) < 0
      · rw [szI_neg h]; simp only [h, if_true, Sum.elim_inl]; rfl
      · rw [szI_pos h]; simp only [h, decide_false, cond_false, if_false, Sum.elim_inr]
    · rw [List.drop_zero, sz_fold _ _ _ (by omega)]
      by_cases h2 : a1 - (a0.length : Int) - ((a0.map szN_metric).sum : Nat) < 0
      · rw [if_pos h2, szI_neg (by omega)]; rfl
      · rw [if_neg h2, szI_pos (by omega)]
        simp only [Sum.elim_inr]
        rw [show a1 - (a0.length : Int) - ((a0.map szN_metric).sum : Nat) = a1 - (szL szN_metric a0 : Nat) by omega]

noncomputable def q34 : List Dt → Option (Bool × List Dt)
  | [.d (.sl .metric) a0, .d (.i .i64) a1] => some ((gzL_metric a0 a1), [.d (.i .i64) (zL_metric a0 a1)])
  | _ => none
noncomputable def s34 : Gm.Spec := Gm.Spec.of [.ro, .ro] [false] true q34
theorem good34 : Gm.Good Try.prog (34, s34) := by
  have hl : ∀ x ∈ [(58, s58)], Gm.Good Try.prog x := List.forall_mem_cons.2 ⟨good58, List.forall_mem_nil _⟩
  refine ⟨⟨spec_ok (tab_ok.env hl) (tab.natl hl) Try.func34 (by kernel_rfl : Try.f34.body = some f34c) [3] (by kernel_rfl) ?_, _, Try.func34, by kernel_rfl, of_decide_eq_true (by kernel_rfl)⟩, Gm.Spec.of_natl _ _ _ _⟩
  intro ds outs h
  unfold q34 at h
  split at h
  · simp only [Option.some.injEq, Prod.mk.injEq] at h; obtain ⟨hg, h⟩ := h; cases h; exact f34_spec _ _ hg
  · cases h
/-! ### loop.example/g00465/laws.szNote -/
noncomputable def f59c : Code := (Try.f59.body).getD .skip
def f59k : Nat → Kp := kat [⟨[1, 2], []⟩, ⟨[1, 2], []⟩, ⟨[1, 2, 11], []⟩, ⟨[4], []⟩, ⟨[1], []⟩, ⟨[1, 18], []⟩, ⟨[4], []⟩, ⟨[4], []⟩]
noncomputable def f59e : Env := tab.env []
theorem f59_run {R : Type} (n : Nat) (k : List Dt → Option R) (a0 : NoteT) (a1 : Int) : evFn f59e f59k n f59c [.ro, .ro] [false] true [.tmp 4] [3] [.d .note a0, .d (.i .i64) a1] k =
    (cond (decide ((IntKind.wrap .i64 (a1 - (ByteArray.size (NoteT.key a0) : Int))) < (0 : Int)))
    (k [.d (.i .i64) (-1 : Int)])
    (cond (decide ((IntKind.wrap .i64 ((IntKind.wrap .i64 (a1 - (ByteArray.size (NoteT.key a0) : Int))) - (ByteArray.size (NoteT.text a0) : Int))) < (0 : Int)))
      (k [.d (.i .i64) (-1 : Int)])
      (k [.d (.i .i64) (IntKind.wrap .i64 ((IntKind.wrap .i64 (a1 - (ByteArray.size (NoteT.key a0) : Int))) - (ByteArray.size (NoteT.text a0) : Int)))]))) := by kernel_rfl
theorem f59_spec (a0 : NoteT) (a1 : Int) (hg : gz_note a0 a1 = true) : ∃ keep rounds, ∀ {R : Type} (k : List Dt → Option R), evFn f59e keep rounds f59c [.ro, .ro] [false] true [.tmp 4] [3] [.d .note a0, .d (.i .i64) a1] k = k [.d (.i .i64) (z_note a0 a1)] := by
  simp only [gz_note, ok_note, Bool.and_eq_true, okN_iff] at hg
  obtain ⟨⟨hf_key, hf_text⟩, hn1, hn2⟩ := hg
  have hf_keyb : a0.key.size ≤ 9223372036854775807 := bleN hf_key
  have hf_textb : a0.text.size ≤ 9223372036854775807 := bleN hf_text
  have eN : szN_note a0 = a0.key.size + a0.text.size := rfl
  refine ⟨f59k, 0, fun k => ?_⟩
  rw [f59_run]
  show _ = k [.d (.i .i64) (z_note a0 a1)]
  unfold z_note
  rw [wrap_id (x := a1 - ((a0.key.size : Nat) : Int)) (by omega) (by omega)]
  by_cases h1 : a1 - ((a0.key.size : Nat) : Int) < 0
  · simp only [h1, decide_true, cond_true]; rw [szI_neg (by omega)]
  simp only [h1, decide_false, cond_false]
  rw [wrap_id (x := (a1 - ((a0.key.size : Nat) : Int)) - ((a0.text.size : Nat) : Int)) (by omega) (by omega)]
  by_cases h2 : (a1 - ((a0.key.size : Nat) : Int)) - ((a0.text.size : Nat) : Int) < 0
  · simp only [h2, decide_true, cond_true]; rw [szI_neg (by omega)]
  simp only [h2, decide_false, cond_false]
  rw [szI_pos (by omega)]
  first
    | rfl
    | rw [show ((a1 - ((a0.key.size : Nat) : Int)) - ((a0.text.size : Nat) : Int)) = a1 - ((szN_note a0 : Nat) : Int) by omega]

noncomputable def q59 : List Dt → Option (Bool × List Dt)
  | [.d .note a0, .d (.i .i64) a1] => some ((gz_note a0 a1), [.d (.i .i64) (z_note a0 a1)])
  | _ => none
noncomputable def s59 : Gm.Spec := Gm.Spec.of [.ro, .ro] [false] true q59
theorem good59 : Gm.Good Try.prog (59, s59) := by
  have hl : ∀ x ∈ ([] : List (Nat × Gm.Spec)), Gm.Good Try.prog x := fun _ h => by cases h
  refine ⟨⟨spec_ok (tab_ok.env hl) (tab.natl hl) Try.func59 (by kernel_rfl : Try.f59.body = some f59c) [3] (by kernel_rfl) ?_, _, Try.func59, by kernel_rfl, of_decide_eq_true (by kernel_rfl)⟩, Gm.Spec.of_natl _ _ _ _⟩
  intro ds outs h
  unfold q59 at h
  split at h
  · simp only [Option.some.injEq, Prod.mk.injEq] at h; obtain ⟨hg, h⟩ := h; cases h; exact f59_spec _ _ hg
  · cases h
/-! ### loop.example/g00465/laws.szNoteS -/
noncomputable def f35c : Code := (Try.f35.body).getD .skip
def f35k : Nat → Kp := kat [⟨[0, 1], []⟩, ⟨[0, 1], []⟩, ⟨[0, 1, 11], []⟩, ⟨[4], []⟩, ⟨[0, 1, 5], []⟩, ⟨[0, 1, 5, 15], []⟩, ⟨[0, 1, 5], []⟩, ⟨[0, 1, 5], []⟩, ⟨[0, 1, 5, 25], []⟩, ⟨[4], []⟩, ⟨[4], []⟩]
noncomputable def f35e : Env := tab.env [(59, s59)]
noncomputable def f35L0 {R : Type} (n : Nat) (x0 : Option R) (x1 : Int → Int → Bool → Option R) (vs0 : List NoteT) : Nat → Int → Int → Option R
  | 0, _, _ => none
  | m + 1, vs1, vs5 =>
    (cond (decide (vs5 < (vs0.length : Int)))
      (cond ((decide ((0 : Int) ≤ vs5)) && (decide (vs5 < (vs0.length : Int))))
        (cond (gz_note (atI (t := .note) vs0 (Int.toNat vs5)) vs1)
          (cond (decide ((z_note (atI (t := .note) vs0 (Int.toNat vs5)) vs1) < (0 : Int)))
            (x0)
            (f35L0 n x0 x1 vs0 m (z_note (atI (t := .note) vs0 (Int.toNat vs5)) vs1) (IntKind.wrap .i64 (vs5 + (1 : Int)))))
          none)
        none)
      (x1 vs1 vs5 (decide (vs5 < (vs0.length : Int)))))
theorem f35L0_b {R : Type} (n : Nat) (k' : Ex → St → Option R) (vs0 : List NoteT) (vs1 : Int) (vs5 : Int) : ev f35e f35k n (cAt [1,1,1,0,1,0,0] f35c) ⟨[(0, .c (.one (.ro .note vs0))), (1, .c (.one (.v (.int .i64 vs1)))), (5, .c (.one (.v (.int .i64 vs5))))], [], []⟩ k' =
    (cond (decide (vs5 < (vs0.length : Int)))
    (cond ((decide ((0 : Int) ≤ vs5)) && (decide (vs5 < (vs0.length : Int))))
      (cond (gz_note (atI (t := .note) vs0 (Int.toNat vs5)) vs1)
        (cond (decide ((z_note (atI (t := .note) vs0 (Int.toNat vs5)) vs1) < (0 : Int)))
          (k' .ret ⟨[(4, .c (.one (.v (.int .i64 (-1 : Int)))))], [], []⟩)
          (k' .normal ⟨[(0, .c (.one (.ro .note vs0))), (1, .c (.one (.v (.int .i64 (z_note (atI (t := .note) vs0 (Int.toNat vs5)) vs1))))), (5, .c (.one (.v (.int .i64 (IntKind.wrap .i64 (vs5 + (1 : Int)))))))], [], []⟩))
        none)
      none)
    (k' (.exit 0) ⟨[(0, .c (.one (.ro .note vs0))), (1, .c (.one (.v (.int .i64 vs1)))), (5, .c (.one (.v (.int .i64 vs5)))), (15, .c (.one (.v (.bool (decide (vs5 < (vs0.length : Int)))))))], [], []⟩)) := by kernel_rfl
theorem f35L0_eq {R : Type} (n : Nat) (k' : Ex → St → Option R) (vs0 : List NoteT) : ∀ (m : Nat) (vs1 : Int) (vs5 : Int), iter (fun st k => ev f35e f35k n (cAt [1,1,1,0,1,0,0] f35c) st k) m ⟨[(0, .c (.one (.ro .note vs0))), (1, .c (.one (.v (.int .i64 vs1)))), (5, .c (.one (.v (.int .i64 vs5))))], [], []⟩ k' = f35L0 n (k' .ret ⟨[(4, .c (.one (.v (.int .i64 (-1 : Int)))))], [], []⟩) (fun (xvs1 : Int) (xvs5 : Int) (xvs15 : Bool) => k' (.exit 0) ⟨[(0, .c (.one (.ro .note vs0))), (1, .c (.one (.v (.int .i64 xvs1)))), (5, .c (.one (.v (.int .i64 xvs5)))), (15, .c (.one (.v (.bool xvs15))))], [], []⟩) vs0 m vs1 vs5 := by
  intro m; induction m with
  | zero => intros; rfl
  | succ m ih =>
    intro vs1 vs5
    simp only [iter]
    rw [f35L0_b]
    simp only [ih, f35L0]

noncomputable def f35K0 {R : Type} (n : Nat) (k' : Ex → St → Option R) : Ex → St → Option R := (blockK 0 (seqK f35e f35k n (cAt [1,1,1,1] f35c) k'))
theorem f35K0_x0 {R : Type} (n : Nat) (k : List Dt → Option R) (a0 : List NoteT) (a1 : Int)  : f35K0 n (exitK f35e [.ro, .ro] [false] true [.tmp 4] [3] [.d (.sl .note) a0, .d (.i .i64) a1] k) .ret ⟨[(4, .c (.one (.v (.int .i64 (-1 : Int)))))], [], []⟩ =
    (k [.d (.i .i64) (-1 : Int)]) := by kernel_rfl
theorem f35K0_x1 {R : Type} (n : Nat) (k : List Dt → Option R) (a0 : List NoteT) (a1 : Int) (vs0 : List NoteT) (xvs1 : Int) (xvs5 : Int) (xvs15 : Bool) : f35K0 n (exitK f35e [.ro, .ro] [false] true [.tmp 4] [3] [.d (.sl .note) a0, .d (.i .i64) a1] k) (.exit 0) ⟨[(0, .c (.one (.ro .note vs0))), (1, .c (.one (.v (.int .i64 xvs1)))), (5, .c (.one (.v (.int .i64 xvs5)))), (15, .c (.one (.v (.bool xvs15))))], [], []⟩ =
    (k [.d (.i .i64) xvs1]) := by kernel_rfl

theorem f35_run {R : Type} (n : Nat) (k : List Dt → Option R) (a0 : List NoteT) (a1 : Int) : evFn f35e f35k n f35c [.ro, .ro] [false] true [.tmp 4] [3] [.d (.sl .note) a0, .d (.i .i64) a1] k =
    (cond (decide ((IntKind.wrap .i64 (a1 - (a0.length : Int))) < (0 : Int)))
    (k [.d (.i .i64) (-1 : Int)])
    (f35L0 n (k [.d (.i .i64) (-1 : Int)]) (fun (xvs1 : Int) (xvs5 : Int) (xvs15 : Bool) =>
      (k [.d (.i .i64) xvs1])) a0 n (IntKind.wrap .i64 (a1 - (a0.length : Int))) (0 : Int))) := by
  refine Eq.trans (b := (cond (decide ((IntKind.wrap .i64 (a1 - (a0.length : Int))) < (0 : Int)))
    (k [.d (.i .i64) (-1 : Int)])
    (iter (fun st k => ev f35e f35k n (cAt [1,1,1,0,1,0,0] f35c) st k) n ⟨[(0, .c (.one (.ro .note a0))), (1, .c (.one (.v (.int .i64 (IntKind.wrap .i64 (a1 - (a0.length : Int))))))), (5, .c (.one (.v (.int .i64 (0 : Int)))))], [], []⟩ (f35K0 n (exitK f35e [.ro, .ro] [false] true [.tmp 4] [3] [.d (.sl .note) a0, .d (.i .i64) a1] k))))) (by kernel_rfl) ?_
  simp only [f35L0_eq, f35K0_x0, f35K0_x1]
theorem f35_spec (a0 : List NoteT) (a1 : Int) (hg : gzL_note a0 a1 = true) : ∃ keep rounds, ∀ {R : Type} (k : List Dt → Option R), evFn f35e keep rounds f35c [.ro, .ro] [false] true [.tmp 4] [3] [.d (.sl .note) a0, .d (.i .i64) a1] k = k [.d (.i .i64) (zL_note a0 a1)] := by
  simp only [gzL_note, okL, Bool.and_eq_true, okN_iff] at hg
  obtain ⟨⟨hl, hs⟩, hn⟩ := hg
  have hl : a0.length ≤ 9223372036854775807 := bleN hl
  refine ⟨f35k, a0.length + 1, fun k => ?_⟩
  rw [f35_run, wrap_id (x := a1 - (a0.length : Int)) (by omega) (by omega)]
  show _ = k [.d (.i .i64) (zL_note a0 a1)]
  unfold zL_note
  have eL : szL szN_note a0 = a0.length + (a0.map szN_note).sum := rfl
  by_cases hc : a1 - (a0.length : Int) < 0
  · simp only [hc, decide_true, cond_true]
    rw [szI_neg (by omega)]
  · simp only [hc, decide_false, cond_false]
    refine Eq.trans (loop_fold (xs := a0) (F := fun m j left => f35L0 (a0.length + 1) _ _ a0 m left (j : Int)) (step := szStep szN_note)
      (out := fun _ => k [.d (.i .i64) (-1 : Int)]) (good := fun left => k [.d (.i .i64) left]) (fun n => 0 ≤ n ∧ n ≤ 1048576)
      (fun x n n' hx hn h => by
        unfold szStep at h
        split at h
        · cases h
        · cases h; omega)
      (fun m j n x hx hn => ?_)
      (fun m n hn => by simp only [f35L0, idxE, cond_false]) a0.length 0 (a0.length + 1) (a1 - (a0.length : Int)) (by omega) (by omega) (by omega)) ?_
    · obtain ⟨h1, h0, hw, ht⟩ := idx (lt_of_get hx) (by omega)
      have hx2 := List.all_eq_true.1 hs x (List.mem_of_getElem? hx)
      have hg2 : gz_note x n = true := by simp only [gz_note, Bool.and_eq_true, okN_iff]; exact ⟨hx2, by omega, by omega⟩
      have hz : z_note x n = szI (szN_note x) n := rfl
      simp only [f35L0, h1, h0, hw, ht, atI_of (t := .note) hx, Bool.and_self, cond_true, hg2, hz]
      unfold szStep
      by_cases h : n - (szN_note x : Int) < 0
      · rw [szI_neg h]; simp only [h, if_true, Sum.elim_inl]; rfl
      · rw [szI_pos h]; simp only [h, decide_false, cond_false, if_false, Sum.elim_inr]
    · rw [List.drop_zero, sz_fold _ _ _ (by omega)]
      by_cases h2 : a1 - (a0.length : Int) - ((a0.map szN_note).sum : Nat) < 0
      · rw [if_pos h2, szI_neg (by omega)]; rfl
      · rw [if_neg h2, szI_pos (by omega)]
        simp only [Sum.elim_inr]
        rw [show a1 - (a0.length : Int) - ((a0.map szN_note).sum : Nat) = a1 - (szL szN_note a0 : Nat) by omega]

noncomputable def q35 : List Dt → Option (Bool × List Dt)
  | [.d (.sl .note) a0, .d (.i .i64) a1] => some ((gzL_note a0 a1), [.d (.i .i64) (zL_note a0 a1)])
  | _ => none
noncomputable def s35 : Gm.Spec := Gm.Spec.of [.ro, .ro] [false] true q35
theorem good35 : Gm.Good Try.prog (35, s35) := by
  have hl : ∀ x ∈ [(59, s59)], Gm.Good Try.prog x := List.forall_mem_cons.2 ⟨good59, List.forall_mem_nil _⟩
  refine ⟨⟨spec_ok (tab_ok.env hl) (tab.natl hl) Try.func35 (by kernel_rfl : Try.f35.body = some f35c) [3] (by kernel_rfl) ?_, _, Try.func35, by kernel_rfl, of_decide_eq_true (by kernel_rfl)⟩, Gm.Spec.of_natl _ _ _ _⟩
  intro ds outs h
  unfold q35 at h
  split at h
  · simp only [Option.some.injEq, Prod.mk.injEq] at h; obtain ⟨hg, h⟩ := h; cases h; exact f35_spec _ _ hg
  · cases h
/-! ### loop.example/g00465/laws.szOrder -/
noncomputable def f16c : Code := (Try.f16.body).getD .skip
def f16k : Nat → Kp := kat [⟨[1, 2], []⟩, ⟨[1, 2], []⟩, ⟨[1, 2, 11], []⟩, ⟨[4], []⟩, ⟨[1, 2], []⟩, ⟨[1, 2, 18], []⟩, ⟨[4], []⟩, ⟨[1, 2], []⟩, ⟨[1, 2, 24], []⟩, ⟨[4], []⟩, ⟨[1], []⟩, ⟨[1, 30], []⟩, ⟨[4], []⟩, ⟨[4], []⟩]
noncomputable def f16e : Env := tab.env [(34, s34), (35, s35)]
theorem f16_run {R : Type} (n : Nat) (k : List Dt → Option R) (a0 : OrderT) (a1 : Int) : evFn f16e f16k n f16c [.ro, .ro] [false] true [.tmp 4] [3] [.d .order a0, .d (.i .i64) a1] k =
    (cond (decide ((IntKind.wrap .i64 (a1 - (ByteArray.size (OrderT.name a0) : Int))) < (0 : Int)))
    (k [.d (.i .i64) (-1 : Int)])
    (cond (decide ((IntKind.wrap .i64 ((IntKind.wrap .i64 (a1 - (ByteArray.size (OrderT.name a0) : Int))) - (ByteArray.size (OrderT.target a0) : Int))) < (0 : Int)))
      (k [.d (.i .i64) (-1 : Int)])
      (cond (gzL_metric (OrderT.metrics a0) (IntKind.wrap .i64 ((IntKind.wrap .i64 (a1 - (ByteArray.size (OrderT.name a0) : Int))) - (ByteArray.size (OrderT.target a0) : Int))))
        (cond (decide ((zL_metric (OrderT.metrics a0) (IntKind.wrap .i64 ((IntKind.wrap .i64 (a1 - (ByteArray.size (OrderT.name a0) : Int))) - (ByteArray.size (OrderT.target a0) : Int)))) < (0 : Int)))
          (k [.d (.i .i64) (-1 : Int)])
          (cond (gzL_note (OrderT.notes a0) (zL_metric (OrderT.metrics a0) (IntKind.wrap .i64 ((IntKind.wrap .i64 (a1 - (ByteArray.size (OrderT.name a0) : Int))) - (ByteArray.size (OrderT.target a0) : Int)))))
            (cond (decide ((zL_note (OrderT.notes a0) (zL_metric (OrderT.metrics a0) (IntKind.wrap .i64 ((IntKind.wrap .i64 (a1 - (ByteArray.size (OrderT.name a0) : Int))) - (ByteArray.size (OrderT.target a0) : Int))))) < (0 : Int)))
              (k [.d (.i .i64) (-1 : Int)])
              (k [.d (.i .i64) (zL_note (OrderT.notes a0) (zL_metric (OrderT.metrics a0) (IntKind.wrap .i64 ((IntKind.wrap .i64 (a1 - (ByteArray.size (OrderT.name a0) : Int))) - (ByteArray.size (OrderT.target a0) : Int)))))]))
            none))
        none))) := by kernel_rfl
theorem f16_spec (a0 : OrderT) (a1 : Int) (hg : gz_order a0 a1 = true) : ∃ keep rounds, ∀ {R : Type} (k : List Dt → Option R), evFn f16e keep rounds f16c [.ro, .ro] [false] true [.tmp 4] [3] [.d .order a0, .d (.i .i64) a1] k = k [.d (.i .i64) (z_order a0 a1)] := by
  simp only [gz_order, ok_order, Bool.and_eq_true, okN_iff] at hg
  obtain ⟨⟨hf_name, hf_target, hf_low, hf_high, hf_metrics, hf_pace, hf_notes⟩, hn1, hn2⟩ := hg
  have hf_nameb : a0.name.size ≤ 9223372036854775807 := bleN hf_name
  have hf_targetb : a0.target.size ≤ 9223372036854775807 := bleN hf_target
  have eN : szN_order a0 = a0.name.size + a0.target.size + szL szN_metric a0.metrics + szN_pace a0.pace + szL szN_note a0.notes := rfl
  refine ⟨f16k, 0, fun k => ?_⟩
  rw [f16_run]
  show _ = k [.d (.i .i64) (z_order a0 a1)]
  unfold z_order
  have e_pace : szN_pace a0.pace = 0 := rfl
  rw [wrap_id (x := a1 - ((a0.name.size : Nat) : Int)) (by omega) (by omega)]
  by_cases h1 : a1 - ((a0.name.size : Nat) : Int) < 0
  · simp only [h1, decide_true, cond_true]; rw [szI_neg (by omega)]
  simp only [h1, decide_false, cond_false]
  rw [wrap_id (x := (a1 - ((a0.name.size : Nat) : Int)) - ((a0.target.size : Nat) : Int)) (by omega) (by omega)]
  by_cases h2 : (a1 - ((a0.name.size : Nat) : Int)) - ((a0.target.size : Nat) : Int) < 0
  · simp only [h2, decide_true, cond_true]; rw [szI_neg (by omega)]
  simp only [h2, decide_false, cond_false]
  have g3 : gzL_metric a0.metrics ((a1 - ((a0.name.size : Nat) : Int)) - ((a0.target.size : Nat) : Int)) = true := by simp only [gzL_metric, Bool.and_eq_true, okN_iff]; exact ⟨hf_metrics, by omega, by omega⟩
  have z4 : zL_metric a0.metrics ((a1 - ((a0.name.size : Nat) : Int)) - ((a0.target.size : Nat) : Int)) = szI (szL szN_metric a0.metrics) ((a1 - ((a0.name.size : Nat) : Int)) - ((a0.target.size : Nat) : Int)) := rfl
  rw [g3, z4]
  by_cases h4 : ((a1 - ((a0.name.size : Nat) : Int)) - ((a0.target.size : Nat) : Int)) - ((szL szN_metric a0.metrics : Nat) : Int) < 0
  · rw [szI_neg h4, szI_neg (by omega)]; rfl
  rw [szI_pos h4]
  simp only [cond_true, h4, decide_false, cond_false]
  have g5 : gzL_note a0.notes (((a1 - ((a0.name.size : Nat) : Int)) - ((a0.target.size : Nat) : Int)) - ((szL szN_metric a0.metrics : Nat) : Int)) = true := by simp only [gzL_note, Bool.and_eq_true, okN_iff]; exact ⟨hf_notes, by omega, by omega⟩
  have z6 : zL_note a0.notes (((a1 - ((a0.name.size : Nat) : Int)) - ((a0.target.size : Nat) : Int)) - ((szL szN_metric a0.metrics : Nat) : Int)) = szI (szL szN_note a0.notes) (((a1 - ((a0.name.size : Nat) : Int)) - ((a0.target.size : Nat) : Int)) - ((szL szN_metric a0.metrics : Nat) : Int)) := rfl
  rw [g5, z6]
  by_cases h6 : (((a1 - ((a0.name.size : Nat) : Int)) - ((a0.target.size : Nat) : Int)) - ((szL szN_metric a0.metrics : Nat) : Int)) - ((szL szN_note a0.notes : Nat) : Int) < 0
  · rw [szI_neg h6, szI_neg (by omega)]; rfl
  rw [szI_pos h6]
  simp only [cond_true, h6, decide_false, cond_false]
  rw [szI_pos (by omega)]
  first
    | rfl
    | rw [show ((((a1 - ((a0.name.size : Nat) : Int)) - ((a0.target.size : Nat) : Int)) - ((szL szN_metric a0.metrics : Nat) : Int)) - ((szL szN_note a0.notes : Nat) : Int)) = a1 - ((szN_order a0 : Nat) : Int) by omega]

noncomputable def q16 : List Dt → Option (Bool × List Dt)
  | [.d .order a0, .d (.i .i64) a1] => some ((gz_order a0 a1), [.d (.i .i64) (z_order a0 a1)])
  | _ => none
noncomputable def s16 : Gm.Spec := Gm.Spec.of [.ro, .ro] [false] true q16
theorem good16 : Gm.Good Try.prog (16, s16) := by
  have hl : ∀ x ∈ [(34, s34), (35, s35)], Gm.Good Try.prog x := List.forall_mem_cons.2 ⟨good34, List.forall_mem_cons.2 ⟨good35, List.forall_mem_nil _⟩⟩
  refine ⟨⟨spec_ok (tab_ok.env hl) (tab.natl hl) Try.func16 (by kernel_rfl : Try.f16.body = some f16c) [3] (by kernel_rfl) ?_, _, Try.func16, by kernel_rfl, of_decide_eq_true (by kernel_rfl)⟩, Gm.Spec.of_natl _ _ _ _⟩
  intro ds outs h
  unfold q16 at h
  split at h
  · simp only [Option.some.injEq, Prod.mk.injEq] at h; obtain ⟨hg, h⟩ := h; cases h; exact f16_spec _ _ hg
  · cases h
/-! ### loop.example/g00465/laws.toNote -/
noncomputable def f61c : Code := (Try.f61.body).getD .skip
def f61k : Nat → Kp := kat [⟨[1, 2], []⟩, ⟨[1, 2, 3], []⟩, ⟨[1, 2, 3], []⟩, ⟨[2, 3], []⟩, ⟨[2], []⟩]
noncomputable def f61e : Env := tab.env []
theorem f61_run {R : Type} (n : Nat) (k : List Dt → Option R) (a0 : NoteT) : evFn f61e f61k n f61c [.ro] [false] true [.cell 2 116] [116] [.d .note a0] k =
    (k [.d .note a0]) := by kernel_rfl
theorem f61_spec (a0 : NoteT) (hg : sm_note a0 = true) : ∃ keep rounds, ∀ {R : Type} (k : List Dt → Option R), evFn f61e keep rounds f61c [.ro] [false] true [.cell 2 116] [116] [.d .note a0] k = k [.d .note a0] := by
  exact ⟨f61k, 0, fun k => f61_run 0 k a0⟩

noncomputable def q61 : List Dt → Option (Bool × List Dt)
  | [.d .note a0] => some ((sm_note a0), [.d .note a0])
  | _ => none
noncomputable def s61 : Gm.Spec := Gm.Spec.of [.ro] [false] true q61
theorem good61 : Gm.Good Try.prog (61, s61) := by
  have hl : ∀ x ∈ ([] : List (Nat × Gm.Spec)), Gm.Good Try.prog x := fun _ h => by cases h
  refine ⟨⟨spec_ok (tab_ok.env hl) (tab.natl hl) Try.func61 (by kernel_rfl : Try.f61.body = some f61c) [116] (by kernel_rfl) ?_, _, Try.func61, by kernel_rfl, of_decide_eq_true (by kernel_rfl)⟩, Gm.Spec.of_natl _ _ _ _⟩
  intro ds outs h
  unfold q61 at h
  split at h
  · simp only [Option.some.injEq, Prod.mk.injEq] at h; obtain ⟨hg, h⟩ := h; cases h; exact f61_spec _ hg
  · cases h
/-! ### loop.example/g00465/laws.toNoteS -/
noncomputable def f40c : Code := (Try.f40.body).getD .skip
def f40k : Nat → Kp := kat [⟨[0], []⟩, ⟨[0, 3], []⟩, ⟨[0, 3, 4], []⟩, ⟨[0, 3, 4, 11], []⟩, ⟨[0, 3, 4], []⟩, ⟨[0, 3, 4], []⟩, ⟨[2], []⟩]
noncomputable def f40e : Env := tab.env [(61, s61)]
noncomputable def f40L0 {R : Type} (n : Nat) (x0 : Int → Bool → (List NoteT) → Option R) (vs0 : List NoteT) : Nat → Int → (List NoteT) → Option R
  | 0, _, _ => none
  | m + 1, vs4, vr448 =>
    (cond (decide (vs4 < (vs0.length : Int)))
      (cond ((decide ((0 : Int) ≤ vs4)) && (decide (vs4 < (vs0.length : Int))))
        (cond (sm_note (atI (t := .note) vs0 (Int.toNat vs4)))
          (cond ((decide ((0 : Int) ≤ vs4)) && (decide (vs4 < (vr448.length : Int))))
            (f40L0 n x0 vs0 m (IntKind.wrap .i64 (vs4 + (1 : Int))) (vr448.set (Int.toNat vs4) (atI (t := .note) vs0 (Int.toNat vs4))))
            none)
          none)
        none)
      (x0 vs4 (decide (vs4 < (vs0.length : Int))) vr448))
theorem f40L0_b {R : Type} (n : Nat) (k' : Ex → St → Option R) (vs0 : List NoteT) (vs4 : Int) (vr448 : List NoteT) : ev f40e f40k n (cAt [1,1,0,1,0,0] f40c) ⟨[(0, .c (.one (.ro .note vs0))), (3, .c (.one (.h 448 0 0 []))), (4, .c (.one (.v (.int .i64 vs4))))], [], [(448, .live ⟨.note, .deep, 0, [], vr448⟩)]⟩ k' =
    (cond (decide (vs4 < (vs0.length : Int)))
    (cond ((decide ((0 : Int) ≤ vs4)) && (decide (vs4 < (vs0.length : Int))))
      (cond (sm_note (atI (t := .note) vs0 (Int.toNat vs4)))
        (cond ((decide ((0 : Int) ≤ vs4)) && (decide (vs4 < (vr448.length : Int))))
          (k' .normal ⟨[(0, .c (.one (.ro .note vs0))), (3, .c (.one (.h 448 0 0 []))), (4, .c (.one (.v (.int .i64 (IntKind.wrap .i64 (vs4 + (1 : Int)))))))], [], [(448, .live ⟨.note, .deep, 0, [], (vr448.set (Int.toNat vs4) (atI (t := .note) vs0 (Int.toNat vs4)))⟩)]⟩)
          none)
        none)
      none)
    (k' (.exit 0) ⟨[(0, .c (.one (.ro .note vs0))), (3, .c (.one (.h 448 0 0 []))), (4, .c (.one (.v (.int .i64 vs4)))), (11, .c (.one (.v (.bool (decide (vs4 < (vs0.length : Int)))))))], [], [(448, .live ⟨.note, .deep, 0, [], vr448⟩)]⟩)) := by kernel_rfl
theorem f40L0_eq {R : Type} (n : Nat) (k' : Ex → St → Option R) (vs0 : List NoteT) : ∀ (m : Nat) (vs4 : Int) (vr448 : List NoteT), iter (fun st k => ev f40e f40k n (cAt [1,1,0,1,0,0] f40c) st k) m ⟨[(0, .c (.one (.ro .note vs0))), (3, .c (.one (.h 448 0 0 []))), (4, .c (.one (.v (.int .i64 vs4))))], [], [(448, .live ⟨.note, .deep, 0, [], vr448⟩)]⟩ k' = f40L0 n (fun (xvs4 : Int) (xvs11 : Bool) (xvr448 : List NoteT) => k' (.exit 0) ⟨[(0, .c (.one (.ro .note vs0))), (3, .c (.one (.h 448 0 0 []))), (4, .c (.one (.v (.int .i64 xvs4)))), (11, .c (.one (.v (.bool xvs11))))], [], [(448, .live ⟨.note, .deep, 0, [], xvr448⟩)]⟩) vs0 m vs4 vr448 := by
  intro m; induction m with
  | zero => intros; rfl
  | succ m ih =>
    intro vs4 vr448
    simp only [iter]
    rw [f40L0_b]
    simp only [ih, f40L0]

noncomputable def f40K0 {R : Type} (n : Nat) (k' : Ex → St → Option R) : Ex → St → Option R := (blockK 0 (seqK f40e f40k n (cAt [1,1,1] f40c) k'))
theorem f40K0_x0 {R : Type} (n : Nat) (k : List Dt → Option R) (a0 : List NoteT) (vs0 : List NoteT) (xvs4 : Int) (xvs11 : Bool) (xvr448 : List NoteT) : f40K0 n (exitK f40e [.ro] [false] true [.tmp 2] [50] [.d (.sl .note) a0] k) (.exit 0) ⟨[(0, .c (.one (.ro .note vs0))), (3, .c (.one (.h 448 0 0 []))), (4, .c (.one (.v (.int .i64 xvs4)))), (11, .c (.one (.v (.bool xvs11))))], [], [(448, .live ⟨.note, .deep, 0, [], xvr448⟩)]⟩ =
    (k [.d (.sl .note) xvr448]) := by kernel_rfl

theorem f40_run {R : Type} (n : Nat) (k : List Dt → Option R) (a0 : List NoteT) : evFn f40e f40k n f40c [.ro] [false] true [.tmp 2] [50] [.d (.sl .note) a0] k =
    (cond ((decide ((a0.length : Int) = (a0.length : Int))) && ((decide ((0 : Int) ≤ (a0.length : Int))) && (decide ((a0.length : Int) ≤ (LIM : Int)))))
    (f40L0 n (fun (xvs4 : Int) (xvs11 : Bool) (xvr448 : List NoteT) =>
      (k [.d (.sl .note) xvr448])) a0 n (0 : Int) (List.replicate (Int.toNat (a0.length : Int)) (⟨ByteArray.empty, ByteArray.empty⟩ : NoteT)))
    none) := by
  refine Eq.trans (b := (cond ((decide ((a0.length : Int) = (a0.length : Int))) && ((decide ((0 : Int) ≤ (a0.length : Int))) && (decide ((a0.length : Int) ≤ (LIM : Int)))))
    (iter (fun st k => ev f40e f40k n (cAt [1,1,0,1,0,0] f40c) st k) n ⟨[(0, .c (.one (.ro .note a0))), (3, .c (.one (.h 448 0 0 []))), (4, .c (.one (.v (.int .i64 (0 : Int)))))], [], [(448, .live ⟨.note, .deep, 0, [], (List.replicate (Int.toNat (a0.length : Int)) (⟨ByteArray.empty, ByteArray.empty⟩ : NoteT))⟩)]⟩ (f40K0 n (exitK f40e [.ro] [false] true [.tmp 2] [50] [.d (.sl .note) a0] k)))
    none)) (by kernel_rfl) ?_
  simp only [f40L0_eq, f40K0_x0]
theorem f40_spec (a0 : List NoteT) (hg : smL sm_note a0 = true) : ∃ keep rounds, ∀ {R : Type} (k : List Dt → Option R), evFn f40e keep rounds f40c [.ro] [false] true [.tmp 2] [50] [.d (.sl .note) a0] k = k [.d (.sl .note) a0] := by
  have hl : a0.length ≤ 1048576 := smL_len hg
  have hs := smL_all hg
  refine ⟨f40k, a0.length + 1, fun k => ?_⟩
  rw [f40_run, mkOk hl]
  simp only [cond_true]
  have := loop_copy (xs := a0) (f := fun x => x) (F := fun m j out => f40L0 (a0.length + 1) (fun (xvs4 : Int) (xvs11 : Bool) (xvr448 : List NoteT) => (k [.d (.sl .note) xvr448])) a0 m (j : Int) out) (good := fun out => k [.d (.sl .note) out]) (⟨ByteArray.empty, ByteArray.empty⟩ : NoteT)
    (fun m j out x hx hl' => by
      obtain ⟨h1, h0, hw, ht⟩ := idx (lt_of_get hx) (by omega)
      obtain ⟨h2, _, _, _⟩ := idx (show j < out.length by rw [hl']; exact lt_of_get hx) (by omega)
      have hx2 := List.all_eq_true.1 hs x (List.mem_of_getElem? hx)
      simp only [f40L0, h1, h0, h2, hw, ht, atI_of (t := .note) hx, Bool.and_self, cond_true, hx2])
    (fun m out => by simp only [f40L0, idxE, cond_false]) a0.length 0 (a0.length + 1) (by omega) (by omega)
  simpa using this

noncomputable def q40 : List Dt → Option (Bool × List Dt)
  | [.d (.sl .note) a0] => some ((smL sm_note a0), [.d (.sl .note) a0])
  | _ => none
noncomputable def s40 : Gm.Spec := Gm.Spec.of [.ro] [false] true q40
theorem good40 : Gm.Good Try.prog (40, s40) := by
  have hl : ∀ x ∈ [(61, s61)], Gm.Good Try.prog x := List.forall_mem_cons.2 ⟨good61, List.forall_mem_nil _⟩
  refine ⟨⟨spec_ok (tab_ok.env hl) (tab.natl hl) Try.func40 (by kernel_rfl : Try.f40.body = some f40c) [50] (by kernel_rfl) ?_, _, Try.func40, by kernel_rfl, of_decide_eq_true (by kernel_rfl)⟩, Gm.Spec.of_natl _ _ _ _⟩
  intro ds outs h
  unfold q40 at h
  split at h
  · simp only [Option.some.injEq, Prod.mk.injEq] at h; obtain ⟨hg, h⟩ := h; cases h; exact f40_spec _ hg
  · cases h
/-! ### loop.example/g00465/laws.toMetric -/
noncomputable def f60c : Code := (Try.f60.body).getD .skip
def f60k : Nat → Kp := kat [⟨[1, 2], []⟩, ⟨[1, 2, 3], []⟩, ⟨[1, 2, 3], []⟩, ⟨[1, 2, 3], []⟩, ⟨[2, 3], []⟩, ⟨[2], []⟩]
noncomputable def f60e : Env := tab.env []
theorem f60_run {R : Type} (n : Nat) (k : List Dt → Option R) (a0 : MetricT) : evFn f60e f60k n f60c [.ro] [false] true [.cell 2 87] [87] [.d .metric a0] k =
    (k [.d .metric a0]) := by kernel_rfl
theorem f60_spec (a0 : MetricT) (hg : sm_metric a0 = true) : ∃ keep rounds, ∀ {R : Type} (k : List Dt → Option R), evFn f60e keep rounds f60c [.ro] [false] true [.cell 2 87] [87] [.d .metric a0] k = k [.d .metric a0] := by
  exact ⟨f60k, 0, fun k => f60_run 0 k a0⟩

noncomputable def q60 : List Dt → Option (Bool × List Dt)
  | [.d .metric a0] => some ((sm_metric a0), [.d .metric a0])
  | _ => none
noncomputable def s60 : Gm.Spec := Gm.Spec.of [.ro] [false] true q60
theorem good60 : Gm.Good Try.prog (60, s60) := by
  have hl : ∀ x ∈ ([] : List (Nat × Gm.Spec)), Gm.Good Try.prog x := fun _ h => by cases h
  refine ⟨⟨spec_ok (tab_ok.env hl) (tab.natl hl) Try.func60 (by kernel_rfl : Try.f60.body = some f60c) [87] (by kernel_rfl) ?_, _, Try.func60, by kernel_rfl, of_decide_eq_true (by kernel_rfl)⟩, Gm.Spec.of_natl _ _ _ _⟩
  intro ds outs h
  unfold q60 at h
  split at h
  · simp only [Option.some.injEq, Prod.mk.injEq] at h; obtain ⟨hg, h⟩ := h; cases h; exact f60_spec _ hg
  · cases h
/-! ### loop.example/g00465/laws.toMetricS -/
noncomputable def f38c : Code := (Try.f38.body).getD .skip
def f38k : Nat → Kp := kat [⟨[0], []⟩, ⟨[0, 3], []⟩, ⟨[0, 3, 4], []⟩, ⟨[0, 3, 4, 11], []⟩, ⟨[0, 3, 4], []⟩, ⟨[0, 3, 4], []⟩, ⟨[2], []⟩]
noncomputable def f38e : Env := tab.env [(60, s60)]
noncomputable def f38L0 {R : Type} (n : Nat) (x0 : Int → Bool → (List MetricT) → Option R) (vs0 : List MetricT) : Nat → Int → (List MetricT) → Option R
  | 0, _, _ => none
  | m + 1, vs4, vr448 =>
    (cond (decide (vs4 < (vs0.length : Int)))
      (cond ((decide ((0 : Int) ≤ vs4)) && (decide (vs4 < (vs0.length : Int))))
        (cond (sm_metric (atI (t := .metric) vs0 (Int.toNat vs4)))
          (cond ((decide ((0 : Int) ≤ vs4)) && (decide (vs4 < (vr448.length : Int))))
            (f38L0 n x0 vs0 m (IntKind.wrap .i64 (vs4 + (1 : Int))) (vr448.set (Int.toNat vs4) (atI (t := .metric) vs0 (Int.toNat vs4))))
            none)
          none)
        none)
      (x0 vs4 (decide (vs4 < (vs0.length : Int))) vr448))
theorem f38L0_b {R : Type} (n : Nat) (k' : Ex → St → Option R) (vs0 : List MetricT) (vs4 : Int) (vr448 : List MetricT) : ev f38e f38k n (cAt [1,1,0,1,0,0] f38c) ⟨[(0, .c (.one (.ro .metric vs0))), (3, .c (.one (.h 448 0 0 []))), (4, .c (.one (.v (.int .i64 vs4))))], [], [(448, .live ⟨.metric, .deep, 0, [], vr448⟩)]⟩ k' =
    (cond (decide (vs4 < (vs0.length : Int)))
    (cond ((decide ((0 : Int) ≤ vs4)) && (decide (vs4 < (vs0.length : Int))))
      (cond (sm_metric (atI (t := .metric) vs0 (Int.toNat vs4)))
        (cond ((decide ((0 : Int) ≤ vs4)) && (decide (vs4 < (vr448.length : Int))))
          (k' .normal ⟨[(0, .c (.one (.ro .metric vs0))), (3, .c (.one (.h 448 0 0 []))), (4, .c (.one (.v (.int .i64 (IntKind.wrap .i64 (vs4 + (1 : Int)))))))], [], [(448, .live ⟨.metric, .deep, 0, [], (vr448.set (Int.toNat vs4) (atI (t := .metric) vs0 (Int.toNat vs4)))⟩)]⟩)
          none)
        none)
      none)
    (k' (.exit 0) ⟨[(0, .c (.one (.ro .metric vs0))), (3, .c (.one (.h 448 0 0 []))), (4, .c (.one (.v (.int .i64 vs4)))), (11, .c (.one (.v (.bool (decide (vs4 < (vs0.length : Int)))))))], [], [(448, .live ⟨.metric, .deep, 0, [], vr448⟩)]⟩)) := by kernel_rfl
theorem f38L0_eq {R : Type} (n : Nat) (k' : Ex → St → Option R) (vs0 : List MetricT) : ∀ (m : Nat) (vs4 : Int) (vr448 : List MetricT), iter (fun st k => ev f38e f38k n (cAt [1,1,0,1,0,0] f38c) st k) m ⟨[(0, .c (.one (.ro .metric vs0))), (3, .c (.one (.h 448 0 0 []))), (4, .c (.one (.v (.int .i64 vs4))))], [], [(448, .live ⟨.metric, .deep, 0, [], vr448⟩)]⟩ k' = f38L0 n (fun (xvs4 : Int) (xvs11 : Bool) (xvr448 : List MetricT) => k' (.exit 0) ⟨[(0, .c (.one (.ro .metric vs0))), (3, .c (.one (.h 448 0 0 []))), (4, .c (.one (.v (.int .i64 xvs4)))), (11, .c (.one (.v (.bool xvs11))))], [], [(448, .live ⟨.metric, .deep, 0, [], xvr448⟩)]⟩) vs0 m vs4 vr448 := by
  intro m; induction m with
  | zero => intros; rfl
  | succ m ih =>
    intro vs4 vr448
    simp only [iter]
    rw [f38L0_b]
    simp only [ih, f38L0]

noncomputable def f38K0 {R : Type} (n : Nat) (k' : Ex → St → Option R) : Ex → St → Option R := (blockK 0 (seqK f38e f38k n (cAt [1,1,1] f38c) k'))
theorem f38K0_x0 {R : Type} (n : Nat) (k : List Dt → Option R) (a0 : List MetricT) (vs0 : List MetricT) (xvs4 : Int) (xvs11 : Bool) (xvr448 : List MetricT) : f38K0 n (exitK f38e [.ro] [false] true [.tmp 2] [48] [.d (.sl .metric) a0] k) (.exit 0) ⟨[(0, .c (.one (.ro .metric vs0))), (3, .c (.one (.h 448 0 0 []))), (4, .c (.one (.v (.int .i64 xvs4)))), (11, .c (.one (.v (.bool xvs11))))], [], [(448, .live ⟨.metric, .deep, 0, [], xvr448⟩)]⟩ =
    (k [.d (.sl .metric) xvr448]) := by kernel_rfl

theorem f38_run {R : Type} (n : Nat) (k : List Dt → Option R) (a0 : List MetricT) : evFn f38e f38k n f38c [.ro] [false] true [.tmp 2] [48] [.d (.sl .metric) a0] k =
    (cond ((decide ((a0.length : Int) = (a0.length : Int))) && ((decide ((0 : Int) ≤ (a0.length : Int))) && (decide ((a0.length : Int) ≤ (LIM : Int)))))
    (f38L0 n (fun (xvs4 : Int) (xvs11 : Bool) (xvr448 : List MetricT) =>
      (k [.d (.sl .metric) xvr448])) a0 n (0 : Int) (List.replicate (Int.toNat (a0.length : Int)) (⟨ByteArray.empty, (0 : Int), (0 : Int)⟩ : MetricT)))
    none) := by
  refine Eq.trans (b := (cond ((decide ((a0.length : Int) = (a0.length : Int))) && ((decide ((0 : Int) ≤ (a0.length : Int))) && (decide ((a0.length : Int) ≤ (LIM : Int)))))
    (iter (fun st k => ev f38e f38k n (cAt [1,1,0,1,0,0] f38c) st k) n ⟨[(0, .c (.one (.ro .metric a0))), (3, .c (.one (.h 448 0 0 []))), (4, .c (.one (.v (.int .i64 (0 : Int)))))], [], [(448, .live ⟨.metric, .deep, 0, [], (List.replicate (Int.toNat (a0.length : Int)) (⟨ByteArray.empty, (0 : Int), (0 : Int)⟩ : MetricT))⟩)]⟩ (f38K0 n (exitK f38e [.ro] [false] true [.tmp 2] [48] [.d (.sl .metric) a0] k)))
    none)) (by kernel_rfl) ?_
  simp only [f38L0_eq, f38K0_x0]
theorem f38_spec (a0 : List MetricT) (hg : smL sm_metric a0 = true) : ∃ keep rounds, ∀ {R : Type} (k : List Dt → Option R), evFn f38e keep rounds f38c [.ro] [false] true [.tmp 2] [48] [.d (.sl .metric) a0] k = k [.d (.sl .metric) a0] := by
  have hl : a0.length ≤ 1048576 := smL_len hg
  have hs := smL_all hg
  refine ⟨f38k, a0.length + 1, fun k => ?_⟩
  rw [f38_run, mkOk hl]
  simp only [cond_true]
  have := loop_copy (xs := a0) (f := fun x => x) (F := fun m j out => f38L0 (a0.length + 1) (fun (xvs4 : Int) (xvs11 : Bool) (xvr448 : List MetricT) => (k [.d (.sl .metric) xvr448])) a0 m (j : Int) out) (good := fun out => k [.d (.sl .metric) out]) (⟨ByteArray.empty, (0 : Int), (0 : Int)⟩ : MetricT)
    (fun m j out x hx hl' => by
      obtain ⟨h1, h0, hw, ht⟩ := idx (lt_of_get hx) (by omega)
      obtain ⟨h2, _, _, _⟩ := idx (show j < out.length by rw [hl']; exact lt_of_get hx) (by omega)
      have hx2 := List.all_eq_true.1 hs x (List.mem_of_getElem? hx)
      simp only [f38L0, h1, h0, h2, hw, ht, atI_of (t := .metric) hx, Bool.and_self, cond_true, hx2])
    (fun m out => by simp only [f38L0, idxE, cond_false]) a0.length 0 (a0.length + 1) (by omega) (by omega)
  simpa using this

noncomputable def q38 : List Dt → Option (Bool × List Dt)
  | [.d (.sl .metric) a0] => some ((smL sm_metric a0), [.d (.sl .metric) a0])
  | _ => none
noncomputable def s38 : Gm.Spec := Gm.Spec.of [.ro] [false] true q38
theorem good38 : Gm.Good Try.prog (38, s38) := by
  have hl : ∀ x ∈ [(60, s60)], Gm.Good Try.prog x := List.forall_mem_cons.2 ⟨good60, List.forall_mem_nil _⟩
  refine ⟨⟨spec_ok (tab_ok.env hl) (tab.natl hl) Try.func38 (by kernel_rfl : Try.f38.body = some f38c) [48] (by kernel_rfl) ?_, _, Try.func38, by kernel_rfl, of_decide_eq_true (by kernel_rfl)⟩, Gm.Spec.of_natl _ _ _ _⟩
  intro ds outs h
  unfold q38 at h
  split at h
  · simp only [Option.some.injEq, Prod.mk.injEq] at h; obtain ⟨hg, h⟩ := h; cases h; exact f38_spec _ hg
  · cases h
/-! ### loop.example/g00465/laws.toPace -/
noncomputable def f39c : Code := (Try.f39.body).getD .skip
def f39k : Nat → Kp := kat [⟨[1, 2], []⟩, ⟨[1, 2, 3], []⟩, ⟨[1, 2, 3], []⟩, ⟨[1, 2, 3], []⟩, ⟨[1, 2, 3], []⟩, ⟨[2, 3], []⟩, ⟨[2], []⟩]
noncomputable def f39e : Env := tab.env []
theorem f39_run {R : Type} (n : Nat) (k : List Dt → Option R) (a0 : PaceT) : evFn f39e f39k n f39c [.ro] [false] true [.cell 2 49] [49] [.d .pace a0] k =
    (k [.d .pace a0]) := by kernel_rfl
theorem f39_spec (a0 : PaceT) (hg : sm_pace a0 = true) : ∃ keep rounds, ∀ {R : Type} (k : List Dt → Option R), evFn f39e keep rounds f39c [.ro] [false] true [.cell 2 49] [49] [.d .pace a0] k = k [.d .pace a0] := by
  exact ⟨f39k, 0, fun k => f39_run 0 k a0⟩

noncomputable def q39 : List Dt → Option (Bool × List Dt)
  | [.d .pace a0] => some ((sm_pace a0), [.d .pace a0])
  | _ => none
noncomputable def s39 : Gm.Spec := Gm.Spec.of [.ro] [false] true q39
theorem good39 : Gm.Good Try.prog (39, s39) := by
  have hl : ∀ x ∈ ([] : List (Nat × Gm.Spec)), Gm.Good Try.prog x := fun _ h => by cases h
  refine ⟨⟨spec_ok (tab_ok.env hl) (tab.natl hl) Try.func39 (by kernel_rfl : Try.f39.body = some f39c) [49] (by kernel_rfl) ?_, _, Try.func39, by kernel_rfl, of_decide_eq_true (by kernel_rfl)⟩, Gm.Spec.of_natl _ _ _ _⟩
  intro ds outs h
  unfold q39 at h
  split at h
  · simp only [Option.some.injEq, Prod.mk.injEq] at h; obtain ⟨hg, h⟩ := h; cases h; exact f39_spec _ hg
  · cases h
/-! ### loop.example/g00465/laws.toOrder -/
noncomputable def f18c : Code := (Try.f18.body).getD .skip
def f18k : Nat → Kp := kat [⟨[1, 2], []⟩, ⟨[1, 2, 3], []⟩, ⟨[1, 2, 3], []⟩, ⟨[1, 2, 3], []⟩, ⟨[1, 2, 3], []⟩, ⟨[1, 2, 3], []⟩, ⟨[1, 2, 3], []⟩, ⟨[1, 2, 3], []⟩, ⟨[2, 3], []⟩, ⟨[2], []⟩]
noncomputable def f18e : Env := tab.env [(38, s38), (39, s39), (40, s40)]
theorem f18_run {R : Type} (n : Nat) (k : List Dt → Option R) (a0 : OrderT) : evFn f18e f18k n f18c [.ro] [false] true [.cell 2 52] [52] [.d .order a0] k =
    (cond (smL sm_metric (OrderT.metrics a0))
    (cond (sm_pace (OrderT.pace a0))
      (cond (smL sm_note (OrderT.notes a0))
        (k [.d .order a0])
        none)
      none)
    none) := by kernel_rfl
theorem f18_spec (a0 : OrderT) (hg : sm_order a0 = true) : ∃ keep rounds, ∀ {R : Type} (k : List Dt → Option R), evFn f18e keep rounds f18c [.ro] [false] true [.cell 2 52] [52] [.d .order a0] k = k [.d .order a0] := by
  simp only [sm_order, Bool.and_eq_true] at hg
  refine ⟨f18k, 0, fun k => ?_⟩
  rw [f18_run]
  simp only [hg, cond_true]

noncomputable def q18 : List Dt → Option (Bool × List Dt)
  | [.d .order a0] => some ((sm_order a0), [.d .order a0])
  | _ => none
noncomputable def s18 : Gm.Spec := Gm.Spec.of [.ro] [false] true q18
theorem good18 : Gm.Good Try.prog (18, s18) := by
  have hl : ∀ x ∈ [(38, s38), (39, s39), (40, s40)], Gm.Good Try.prog x := List.forall_mem_cons.2 ⟨good38, List.forall_mem_cons.2 ⟨good39, List.forall_mem_cons.2 ⟨good40, List.forall_mem_nil _⟩⟩⟩
  refine ⟨⟨spec_ok (tab_ok.env hl) (tab.natl hl) Try.func18 (by kernel_rfl : Try.f18.body = some f18c) [52] (by kernel_rfl) ?_, _, Try.func18, by kernel_rfl, of_decide_eq_true (by kernel_rfl)⟩, Gm.Spec.of_natl _ _ _ _⟩
  intro ds outs h
  unfold q18 at h
  split at h
  · simp only [Option.some.injEq, Prod.mk.injEq] at h; obtain ⟨hg, h⟩ := h; cases h; exact f18_spec _ hg
  · cases h
/-! ### loop.example/g00465/laws.eqMetric -/
noncomputable def f63c : Code := (Try.f63.body).getD .skip
def f63k : Nat → Kp := kat [⟨[2, 3], []⟩, ⟨[2, 3, 9], []⟩, ⟨[4], []⟩, ⟨[2, 3, 14], []⟩, ⟨[4], []⟩, ⟨[19], []⟩, ⟨[4], []⟩, ⟨[4], []⟩]
noncomputable def f63e : Env := tab.env []
theorem f63_run {R : Type} (n : Nat) (k : List Dt → Option R) (a0 : MetricT) (a1 : MetricT) : evFn f63e f63k n f63c [.ro, .ro] [false] true [.tmp 4] [4] [.d .metric a0, .d .metric a1] k =
    (cond (!(sEq (MetricT.name a0) (MetricT.name a1)))
    (k [.d .bool false])
    (cond ((MetricT.kind a0) != (MetricT.kind a1))
      (k [.d .bool false])
      (cond ((MetricT.goal a0) != (MetricT.goal a1))
        (k [.d .bool false])
        (k [.d .bool true])))) := by kernel_rfl
theorem f63_spec (a0 : MetricT) (a1 : MetricT) (hg : sm2 sm_metric a0 a1 = true) : ∃ keep rounds, ∀ {R : Type} (k : List Dt → Option R), evFn f63e keep rounds f63c [.ro, .ro] [false] true [.tmp 4] [4] [.d .metric a0, .d .metric a1] k = k [.d .bool (eqD a0 a1)] := by
  simp only [sm2, sm_metric, Bool.and_eq_true] at hg
  refine ⟨f63k, 0, fun k => ?_⟩
  rw [f63_run, eqD_metric]
  try simp only [bne]
  cases sEq a0.name a1.name <;> cases (a0.kind == a1.kind) <;> cases (a0.goal == a1.goal) <;> rfl

noncomputable def q63 : List Dt → Option (Bool × List Dt)
  | [.d .metric a0, .d .metric a1] => some ((sm2 sm_metric a0 a1), [.d .bool (eqD a0 a1)])
  | _ => none
noncomputable def s63 : Gm.Spec := Gm.Spec.of [.ro, .ro] [false] true q63
theorem good63 : Gm.Good Try.prog (63, s63) := by
  have hl : ∀ x ∈ ([] : List (Nat × Gm.Spec)), Gm.Good Try.prog x := fun _ h => by cases h
  refine ⟨⟨spec_ok (tab_ok.env hl) (tab.natl hl) Try.func63 (by kernel_rfl : Try.f63.body = some f63c) [4] (by kernel_rfl) ?_, _, Try.func63, by kernel_rfl, of_decide_eq_true (by kernel_rfl)⟩, Gm.Spec.of_natl _ _ _ _⟩
  intro ds outs h
  unfold q63 at h
  split at h
  · simp only [Option.some.injEq, Prod.mk.injEq] at h; obtain ⟨hg, h⟩ := h; cases h; exact f63_spec _ _ hg
  · cases h
/-! ### loop.example/g00465/laws.eqMetricS -/
noncomputable def f43c : Code := (Try.f43.body).getD .skip
def f43k : Nat → Kp := kat [⟨[0, 1], []⟩, ⟨[0, 1, 10], []⟩, ⟨[4], []⟩, ⟨[0, 1, 5], []⟩, ⟨[0, 1, 5, 14], []⟩, ⟨[0, 1, 5], []⟩, ⟨[0, 1, 5, 26], []⟩, ⟨[4], []⟩, ⟨[4], []⟩]
noncomputable def f43e : Env := tab.env [(63, s63)]
noncomputable def f43L0 {R : Type} (n : Nat) (x0 : Option R) (x1 : Int → Bool → Option R) (vs0 : List MetricT) (vs1 : List MetricT) : Nat → Int → Option R
  | 0, _ => none
  | m + 1, vs5 =>
    (cond (decide (vs5 < (vs0.length : Int)))
      (cond ((decide ((0 : Int) ≤ vs5)) && (decide (vs5 < (vs0.length : Int))))
        (cond ((decide ((0 : Int) ≤ vs5)) && (decide (vs5 < (vs1.length : Int))))
          (cond (sm2 sm_metric (atI (t := .metric) vs0 (Int.toNat vs5)) (atI (t := .metric) vs1 (Int.toNat vs5)))
            (cond (!(eqD (atI (t := .metric) vs0 (Int.toNat vs5)) (atI (t := .metric) vs1 (Int.toNat vs5))))
              (x0)
              (f43L0 n x0 x1 vs0 vs1 m (IntKind.wrap .i64 (vs5 + (1 : Int)))))
            none)
          none)
        none)
      (x1 vs5 (decide (vs5 < (vs0.length : Int)))))
theorem f43L0_b {R : Type} (n : Nat) (k' : Ex → St → Option R) (vs0 : List MetricT) (vs1 : List MetricT) (vs5 : Int) : ev f43e f43k n (cAt [1,1,0,1,0,0] f43c) ⟨[(0, .c (.one (.ro .metric vs0))), (1, .c (.one (.ro .metric vs1))), (5, .c (.one (.v (.int .i64 vs5))))], [], []⟩ k' =
    (cond (decide (vs5 < (vs0.length : Int)))
    (cond ((decide ((0 : Int) ≤ vs5)) && (decide (vs5 < (vs0.length : Int))))
      (cond ((decide ((0 : Int) ≤ vs5)) && (decide (vs5 < (vs1.length : Int))))
        (cond (sm2 sm_metric (atI (t := .metric) vs0 (Int.toNat vs5)) (atI (t := .metric) vs1 (Int.toNat vs5)))
          (cond (!(eqD (atI (t := .metric) vs0 (Int.toNat vs5)) (atI (t := .metric) vs1 (Int.toNat vs5))))
            (k' .ret ⟨[(4, .c (.one (.v (.bool false))))], [], []⟩)
            (k' .normal ⟨[(0, .c (.one (.ro .metric vs0))), (1, .c (.one (.ro .metric vs1))), (5, .c (.one (.v (.int .i64 (IntKind.wrap .i64 (vs5 + (1 : Int)))))))], [], []⟩))
          none)
        none)
      none)
    (k' (.exit 0) ⟨[(0, .c (.one (.ro .metric vs0))), (1, .c (.one (.ro .metric vs1))), (5, .c (.one (.v (.int .i64 vs5)))), (14, .c (.one (.v (.bool (decide (vs5 < (vs0.length : Int)))))))], [], []⟩)) := by kernel_rfl
theorem f43L0_eq {R : Type} (n : Nat) (k' : Ex → St → Option R) (vs0 : List MetricT) (vs1 : List MetricT) : ∀ (m : Nat) (vs5 : Int), iter (fun st k => ev f43e f43k n (cAt [1,1,0,1,0,0] f43c) st k) m ⟨[(0, .c (.one (.ro .metric vs0))), (1, .c (.one (.ro .metric vs1))), (5, .c (.one (.v (.int .i64 vs5))))], [], []⟩ k' = f43L0 n (k' .ret ⟨[(4, .c (.one (.v (.bool false))))], [], []⟩) (fun (xvs5 : Int) (xvs14 : Bool) => k' (.exit 0) ⟨[(0, .c (.one (.ro .metric vs0))), (1, .c (.one (.ro .metric vs1))), (5, .c (.one (.v (.int .i64 xvs5)))), (14, .c (.one (.v (.bool xvs14))))], [], []⟩) vs0 vs1 m vs5 := by
  intro m; induction m with
  | zero => intros; rfl
  | succ m ih =>
    intro vs5
    simp only [iter]
    rw [f43L0_b]
    simp only [ih, f43L0]

noncomputable def f43K0 {R : Type} (n : Nat) (k' : Ex → St → Option R) : Ex → St → Option R := (blockK 0 (seqK f43e f43k n (cAt [1,1,1] f43c) k'))
theorem f43K0_x0 {R : Type} (n : Nat) (k : List Dt → Option R) (a0 : List MetricT) (a1 : List MetricT)  : f43K0 n (exitK f43e [.ro, .ro] [false] true [.tmp 4] [4] [.d (.sl .metric) a0, .d (.sl .metric) a1] k) .ret ⟨[(4, .c (.one (.v (.bool false))))], [], []⟩ =
    (k [.d .bool false]) := by kernel_rfl
theorem f43K0_x1 {R : Type} (n : Nat) (k : List Dt → Option R) (a0 : List MetricT) (a1 : List MetricT) (vs0 : List MetricT) (vs1 : List MetricT) (xvs5 : Int) (xvs14 : Bool) : f43K0 n (exitK f43e [.ro, .ro] [false] true [.tmp 4] [4] [.d (.sl .metric) a0, .d (.sl .metric) a1] k) (.exit 0) ⟨[(0, .c (.one (.ro .metric vs0))), (1, .c (.one (.ro .metric vs1))), (5, .c (.one (.v (.int .i64 xvs5)))), (14, .c (.one (.v (.bool xvs14))))], [], []⟩ =
    (k [.d .bool true]) := by kernel_rfl

theorem f43_run {R : Type} (n : Nat) (k : List Dt → Option R) (a0 : List MetricT) (a1 : List MetricT) : evFn f43e f43k n f43c [.ro, .ro] [false] true [.tmp 4] [4] [.d (.sl .metric) a0, .d (.sl .metric) a1] k =
    (cond ((a0.length : Int) != (a1.length : Int))
    (k [.d .bool false])
    (f43L0 n (k [.d .bool false]) (fun (xvs5 : Int) (xvs14 : Bool) =>
      (k [.d .bool true])) a0 a1 n (0 : Int))) := by
  refine Eq.trans (b := (cond ((a0.length : Int) != (a1.length : Int))
    (k [.d .bool false])
    (iter (fun st k => ev f43e f43k n (cAt [1,1,0,1,0,0] f43c) st k) n ⟨[(0, .c (.one (.ro .metric a0))), (1, .c (.one (.ro .metric a1))), (5, .c (.one (.v (.int .i64 (0 : Int)))))], [], []⟩ (f43K0 n (exitK f43e [.ro, .ro] [false] true [.tmp 4] [4] [.d (.sl .metric) a0, .d (.sl .metric) a1] k))))) (by kernel_rfl) ?_
  simp only [f43L0_eq, f43K0_x0, f43K0_x1]
theorem f43_spec (a0 : List MetricT) (a1 : List MetricT) (hg : sm2 (smL sm_metric) a0 a1 = true) : ∃ keep rounds, ∀ {R : Type} (k : List Dt → Option R), evFn f43e keep rounds f43c [.ro, .ro] [false] true [.tmp 4] [4] [.d (.sl .metric) a0, .d (.sl .metric) a1] k = k [.d .bool (eqD a0 a1)] := by
  simp only [sm2, Bool.and_eq_true] at hg
  obtain ⟨hg0, hg1⟩ := hg
  have hl : a0.length ≤ 1048576 := smL_len hg0
  refine ⟨f43k, a0.length + 1, fun k => ?_⟩
  rw [f43_run]
  by_cases hc : a0.length = a1.length
  · have hc' : ((a0.length : Int) != (a1.length : Int)) = false := by simp [hc]
    simp only [hc', cond_false]
    refine Eq.trans (loop_idx (n := a0.length) (F := fun m i => f43L0 (a0.length + 1) _ _ a0 a1 m i) (p := fun j => eqD (atI (t := .metric) a0 j) (atI (t := .metric) a1 j)) (good := k [.d .bool true]) (bad := k [.d .bool false])
      (fun m j hj => ?_) (fun m => by simp only [f43L0, idxE, cond_false]) a0.length 0 (a0.length + 1) (by omega) (by omega)) ?_
    · obtain ⟨h1, h0, hw, ht⟩ := idx hj (by omega)
      obtain ⟨h2, _, _, _⟩ := idx (show j < a1.length by omega) (by omega)
      have ha := smL_at (t := .metric) hg0 hj
      have hb := smL_at (t := .metric) hg1 (show j < a1.length by omega)
      simp only [f43L0, h1, h0, h2, hw, ht, Bool.and_self, cond_true, sm2, ha, hb]
      cases eqD (atI (t := .metric) a0 j) (atI (t := .metric) a1 j) <;> rfl
    · rw [allN_eq hc (fun j x y hx hy => by rw [atI_of (t := .metric) hx, atI_of (t := .metric) hy])]
      cases eqD a0 a1 <;> rfl
  · simp only [bneLen hc, cond_true]
    rw [eqD_ne (fun e => hc (by rw [e]))]

noncomputable def q43 : List Dt → Option (Bool × List Dt)
  | [.d (.sl .metric) a0, .d (.sl .metric) a1] => some ((sm2 (smL sm_metric) a0 a1), [.d .bool (eqD a0 a1)])
  | _ => none
noncomputable def s43 : Gm.Spec := Gm.Spec.of [.ro, .ro] [false] true q43
theorem good43 : Gm.Good Try.prog (43, s43) := by
  have hl : ∀ x ∈ [(63, s63)], Gm.Good Try.prog x := List.forall_mem_cons.2 ⟨good63, List.forall_mem_nil _⟩
  refine ⟨⟨spec_ok (tab_ok.env hl) (tab.natl hl) Try.func43 (by kernel_rfl : Try.f43.body = some f43c) [4] (by kernel_rfl) ?_, _, Try.func43, by kernel_rfl, of_decide_eq_true (by kernel_rfl)⟩, Gm.Spec.of_natl _ _ _ _⟩
  intro ds outs h
  unfold q43 at h
  split at h
  · simp only [Option.some.injEq, Prod.mk.injEq] at h; obtain ⟨hg, h⟩ := h; cases h; exact f43_spec _ _ hg
  · cases h
/-! ### loop.example/g00465/laws.eqPace -/
noncomputable def f44c : Code := (Try.f44.body).getD .skip
def f44k : Nat → Kp := kat [⟨[2, 3], []⟩, ⟨[2, 3, 9], []⟩, ⟨[4], []⟩, ⟨[2, 3, 14], []⟩, ⟨[4], []⟩, ⟨[2, 3, 19], []⟩, ⟨[4], []⟩, ⟨[24], []⟩, ⟨[4], []⟩, ⟨[4], []⟩]
noncomputable def f44e : Env := tab.env []
theorem f44_run {R : Type} (n : Nat) (k : List Dt → Option R) (a0 : PaceT) (a1 : PaceT) : evFn f44e f44k n f44c [.ro, .ro] [false] true [.tmp 4] [4] [.d .pace a0, .d .pace a1] k =
    (cond ((PaceT.up a0) != (PaceT.up a1))
    (k [.d .bool false])
    (cond ((PaceT.down a0) != (PaceT.down a1))
      (k [.d .bool false])
      (cond ((PaceT.upSpan a0) != (PaceT.upSpan a1))
        (k [.d .bool false])
        (cond ((PaceT.downSpan a0) != (PaceT.downSpan a1))
          (k [.d .bool false])
          (k [.d .bool true]))))) := by kernel_rfl
theorem f44_spec (a0 : PaceT) (a1 : PaceT) (hg : sm2 sm_pace a0 a1 = true) : ∃ keep rounds, ∀ {R : Type} (k : List Dt → Option R), evFn f44e keep rounds f44c [.ro, .ro] [false] true [.tmp 4] [4] [.d .pace a0, .d .pace a1] k = k [.d .bool (eqD a0 a1)] := by
  simp only [sm2, sm_pace, Bool.and_eq_true] at hg
  refine ⟨f44k, 0, fun k => ?_⟩
  rw [f44_run, eqD_pace]
  try simp only [bne]
  cases (a0.up == a1.up) <;> cases (a0.down == a1.down) <;> cases (a0.upSpan == a1.upSpan) <;> cases (a0.downSpan == a1.downSpan) <;> rfl

noncomputable def q44 : List Dt → Option (Bool × List Dt)
  | [.d .pace a0, .d .pace a1] => some ((sm2 sm_pace a0 a1), [.d .bool (eqD a0 a1)])
  | _ => none
noncomputable def s44 : Gm.Spec := Gm.Spec.of [.ro, .ro] [false] true q44
theorem good44 : Gm.Good Try.prog (44, s44) := by
  have hl : ∀ x ∈ ([] : List (Nat × Gm.Spec)), Gm.Good Try.prog x := fun _ h => by cases h
  refine ⟨⟨spec_ok (tab_ok.env hl) (tab.natl hl) Try.func44 (by kernel_rfl : Try.f44.body = some f44c) [4] (by kernel_rfl) ?_, _, Try.func44, by kernel_rfl, of_decide_eq_true (by kernel_rfl)⟩, Gm.Spec.of_natl _ _ _ _⟩
  intro ds outs h
  unfold q44 at h
  split at h
  · simp only [Option.some.injEq, Prod.mk.injEq] at h; obtain ⟨hg, h⟩ := h; cases h; exact f44_spec _ _ hg
  · cases h
/-! ### loop.example/g00465/laws.eqNote -/
noncomputable def f64c : Code := (Try.f64.body).getD .skip
def f64k : Nat → Kp := kat [⟨[2, 3], []⟩, ⟨[2, 3, 9], []⟩, ⟨[4], []⟩, ⟨[14], []⟩, ⟨[4], []⟩, ⟨[4], []⟩]
noncomputable def f64e : Env := tab.env []
theorem f64_run {R : Type} (n : Nat) (k : List Dt → Option R) (a0 : NoteT) (a1 : NoteT) : evFn f64e f64k n f64c [.ro, .ro] [false] true [.tmp 4] [4] [.d .note a0, .d .note a1] k =
    (cond (!(sEq (NoteT.key a0) (NoteT.key a1)))
    (k [.d .bool false])
    (cond (!(sEq (NoteT.text a0) (NoteT.text a1)))
      (k [.d .bool false])
      (k [.d .bool true]))) := by kernel_rfl
theorem f64_spec (a0 : NoteT) (a1 : NoteT) (hg : sm2 sm_note a0 a1 = true) : ∃ keep rounds, ∀ {R : Type} (k : List Dt → Option R), evFn f64e keep rounds f64c [.ro, .ro] [false] true [.tmp 4] [4] [.d .note a0, .d .note a1] k = k [.d .bool (eqD a0 a1)] := by
  simp only [sm2, sm_note, Bool.and_eq_true] at hg
  refine ⟨f64k, 0, fun k => ?_⟩
  rw [f64_run, eqD_note]
  try simp only [bne]
  cases sEq a0.key a1.key <;> cases sEq a0.text a1.text <;> rfl

noncomputable def q64 : List Dt → Option (Bool × List Dt)
  | [.d .note a0, .d .note a1] => some ((sm2 sm_note a0 a1), [.d .bool (eqD a0 a1)])
  | _ => none
noncomputable def s64 : Gm.Spec := Gm.Spec.of [.ro, .ro] [false] true q64
theorem good64 : Gm.Good Try.prog (64, s64) := by
  have hl : ∀ x ∈ ([] : List (Nat × Gm.Spec)), Gm.Good Try.prog x := fun _ h => by cases h
  refine ⟨⟨spec_ok (tab_ok.env hl) (tab.natl hl) Try.func64 (by kernel_rfl : Try.f64.body = some f64c) [4] (by kernel_rfl) ?_, _, Try.func64, by kernel_rfl, of_decide_eq_true (by kernel_rfl)⟩, Gm.Spec.of_natl _ _ _ _⟩
  intro ds outs h
  unfold q64 at h
  split at h
  · simp only [Option.some.injEq, Prod.mk.injEq] at h; obtain ⟨hg, h⟩ := h; cases h; exact f64_spec _ _ hg
  · cases h
/-! ### loop.example/g00465/laws.eqNoteS -/
noncomputable def f45c : Code := (Try.f45.body).getD .skip
def f45k : Nat → Kp := kat [⟨[0, 1], []⟩, ⟨[0, 1, 10], []⟩, ⟨[4], []⟩, ⟨[0, 1, 5], []⟩, ⟨[0, 1, 5, 14], []⟩, ⟨[0, 1, 5], []⟩, ⟨[0, 1, 5, 26], []⟩, ⟨[4], []⟩, ⟨[4], []⟩]
noncomputable def f45e : Env := tab.env [(64, s64)]
noncomputable def f45L0 {R : Type} (n : Nat) (x0 : Option R) (x1 : Int → Bool → Option R) (vs0 : List NoteT) (vs1 : List NoteT) : Nat → Int → Option R
  | 0, _ => none
  | m + 1, vs5 =>
    (cond (decide (vs5 < (vs0.length : Int)))
      (cond ((decide ((0 : Int) ≤ vs5)) && (decide (vs5 < (vs0.length : Int))))
        (cond ((decide ((0 : Int) ≤ vs5)) && (decide (vs5 < (vs1.length : Int))))
          (cond (sm2 sm_note (atI (t := .note) vs0 (Int.toNat vs5)) (atI (t := .note) vs1 (Int.toNat vs5)))
            (cond (!(eqD (atI (t := .note) vs0 (Int.toNat vs5)) (atI (t := .note) vs1 (Int.toNat vs5))))
              (x0)
              (f45L0 n x0 x1 vs0 vs1 m (IntKind.wrap .i64 (vs5 + (1 : Int)))))
            none)
          none)
        none)
      (x1 vs5 (decide (vs5 < (vs0.length : Int)))))
theorem f45L0_b {R : Type} (n : Nat) (k' : Ex → St → Option R) (vs0 : List NoteT) (vs1 : List NoteT) (vs5 : Int) : ev f45e f45k n (cAt [1,1,0,1,0,0] f45c) ⟨[(0, .c (.one (.ro .note vs0))), (1, .c (.one (.ro .note vs1))), (5, .c (.one (.v (.int .i64 vs5))))], [], []⟩ k' =
    (cond (decide (vs5 < (vs0.length : Int)))
    (cond ((decide ((0 : Int) ≤ vs5)) && (decide (vs5 < (vs0.length : Int))))
      (cond ((decide ((0 : Int) ≤ vs5)) && (decide (vs5 < (vs1.length : Int))))
        (cond (sm2 sm_note (atI (t := .note) vs0 (Int.toNat vs5)) (atI (t := .note) vs1 (Int.toNat vs5)))
          (cond (!(eqD (atI (t := .note) vs0 (Int.toNat vs5)) (atI (t := .note) vs1 (Int.toNat vs5))))
            (k' .ret ⟨[(4, .c (.one (.v (.bool false))))], [], []⟩)
            (k' .normal ⟨[(0, .c (.one (.ro .note vs0))), (1, .c (.one (.ro .note vs1))), (5, .c (.one (.v (.int .i64 (IntKind.wrap .i64 (vs5 + (1 : Int)))))))], [], []⟩))
          none)
        none)
      none)
    (k' (.exit 0) ⟨[(0, .c (.one (.ro .note vs0))), (1, .c (.one (.ro .note vs1))), (5, .c (.one (.v (.int .i64 vs5)))), (14, .c (.one (.v (.bool (decide (vs5 < (vs0.length : Int)))))))], [], []⟩)) := by kernel_rfl
theorem f45L0_eq {R : Type} (n : Nat) (k' : Ex → St → Option R) (vs0 : List NoteT) (vs1 : List NoteT) : ∀ (m : Nat) (vs5 : Int), iter (fun st k => ev f45e f45k n (cAt [1,1,0,1,0,0] f45c) st k) m ⟨[(0, .c (.one (.ro .note vs0))), (1, .c (.one (.ro .note vs1))), (5, .c (.one (.v (.int .i64 vs5))))], [], []⟩ k' = f45L0 n (k' .ret ⟨[(4, .c (.one (.v (.bool false))))], [], []⟩) (fun (xvs5 : Int) (xvs14 : Bool) => k' (.exit 0) ⟨[(0, .c (.one (.ro .note vs0))), (1, .c (.one (.ro .note vs1))), (5, .c (.one (.v (.int .i64 xvs5)))), (14, .c (.one (.v (.bool xvs14))))], [], []⟩) vs0 vs1 m vs5 := by
  intro m; induction m with
  | zero => intros; rfl
  | succ m ih =>
    intro vs5
    simp only [iter]
    rw [f45L0_b]
    simp only [ih, f45L0]

noncomputable def f45K0 {R : Type} (n : Nat) (k' : Ex → St → Option R) : Ex → St → Option R := (blockK 0 (seqK f45e f45k n (cAt [1,1,1] f45c) k'))
theorem f45K0_x0 {R : Type} (n : Nat) (k : List Dt → Option R) (a0 : List NoteT) (a1 : List NoteT)  : f45K0 n (exitK f45e [.ro, .ro] [false] true [.tmp 4] [4] [.d (.sl .note) a0, .d (.sl .note) a1] k) .ret ⟨[(4, .c (.one (.v (.bool false))))], [], []⟩ =
    (k [.d .bool false]) := by kernel_rfl
theorem f45K0_x1 {R : Type} (n : Nat) (k : List Dt → Option R) (a0 : List NoteT) (a1 : List NoteT) (vs0 : List NoteT) (vs1 : List NoteT) (xvs5 : Int) (xvs14 : Bool) : f45K0 n (exitK f45e [.ro, .ro] [false] true [.tmp 4] [4] [.d (.sl .note) a0, .d (.sl .note) a1] k) (.exit 0) ⟨[(0, .c (.one (.ro .note vs0))), (1, .c (.one (.ro .note vs1))), (5, .c (.one (.v (.int .i64 xvs5)))), (14, .c (.one (.v (.bool xvs14))))], [], []⟩ =
    (k [.d .bool true]) := by kernel_rfl

theorem f45_run {R : Type} (n : Nat) (k : List Dt → Option R) (a0 : List NoteT) (a1 : List NoteT) : evFn f45e f45k n f45c [.ro, .ro] [false] true [.tmp 4] [4] [.d (.sl .note) a0, .d (.sl .note) a1] k =
    (cond ((a0.length : Int) != (a1.length : Int))
    (k [.d .bool false])
    (f45L0 n (k [.d .bool false]) (fun (xvs5 : Int) (xvs14 : Bool) =>
      (k [.d .bool true])) a0 a1 n (0 : Int))) := by
  refine Eq.trans (b := (cond ((a0.length : Int) != (a1.length : Int))
    (k [.d .bool false])
    (iter (fun st k => ev f45e f45k n (cAt [1,1,0,1,0,0] f45c) st k) n ⟨[(0, .c (.one (.ro .note a0))), (1, .c (.one (.ro .note a1))), (5, .c (.one (.v (.int .i64 (0 : Int)))))], [], []⟩ (f45K0 n (exitK f45e [.ro, .ro] [false] true [.tmp 4] [4] [.d (.sl .note) a0, .d (.sl .note) a1] k))))) (by kernel_rfl) ?_
  simp only [f45L0_eq, f45K0_x0, f45K0_x1]
theorem f45_spec (a0 : List NoteT) (a1 : List NoteT) (hg : sm2 (smL sm_note) a0 a1 = true) : ∃ keep rounds, ∀ {R : Type} (k : List Dt → Option R), evFn f45e keep rounds f45c [.ro, .ro] [false] true [.tmp 4] [4] [.d (.sl .note) a0, .d (.sl .note) a1] k = k [.d .bool (eqD a0 a1)] := by
  simp only [sm2, Bool.and_eq_true] at hg
  obtain ⟨hg0, hg1⟩ := hg
  have hl : a0.length ≤ 1048576 := smL_len hg0
  refine ⟨f45k, a0.length + 1, fun k => ?_⟩
  rw [f45_run]
  by_cases hc : a0.length = a1.length
  · have hc' : ((a0.length : Int) != (a1.length : Int)) = false := by simp [hc]
    simp only [hc', cond_false]
    refine Eq.trans (loop_idx (n := a0.length) (F := fun m i => f45L0 (a0.length + 1) _ _ a0 a1 m i) (p := fun j => eqD (atI (t := .note) a0 j) (atI (t := .note) a1 j)) (good := k [.d .bool true]) (bad := k [.d .bool false])
      (fun m j hj => ?_) (fun m => by simp only [f45L0, idxE, cond_false]) a0.length 0 (a0.length + 1) (by omega) (by omega)) ?_
    · obtain ⟨h1, h0, hw, ht⟩ := idx hj (by omega)
      obtain ⟨h2, _, _, _⟩ := idx (show j < a1.length by omega) (by omega)
      have ha := smL_at (t := .note) hg0 hj
      have hb := smL_at (t := .note) hg1 (show j < a1.length by omega)
      simp only [f45L0, h1, h0, h2, hw, ht, Bool.and_self, cond_true, sm2, ha, hb]
      cases eqD (atI (t := .note) a0 j) (atI (t := .note) a1 j) <;> rfl
    · rw [allN_eq hc (fun j x y hx hy => by rw [atI_of (t := .note) hx, atI_of (t := .note) hy])]
      cases eqD a0 a1 <;> rfl
  · simp only [bneLen hc, cond_true]
    rw [eqD_ne (fun e => hc (by rw [e]))]

noncomputable def q45 : List Dt → Option (Bool × List Dt)
  | [.d (.sl .note) a0, .d (.sl .note) a1] => some ((sm2 (smL sm_note) a0 a1), [.d .bool (eqD a0 a1)])
  | _ => none
noncomputable def s45 : Gm.Spec := Gm.Spec.of [.ro, .ro] [false] true q45
theorem good45 : Gm.Good Try.prog (45, s45) := by
  have hl : ∀ x ∈ [(64, s64)], Gm.Good Try.prog x := List.forall_mem_cons.2 ⟨good64, List.forall_mem_nil _⟩
  refine ⟨⟨spec_ok (tab_ok.env hl) (tab.natl hl) Try.func45 (by kernel_rfl : Try.f45.body = some f45c) [4] (by kernel_rfl) ?_, _, Try.func45, by kernel_rfl, of_decide_eq_true (by kernel_rfl)⟩, Gm.Spec.of_natl _ _ _ _⟩
  intro ds outs h
  unfold q45 at h
  split at h
  · simp only [Option.some.injEq, Prod.mk.injEq] at h; obtain ⟨hg, h⟩ := h; cases h; exact f45_spec _ _ hg
  · cases h
/-! ### loop.example/g00465/laws.eqOrder -/
noncomputable def f20c : Code := (Try.f20.body).getD .skip
def f20k : Nat → Kp := kat [⟨[2, 3], []⟩, ⟨[2, 3, 9], []⟩, ⟨[4], []⟩, ⟨[2, 3, 14], []⟩, ⟨[4], []⟩, ⟨[2, 3, 19], []⟩, ⟨[4], []⟩, ⟨[2, 3, 24], []⟩, ⟨[4], []⟩, ⟨[2, 3, 30], []⟩, ⟨[4], []⟩, ⟨[2, 3, 36], []⟩, ⟨[4], []⟩, ⟨[42], []⟩, ⟨[4], []⟩, ⟨[4], []⟩]
noncomputable def f20e : Env := tab.env [(43, s43), (44, s44), (45, s45)]
theorem f20_run {R : Type} (n : Nat) (k : List Dt → Option R) (a0 : OrderT) (a1 : OrderT) : evFn f20e f20k n f20c [.ro, .ro] [false] true [.tmp 4] [4] [.d .order a0, .d .order a1] k =
    (cond (!(sEq (OrderT.name a0) (OrderT.name a1)))
    (k [.d .bool false])
    (cond (!(sEq (OrderT.target a0) (OrderT.target a1)))
      (k [.d .bool false])
      (cond ((OrderT.low a0) != (OrderT.low a1))
        (k [.d .bool false])
        (cond ((OrderT.high a0) != (OrderT.high a1))
          (k [.d .bool false])
          (cond (sm2 (smL sm_metric) (OrderT.metrics a0) (OrderT.metrics a1))
            (cond (!(eqD (OrderT.metrics a0) (OrderT.metrics a1)))
              (k [.d .bool false])
              (cond (sm2 sm_pace (OrderT.pace a0) (OrderT.pace a1))
                (cond (!(eqD (OrderT.pace a0) (OrderT.pace a1)))
                  (k [.d .bool false])
                  (cond (sm2 (smL sm_note) (OrderT.notes a0) (OrderT.notes a1))
                    (cond (!(eqD (OrderT.notes a0) (OrderT.notes a1)))
                      (k [.d .bool false])
                      (k [.d .bool true]))
                    none))
                none))
            none))))) := by kernel_rfl
theorem f20_spec (a0 : OrderT) (a1 : OrderT) (hg : sm2 sm_order a0 a1 = true) : ∃ keep rounds, ∀ {R : Type} (k : List Dt → Option R), evFn f20e keep rounds f20c [.ro, .ro] [false] true [.tmp 4] [4] [.d .order a0, .d .order a1] k = k [.d .bool (eqD a0 a1)] := by
  simp only [sm2, sm_order, Bool.and_eq_true] at hg
  refine ⟨f20k, 0, fun k => ?_⟩
  rw [f20_run, eqD_order]
  simp only [bne, sm2, hg, Bool.and_self, Bool.true_and, cond_true]
  cases sEq a0.name a1.name <;> cases sEq a0.target a1.target <;> cases (a0.low == a1.low) <;> cases (a0.high == a1.high) <;> cases eqD a0.metrics a1.metrics <;> cases eqD a0.pace a1.pace <;> cases eqD a0.notes a1.notes <;> rfl

noncomputable def q20 : List Dt → Option (Bool × List Dt)
  | [.d .order a0, .d .order a1] => some ((sm2 sm_order a0 a1), [.d .bool (eqD a0 a1)])
  | _ => none
noncomputable def s20 : Gm.Spec := Gm.Spec.of [.ro, .ro] [false] true q20
theorem good20 : Gm.Good Try.prog (20, s20) := by
  have hl : ∀ x ∈ [(43, s43), (44, s44), (45, s45)], Gm.Good Try.prog x := List.forall_mem_cons.2 ⟨good43, List.forall_mem_cons.2 ⟨good44, List.forall_mem_cons.2 ⟨good45, List.forall_mem_nil _⟩⟩⟩
  refine ⟨⟨spec_ok (tab_ok.env hl) (tab.natl hl) Try.func20 (by kernel_rfl : Try.f20.body = some f20c) [4] (by kernel_rfl) ?_, _, Try.func20, by kernel_rfl, of_decide_eq_true (by kernel_rfl)⟩, Gm.Spec.of_natl _ _ _ _⟩
  intro ds outs h
  unfold q20 at h
  split at h
  · simp only [Option.some.injEq, Prod.mk.injEq] at h; obtain ⟨hg, h⟩ := h; cases h; exact f20_spec _ _ hg
  · cases h
/-! ### loop.example/g00465/laws.szTold -/
noncomputable def f66c : Code := (Try.f66.body).getD .skip
def f66k : Nat → Kp := kat [⟨[1, 2], []⟩, ⟨[1], []⟩, ⟨[1, 11], []⟩, ⟨[4], []⟩, ⟨[4], []⟩]
noncomputable def f66e : Env := tab.env []
theorem f66_run {R : Type} (n : Nat) (k : List Dt → Option R) (a0 : ToldT) (a1 : Int) : evFn f66e f66k n f66c [.ro, .ro] [false] true [.tmp 4] [3] [.d .told a0, .d (.i .i64) a1] k =
    (cond (decide ((IntKind.wrap .i64 (a1 - (ByteArray.size (ToldT.name a0) : Int))) < (0 : Int)))
    (k [.d (.i .i64) (-1 : Int)])
    (k [.d (.i .i64) (IntKind.wrap .i64 (a1 - (ByteArray.size (ToldT.name a0) : Int)))])) := by kernel_rfl
theorem f66_spec (a0 : ToldT) (a1 : Int) (hg : gz_told a0 a1 = true) : ∃ keep rounds, ∀ {R : Type} (k : List Dt → Option R), evFn f66e keep rounds f66c [.ro, .ro] [false] true [.tmp 4] [3] [.d .told a0, .d (.i .i64) a1] k = k [.d (.i .i64) (z_told a0 a1)] := by
  simp only [gz_told, ok_told, Bool.and_eq_true, okN_iff] at hg
  obtain ⟨⟨hf_time, hf_name, hf_n⟩, hn1, hn2⟩ := hg
  have hf_nameb : a0.name.size ≤ 9223372036854775807 := bleN hf_name
  have eN : szN_told a0 = a0.name.size := rfl
  refine ⟨f66k, 0, fun k => ?_⟩
  rw [f66_run]
  show _ = k [.d (.i .i64) (z_told a0 a1)]
  unfold z_told
  rw [wrap_id (x := a1 - ((a0.name.size : Nat) : Int)) (by omega) (by omega)]
  by_cases h1 : a1 - ((a0.name.size : Nat) : Int) < 0
  · simp only [h1, decide_true, cond_true]; rw [szI_neg (by omega)]
  simp only [h1, decide_false, cond_false]
  rw [szI_pos (by omega)]
  first
    | rfl
    | rw [show (a1 - ((a0.name.size : Nat) : Int)) = a1 - ((szN_told a0 : Nat) : Int) by omega]

noncomputable def q66 : List Dt → Option (Bool × List Dt)
  | [.d .told a0, .d (.i .i64) a1] => some ((gz_told a0 a1), [.d (.i .i64) (z_told a0 a1)])
  | _ => none
noncomputable def s66 : Gm.Spec := Gm.Spec.of [.ro, .ro] [false] true q66
theorem good66 : Gm.Good Try.prog (66, s66) := by
  have hl : ∀ x ∈ ([] : List (Nat × Gm.Spec)), Gm.Good Try.prog x := fun _ h => by cases h
  refine ⟨⟨spec_ok (tab_ok.env hl) (tab.natl hl) Try.func66 (by kernel_rfl : Try.f66.body = some f66c) [3] (by kernel_rfl) ?_, _, Try.func66, by kernel_rfl, of_decide_eq_true (by kernel_rfl)⟩, Gm.Spec.of_natl _ _ _ _⟩
  intro ds outs h
  unfold q66 at h
  split at h
  · simp only [Option.some.injEq, Prod.mk.injEq] at h; obtain ⟨hg, h⟩ := h; cases h; exact f66_spec _ _ hg
  · cases h
/-! ### loop.example/g00465/laws.szToldS -/
noncomputable def f48c : Code := (Try.f48.body).getD .skip
def f48k : Nat → Kp := kat [⟨[0, 1], []⟩, ⟨[0, 1], []⟩, ⟨[0, 1, 11], []⟩, ⟨[4], []⟩, ⟨[0, 1, 5], []⟩, ⟨[0, 1, 5, 15], []⟩, ⟨[0, 1, 5], []⟩, ⟨[0, 1, 5], []⟩, ⟨[0, 1, 5, 25], []⟩, ⟨[4], []⟩, ⟨[4], []⟩]
noncomputable def f48e : Env := tab.env [(66, s66)]
noncomputable def f48L0 {R : Type} (n : Nat) (x0 : Option R) (x1 : Int → Int → Bool → Option R) (vs0 : List ToldT) : Nat → Int → Int → Option R
  | 0, _, _ => none
  | m + 1, vs1, vs5 =>
    (cond (decide (vs5 < (vs0.length : Int)))
      (cond ((decide ((0 : Int) ≤ vs5)) && (decide (vs5 < (vs0.length : Int))))
        (cond (gz_told (atI (t := .told) vs0 (Int.toNat vs5)) vs1)
          (cond (decide ((z_told (atI (t := .told) vs0 (Int.toNat vs5)) vs1) < (0 : Int)))
            (x0)
            (f48L0 n x0 x1 vs0 m (z_told (atI (t := .told) vs0 (Int.toNat vs5)) vs1) (IntKind.wrap .i64 (vs5 + (1 : Int)))))
          none)
        none)
      (x1 vs1 vs5 (decide (vs5 < (vs0.length : Int)))))
theorem f48L0_b {R : Type} (n : Nat) (k' : Ex → St → Option R) (vs0 : List ToldT) (vs1 : Int) (vs5 : Int) : ev f48e f48k n (cAt [1,1,1,0,1,0,0] f48c) ⟨[(0, .c (.one (.ro .told vs0))), (1, .c (.one (.v (.int .i64 vs1)))), (5, .c (.one (.v (.int .i64 vs5))))], [], []⟩ k' =
    (cond (decide (vs5 < (vs0.length : Int)))
    (cond ((decide ((0 : Int) ≤ vs5)) && (decide (vs5 < (vs0.length : Int))))
      (cond (gz_told (atI (t := .told) vs0 (Int.toNat vs5)) vs1)
        (cond (decide ((z_told (atI (t := .told) vs0 (Int.toNat vs5)) vs1) < (0 : Int)))
          (k' .ret ⟨[(4, .c (.one (.v (.int .i64 (-1 : Int)))))], [], []⟩)
          (k' .normal ⟨[(0, .c (.one (.ro .told vs0))), (1, .c (.one (.v (.int .i64 (z_told (atI (t := .told) vs0 (Int.toNat vs5)) vs1))))), (5, .c (.one (.v (.int .i64 (IntKind.wrap .i64 (vs5 + (1 : Int)))))))], [], []⟩))
        none)
      none)
    (k' (.exit 0) ⟨[(0, .c (.one (.ro .told vs0))), (1, .c (.one (.v (.int .i64 vs1)))), (5, .c (.one (.v (.int .i64 vs5)))), (15, .c (.one (.v (.bool (decide (vs5 < (vs0.length : Int)))))))], [], []⟩)) := by kernel_rfl
theorem f48L0_eq {R : Type} (n : Nat) (k' : Ex → St → Option R) (vs0 : List ToldT) : ∀ (m : Nat) (vs1 : Int) (vs5 : Int), iter (fun st k => ev f48e f48k n (cAt [1,1,1,0,1,0,0] f48c) st k) m ⟨[(0, .c (.one (.ro .told vs0))), (1, .c (.one (.v (.int .i64 vs1)))), (5, .c (.one (.v (.int .i64 vs5))))], [], []⟩ k' = f48L0 n (k' .ret ⟨[(4, .c (.one (.v (.int .i64 (-1 : Int)))))], [], []⟩) (fun (xvs1 : Int) (xvs5 : Int) (xvs15 : Bool) => k' (.exit 0) ⟨[(0, .c (.one (.ro .told vs0))), (1, .c (.one (.v (.int .i64 xvs1)))), (5, .c (.one (.v (.int .i64 xvs5)))), (15, .c (.one (.v (.bool xvs15))))], [], []⟩) vs0 m vs1 vs5 := by
  intro m; induction m with
  | zero => intros; rfl
  | succ m ih =>
    intro vs1 vs5
    simp only [iter]
    rw [f48L0_b]
    simp only [ih, f48L0]

noncomputable def f48K0 {R : Type} (n : Nat) (k' : Ex → St → Option R) : Ex → St → Option R := (blockK 0 (seqK f48e f48k n (cAt [1,1,1,1] f48c) k'))
theorem f48K0_x0 {R : Type} (n : Nat) (k : List Dt → Option R) (a0 : List ToldT) (a1 : Int)  : f48K0 n (exitK f48e [.ro, .ro] [false] true [.tmp 4] [3] [.d (.sl .told) a0, .d (.i .i64) a1] k) .ret ⟨[(4, .c (.one (.v (.int .i64 (-1 : Int)))))], [], []⟩ =
    (k [.d (.i .i64) (-1 : Int)]) := by kernel_rfl
theorem f48K0_x1 {R : Type} (n : Nat) (k : List Dt → Option R) (a0 : List ToldT) (a1 : Int) (vs0 : List ToldT) (xvs1 : Int) (xvs5 : Int) (xvs15 : Bool) : f48K0 n (exitK f48e [.ro, .ro] [false] true [.tmp 4] [3] [.d (.sl .told) a0, .d (.i .i64) a1] k) (.exit 0) ⟨[(0, .c (.one (.ro .told vs0))), (1, .c (.one (.v (.int .i64 xvs1)))), (5, .c (.one (.v (.int .i64 xvs5)))), (15, .c (.one (.v (.bool xvs15))))], [], []⟩ =
    (k [.d (.i .i64) xvs1]) := by kernel_rfl

theorem f48_run {R : Type} (n : Nat) (k : List Dt → Option R) (a0 : List ToldT) (a1 : Int) : evFn f48e f48k n f48c [.ro, .ro] [false] true [.tmp 4] [3] [.d (.sl .told) a0, .d (.i .i64) a1] k =
    (cond (decide ((IntKind.wrap .i64 (a1 - (a0.length : Int))) < (0 : Int)))
    (k [.d (.i .i64) (-1 : Int)])
    (f48L0 n (k [.d (.i .i64) (-1 : Int)]) (fun (xvs1 : Int) (xvs5 : Int) (xvs15 : Bool) =>
      (k [.d (.i .i64) xvs1])) a0 n (IntKind.wrap .i64 (a1 - (a0.length : Int))) (0 : Int))) := by
  refine Eq.trans (b := (cond (decide ((IntKind.wrap .i64 (a1 - (a0.length : Int))) < (0 : Int)))
    (k [.d (.i .i64) (-1 : Int)])
    (iter (fun st k => ev f48e f48k n (cAt [1,1,1,0,1,0,0] f48c) st k) n ⟨[(0, .c (.one (.ro .told a0))), (1, .c (.one (.v (.int .i64 (IntKind.wrap .i64 (a1 - (a0.length : Int))))))), (5, .c (.one (.v (.int .i64 (0 : Int)))))], [], []⟩ (f48K0 n (exitK f48e [.ro, .ro] [false] true [.tmp 4] [3] [.d (.sl .told) a0, .d (.i .i64) a1] k))))) (by kernel_rfl) ?_
  simp only [f48L0_eq, f48K0_x0, f48K0_x1]
theorem f48_spec (a0 : List ToldT) (a1 : Int) (hg : gzL_told a0 a1 = true) : ∃ keep rounds, ∀ {R : Type} (k : List Dt → Option R), evFn f48e keep rounds f48c [.ro, .ro] [false] true [.tmp 4] [3] [.d (.sl .told) a0, .d (.i .i64) a1] k = k [.d (.i .i64) (zL_told a0 a1)] := by
  simp only [gzL_told, okL, Bool.and_eq_true, okN_iff] at hg
  obtain ⟨⟨hl, hs⟩, hn⟩ := hg
  have hl : a0.length ≤ 9223372036854775807 := bleN hl
  refine ⟨f48k, a0.length + 1, fun k => ?_⟩
  rw [f48_run, wrap_id (x := a1 - (a0.length : Int)) (by omega) (by omega)]
  show _ = k [.d (.i .i64) (zL_told a0 a1)]
  unfold zL_told
  have eL : szL szN_told a0 = a0.length + (a0.map szN_told).sum := rfl
  by_cases hc : a1 - (a0.length : Int) < 0
  · simp only [hc, decide_true, cond_true]
    rw [szI_neg (by omega)]
  · simp only [hc, decide_false, cond_false]
    refine Eq.trans (loop_fold (xs := a0) (F := fun m j left => f48L0 (a0.length + 1) _ _ a0 m left (j : Int)) (step := szStep szN_told)
      (out := fun _ => k [.d (.i .i64) (-1 : Int)]) (good := fun left => k [.d (.i .i64) left]) (fun n => 0 ≤ n ∧ n ≤ 1048576)
      (fun x n n' hx hn h => by
        unfold szStep at h
        split at h
        · cases h
        · cases h; omega)
      (fun m j n x hx hn => ?_)
      (fun m n hn => by simp only [f48L0, idxE, cond_false]) a0.length 0 (a0.length + 1) (a1 - (a0.length : Int)) (by omega) (by omega) (by omega)) ?_
    · obtain ⟨h1, h0, hw, ht⟩ := idx (lt_of_get hx) (by omega)
      have hx2 := List.all_eq_true.1 hs x (List.mem_of_getElem? hx)
      have hg2 : gz_told x n = true := by simp only [gz_told, Bool.and_eq_true, okN_iff]; exact ⟨hx2, by omega, by omega⟩
      have hz : z_told x n = szI (szN_told x) n := rfl
      simp only [f48L0, h1, h0, hw, ht, atI_of (t := .told) hx, Bool.and_self, cond_true, hg2, hz]
      unfold szStep
      by_cases h : n - (szN_told x : Int) < 0
      · rw [szI_neg h]; simp only [h, if_true, Sum.elim_inl]; rfl
      · rw [szI_pos h]; simp only [h, decide_false, cond_false, if_false, Sum.elim_inr]
    · rw [List.drop_zero, sz_fold _ _ _ (by omega)]
      by_cases h2 : a1 - (a0.length : Int) - ((a0.map szN_told).sum : Nat) < 0
      · rw [if_pos h2, szI_neg (by omega)]; rfl
      · rw [if_neg h2, szI_pos (by omega)]
        simp only [Sum.elim_inr]
        rw [show a1 - (a0.length : Int) - ((a0.map szN_told).sum : Nat) = a1 - (szL szN_told a0 : Nat) by omega]

noncomputable def q48 : List Dt → Option (Bool × List Dt)
  | [.d (.sl .told) a0, .d (.i .i64) a1] => some ((gzL_told a0 a1), [.d (.i .i64) (zL_told a0 a1)])
  | _ => none
noncomputable def s48 : Gm.Spec := Gm.Spec.of [.ro, .ro] [false] true q48
theorem good48 : Gm.Good Try.prog (48, s48) := by
  have hl : ∀ x ∈ [(66, s66)], Gm.Good Try.prog x := List.forall_mem_cons.2 ⟨good66, List.forall_mem_nil _⟩
  refine ⟨⟨spec_ok (tab_ok.env hl) (tab.natl hl) Try.func48 (by kernel_rfl : Try.f48.body = some f48c) [3] (by kernel_rfl) ?_, _, Try.func48, by kernel_rfl, of_decide_eq_true (by kernel_rfl)⟩, Gm.Spec.of_natl _ _ _ _⟩
  intro ds outs h
  unfold q48 at h
  split at h
  · simp only [Option.some.injEq, Prod.mk.injEq] at h; obtain ⟨hg, h⟩ := h; cases h; exact f48_spec _ _ hg
  · cases h
/-! ### loop.example/g00465/laws.szItem -/
noncomputable def f74c : Code := (Try.f74.body).getD .skip
def f74k : Nat → Kp := kat [⟨[1, 2], []⟩, ⟨[1], []⟩, ⟨[1, 10], []⟩, ⟨[4], []⟩, ⟨[4], []⟩]
noncomputable def f74e : Env := tab.env [(16, s16)]
theorem f74_run {R : Type} (n : Nat) (k : List Dt → Option R) (a0 : ItemT) (a1 : Int) : evFn f74e f74k n f74c [.ro, .ro] [false] true [.tmp 4] [3] [.d .item a0, .d (.i .i64) a1] k =
    (cond (gz_order (ItemT.order a0) a1)
    (cond (decide ((z_order (ItemT.order a0) a1) < (0 : Int)))
      (k [.d (.i .i64) (-1 : Int)])
      (k [.d (.i .i64) (z_order (ItemT.order a0) a1)]))
    none) := by kernel_rfl
theorem f74_spec (a0 : ItemT) (a1 : Int) (hg : gz_item a0 a1 = true) : ∃ keep rounds, ∀ {R : Type} (k : List Dt → Option R), evFn f74e keep rounds f74c [.ro, .ro] [false] true [.tmp 4] [3] [.d .item a0, .d (.i .i64) a1] k = k [.d (.i .i64) (z_item a0 a1)] := by
  simp only [gz_item, ok_item, Bool.and_eq_true, okN_iff] at hg
  obtain ⟨⟨hf_order, hf_ver⟩, hn1, hn2⟩ := hg
  have eN : szN_item a0 = szN_order a0.order := rfl
  refine ⟨f74k, 0, fun k => ?_⟩
  rw [f74_run]
  show _ = k [.d (.i .i64) (z_item a0 a1)]
  unfold z_item
  have g1 : gz_order a0.order a1 = true := by simp only [gz_order, Bool.and_eq_true, okN_iff]; exact ⟨hf_order, by omega, by omega⟩
  have z2 : z_order a0.order a1 = szI (szN_order a0.order) a1 := rfl
  rw [g1, z2]
  by_cases h2 : a1 - ((szN_order a0.order : Nat) : Int) < 0
  · rw [szI_neg h2, szI_neg (by omega)]; rfl
  rw [szI_pos h2]
  simp only [cond_true, h2, decide_false, cond_false]
  rw [szI_pos (by omega)]
  first
    | rfl
    | rw [show (a1 - ((szN_order a0.order : Nat) : Int)) = a1 - ((szN_item a0 : Nat) : Int) by omega]

noncomputable def q74 : List Dt → Option (Bool × List Dt)
  | [.d .item a0, .d (.i .i64) a1] => some ((gz_item a0 a1), [.d (.i .i64) (z_item a0 a1)])
  | _ => none
noncomputable def s74 : Gm.Spec := Gm.Spec.of [.ro, .ro] [false] true q74
theorem good74 : Gm.Good Try.prog (74, s74) := by
  have hl : ∀ x ∈ [(16, s16)], Gm.Good Try.prog x := List.forall_mem_cons.2 ⟨good16, List.forall_mem_nil _⟩
  refine ⟨⟨spec_ok (tab_ok.env hl) (tab.natl hl) Try.func74 (by kernel_rfl : Try.f74.body = some f74c) [3] (by kernel_rfl) ?_, _, Try.func74, by kernel_rfl, of_decide_eq_true (by kernel_rfl)⟩, Gm.Spec.of_natl _ _ _ _⟩
  intro ds outs h
  unfold q74 at h
  split at h
  · simp only [Option.some.injEq, Prod.mk.injEq] at h; obtain ⟨hg, h⟩ := h; cases h; exact f74_spec _ _ hg
  · cases h
/-! ### loop.example/g00465/laws.szItemS -/
noncomputable def f65c : Code := (Try.f65.body).getD .skip
def f65k : Nat → Kp := kat [⟨[0, 1], []⟩, ⟨[0, 1], []⟩, ⟨[0, 1, 11], []⟩, ⟨[4], []⟩, ⟨[0, 1, 5], []⟩, ⟨[0, 1, 5, 15], []⟩, ⟨[0, 1, 5], []⟩, ⟨[0, 1, 5], []⟩, ⟨[0, 1, 5, 25], []⟩, ⟨[4], []⟩, ⟨[4], []⟩]
noncomputable def f65e : Env := tab.env [(74, s74)]
noncomputable def f65L0 {R : Type} (n : Nat) (x0 : Option R) (x1 : Int → Int → Bool → Option R) (vs0 : List ItemT) : Nat → Int → Int → Option R
  | 0, _, _ => none
  | m + 1, vs1, vs5 =>
    (cond (decide (vs5 < (vs0.length : Int)))
      (cond ((decide ((0 : Int) ≤ vs5)) && (decide (vs5 < (vs0.length : Int))))
        (cond (gz_item (atI (t := .item) vs0 (Int.toNat vs5)) vs1)
          (cond (decide ((z_item (atI (t := .item) vs0 (Int.toNat vs5)) vs1) < (0 : Int)))
            (x0)
            (f65L0 n x0 x1 vs0 m (z_item (atI (t := .item) vs0 (Int.toNat vs5)) vs1) (IntKind.wrap .i64 (vs5 + (1 : Int)))))
          none)
        none)
      (x1 vs1 vs5 (decide (vs5 < (vs0.length : Int)))))
theorem f65L0_b {R : Type} (n : Nat) (k' : Ex → St → Option R) (vs0 : List ItemT) (vs1 : Int) (vs5 : Int) : ev f65e f65k n (cAt [1,1,1,0,1,0,0] f65c) ⟨[(0, .c (.one (.ro .item vs0))), (1, .c (.one (.v (.int .i64 vs1)))), (5, .c (.one (.v (.int .i64 vs5))))], [], []⟩ k' =
    (cond (decide (vs5 < (vs0.length : Int)))
    (cond ((decide ((0 : Int) ≤ vs5)) && (decide (vs5 < (vs0.length : Int))))
      (cond (gz_item (atI (t := .item) vs0 (Int.toNat vs5)) vs1)
        (cond (decide ((z_item (atI (t := .item) vs0 (Int.toNat vs5)) vs1) < (0 : Int)))
          (k' .ret ⟨[(4, .c (.one (.v (.int .i64 (-1 : Int)))))], [], []⟩)
          (k' .normal ⟨[(0, .c (.one (.ro .item vs0))), (1, .c (.one (.v (.int .i64 (z_item (atI (t := .item) vs0 (Int.toNat vs5)) vs1))))), (5, .c (.one (.v (.int .i64 (IntKind.wrap .i64 (vs5 + (1 : Int)))))))], [], []⟩))
        none)
      none)
    (k' (.exit 0) ⟨[(0, .c (.one (.ro .item vs0))), (1, .c (.one (.v (.int .i64 vs1)))), (5, .c (.one (.v (.int .i64 vs5)))), (15, .c (.one (.v (.bool (decide (vs5 < (vs0.length : Int)))))))], [], []⟩)) := by kernel_rfl
theorem f65L0_eq {R : Type} (n : Nat) (k' : Ex → St → Option R) (vs0 : List ItemT) : ∀ (m : Nat) (vs1 : Int) (vs5 : Int), iter (fun st k => ev f65e f65k n (cAt [1,1,1,0,1,0,0] f65c) st k) m ⟨[(0, .c (.one (.ro .item vs0))), (1, .c (.one (.v (.int .i64 vs1)))), (5, .c (.one (.v (.int .i64 vs5))))], [], []⟩ k' = f65L0 n (k' .ret ⟨[(4, .c (.one (.v (.int .i64 (-1 : Int)))))], [], []⟩) (fun (xvs1 : Int) (xvs5 : Int) (xvs15 : Bool) => k' (.exit 0) ⟨[(0, .c (.one (.ro .item vs0))), (1, .c (.one (.v (.int .i64 xvs1)))), (5, .c (.one (.v (.int .i64 xvs5)))), (15, .c (.one (.v (.bool xvs15))))], [], []⟩) vs0 m vs1 vs5 := by
  intro m; induction m with
  | zero => intros; rfl
  | succ m ih =>
    intro vs1 vs5
    simp only [iter]
    rw [f65L0_b]
    simp only [ih, f65L0]

noncomputable def f65K0 {R : Type} (n : Nat) (k' : Ex → St → Option R) : Ex → St → Option R := (blockK 0 (seqK f65e f65k n (cAt [1,1,1,1] f65c) k'))
theorem f65K0_x0 {R : Type} (n : Nat) (k : List Dt → Option R) (a0 : List ItemT) (a1 : Int)  : f65K0 n (exitK f65e [.ro, .ro] [false] true [.tmp 4] [3] [.d (.sl .item) a0, .d (.i .i64) a1] k) .ret ⟨[(4, .c (.one (.v (.int .i64 (-1 : Int)))))], [], []⟩ =
    (k [.d (.i .i64) (-1 : Int)]) := by kernel_rfl
theorem f65K0_x1 {R : Type} (n : Nat) (k : List Dt → Option R) (a0 : List ItemT) (a1 : Int) (vs0 : List ItemT) (xvs1 : Int) (xvs5 : Int) (xvs15 : Bool) : f65K0 n (exitK f65e [.ro, .ro] [false] true [.tmp 4] [3] [.d (.sl .item) a0, .d (.i .i64) a1] k) (.exit 0) ⟨[(0, .c (.one (.ro .item vs0))), (1, .c (.one (.v (.int .i64 xvs1)))), (5, .c (.one (.v (.int .i64 xvs5)))), (15, .c (.one (.v (.bool xvs15))))], [], []⟩ =
    (k [.d (.i .i64) xvs1]) := by kernel_rfl

theorem f65_run {R : Type} (n : Nat) (k : List Dt → Option R) (a0 : List ItemT) (a1 : Int) : evFn f65e f65k n f65c [.ro, .ro] [false] true [.tmp 4] [3] [.d (.sl .item) a0, .d (.i .i64) a1] k =
    (cond (decide ((IntKind.wrap .i64 (a1 - (a0.length : Int))) < (0 : Int)))
    (k [.d (.i .i64) (-1 : Int)])
    (f65L0 n (k [.d (.i .i64) (-1 : Int)]) (fun (xvs1 : Int) (xvs5 : Int) (xvs15 : Bool) =>
      (k [.d (.i .i64) xvs1])) a0 n (IntKind.wrap .i64 (a1 - (a0.length : Int))) (0 : Int))) := by
  refine Eq.trans (b := (cond (decide ((IntKind.wrap .i64 (a1 - (a0.length : Int))) < (0 : Int)))
    (k [.d (.i .i64) (-1 : Int)])
    (iter (fun st k => ev f65e f65k n (cAt [1,1,1,0,1,0,0] f65c) st k) n ⟨[(0, .c (.one (.ro .item a0))), (1, .c (.one (.v (.int .i64 (IntKind.wrap .i64 (a1 - (a0.length : Int))))))), (5, .c (.one (.v (.int .i64 (0 : Int)))))], [], []⟩ (f65K0 n (exitK f65e [.ro, .ro] [false] true [.tmp 4] [3] [.d (.sl .item) a0, .d (.i .i64) a1] k))))) (by kernel_rfl) ?_
  simp only [f65L0_eq, f65K0_x0, f65K0_x1]
theorem f65_spec (a0 : List ItemT) (a1 : Int) (hg : gzL_item a0 a1 = true) : ∃ keep rounds, ∀ {R : Type} (k : List Dt → Option R), evFn f65e keep rounds f65c [.ro, .ro] [false] true [.tmp 4] [3] [.d (.sl .item) a0, .d (.i .i64) a1] k = k [.d (.i .i64) (zL_item a0 a1)] := by
  simp only [gzL_item, okL, Bool.and_eq_true, okN_iff] at hg
  obtain ⟨⟨hl, hs⟩, hn⟩ := hg
  have hl : a0.length ≤ 9223372036854775807 := bleN hl
  refine ⟨f65k, a0.length + 1, fun k => ?_⟩
  rw [f65_run, wrap_id (x := a1 - (a0.length : Int)) (by omega) (by omega)]
  show _ = k [.d (.i .i64) (zL_item a0 a1)]
  unfold zL_item
  have eL : szL szN_item a0 = a0.length + (a0.map szN_item).sum := rfl
  by_cases hc : a1 - (a0.length : Int) < 0
  · simp only [hc, decide_true, cond_true]
    rw [szI_neg (by omega)]
  · simp only [hc, decide_false, cond_false]
    refine Eq.trans (loop_fold (xs := a0) (F := fun m j left => f65L0 (a0.length + 1) _ _ a0 m left (j : Int)) (step := szStep szN_item)
      (out := fun _ => k [.d (.i .i64) (-1 : Int)]) (good := fun left => k [.d (.i .i64) left]) (fun n => 0 ≤ n ∧ n ≤ 1048576)
      (fun x n n' hx hn h => by
        unfold szStep at h
        split at h
        · cases h
        · cases h; omega)
      (fun m j n x hx hn => ?_)
      (fun m n hn => by simp only [f65L0, idxE, cond_false]) a0.length 0 (a0.length + 1) (a1 - (a0.length : Int)) (by omega) (by omega) (by omega)) ?_
    · obtain ⟨h1, h0, hw, ht⟩ := idx (lt_of_get hx) (by omega)
      have hx2 := List.all_eq_true.1 hs x (List.mem_of_getElem? hx)
      have hg2 : gz_item x n = true := by simp only [gz_item, Bool.and_eq_true, okN_iff]; exact ⟨hx2, by omega, by omega⟩
      have hz : z_item x n = szI (szN_item x) n := rfl
      simp only [f65L0, h1, h0, hw, ht, atI_of (t := .item) hx, Bool.and_self, cond_true, hg2, hz]
      unfold szStep
      by_cases h : n - (szN_item x : Int) < 0
      · rw [szI_neg h]; simp only [h, if_true, Sum.elim_inl]; rfl
      · rw [szI_pos h]; simp only [h, decide_false, cond_false, if_false, Sum.elim_inr]
    · rw [List.drop_zero, sz_fold _ _ _ (by omega)]
      by_cases h2 : a1 - (a0.length : Int) - ((a0.map szN_item).sum : Nat) < 0
      · rw [if_pos h2, szI_neg (by omega)]; rfl
      · rw [if_neg h2, szI_pos (by omega)]
        simp only [Sum.elim_inr]
        rw [show a1 - (a0.length : Int) - ((a0.map szN_item).sum : Nat) = a1 - (szL szN_item a0 : Nat) by omega]

noncomputable def q65 : List Dt → Option (Bool × List Dt)
  | [.d (.sl .item) a0, .d (.i .i64) a1] => some ((gzL_item a0 a1), [.d (.i .i64) (zL_item a0 a1)])
  | _ => none
noncomputable def s65 : Gm.Spec := Gm.Spec.of [.ro, .ro] [false] true q65
theorem good65 : Gm.Good Try.prog (65, s65) := by
  have hl : ∀ x ∈ [(74, s74)], Gm.Good Try.prog x := List.forall_mem_cons.2 ⟨good74, List.forall_mem_nil _⟩
  refine ⟨⟨spec_ok (tab_ok.env hl) (tab.natl hl) Try.func65 (by kernel_rfl : Try.f65.body = some f65c) [3] (by kernel_rfl) ?_, _, Try.func65, by kernel_rfl, of_decide_eq_true (by kernel_rfl)⟩, Gm.Spec.of_natl _ _ _ _⟩
  intro ds outs h
  unfold q65 at h
  split at h
  · simp only [Option.some.injEq, Prod.mk.injEq] at h; obtain ⟨hg, h⟩ := h; cases h; exact f65_spec _ _ hg
  · cases h
/-! ### loop.example/g00465/laws.szStore -/
noncomputable def f46c : Code := (Try.f46.body).getD .skip
def f46k : Nat → Kp := kat [⟨[1, 2], []⟩, ⟨[1], []⟩, ⟨[1, 10], []⟩, ⟨[4], []⟩, ⟨[4], []⟩]
noncomputable def f46e : Env := tab.env [(65, s65)]
theorem f46_run {R : Type} (n : Nat) (k : List Dt → Option R) (a0 : StoreT) (a1 : Int) : evFn f46e f46k n f46c [.ro, .ro] [false] true [.tmp 4] [3] [.d .store a0, .d (.i .i64) a1] k =
    (cond (gzL_item (StoreT.items a0) a1)
    (cond (decide ((zL_item (StoreT.items a0) a1) < (0 : Int)))
      (k [.d (.i .i64) (-1 : Int)])
      (k [.d (.i .i64) (zL_item (StoreT.items a0) a1)]))
    none) := by kernel_rfl
theorem f46_spec (a0 : StoreT) (a1 : Int) (hg : gz_store a0 a1 = true) : ∃ keep rounds, ∀ {R : Type} (k : List Dt → Option R), evFn f46e keep rounds f46c [.ro, .ro] [false] true [.tmp 4] [3] [.d .store a0, .d (.i .i64) a1] k = k [.d (.i .i64) (z_store a0 a1)] := by
  simp only [gz_store, ok_store, Bool.and_eq_true, okN_iff] at hg
  obtain ⟨⟨hf_items, hf_next⟩, hn1, hn2⟩ := hg
  have eN : szN_store a0 = szL szN_item a0.items := rfl
  refine ⟨f46k, 0, fun k => ?_⟩
  rw [f46_run]
  show _ = k [.d (.i .i64) (z_store a0 a1)]
  unfold z_store
  have g1 : gzL_item a0.items a1 = true := by simp only [gzL_item, Bool.and_eq_true, okN_iff]; exact ⟨hf_items, by omega, by omega⟩
  have z2 : zL_item a0.items a1 = szI (szL szN_item a0.items) a1 := rfl
  rw [g1, z2]
  by_cases h2 : a1 - ((szL szN_item a0.items : Nat) : Int) < 0
  · rw [szI_neg h2, szI_neg (by omega)]; rfl
  rw [szI_pos h2]
  simp only [cond_true, h2, decide_false, cond_false]
  rw [szI_pos (by omega)]
  first
    | rfl
    | rw [show (a1 - ((szL szN_item a0.items : Nat) : Int)) = a1 - ((szN_store a0 : Nat) : Int) by omega]

noncomputable def q46 : List Dt → Option (Bool × List Dt)
  | [.d .store a0, .d (.i .i64) a1] => some ((gz_store a0 a1), [.d (.i .i64) (z_store a0 a1)])
  | _ => none
noncomputable def s46 : Gm.Spec := Gm.Spec.of [.ro, .ro] [false] true q46
theorem good46 : Gm.Good Try.prog (46, s46) := by
  have hl : ∀ x ∈ [(65, s65)], Gm.Good Try.prog x := List.forall_mem_cons.2 ⟨good65, List.forall_mem_nil _⟩
  refine ⟨⟨spec_ok (tab_ok.env hl) (tab.natl hl) Try.func46 (by kernel_rfl : Try.f46.body = some f46c) [3] (by kernel_rfl) ?_, _, Try.func46, by kernel_rfl, of_decide_eq_true (by kernel_rfl)⟩, Gm.Spec.of_natl _ _ _ _⟩
  intro ds outs h
  unfold q46 at h
  split at h
  · simp only [Option.some.injEq, Prod.mk.injEq] at h; obtain ⟨hg, h⟩ := h; cases h; exact f46_spec _ _ hg
  · cases h
/-! ### loop.example/g00465/laws.szScaleS -/
noncomputable def f47c : Code := (Try.f47.body).getD .skip
def f47k : Nat → Kp := kat [⟨[0, 1], []⟩, ⟨[0, 1], []⟩, ⟨[0, 1, 11], []⟩, ⟨[4], []⟩, ⟨[0, 1, 5], []⟩, ⟨[0, 1, 5, 15], []⟩, ⟨[0, 1, 5], []⟩, ⟨[0, 1, 5], []⟩, ⟨[0, 1, 5, 25], []⟩, ⟨[4], []⟩, ⟨[4], []⟩]
noncomputable def f47e : Env := tab.env [(11, s11)]
noncomputable def f47L0 {R : Type} (n : Nat) (x0 : Option R) (x1 : Int → Int → Bool → Option R) (vs0 : List ScaleT) : Nat → Int → Int → Option R
  | 0, _, _ => none
  | m + 1, vs1, vs5 =>
    (cond (decide (vs5 < (vs0.length : Int)))
      (cond ((decide ((0 : Int) ≤ vs5)) && (decide (vs5 < (vs0.length : Int))))
        (cond (gz_scale (atI (t := .scale) vs0 (Int.toNat vs5)) vs1)
          (cond (decide ((z_scale (atI (t := .scale) vs0 (Int.toNat vs5)) vs1) < (0 : Int)))
            (x0)
            (f47L0 n x0 x1 vs0 m (z_scale (atI (t := .scale) vs0 (Int.toNat vs5)) vs1) (IntKind.wrap .i64 (vs5 + (1 : Int)))))
          none)
        none)
      (x1 vs1 vs5 (decide (vs5 < (vs0.length : Int)))))
theorem f47L0_b {R : Type} (n : Nat) (k' : Ex → St → Option R) (vs0 : List ScaleT) (vs1 : Int) (vs5 : Int) : ev f47e f47k n (cAt [1,1,1,0,1,0,0] f47c) ⟨[(0, .c (.one (.ro .scale vs0))), (1, .c (.one (.v (.int .i64 vs1)))), (5, .c (.one (.v (.int .i64 vs5))))], [], []⟩ k' =
    (cond (decide (vs5 < (vs0.length : Int)))
    (cond ((decide ((0 : Int) ≤ vs5)) && (decide (vs5 < (vs0.length : Int))))
      (cond (gz_scale (atI (t := .scale) vs0 (Int.toNat vs5)) vs1)
        (cond (decide ((z_scale (atI (t := .scale) vs0 (Int.toNat vs5)) vs1) < (0 : Int)))
          (k' .ret ⟨[(4, .c (.one (.v (.int .i64 (-1 : Int)))))], [], []⟩)
          (k' .normal ⟨[(0, .c (.one (.ro .scale vs0))), (1, .c (.one (.v (.int .i64 (z_scale (atI (t := .scale) vs0 (Int.toNat vs5)) vs1))))), (5, .c (.one (.v (.int .i64 (IntKind.wrap .i64 (vs5 + (1 : Int)))))))], [], []⟩))
        none)
      none)
    (k' (.exit 0) ⟨[(0, .c (.one (.ro .scale vs0))), (1, .c (.one (.v (.int .i64 vs1)))), (5, .c (.one (.v (.int .i64 vs5)))), (15, .c (.one (.v (.bool (decide (vs5 < (vs0.length : Int)))))))], [], []⟩)) := by kernel_rfl
theorem f47L0_eq {R : Type} (n : Nat) (k' : Ex → St → Option R) (vs0 : List ScaleT) : ∀ (m : Nat) (vs1 : Int) (vs5 : Int), iter (fun st k => ev f47e f47k n (cAt [1,1,1,0,1,0,0] f47c) st k) m ⟨[(0, .c (.one (.ro .scale vs0))), (1, .c (.one (.v (.int .i64 vs1)))), (5, .c (.one (.v (.int .i64 vs5))))], [], []⟩ k' = f47L0 n (k' .ret ⟨[(4, .c (.one (.v (.int .i64 (-1 : Int)))))], [], []⟩) (fun (xvs1 : Int) (xvs5 : Int) (xvs15 : Bool) => k' (.exit 0) ⟨[(0, .c (.one (.ro .scale vs0))), (1, .c (.one (.v (.int .i64 xvs1)))), (5, .c (.one (.v (.int .i64 xvs5)))), (15, .c (.one (.v (.bool xvs15))))], [], []⟩) vs0 m vs1 vs5 := by
  intro m; induction m with
  | zero => intros; rfl
  | succ m ih =>
    intro vs1 vs5
    simp only [iter]
    rw [f47L0_b]
    simp only [ih, f47L0]

noncomputable def f47K0 {R : Type} (n : Nat) (k' : Ex → St → Option R) : Ex → St → Option R := (blockK 0 (seqK f47e f47k n (cAt [1,1,1,1] f47c) k'))
theorem f47K0_x0 {R : Type} (n : Nat) (k : List Dt → Option R) (a0 : List ScaleT) (a1 : Int)  : f47K0 n (exitK f47e [.ro, .ro] [false] true [.tmp 4] [3] [.d (.sl .scale) a0, .d (.i .i64) a1] k) .ret ⟨[(4, .c (.one (.v (.int .i64 (-1 : Int)))))], [], []⟩ =
    (k [.d (.i .i64) (-1 : Int)]) := by kernel_rfl
theorem f47K0_x1 {R : Type} (n : Nat) (k : List Dt → Option R) (a0 : List ScaleT) (a1 : Int) (vs0 : List ScaleT) (xvs1 : Int) (xvs5 : Int) (xvs15 : Bool) : f47K0 n (exitK f47e [.ro, .ro] [false] true [.tmp 4] [3] [.d (.sl .scale) a0, .d (.i .i64) a1] k) (.exit 0) ⟨[(0, .c (.one (.ro .scale vs0))), (1, .c (.one (.v (.int .i64 xvs1)))), (5, .c (.one (.v (.int .i64 xvs5)))), (15, .c (.one (.v (.bool xvs15))))], [], []⟩ =
    (k [.d (.i .i64) xvs1]) := by kernel_rfl

theorem f47_run {R : Type} (n : Nat) (k : List Dt → Option R) (a0 : List ScaleT) (a1 : Int) : evFn f47e f47k n f47c [.ro, .ro] [false] true [.tmp 4] [3] [.d (.sl .scale) a0, .d (.i .i64) a1] k =
    (cond (decide ((IntKind.wrap .i64 (a1 - (a0.length : Int))) < (0 : Int)))
    (k [.d (.i .i64) (-1 : Int)])
    (f47L0 n (k [.d (.i .i64) (-1 : Int)]) (fun (xvs1 : Int) (xvs5 : Int) (xvs15 : Bool) =>
      (k [.d (.i .i64) xvs1])) a0 n (IntKind.wrap .i64 (a1 - (a0.length : Int))) (0 : Int))) := by
  refine Eq.trans (b := (cond (decide ((IntKind.wrap .i64 (a1 - (a0.length : Int))) < (0 : Int)))
    (k [.d (.i .i64) (-1 : Int)])
    (iter (fun st k => ev f47e f47k n (cAt [1,1,1,0,1,0,0] f47c) st k) n ⟨[(0, .c (.one (.ro .scale a0))), (1, .c (.one (.v (.int .i64 (IntKind.wrap .i64 (a1 - (a0.length : Int))))))), (5, .c (.one (.v (.int .i64 (0 : Int)))))], [], []⟩ (f47K0 n (exitK f47e [.ro, .ro] [false] true [.tmp 4] [3] [.d (.sl .scale) a0, .d (.i .i64) a1] k))))) (by kernel_rfl) ?_
  simp only [f47L0_eq, f47K0_x0, f47K0_x1]
theorem f47_spec (a0 : List ScaleT) (a1 : Int) (hg : gzL_scale a0 a1 = true) : ∃ keep rounds, ∀ {R : Type} (k : List Dt → Option R), evFn f47e keep rounds f47c [.ro, .ro] [false] true [.tmp 4] [3] [.d (.sl .scale) a0, .d (.i .i64) a1] k = k [.d (.i .i64) (zL_scale a0 a1)] := by
  simp only [gzL_scale, okL, Bool.and_eq_true, okN_iff] at hg
  obtain ⟨⟨hl, hs⟩, hn⟩ := hg
  have hl : a0.length ≤ 9223372036854775807 := bleN hl
  refine ⟨f47k, a0.length + 1, fun k => ?_⟩
  rw [f47_run, wrap_id (x := a1 - (a0.length : Int)) (by omega) (by omega)]
  show _ = k [.d (.i .i64) (zL_scale a0 a1)]
  unfold zL_scale
  have eL : szL szN_scale a0 = a0.length + (a0.map szN_scale).sum := rfl
  by_cases hc : a1 - (a0.length : Int) < 0
  · simp only [hc, decide_true, cond_true]
    rw [szI_neg (by omega)]
  · simp only [hc, decide_false, cond_false]
    refine Eq.trans (loop_fold (xs := a0) (F := fun m j left => f47L0 (a0.length + 1) _ _ a0 m left (j : Int)) (step := szStep szN_scale)
      (out := fun _ => k [.d (.i .i64) (-1 : Int)]) (good := fun left => k [.d (.i .i64) left]) (fun n => 0 ≤ n ∧ n ≤ 1048576)
      (fun x n n' hx hn h => by
        unfold szStep at h
        split at h
        · cases h
        · cases h; omega)
      (fun m j n x hx hn => ?_)
      (fun m n hn => by simp only [f47L0, idxE, cond_false]) a0.length 0 (a0.length + 1) (a1 - (a0.length : Int)) (by omega) (by omega) (by omega)) ?_
    · obtain ⟨h1, h0, hw, ht⟩ := idx (lt_of_get hx) (by omega)
      have hx2 := List.all_eq_true.1 hs x (List.mem_of_getElem? hx)
      have hg2 : gz_scale x n = true := by simp only [gz_scale, Bool.and_eq_true, okN_iff]; exact ⟨hx2, by omega, by omega⟩
      have hz : z_scale x n = szI (szN_scale x) n := rfl
      simp only [f47L0, h1, h0, hw, ht, atI_of (t := .scale) hx, Bool.and_self, cond_true, hg2, hz]
      unfold szStep
      by_cases h : n - (szN_scale x : Int) < 0
      · rw [szI_neg h]; simp only [h, if_true, Sum.elim_inl]; rfl
      · rw [szI_pos h]; simp only [h, decide_false, cond_false, if_false, Sum.elim_inr]
    · rw [List.drop_zero, sz_fold _ _ _ (by omega)]
      by_cases h2 : a1 - (a0.length : Int) - ((a0.map szN_scale).sum : Nat) < 0
      · rw [if_pos h2, szI_neg (by omega)]; rfl
      · rw [if_neg h2, szI_pos (by omega)]
        simp only [Sum.elim_inr]
        rw [show a1 - (a0.length : Int) - ((a0.map szN_scale).sum : Nat) = a1 - (szL szN_scale a0 : Nat) by omega]

noncomputable def q47 : List Dt → Option (Bool × List Dt)
  | [.d (.sl .scale) a0, .d (.i .i64) a1] => some ((gzL_scale a0 a1), [.d (.i .i64) (zL_scale a0 a1)])
  | _ => none
noncomputable def s47 : Gm.Spec := Gm.Spec.of [.ro, .ro] [false] true q47
theorem good47 : Gm.Good Try.prog (47, s47) := by
  have hl : ∀ x ∈ [(11, s11)], Gm.Good Try.prog x := List.forall_mem_cons.2 ⟨good11, List.forall_mem_nil _⟩
  refine ⟨⟨spec_ok (tab_ok.env hl) (tab.natl hl) Try.func47 (by kernel_rfl : Try.f47.body = some f47c) [3] (by kernel_rfl) ?_, _, Try.func47, by kernel_rfl, of_decide_eq_true (by kernel_rfl)⟩, Gm.Spec.of_natl _ _ _ _⟩
  intro ds outs h
  unfold q47 at h
  split at h
  · simp only [Option.some.injEq, Prod.mk.injEq] at h; obtain ⟨hg, h⟩ := h; cases h; exact f47_spec _ _ hg
  · cases h
/-! ### loop.example/g00465/laws.szWorld -/
noncomputable def f21c : Code := (Try.f21.body).getD .skip
def f21k : Nat → Kp := kat [⟨[1, 2], []⟩, ⟨[1, 2], []⟩, ⟨[1, 2, 10], []⟩, ⟨[4], []⟩, ⟨[1, 2], []⟩, ⟨[1, 2, 16], []⟩, ⟨[4], []⟩, ⟨[1], []⟩, ⟨[1, 22], []⟩, ⟨[4], []⟩, ⟨[4], []⟩]
noncomputable def f21e : Env := tab.env [(46, s46), (47, s47), (48, s48)]
theorem f21_run {R : Type} (n : Nat) (k : List Dt → Option R) (a0 : WorldT) (a1 : Int) : evFn f21e f21k n f21c [.ro, .ro] [false] true [.tmp 4] [3] [.d .world a0, .d (.i .i64) a1] k =
    (cond (gz_store (WorldT.store a0) a1)
    (cond (decide ((z_store (WorldT.store a0) a1) < (0 : Int)))
      (k [.d (.i .i64) (-1 : Int)])
      (cond (gzL_scale (WorldT.scales a0) (z_store (WorldT.store a0) a1))
        (cond (decide ((zL_scale (WorldT.scales a0) (z_store (WorldT.store a0) a1)) < (0 : Int)))
          (k [.d (.i .i64) (-1 : Int)])
          (cond (gzL_told (WorldT.log a0) (zL_scale (WorldT.scales a0) (z_store (WorldT.store a0) a1)))
            (cond (decide ((zL_told (WorldT.log a0) (zL_scale (WorldT.scales a0) (z_store (WorldT.store a0) a1))) < (0 : Int)))
              (k [.d (.i .i64) (-1 : Int)])
              (k [.d (.i .i64) (zL_told (WorldT.log a0) (zL_scale (WorldT.scales a0) (z_store (WorldT.store a0) a1)))]))
            none))
        none))
    none) := by kernel_rfl
theorem f21_spec (a0 : WorldT) (a1 : Int) (hg : gz_world a0 a1 = true) : ∃ keep rounds, ∀ {R : Type} (k : List Dt → Option R), evFn f21e keep rounds f21c [.ro, .ro] [false] true [.tmp 4] [3] [.d .world a0, .d (.i .i64) a1] k = k [.d (.i .i64) (z_world a0 a1)] := by
  simp only [gz_world, ok_world, Bool.and_eq_true, okN_iff] at hg
  obtain ⟨⟨hf_store, hf_scales, hf_time, hf_log⟩, hn1, hn2⟩ := hg
  have eN : szN_world a0 = szN_store a0.store + szL szN_scale a0.scales + szL szN_told a0.log := rfl
  refine ⟨f21k, 0, fun k => ?_⟩
  rw [f21_run]
  show _ = k [.d (.i .i64) (z_world a0 a1)]
  unfold z_world
  have g1 : gz_store a0.store a1 = true := by simp only [gz_store, Bool.and_eq_true, okN_iff]; exact ⟨hf_store, by omega, by omega⟩
  have z2 : z_store a0.store a1 = szI (szN_store a0.store) a1 := rfl
  rw [g1, z2]
  by_cases h2 : a1 - ((szN_store a0.store : Nat) : Int) < 0
  · rw [szI_neg h2, szI_neg (by omega)]; rfl
  rw [szI_pos h2]
  simp only [cond_true, h2, decide_false, cond_false]
  have g3 : gzL_scale a0.scales (a1 - ((szN_store a0.store : Nat) : Int)) = true := by simp only [gzL_scale, Bool.and_eq_true, okN_iff]; exact ⟨hf_scales, by omega, by omega⟩
  have z4 : zL_scale a0.scales (a1 - ((szN_store a0.store : Nat) : Int)) = szI (szL szN_scale a0.scales) (a1 - ((szN_store a0.store : Nat) : Int)) := rfl
  rw [g3, z4]
  by_cases h4 : (a1 - ((szN_store a0.store : Nat) : Int)) - ((szL szN_scale a0.scales : Nat) : Int) < 0
  · rw [szI_neg h4, szI_neg (by omega)]; rfl
  rw [szI_pos h4]
  simp only [cond_true, h4, decide_false, cond_false]
  have g5 : gzL_told a0.log ((a1 - ((szN_store a0.store : Nat) : Int)) - ((szL szN_scale a0.scales : Nat) : Int)) = true := by simp only [gzL_told, Bool.and_eq_true, okN_iff]; exact ⟨hf_log, by omega, by omega⟩
  have z6 : zL_told a0.log ((a1 - ((szN_store a0.store : Nat) : Int)) - ((szL szN_scale a0.scales : Nat) : Int)) = szI (szL szN_told a0.log) ((a1 - ((szN_store a0.store : Nat) : Int)) - ((szL szN_scale a0.scales : Nat) : Int)) := rfl
  rw [g5, z6]
  by_cases h6 : ((a1 - ((szN_store a0.store : Nat) : Int)) - ((szL szN_scale a0.scales : Nat) : Int)) - ((szL szN_told a0.log : Nat) : Int) < 0
  · rw [szI_neg h6, szI_neg (by omega)]; rfl
  rw [szI_pos h6]
  simp only [cond_true, h6, decide_false, cond_false]
  rw [szI_pos (by omega)]
  first
    | rfl
    | rw [show (((a1 - ((szN_store a0.store : Nat) : Int)) - ((szL szN_scale a0.scales : Nat) : Int)) - ((szL szN_told a0.log : Nat) : Int)) = a1 - ((szN_world a0 : Nat) : Int) by omega]

noncomputable def q21 : List Dt → Option (Bool × List Dt)
  | [.d .world a0, .d (.i .i64) a1] => some ((gz_world a0 a1), [.d (.i .i64) (z_world a0 a1)])
  | _ => none
noncomputable def s21 : Gm.Spec := Gm.Spec.of [.ro, .ro] [false] true q21
theorem good21 : Gm.Good Try.prog (21, s21) := by
  have hl : ∀ x ∈ [(46, s46), (47, s47), (48, s48)], Gm.Good Try.prog x := List.forall_mem_cons.2 ⟨good46, List.forall_mem_cons.2 ⟨good47, List.forall_mem_cons.2 ⟨good48, List.forall_mem_nil _⟩⟩⟩
  refine ⟨⟨spec_ok (tab_ok.env hl) (tab.natl hl) Try.func21 (by kernel_rfl : Try.f21.body = some f21c) [3] (by kernel_rfl) ?_, _, Try.func21, by kernel_rfl, of_decide_eq_true (by kernel_rfl)⟩, Gm.Spec.of_natl _ _ _ _⟩
  intro ds outs h
  unfold q21 at h
  split at h
  · simp only [Option.some.injEq, Prod.mk.injEq] at h; obtain ⟨hg, h⟩ := h; cases h; exact f21_spec _ _ hg
  · cases h
/-! ### loop.example/g00465/laws.toItem -/
noncomputable def f75c : Code := (Try.f75.body).getD .skip
def f75k : Nat → Kp := kat [⟨[1, 2], []⟩, ⟨[1, 2, 3], []⟩, ⟨[1, 2, 3], []⟩, ⟨[2, 3], []⟩, ⟨[2], []⟩]
noncomputable def f75e : Env := tab.env [(18, s18)]
theorem f75_run {R : Type} (n : Nat) (k : List Dt → Option R) (a0 : ItemT) : evFn f75e f75k n f75c [.ro] [false] true [.cell 2 98] [98] [.d .item a0] k =
    (cond (sm_order (ItemT.order a0))
    (k [.d .item a0])
    none) := by kernel_rfl
theorem f75_spec (a0 : ItemT) (hg : sm_item a0 = true) : ∃ keep rounds, ∀ {R : Type} (k : List Dt → Option R), evFn f75e keep rounds f75c [.ro] [false] true [.cell 2 98] [98] [.d .item a0] k = k [.d .item a0] := by
  simp only [sm_item, Bool.and_eq_true] at hg
  refine ⟨f75k, 0, fun k => ?_⟩
  rw [f75_run]
  simp only [hg, cond_true]

noncomputable def q75 : List Dt → Option (Bool × List Dt)
  | [.d .item a0] => some ((sm_item a0), [.d .item a0])
  | _ => none
noncomputable def s75 : Gm.Spec := Gm.Spec.of [.ro] [false] true q75
theorem good75 : Gm.Good Try.prog (75, s75) := by
  have hl : ∀ x ∈ [(18, s18)], Gm.Good Try.prog x := List.forall_mem_cons.2 ⟨good18, List.forall_mem_nil _⟩
  refine ⟨⟨spec_ok (tab_ok.env hl) (tab.natl hl) Try.func75 (by kernel_rfl : Try.f75.body = some f75c) [98] (by kernel_rfl) ?_, _, Try.func75, by kernel_rfl, of_decide_eq_true (by kernel_rfl)⟩, Gm.Spec.of_natl _ _ _ _⟩
  intro ds outs h
  unfold q75 at h
  split at h
  · simp only [Option.some.injEq, Prod.mk.injEq] at h; obtain ⟨hg, h⟩ := h; cases h; exact f75_spec _ hg
  · cases h
/-! ### loop.example/g00465/laws.toItemS -/
noncomputable def f67c : Code := (Try.f67.body).getD .skip
def f67k : Nat → Kp := kat [⟨[0], []⟩, ⟨[0, 3], []⟩, ⟨[0, 3, 4], []⟩, ⟨[0, 3, 4, 11], []⟩, ⟨[0, 3, 4], []⟩, ⟨[0, 3, 4], []⟩, ⟨[2], []⟩]
noncomputable def f67e : Env := tab.env [(75, s75)]
noncomputable def f67L0 {R : Type} (n : Nat) (x0 : Int → Bool → (List ItemT) → Option R) (vs0 : List ItemT) : Nat → Int → (List ItemT) → Option R
  | 0, _, _ => none
  | m + 1, vs4, vr448 =>
    (cond (decide (vs4 < (vs0.length : Int)))
      (cond ((decide ((0 : Int) ≤ vs4)) && (decide (vs4 < (vs0.length : Int))))
        (cond (sm_item (atI (t := .item) vs0 (Int.toNat vs4)))
          (cond ((decide ((0 : Int) ≤ vs4)) && (decide (vs4 < (vr448.length : Int))))
            (f67L0 n x0 vs0 m (IntKind.wrap .i64 (vs4 + (1 : Int))) (vr448.set (Int.toNat vs4) (atI (t := .item) vs0 (Int.toNat vs4))))
            none)
          none)
        none)
      (x0 vs4 (decide (vs4 < (vs0.length : Int))) vr448))
theorem f67L0_b {R : Type} (n : Nat) (k' : Ex → St → Option R) (vs0 : List ItemT) (vs4 : Int) (vr448 : List ItemT) : ev f67e f67k n (cAt [1,1,0,1,0,0] f67c) ⟨[(0, .c (.one (.ro .item vs0))), (3, .c (.one (.h 448 0 0 []))), (4, .c (.one (.v (.int .i64 vs4))))], [], [(448, .live ⟨.item, .deep, 0, [], vr448⟩)]⟩ k' =
    (cond (decide (vs4 < (vs0.length : Int)))
    (cond ((decide ((0 : Int) ≤ vs4)) && (decide (vs4 < (vs0.length : Int))))
      (cond (sm_item (atI (t := .item) vs0 (Int.toNat vs4)))
        (cond ((decide ((0 : Int) ≤ vs4)) && (decide (vs4 < (vr448.length : Int))))
          (k' .normal ⟨[(0, .c (.one (.ro .item vs0))), (3, .c (.one (.h 448 0 0 []))), (4, .c (.one (.v (.int .i64 (IntKind.wrap .i64 (vs4 + (1 : Int)))))))], [], [(448, .live ⟨.item, .deep, 0, [], (vr448.set (Int.toNat vs4) (atI (t := .item) vs0 (Int.toNat vs4)))⟩)]⟩)
          none)
        none)
      none)
    (k' (.exit 0) ⟨[(0, .c (.one (.ro .item vs0))), (3, .c (.one (.h 448 0 0 []))), (4, .c (.one (.v (.int .i64 vs4)))), (11, .c (.one (.v (.bool (decide (vs4 < (vs0.length : Int)))))))], [], [(448, .live ⟨.item, .deep, 0, [], vr448⟩)]⟩)) := by kernel_rfl
theorem f67L0_eq {R : Type} (n : Nat) (k' : Ex → St → Option R) (vs0 : List ItemT) : ∀ (m : Nat) (vs4 : Int) (vr448 : List ItemT), iter (fun st k => ev f67e f67k n (cAt [1,1,0,1,0,0] f67c) st k) m ⟨[(0, .c (.one (.ro .item vs0))), (3, .c (.one (.h 448 0 0 []))), (4, .c (.one (.v (.int .i64 vs4))))], [], [(448, .live ⟨.item, .deep, 0, [], vr448⟩)]⟩ k' = f67L0 n (fun (xvs4 : Int) (xvs11 : Bool) (xvr448 : List ItemT) => k' (.exit 0) ⟨[(0, .c (.one (.ro .item vs0))), (3, .c (.one (.h 448 0 0 []))), (4, .c (.one (.v (.int .i64 xvs4)))), (11, .c (.one (.v (.bool xvs11))))], [], [(448, .live ⟨.item, .deep, 0, [], xvr448⟩)]⟩) vs0 m vs4 vr448 := by
  intro m; induction m with
  | zero => intros; rfl
  | succ m ih =>
    intro vs4 vr448
    simp only [iter]
    rw [f67L0_b]
    simp only [ih, f67L0]

noncomputable def f67K0 {R : Type} (n : Nat) (k' : Ex → St → Option R) : Ex → St → Option R := (blockK 0 (seqK f67e f67k n (cAt [1,1,1] f67c) k'))
theorem f67K0_x0 {R : Type} (n : Nat) (k : List Dt → Option R) (a0 : List ItemT) (vs0 : List ItemT) (xvs4 : Int) (xvs11 : Bool) (xvr448 : List ItemT) : f67K0 n (exitK f67e [.ro] [false] true [.tmp 2] [65] [.d (.sl .item) a0] k) (.exit 0) ⟨[(0, .c (.one (.ro .item vs0))), (3, .c (.one (.h 448 0 0 []))), (4, .c (.one (.v (.int .i64 xvs4)))), (11, .c (.one (.v (.bool xvs11))))], [], [(448, .live ⟨.item, .deep, 0, [], xvr448⟩)]⟩ =
    (k [.d (.sl .item) xvr448]) := by kernel_rfl

theorem f67_run {R : Type} (n : Nat) (k : List Dt → Option R) (a0 : List ItemT) : evFn f67e f67k n f67c [.ro] [false] true [.tmp 2] [65] [.d (.sl .item) a0] k =
    (cond ((decide ((a0.length : Int) = (a0.length : Int))) && ((decide ((0 : Int) ≤ (a0.length : Int))) && (decide ((a0.length : Int) ≤ (LIM : Int)))))
    (f67L0 n (fun (xvs4 : Int) (xvs11 : Bool) (xvr448 : List ItemT) =>
      (k [.d (.sl .item) xvr448])) a0 n (0 : Int) (List.replicate (Int.toNat (a0.length : Int)) (⟨(⟨ByteArray.empty, ByteArray.empty, (0 : Int), (0 : Int), ([] : List MetricT), (⟨(0 : Int), (0 : Int), (0 : Int), (0 : Int)⟩ : PaceT), ([] : List NoteT)⟩ : OrderT), (0 : Int)⟩ : ItemT)))
    none) := by
  refine Eq.trans (b := (cond ((decide ((a0.length : Int) = (a0.length : Int))) && ((decide ((0 : Int) ≤ (a0.length : Int))) && (decide ((a0.length : Int) ≤ (LIM : Int)))))
    (iter (fun st k => ev f67e f67k n (cAt [1,1,0,1,0,0] f67c) st k) n ⟨[(0, .c (.one (.ro .item a0))), (3, .c (.one (.h 448 0 0 []))), (4, .c (.one (.v (.int .i64 (0 : Int)))))], [], [(448, .live ⟨.item, .deep, 0, [], (List.replicate (Int.toNat (a0.length : Int)) (⟨(⟨ByteArray.empty, ByteArray.empty, (0 : Int), (0 : Int), ([] : List MetricT), (⟨(0 : Int), (0 : Int), (0 : Int), (0 : Int)⟩ : PaceT), ([] : List NoteT)⟩ : OrderT), (0 : Int)⟩ : ItemT))⟩)]⟩ (f67K0 n (exitK f67e [.ro] [false] true [.tmp 2] [65] [.d (.sl .item) a0] k)))
    none)) (by kernel_rfl) ?_
  simp only [f67L0_eq, f67K0_x0]
theorem f67_spec (a0 : List ItemT) (hg : smL sm_item a0 = true) : ∃ keep rounds, ∀ {R : Type} (k : List Dt → Option R), evFn f67e keep rounds f67c [.ro] [false] true [.tmp 2] [65] [.d (.sl .item) a0] k = k [.d (.sl .item) a0] := by
  have hl : a0.length ≤ 1048576 := smL_len hg
  have hs := smL_all hg
  refine ⟨f67k, a0.length + 1, fun k => ?_⟩
  rw [f67_run, mkOk hl]
  simp only [cond_true]
  have := loop_copy (xs := a0) (f := fun x => x) (F := fun m j out => f67L0 (a0.length + 1) (fun (xvs4 : Int) (xvs11 : Bool) (xvr448 : List ItemT) => (k [.d (.sl .item) xvr448])) a0 m (j : Int) out) (good := fun out => k [.d (.sl .item) out]) (⟨(⟨ByteArray.empty, ByteArray.empty, (0 : Int), (0 : Int), ([] : List MetricT), (⟨(0 : Int), (0 : Int), (0 : Int), (0 : Int)⟩ : PaceT), ([] : List NoteT)⟩ : OrderT), (0 : Int)⟩ : ItemT)
    (fun m j out x hx hl' => by
      obtain ⟨h1, h0, hw, ht⟩ := idx (lt_of_get hx) (by omega)
      obtain ⟨h2, _, _, _⟩ := idx (show j < out.length by rw [hl']; exact lt_of_get hx) (by omega)
      have hx2 := List.all_eq_true.1 hs x (List.mem_of_getElem? hx)
      simp only [f67L0, h1, h0, h2, hw, ht, atI_of (t := .item) hx, Bool.and_self, cond_true, hx2])
    (fun m out => by simp only [f67L0, idxE, cond_false]) a0.length 0 (a0.length + 1) (by omega) (by omega)
  simpa using this

noncomputable def q67 : List Dt → Option (Bool × List Dt)
  | [.d (.sl .item) a0] => some ((smL sm_item a0), [.d (.sl .item) a0])
  | _ => none
noncomputable def s67 : Gm.Spec := Gm.Spec.of [.ro] [false] true q67
theorem good67 : Gm.Good Try.prog (67, s67) := by
  have hl : ∀ x ∈ [(75, s75)], Gm.Good Try.prog x := List.forall_mem_cons.2 ⟨good75, List.forall_mem_nil _⟩
  refine ⟨⟨spec_ok (tab_ok.env hl) (tab.natl hl) Try.func67 (by kernel_rfl : Try.f67.body = some f67c) [65] (by kernel_rfl) ?_, _, Try.func67, by kernel_rfl, of_decide_eq_true (by kernel_rfl)⟩, Gm.Spec.of_natl _ _ _ _⟩
  intro ds outs h
  unfold q67 at h
  split at h
  · simp only [Option.some.injEq, Prod.mk.injEq] at h; obtain ⟨hg, h⟩ := h; cases h; exact f67_spec _ hg
  · cases h
/-! ### loop.example/g00465/laws.toStore -/
noncomputable def f49c : Code := (Try.f49.body).getD .skip
def f49k : Nat → Kp := kat [⟨[1, 2], []⟩, ⟨[1, 2, 3], []⟩, ⟨[1, 2, 3], []⟩, ⟨[2, 3], []⟩, ⟨[2], []⟩]
noncomputable def f49e : Env := tab.env [(67, s67)]
theorem f49_run {R : Type} (n : Nat) (k : List Dt → Option R) (a0 : StoreT) : evFn f49e f49k n f49c [.ro] [false] true [.cell 2 67] [67] [.d .store a0] k =
    (cond (smL sm_item (StoreT.items a0))
    (k [.d .store a0])
    none) := by kernel_rfl
theorem f49_spec (a0 : StoreT) (hg : sm_store a0 = true) : ∃ keep rounds, ∀ {R : Type} (k : List Dt → Option R), evFn f49e keep rounds f49c [.ro] [false] true [.cell 2 67] [67] [.d .store a0] k = k [.d .store a0] := by
  simp only [sm_store, Bool.and_eq_true] at hg
  refine ⟨f49k, 0, fun k => ?_⟩
  rw [f49_run]
  simp only [hg, cond_true]

noncomputable def q49 : List Dt → Option (Bool × List Dt)
  | [.d .store a0] => some ((sm_store a0), [.d .store a0])
  | _ => none
noncomputable def s49 : Gm.Spec := Gm.Spec.of [.ro] [false] true q49
theorem good49 : Gm.Good Try.prog (49, s49) := by
  have hl : ∀ x ∈ [(67, s67)], Gm.Good Try.prog x := List.forall_mem_cons.2 ⟨good67, List.forall_mem_nil _⟩
  refine ⟨⟨spec_ok (tab_ok.env hl) (tab.natl hl) Try.func49 (by kernel_rfl : Try.f49.body = some f49c) [67] (by kernel_rfl) ?_, _, Try.func49, by kernel_rfl, of_decide_eq_true (by kernel_rfl)⟩, Gm.Spec.of_natl _ _ _ _⟩
  intro ds outs h
  unfold q49 at h
  split at h
  · simp only [Option.some.injEq, Prod.mk.injEq] at h; obtain ⟨hg, h⟩ := h; cases h; exact f49_spec _ hg
  · cases h
/-! ### loop.example/g00465/laws.toScaleS -/
noncomputable def f50c : Code := (Try.f50.body).getD .skip
def f50k : Nat → Kp := kat [⟨[0], []⟩, ⟨[0, 3], []⟩, ⟨[0, 3, 4], []⟩, ⟨[0, 3, 4, 11], []⟩, ⟨[0, 3, 4], []⟩, ⟨[0, 3, 4], []⟩, ⟨[2], []⟩]
noncomputable def f50e : Env := tab.env [(13, s13)]
noncomputable def f50L0 {R : Type} (n : Nat) (x0 : Int → Bool → (List ScaleT) → Option R) (vs0 : List ScaleT) : Nat → Int → (List ScaleT) → Option R
  | 0, _, _ => none
  | m + 1, vs4, vr448 =>
    (cond (decide (vs4 < (vs0.length : Int)))
      (cond ((decide ((0 : Int) ≤ vs4)) && (decide (vs4 < (vs0.length : Int))))
        (cond (sm_scale (atI (t := .scale) vs0 (Int.toNat vs4)))
          (cond ((decide ((0 : Int) ≤ vs4)) && (decide (vs4 < (vr448.length : Int))))
            (f50L0 n x0 vs0 m (IntKind.wrap .i64 (vs4 + (1 : Int))) (vr448.set (Int.toNat vs4) (atI (t := .scale) vs0 (Int.toNat vs4))))
            none)
          none)
        none)
      (x0 vs4 (decide (vs4 < (vs0.length : Int))) vr448))
theorem f50L0_b {R : Type} (n : Nat) (k' : Ex → St → Option R) (vs0 : List ScaleT) (vs4 : Int) (vr448 : List ScaleT) : ev f50e f50k n (cAt [1,1,0,1,0,0] f50c) ⟨[(0, .c (.one (.ro .scale vs0))), (3, .c (.one (.h 448 0 0 []))), (4, .c (.one (.v (.int .i64 vs4))))], [], [(448, .live ⟨.scale, .deep, 0, [], vr448⟩)]⟩ k' =
    (cond (decide (vs4 < (vs0.length : Int)))
    (cond ((decide ((0 : Int) ≤ vs4)) && (decide (vs4 < (vs0.length : Int))))
      (cond (sm_scale (atI (t := .scale) vs0 (Int.toNat vs4)))
        (cond ((decide ((0 : Int) ≤ vs4)) && (decide (vs4 < (vr448.length : Int))))
          (k' .normal ⟨[(0, .c (.one (.ro .scale vs0))), (3, .c (.one (.h 448 0 0 []))), (4, .c (.one (.v (.int .i64 (IntKind.wrap .i64 (vs4 + (1 : Int)))))))], [], [(448, .live ⟨.scale, .deep, 0, [], (vr448.set (Int.toNat vs4) (atI (t := .scale) vs0 (Int.toNat vs4)))⟩)]⟩)
          none)
        none)
      none)
    (k' (.exit 0) ⟨[(0, .c (.one (.ro .scale vs0))), (3, .c (.one (.h 448 0 0 []))), (4, .c (.one (.v (.int .i64 vs4)))), (11, .c (.one (.v (.bool (decide (vs4 < (vs0.length : Int)))))))], [], [(448, .live ⟨.scale, .deep, 0, [], vr448⟩)]⟩)) := by kernel_rfl
theorem f50L0_eq {R : Type} (n : Nat) (k' : Ex → St → Option R) (vs0 : List ScaleT) : ∀ (m : Nat) (vs4 : Int) (vr448 : List ScaleT), iter (fun st k => ev f50e f50k n (cAt [1,1,0,1,0,0] f50c) st k) m ⟨[(0, .c (.one (.ro .scale vs0))), (3, .c (.one (.h 448 0 0 []))), (4, .c (.one (.v (.int .i64 vs4))))], [], [(448, .live ⟨.scale, .deep, 0, [], vr448⟩)]⟩ k' = f50L0 n (fun (xvs4 : Int) (xvs11 : Bool) (xvr448 : List ScaleT) => k' (.exit 0) ⟨[(0, .c (.one (.ro .scale vs0))), (3, .c (.one (.h 448 0 0 []))), (4, .c (.one (.v (.int .i64 xvs4)))), (11, .c (.one (.v (.bool xvs11))))], [], [(448, .live ⟨.scale, .deep, 0, [], xvr448⟩)]⟩) vs0 m vs4 vr448 := by
  intro m; induction m with
  | zero => intros; rfl
  | succ m ih =>
    intro vs4 vr448
    simp only [iter]
    rw [f50L0_b]
    simp only [ih, f50L0]

noncomputable def f50K0 {R : Type} (n : Nat) (k' : Ex → St → Option R) : Ex → St → Option R := (blockK 0 (seqK f50e f50k n (cAt [1,1,1] f50c) k'))
theorem f50K0_x0 {R : Type} (n : Nat) (k : List Dt → Option R) (a0 : List ScaleT) (vs0 : List ScaleT) (xvs4 : Int) (xvs11 : Bool) (xvr448 : List ScaleT) : f50K0 n (exitK f50e [.ro] [false] true [.tmp 2] [68] [.d (.sl .scale) a0] k) (.exit 0) ⟨[(0, .c (.one (.ro .scale vs0))), (3, .c (.one (.h 448 0 0 []))), (4, .c (.one (.v (.int .i64 xvs4)))), (11, .c (.one (.v (.bool xvs11))))], [], [(448, .live ⟨.scale, .deep, 0, [], xvr448⟩)]⟩ =
    (k [.d (.sl .scale) xvr448]) := by kernel_rfl

theorem f50_run {R : Type} (n : Nat) (k : List Dt → Option R) (a0 : List ScaleT) : evFn f50e f50k n f50c [.ro] [false] true [.tmp 2] [68] [.d (.sl .scale) a0] k =
    (cond ((decide ((a0.length : Int) = (a0.length : Int))) && ((decide ((0 : Int) ≤ (a0.length : Int))) && (decide ((a0.length : Int) ≤ (LIM : Int)))))
    (f50L0 n (fun (xvs4 : Int) (xvs11 : Bool) (xvr448 : List ScaleT) =>
      (k [.d (.sl .scale) xvr448])) a0 n (0 : Int) (List.replicate (Int.toNat (a0.length : Int)) (⟨ByteArray.empty, (0 : Int), ([] : List RcdT)⟩ : ScaleT)))
    none) := by
  refine Eq.trans (b := (cond ((decide ((a0.length : Int) = (a0.length : Int))) && ((decide ((0 : Int) ≤ (a0.length : Int))) && (decide ((a0.length : Int) ≤ (LIM : Int)))))
    (iter (fun st k => ev f50e f50k n (cAt [1,1,0,1,0,0] f50c) st k) n ⟨[(0, .c (.one (.ro .scale a0))), (3, .c (.one (.h 448 0 0 []))), (4, .c (.one (.v (.int .i64 (0 : Int)))))], [], [(448, .live ⟨.scale, .deep, 0, [], (List.replicate (Int.toNat (a0.length : Int)) (⟨ByteArray.empty, (0 : Int), ([] : List RcdT)⟩ : ScaleT))⟩)]⟩ (f50K0 n (exitK f50e [.ro] [false] true [.tmp 2] [68] [.d (.sl .scale) a0] k)))
    none)) (by kernel_rfl) ?_
  simp only [f50L0_eq, f50K0_x0]
theorem f50_spec (a0 : List ScaleT) (hg : smL sm_scale a0 = true) : ∃ keep rounds, ∀ {R : Type} (k : List Dt → Option R), evFn f50e keep rounds f50c [.ro] [false] true [.tmp 2] [68] [.d (.sl .scale) a0] k = k [.d (.sl .scale) a0] := by
  have hl : a0.length ≤ 1048576 := smL_len hg
  have hs := smL_all hg
  refine ⟨f50k, a0.length + 1, fun k => ?_⟩
  rw [f50_run, mkOk hl]
  simp only [cond_true]
  have := loop_copy (xs := a0) (f := fun x => x) (F := fun m j out => f50L0 (a0.length + 1) (fun (xvs4 : Int) (xvs11 : Bool) (xvr448 : List ScaleT) => (k [.d (.sl .scale) xvr448])) a0 m (j : Int) out) (good := fun out => k [.d (.sl .scale) out]) (⟨ByteArray.empty, (0 : Int), ([] : List RcdT)⟩ : ScaleT)
    (fun m j out x hx hl' => by
      obtain ⟨h1, h0, hw, ht⟩ := idx (lt_of_get hx) (by omega)
      obtain ⟨h2, _, _, _⟩ := idx (show j < out.length by rw [hl']; exact lt_of_get hx) (by omega)
      have hx2 := List.all_eq_true.1 hs x (List.mem_of_getElem? hx)
      simp only [f50L0, h1, h0, h2, hw, ht, atI_of (t := .scale) hx, Bool.and_self, cond_true, hx2])
    (fun m out => by simp only [f50L0, idxE, cond_false]) a0.length 0 (a0.length + 1) (by omega) (by omega)
  simpa using this

noncomputable def q50 : List Dt → Option (Bool × List Dt)
  | [.d (.sl .scale) a0] => some ((smL sm_scale a0), [.d (.sl .scale) a0])
  | _ => none
noncomputable def s50 : Gm.Spec := Gm.Spec.of [.ro] [false] true q50
theorem good50 : Gm.Good Try.prog (50, s50) := by
  have hl : ∀ x ∈ [(13, s13)], Gm.Good Try.prog x := List.forall_mem_cons.2 ⟨good13, List.forall_mem_nil _⟩
  refine ⟨⟨spec_ok (tab_ok.env hl) (tab.natl hl) Try.func50 (by kernel_rfl : Try.f50.body = some f50c) [68] (by kernel_rfl) ?_, _, Try.func50, by kernel_rfl, of_decide_eq_true (by kernel_rfl)⟩, Gm.Spec.of_natl _ _ _ _⟩
  intro ds outs h
  unfold q50 at h
  split at h
  · simp only [Option.some.injEq, Prod.mk.injEq] at h; obtain ⟨hg, h⟩ := h; cases h; exact f50_spec _ hg
  · cases h
/-! ### loop.example/g00465/laws.toTold -/
noncomputable def f68c : Code := (Try.f68.body).getD .skip
def f68k : Nat → Kp := kat [⟨[1, 2], []⟩, ⟨[1, 2, 3], []⟩, ⟨[1, 2, 3], []⟩, ⟨[1, 2, 3], []⟩, ⟨[2, 3], []⟩, ⟨[2], []⟩]
noncomputable def f68e : Env := tab.env []
theorem f68_run {R : Type} (n : Nat) (k : List Dt → Option R) (a0 : ToldT) : evFn f68e f68k n f68c [.ro] [false] true [.cell 2 126] [126] [.d .told a0] k =
    (k [.d .told a0]) := by kernel_rfl
theorem f68_spec (a0 : ToldT) (hg : sm_told a0 = true) : ∃ keep rounds, ∀ {R : Type} (k : List Dt → Option R), evFn f68e keep rounds f68c [.ro] [false] true [.cell 2 126] [126] [.d .told a0] k = k [.d .told a0] := by
  exact ⟨f68k, 0, fun k => f68_run 0 k a0⟩

noncomputable def q68 : List Dt → Option (Bool × List Dt)
  | [.d .told a0] => some ((sm_told a0), [.d .told a0])
  | _ => none
noncomputable def s68 : Gm.Spec := Gm.Spec.of [.ro] [false] true q68
theorem good68 : Gm.Good Try.prog (68, s68) := by
  have hl : ∀ x ∈ ([] : List (Nat × Gm.Spec)), Gm.Good Try.prog x := fun _ h => by cases h
  refine ⟨⟨spec_ok (tab_ok.env hl) (tab.natl hl) Try.func68 (by kernel_rfl : Try.f68.body = some f68c) [126] (by kernel_rfl) ?_, _, Try.func68, by kernel_rfl, of_decide_eq_true (by kernel_rfl)⟩, Gm.Spec.of_natl _ _ _ _⟩
  intro ds outs h
  unfold q68 at h
  split at h
  · simp only [Option.some.injEq, Prod.mk.injEq] at h; obtain ⟨hg, h⟩ := h; cases h; exact f68_spec _ hg
  · cases h
/-! ### loop.example/g00465/laws.toToldS -/
noncomputable def f51c : Code := (Try.f51.body).getD .skip
def f51k : Nat → Kp := kat [⟨[0], []⟩, ⟨[0, 3], []⟩, ⟨[0, 3, 4], []⟩, ⟨[0, 3, 4, 11], []⟩, ⟨[0, 3, 4], []⟩, ⟨[0, 3, 4], []⟩, ⟨[2], []⟩]
noncomputable def f51e : Env := tab.env [(68, s68)]
noncomputable def f51L0 {R : Type} (n : Nat) (x0 : Int → Bool → (List ToldT) → Option R) (vs0 : List ToldT) : Nat → Int → (List ToldT) → Option R
  | 0, _, _ => none
  | m + 1, vs4, vr448 =>
    (cond (decide (vs4 < (vs0.length : Int)))
      (cond ((decide ((0 : Int) ≤ vs4)) && (decide (vs4 < (vs0.length : Int))))
        (cond (sm_told (atI (t := .told) vs0 (Int.toNat vs4)))
          (cond ((decide ((0 : Int) ≤ vs4)) && (decide (vs4 < (vr448.length : Int))))
            (f51L0 n x0 vs0 m (IntKind.wrap .i64 (vs4 + (1 : Int))) (vr448.set (Int.toNat vs4) (atI (t := .told) vs0 (Int.toNat vs4))))
            none)
          none)
        none)
      (x0 vs4 (decide (vs4 < (vs0.length : Int))) vr448))
theorem f51L0_b {R : Type} (n : Nat) (k' : Ex → St → Option R) (vs0 : List ToldT) (vs4 : Int) (vr448 : List ToldT) : ev f51e f51k n (cAt [1,1,0,1,0,0] f51c) ⟨[(0, .c (.one (.ro .told vs0))), (3, .c (.one (.h 448 0 0 []))), (4, .c (.one (.v (.int .i64 vs4))))], [], [(448, .live ⟨.told, .deep, 0, [], vr448⟩)]⟩ k' =
    (cond (decide (vs4 < (vs0.length : Int)))
    (cond ((decide ((0 : Int) ≤ vs4)) && (decide (vs4 < (vs0.length : Int))))
      (cond (sm_told (atI (t := .told) vs0 (Int.toNat vs4)))
        (cond ((decide ((0 : Int) ≤ vs4)) && (decide (vs4 < (vr448.length : Int))))
          (k' .normal ⟨[(0, .c (.one (.ro .told vs0))), (3, .c (.one (.h 448 0 0 []))), (4, .c (.one (.v (.int .i64 (IntKind.wrap .i64 (vs4 + (1 : Int)))))))], [], [(448, .live ⟨.told, .deep, 0, [], (vr448.set (Int.toNat vs4) (atI (t := .told) vs0 (Int.toNat vs4)))⟩)]⟩)
          none)
        none)
      none)
    (k' (.exit 0) ⟨[(0, .c (.one (.ro .told vs0))), (3, .c (.one (.h 448 0 0 []))), (4, .c (.one (.v (.int .i64 vs4)))), (11, .c (.one (.v (.bool (decide (vs4 < (vs0.length : Int)))))))], [], [(448, .live ⟨.told, .deep, 0, [], vr448⟩)]⟩)) := by kernel_rfl
theorem f51L0_eq {R : Type} (n : Nat) (k' : Ex → St → Option R) (vs0 : List ToldT) : ∀ (m : Nat) (vs4 : Int) (vr448 : List ToldT), iter (fun st k => ev f51e f51k n (cAt [1,1,0,1,0,0] f51c) st k) m ⟨[(0, .c (.one (.ro .told vs0))), (3, .c (.one (.h 448 0 0 []))), (4, .c (.one (.v (.int .i64 vs4))))], [], [(448, .live ⟨.told, .deep, 0, [], vr448⟩)]⟩ k' = f51L0 n (fun (xvs4 : Int) (xvs11 : Bool) (xvr448 : List ToldT) => k' (.exit 0) ⟨[(0, .c (.one (.ro .told vs0))), (3, .c (.one (.h 448 0 0 []))), (4, .c (.one (.v (.int .i64 xvs4)))), (11, .c (.one (.v (.bool xvs11))))], [], [(448, .live ⟨.told, .deep, 0, [], xvr448⟩)]⟩) vs0 m vs4 vr448 := by
  intro m; induction m with
  | zero => intros; rfl
  | succ m ih =>
    intro vs4 vr448
    simp only [iter]
    rw [f51L0_b]
    simp only [ih, f51L0]

noncomputable def f51K0 {R : Type} (n : Nat) (k' : Ex → St → Option R) : Ex → St → Option R := (blockK 0 (seqK f51e f51k n (cAt [1,1,1] f51c) k'))
theorem f51K0_x0 {R : Type} (n : Nat) (k : List Dt → Option R) (a0 : List ToldT) (vs0 : List ToldT) (xvs4 : Int) (xvs11 : Bool) (xvr448 : List ToldT) : f51K0 n (exitK f51e [.ro] [false] true [.tmp 2] [69] [.d (.sl .told) a0] k) (.exit 0) ⟨[(0, .c (.one (.ro .told vs0))), (3, .c (.one (.h 448 0 0 []))), (4, .c (.one (.v (.int .i64 xvs4)))), (11, .c (.one (.v (.bool xvs11))))], [], [(448, .live ⟨.told, .deep, 0, [], xvr448⟩)]⟩ =
    (k [.d (.sl .told) xvr448]) := by kernel_rfl

theorem f51_run {R : Type} (n : Nat) (k : List Dt → Option R) (a0 : List ToldT) : evFn f51e f51k n f51c [.ro] [false] true [.tmp 2] [69] [.d (.sl .told) a0] k =
    (cond ((decide ((a0.length : Int) = (a0.length : Int))) && ((decide ((0 : Int) ≤ (a0.length : Int))) && (decide ((a0.length : Int) ≤ (LIM : Int)))))
    (f51L0 n (fun (xvs4 : Int) (xvs11 : Bool) (xvr448 : List ToldT) =>
      (k [.d (.sl .told) xvr448])) a0 n (0 : Int) (List.replicate (Int.toNat (a0.length : Int)) (⟨(0 : Int), ByteArray.empty, (0 : Int)⟩ : ToldT)))
    none) := by
  refine Eq.trans (b := (cond ((decide ((a0.length : Int) = (a0.length : Int))) && ((decide ((0 : Int) ≤ (a0.length : Int))) && (decide ((a0.length : Int) ≤ (LIM : Int)))))
    (iter (fun st k => ev f51e f51k n (cAt [1,1,0,1,0,0] f51c) st k) n ⟨[(0, .c (.one (.ro .told a0))), (3, .c (.one (.h 448 0 0 []))), (4, .c (.one (.v (.int .i64 (0 : Int)))))], [], [(448, .live ⟨.told, .deep, 0, [], (List.replicate (Int.toNat (a0.length : Int)) (⟨(0 : Int), ByteArray.empty, (0 : Int)⟩ : ToldT))⟩)]⟩ (f51K0 n (exitK f51e [.ro] [false] true [.tmp 2] [69] [.d (.sl .told) a0] k)))
    none)) (by kernel_rfl) ?_
  simp only [f51L0_eq, f51K0_x0]
theorem f51_spec (a0 : List ToldT) (hg : smL sm_told a0 = true) : ∃ keep rounds, ∀ {R : Type} (k : List Dt → Option R), evFn f51e keep rounds f51c [.ro] [false] true [.tmp 2] [69] [.d (.sl .told) a0] k = k [.d (.sl .told) a0] := by
  have hl : a0.length ≤ 1048576 := smL_len hg
  have hs := smL_all hg
  refine ⟨f51k, a0.length + 1, fun k => ?_⟩
  rw [f51_run, mkOk hl]
  simp only [cond_true]
  have := loop_copy (xs := a0) (f := fun x => x) (F := fun m j out => f51L0 (a0.length + 1) (fun (xvs4 : Int) (xvs11 : Bool) (xvr448 : List ToldT) => (k [.d (.sl .told) xvr448])) a0 m (j : Int) out) (good := fun out => k [.d (.sl .told) out]) (⟨(0 : Int), ByteArray.empty, (0 : Int)⟩ : ToldT)
    (fun m j out x hx hl' => by
      obtain ⟨h1, h0, hw, ht⟩ := idx (lt_of_get hx) (by omega)
      obtain ⟨h2, _, _, _⟩ := idx (show j < out.length by rw [hl']; exact lt_of_get hx) (by omega)
      have hx2 := List.all_eq_true.1 hs x (List.mem_of_getElem? hx)
      simp only [f51L0, h1, h0, h2, hw, ht, atI_of (t := .told) hx, Bool.and_self, cond_true, hx2])
    (fun m out => by simp only [f51L0, idxE, cond_false]) a0.length 0 (a0.length + 1) (by omega) (by omega)
  simpa using this

noncomputable def q51 : List Dt → Option (Bool × List Dt)
  | [.d (.sl .told) a0] => some ((smL sm_told a0), [.d (.sl .told) a0])
  | _ => none
noncomputable def s51 : Gm.Spec := Gm.Spec.of [.ro] [false] true q51
theorem good51 : Gm.Good Try.prog (51, s51) := by
  have hl : ∀ x ∈ [(68, s68)], Gm.Good Try.prog x := List.forall_mem_cons.2 ⟨good68, List.forall_mem_nil _⟩
  refine ⟨⟨spec_ok (tab_ok.env hl) (tab.natl hl) Try.func51 (by kernel_rfl : Try.f51.body = some f51c) [69] (by kernel_rfl) ?_, _, Try.func51, by kernel_rfl, of_decide_eq_true (by kernel_rfl)⟩, Gm.Spec.of_natl _ _ _ _⟩
  intro ds outs h
  unfold q51 at h
  split at h
  · simp only [Option.some.injEq, Prod.mk.injEq] at h; obtain ⟨hg, h⟩ := h; cases h; exact f51_spec _ hg
  · cases h
/-! ### loop.example/g00465/laws.toWorld -/
noncomputable def f23c : Code := (Try.f23.body).getD .skip
def f23k : Nat → Kp := kat [⟨[1, 2], []⟩, ⟨[1, 2, 3], []⟩, ⟨[1, 2, 3], []⟩, ⟨[1, 2, 3], []⟩, ⟨[1, 2, 3], []⟩, ⟨[2, 3], []⟩, ⟨[2], []⟩]
noncomputable def f23e : Env := tab.env [(49, s49), (50, s50), (51, s51)]
theorem f23_run {R : Type} (n : Nat) (k : List Dt → Option R) (a0 : WorldT) : evFn f23e f23k n f23c [.ro] [false] true [.cell 2 71] [71] [.d .world a0] k =
    (cond (sm_store (WorldT.store a0))
    (cond (smL sm_scale (WorldT.scales a0))
      (cond (smL sm_told (WorldT.log a0))
        (k [.d .world a0])
        none)
      none)
    none) := by kernel_rfl
theorem f23_spec (a0 : WorldT) (hg : sm_world a0 = true) : ∃ keep rounds, ∀ {R : Type} (k : List Dt → Option R), evFn f23e keep rounds f23c [.ro] [false] true [.cell 2 71] [71] [.d .world a0] k = k [.d .world a0] := by
  simp only [sm_world, Bool.and_eq_true] at hg
  refine ⟨f23k, 0, fun k => ?_⟩
  rw [f23_run]
  simp only [hg, cond_true]

noncomputable def q23 : List Dt → Option (Bool × List Dt)
  | [.d .world a0] => some ((sm_world a0), [.d .world a0])
  | _ => none
noncomputable def s23 : Gm.Spec := Gm.Spec.of [.ro] [false] true q23
theorem good23 : Gm.Good Try.prog (23, s23) := by
  have hl : ∀ x ∈ [(49, s49), (50, s50), (51, s51)], Gm.Good Try.prog x := List.forall_mem_cons.2 ⟨good49, List.forall_mem_cons.2 ⟨good50, List.forall_mem_cons.2 ⟨good51, List.forall_mem_nil _⟩⟩⟩
  refine ⟨⟨spec_ok (tab_ok.env hl) (tab.natl hl) Try.func23 (by kernel_rfl : Try.f23.body = some f23c) [71] (by kernel_rfl) ?_, _, Try.func23, by kernel_rfl, of_decide_eq_true (by kernel_rfl)⟩, Gm.Spec.of_natl _ _ _ _⟩
  intro ds outs h
  unfold q23 at h
  split at h
  · simp only [Option.some.injEq, Prod.mk.injEq] at h; obtain ⟨hg, h⟩ := h; cases h; exact f23_spec _ hg
  · cases h
/-! ### loop.example/g00465/laws.eqItem -/
noncomputable def f76c : Code := (Try.f76.body).getD .skip
def f76k : Nat → Kp := kat [⟨[2, 3], []⟩, ⟨[2, 3, 10], []⟩, ⟨[4], []⟩, ⟨[15], []⟩, ⟨[4], []⟩, ⟨[4], []⟩]
noncomputable def f76e : Env := tab.env [(20, s20)]
theorem f76_run {R : Type} (n : Nat) (k : List Dt → Option R) (a0 : ItemT) (a1 : ItemT) : evFn f76e f76k n f76c [.ro, .ro] [false] true [.tmp 4] [4] [.d .item a0, .d .item a1] k =
    (cond (sm2 sm_order (ItemT.order a0) (ItemT.order a1))
    (cond (!(eqD (ItemT.order a0) (ItemT.order a1)))
      (k [.d .bool false])
      (cond ((ItemT.ver a0) != (ItemT.ver a1))
        (k [.d .bool false])
        (k [.d .bool true])))
    none) := by kernel_rfl
theorem f76_spec (a0 : ItemT) (a1 : ItemT) (hg : sm2 sm_item a0 a1 = true) : ∃ keep rounds, ∀ {R : Type} (k : List Dt → Option R), evFn f76e keep rounds f76c [.ro, .ro] [false] true [.tmp 4] [4] [.d .item a0, .d .item a1] k = k [.d .bool (eqD a0 a1)] := by
  simp only [sm2, sm_item, Bool.and_eq_true] at hg
  refine ⟨f76k, 0, fun k => ?_⟩
  rw [f76_run, eqD_item]
  simp only [bne, sm2, hg, Bool.and_self, Bool.true_and, cond_true]
  cases eqD a0.order a1.order <;> cases (a0.ver == a1.ver) <;> rfl

noncomputable def q76 : List Dt → Option (Bool × List Dt)
  | [.d .item a0, .d .item a1] => some ((sm2 sm_item a0 a1), [.d .bool (eqD a0 a1)])
  | _ => none
noncomputable def s76 : Gm.Spec := Gm.Spec.of [.ro, .ro] [false] true q76
theorem good76 : Gm.Good Try.prog (76, s76) := by
  have hl : ∀ x ∈ [(20, s20)], Gm.Good Try.prog x := List.forall_mem_cons.2 ⟨good20, List.forall_mem_nil _⟩
  refine ⟨⟨spec_ok (tab_ok.env hl) (tab.natl hl) Try.func76 (by kernel_rfl : Try.f76.body = some f76c) [4] (by kernel_rfl) ?_, _, Try.func76, by kernel_rfl, of_decide_eq_true (by kernel_rfl)⟩, Gm.Spec.of_natl _ _ _ _⟩
  intro ds outs h
  unfold q76 at h
  split at h
  · simp only [Option.some.injEq, Prod.mk.injEq] at h; obtain ⟨hg, h⟩ := h; cases h; exact f76_spec _ _ hg
  · cases h
/-! ### loop.example/g00465/laws.eqItemS -/
noncomputable def f69c : Code := (Try.f69.body).getD .skip
def f69k : Nat → Kp := kat [⟨[0, 1], []⟩, ⟨[0, 1, 10], []⟩, ⟨[4], []⟩, ⟨[0, 1, 5], []⟩, ⟨[0, 1, 5, 14], []⟩, ⟨[0, 1, 5], []⟩, ⟨[0, 1, 5, 26], []⟩, ⟨[4], []⟩, ⟨[4], []⟩]
noncomputable def f69e : Env := tab.env [(76, s76)]
noncomputable def f69L0 {R : Type} (n : Nat) (x0 : Option R) (x1 : Int → Bool → Option R) (vs0 : List ItemT) (vs1 : List ItemT) : Nat → Int → Option R
  | 0, _ => none
  | m + 1, vs5 =>
    (cond (decide (vs5 < (vs0.length : Int)))
      (cond ((decide ((0 : Int) ≤ vs5)) && (decide (vs5 < (vs0.length : Int))))
        (cond ((decide ((0 : Int) ≤ vs5)) && (decide (vs5 < (vs1.length : Int))))
          (cond (sm2 sm_item (atI (t := .item) vs0 (Int.toNat vs5)) (atI (t := .item) vs1 (Int.toNat vs5)))
            (cond (!(eqD (atI (t := .item) vs0 (Int.toNat vs5)) (atI (t := .item) vs1 (Int.toNat vs5))))
              (x0)
              (f69L0 n x0 x1 vs0 vs1 m (IntKind.wrap .i64 (vs5 + (1 : Int)))))
            none)
          none)
        none)
      (x1 vs5 (decide (vs5 < (vs0.length : Int)))))
theorem f69L0_b {R : Type} (n : Nat) (k' : Ex → St → Option R) (vs0 : List ItemT) (vs1 : List ItemT) (vs5 : Int) : ev f69e f69k n (cAt [1,1,0,1,0,0] f69c) ⟨[(0, .c (.one (.ro .item vs0))), (1, .c (.one (.ro .item vs1))), (5, .c (.one (.v (.int .i64 vs5))))], [], []⟩ k' =
    (cond (decide (vs5 < (vs0.length : Int)))
    (cond ((decide ((0 : Int) ≤ vs5)) && (decide (vs5 < (vs0.length : Int))))
      (cond ((decide ((0 : Int) ≤ vs5)) && (decide (vs5 < (vs1.length : Int))))
        (cond (sm2 sm_item (atI (t := .item) vs0 (Int.toNat vs5)) (atI (t := .item) vs1 (Int.toNat vs5)))
          (cond (!(eqD (atI (t := .item) vs0 (Int.toNat vs5)) (atI (t := .item) vs1 (Int.toNat vs5))))
            (k' .ret ⟨[(4, .c (.one (.v (.bool false))))], [], []⟩)
            (k' .normal ⟨[(0, .c (.one (.ro .item vs0))), (1, .c (.one (.ro .item vs1))), (5, .c (.one (.v (.int .i64 (IntKind.wrap .i64 (vs5 + (1 : Int)))))))], [], []⟩))
          none)
        none)
      none)
    (k' (.exit 0) ⟨[(0, .c (.one (.ro .item vs0))), (1, .c (.one (.ro .item vs1))), (5, .c (.one (.v (.int .i64 vs5)))), (14, .c (.one (.v (.bool (decide (vs5 < (vs0.length : Int)))))))], [], []⟩)) := by kernel_rfl
theorem f69L0_eq {R : Type} (n : Nat) (k' : Ex → St → Option R) (vs0 : List ItemT) (vs1 : List ItemT) : ∀ (m : Nat) (vs5 : Int), iter (fun st k => ev f69e f69k n (cAt [1,1,0,1,0,0] f69c) st k) m ⟨[(0, .c (.one (.ro .item vs0))), (1, .c (.one (.ro .item vs1))), (5, .c (.one (.v (.int .i64 vs5))))], [], []⟩ k' = f69L0 n (k' .ret ⟨[(4, .c (.one (.v (.bool false))))], [], []⟩) (fun (xvs5 : Int) (xvs14 : Bool) => k' (.exit 0) ⟨[(0, .c (.one (.ro .item vs0))), (1, .c (.one (.ro .item vs1))), (5, .c (.one (.v (.int .i64 xvs5)))), (14, .c (.one (.v (.bool xvs14))))], [], []⟩) vs0 vs1 m vs5 := by
  intro m; induction m with
  | zero => intros; rfl
  | succ m ih =>
    intro vs5
    simp only [iter]
    rw [f69L0_b]
    simp only [ih, f69L0]

noncomputable def f69K0 {R : Type} (n : Nat) (k' : Ex → St → Option R) : Ex → St → Option R := (blockK 0 (seqK f69e f69k n (cAt [1,1,1] f69c) k'))
theorem f69K0_x0 {R : Type} (n : Nat) (k : List Dt → Option R) (a0 : List ItemT) (a1 : List ItemT)  : f69K0 n (exitK f69e [.ro, .ro] [false] true [.tmp 4] [4] [.d (.sl .item) a0, .d (.sl .item) a1] k) .ret ⟨[(4, .c (.one (.v (.bool false))))], [], []⟩ =
    (k [.d .bool false]) := by kernel_rfl
theorem f69K0_x1 {R : Type} (n : Nat) (k : List Dt → Option R) (a0 : List ItemT) (a1 : List ItemT) (vs0 : List ItemT) (vs1 : List ItemT) (xvs5 : Int) (xvs14 : Bool) : f69K0 n (exitK f69e [.ro, .ro] [false] true [.tmp 4] [4] [.d (.sl .item) a0, .d (.sl .item) a1] k) (.exit 0) ⟨[(0, .c (.one (.ro .item vs0))), (1, .c (.one (.ro .item vs1))), (5, .c (.one (.v (.int .i64 xvs5)))), (14, .c (.one (.v (.bool xvs14))))], [], []⟩ =
    (k [.d .bool true]) := by kernel_rfl

theorem f69_run {R : Type} (n : Nat) (k : List Dt → Option R) (a0 : List ItemT) (a1 : List ItemT) : evFn f69e f69k n f69c [.ro, .ro] [false] true [.tmp 4] [4] [.d (.sl .item) a0, .d (.sl .item) a1] k =
    (cond ((a0.length : Int) != (a1.length : Int))
    (k [.d .bool false])
    (f69L0 n (k [.d .bool false]) (fun (xvs5 : Int) (xvs14 : Bool) =>
      (k [.d .bool true])) a0 a1 n (0 : Int))) := by
  refine Eq.trans (b := (cond ((a0.length : Int) != (a1.length : Int))
    (k [.d .bool false])
    (iter (fun st k => ev f69e f69k n (cAt [1,1,0,1,0,0] f69c) st k) n ⟨[(0, .c (.one (.ro .item a0))), (1, .c (.one (.ro .item a1))), (5, .c (.one (.v (.int .i64 (0 : Int)))))], [], []⟩ (f69K0 n (exitK f69e [.ro, .ro] [false] true [.tmp 4] [4] [.d (.sl .item) a0, .d (.sl .item) a1] k))))) (by kernel_rfl) ?_
  simp only [f69L0_eq, f69K0_x0, f69K0_x1]
theorem f69_spec (a0 : List ItemT) (a1 : List ItemT) (hg : sm2 (smL sm_item) a0 a1 = true) : ∃ keep rounds, ∀ {R : Type} (k : List Dt → Option R), evFn f69e keep rounds f69c [.ro, .ro] [false] true [.tmp 4] [4] [.d (.sl .item) a0, .d (.sl .item) a1] k = k [.d .bool (eqD a0 a1)] := by
  simp only [sm2, Bool.and_eq_true] at hg
  obtain ⟨hg0, hg1⟩ := hg
  have hl : a0.length ≤ 1048576 := smL_len hg0
  refine ⟨f69k, a0.length + 1, fun k => ?_⟩
  rw [f69_run]
  by_cases hc : a0.length = a1.length
  · have hc' : ((a0.length : Int) != (a1.length : Int)) = false := by simp [hc]
    simp only [hc', cond_false]
    refine Eq.trans (loop_idx (n := a0.length) (F := fun m i => f69L0 (a0.length + 1) _ _ a0 a1 m i) (p := fun j => eqD (atI (t := .item) a0 j) (atI (t := .item) a1 j)) (good := k [.d .bool true]) (bad := k [.d .bool false])
      (fun m j hj => ?_) (fun m => by simp only [f69L0, idxE, cond_false]) a0.length 0 (a0.length + 1) (by omega) (by omega)) ?_
    · obtain ⟨h1, h0, hw, ht⟩ := idx hj (by omega)
      obtain ⟨h2, _, _, _⟩ := idx (show j < a1.length by omega) (by omega)
      have ha := smL_at (t := .item) hg0 hj
      have hb := smL_at (t := .item) hg1 (show j < a1.length by omega)
      simp only [f69L0, h1, h0, h2, hw, ht, Bool.and_self, cond_true, sm2, ha, hb]
      cases eqD (atI (t := .item) a0 j) (atI (t := .item) a1 j) <;> rfl
    · rw [allN_eq hc (fun j x y hx hy => by rw [atI_of (t := .item) hx, atI_of (t := .item) hy])]
      cases eqD a0 a1 <;> rfl
  · simp only [bneLen hc, cond_true]
    rw [eqD_ne (fun e => hc (by rw [e]))]

noncomputable def q69 : List Dt → Option (Bool × List Dt)
  | [.d (.sl .item) a0, .d (.sl .item) a1] => some ((sm2 (smL sm_item) a0 a1), [.d .bool (eqD a0 a1)])
  | _ => none
noncomputable def s69 : Gm.Spec := Gm.Spec.of [.ro, .ro] [false] true q69
theorem good69 : Gm.Good Try.prog (69, s69) := by
  have hl : ∀ x ∈ [(76, s76)], Gm.Good Try.prog x := List.forall_mem_cons.2 ⟨good76, List.forall_mem_nil _⟩
  refine ⟨⟨spec_ok (tab_ok.env hl) (tab.natl hl) Try.func69 (by kernel_rfl : Try.f69.body = some f69c) [4] (by kernel_rfl) ?_, _, Try.func69, by kernel_rfl, of_decide_eq_true (by kernel_rfl)⟩, Gm.Spec.of_natl _ _ _ _⟩
  intro ds outs h
  unfold q69 at h
  split at h
  · simp only [Option.some.injEq, Prod.mk.injEq] at h; obtain ⟨hg, h⟩ := h; cases h; exact f69_spec _ _ hg
  · cases h
/-! ### loop.example/g00465/laws.eqStore -/
noncomputable def f52c : Code := (Try.f52.body).getD .skip
def f52k : Nat → Kp := kat [⟨[2, 3], []⟩, ⟨[2, 3, 10], []⟩, ⟨[4], []⟩, ⟨[15], []⟩, ⟨[4], []⟩, ⟨[4], []⟩]
noncomputable def f52e : Env := tab.env [(69, s69)]
theorem f52_run {R : Type} (n : Nat) (k : List Dt → Option R) (a0 : StoreT) (a1 : StoreT) : evFn f52e f52k n f52c [.ro, .ro] [false] true [.tmp 4] [4] [.d .store a0, .d .store a1] k =
    (cond (sm2 (smL sm_item) (StoreT.items a0) (StoreT.items a1))
    (cond (!(eqD (StoreT.items a0) (StoreT.items a1)))
      (k [.d .bool false])
      (cond ((StoreT.next a0) != (StoreT.next a1))
        (k [.d .bool false])
        (k [.d .bool true])))
    none) := by kernel_rfl
theorem f52_spec (a0 : StoreT) (a1 : StoreT) (hg : sm2 sm_store a0 a1 = true) : ∃ keep rounds, ∀ {R : Type} (k : List Dt → Option R), evFn f52e keep rounds f52c [.ro, .ro] [false] true [.tmp 4] [4] [.d .store a0, .d .store a1] k = k [.d .bool (eqD a0 a1)] := by
  simp only [sm2, sm_store, Bool.and_eq_true] at hg
  refine ⟨f52k, 0, fun k => ?_⟩
  rw [f52_run, eqD_store]
  simp only [bne, sm2, hg, Bool.and_self, Bool.true_and, cond_true]
  cases eqD a0.items a1.items <;> cases (a0.next == a1.next) <;> rfl

noncomputable def q52 : List Dt → Option (Bool × List Dt)
  | [.d .store a0, .d .store a1] => some ((sm2 sm_store a0 a1), [.d .bool (eqD a0 a1)])
  | _ => none
noncomputable def s52 : Gm.Spec := Gm.Spec.of [.ro, .ro] [false] true q52
theorem good52 : Gm.Good Try.prog (52, s52) := by
  have hl : ∀ x ∈ [(69, s69)], Gm.Good Try.prog x := List.forall_mem_cons.2 ⟨good69, List.forall_mem_nil _⟩
  refine ⟨⟨spec_ok (tab_ok.env hl) (tab.natl hl) Try.func52 (by kernel_rfl : Try.f52.body = some f52c) [4] (by kernel_rfl) ?_, _, Try.func52, by kernel_rfl, of_decide_eq_true (by kernel_rfl)⟩, Gm.Spec.of_natl _ _ _ _⟩
  intro ds outs h
  unfold q52 at h
  split at h
  · simp only [Option.some.injEq, Prod.mk.injEq] at h; obtain ⟨hg, h⟩ := h; cases h; exact f52_spec _ _ hg
  · cases h
/-! ### loop.example/g00465/laws.eqScaleS -/
noncomputable def f53c : Code := (Try.f53.body).getD .skip
def f53k : Nat → Kp := kat [⟨[0, 1], []⟩, ⟨[0, 1, 10], []⟩, ⟨[4], []⟩, ⟨[0, 1, 5], []⟩, ⟨[0, 1, 5, 14], []⟩, ⟨[0, 1, 5], []⟩, ⟨[0, 1, 5, 26], []⟩, ⟨[4], []⟩, ⟨[4], []⟩]
noncomputable def f53e : Env := tab.env [(15, s15)]
noncomputable def f53L0 {R : Type} (n : Nat) (x0 : Option R) (x1 : Int → Bool → Option R) (vs0 : List ScaleT) (vs1 : List ScaleT) : Nat → Int → Option R
  | 0, _ => none
  | m + 1, vs5 =>
    (cond (decide (vs5 < (vs0.length : Int)))
      (cond ((decide ((0 : Int) ≤ vs5)) && (decide (vs5 < (vs0.length : Int))))
        (cond ((decide ((0 : Int) ≤ vs5)) && (decide (vs5 < (vs1.length : Int))))
          (cond (sm2 sm_scale (atI (t := .scale) vs0 (Int.toNat vs5)) (atI (t := .scale) vs1 (Int.toNat vs5)))
            (cond (!(eqD (atI (t := .scale) vs0 (Int.toNat vs5)) (atI (t := .scale) vs1 (Int.toNat vs5))))
              (x0)
              (f53L0 n x0 x1 vs0 vs1 m (IntKind.wrap .i64 (vs5 + (1 : Int)))))
            none)
          none)
        none)
      (x1 vs5 (decide (vs5 < (vs0.length : Int)))))
theorem f53L0_b {R : Type} (n : Nat) (k' : Ex → St → Option R) (vs0 : List ScaleT) (vs1 : List ScaleT) (vs5 : Int) : ev f53e f53k n (cAt [1,1,0,1,0,0] f53c) ⟨[(0, .c (.one (.ro .scale vs0))), (1, .c (.one (.ro .scale vs1))), (5, .c (.one (.v (.int .i64 vs5))))], [], []⟩ k' =
    (cond (decide (vs5 < (vs0.length : Int)))
    (cond ((decide ((0 : Int) ≤ vs5)) && (decide (vs5 < (vs0.length : Int))))
      (cond ((decide ((0 : Int) ≤ vs5)) && (decide (vs5 < (vs1.length : Int))))
        (cond (sm2 sm_scale (atI (t := .scale) vs0 (Int.toNat vs5)) (atI (t := .scale) vs1 (Int.toNat vs5)))
          (cond (!(eqD (atI (t := .scale) vs0 (Int.toNat vs5)) (atI (t := .scale) vs1 (Int.toNat vs5))))
            (k' .ret ⟨[(4, .c (.one (.v (.bool false))))], [], []⟩)
            (k' .normal ⟨[(0, .c (.one (.ro .scale vs0))), (1, .c (.one (.ro .scale vs1))), (5, .c (.one (.v (.int .i64 (IntKind.wrap .i64 (vs5 + (1 : Int)))))))], [], []⟩))
          none)
        none)
      none)
    (k' (.exit 0) ⟨[(0, .c (.one (.ro .scale vs0))), (1, .c (.one (.ro .scale vs1))), (5, .c (.one (.v (.int .i64 vs5)))), (14, .c (.one (.v (.bool (decide (vs5 < (vs0.length : Int)))))))], [], []⟩)) := by kernel_rfl
theorem f53L0_eq {R : Type} (n : Nat) (k' : Ex → St → Option R) (vs0 : List ScaleT) (vs1 : List ScaleT) : ∀ (m : Nat) (vs5 : Int), iter (fun st k => ev f53e f53k n (cAt [1,1,0,1,0,0] f53c) st k) m ⟨[(0, .c (.one (.ro .scale vs0))), (1, .c (.one (.ro .scale vs1))), (5, .c (.one (.v (.int .i64 vs5))))], [], []⟩ k' = f53L0 n (k' .ret ⟨[(4, .c (.one (.v (.bool false))))], [], []⟩) (fun (xvs5 : Int) (xvs14 : Bool) => k' (.exit 0) ⟨[(0, .c (.one (.ro .scale vs0))), (1, .c (.one (.ro .scale vs1))), (5, .c (.one (.v (.int .i64 xvs5)))), (14, .c (.one (.v (.bool xvs14))))], [], []⟩) vs0 vs1 m vs5 := by
  intro m; induction m with
  | zero => intros; rfl
  | succ m ih =>
    intro vs5
    simp only [iter]
    rw [f53L0_b]
    simp only [ih, f53L0]

noncomputable def f53K0 {R : Type} (n : Nat) (k' : Ex → St → Option R) : Ex → St → Option R := (blockK 0 (seqK f53e f53k n (cAt [1,1,1] f53c) k'))
theorem f53K0_x0 {R : Type} (n : Nat) (k : List Dt → Option R) (a0 : List ScaleT) (a1 : List ScaleT)  : f53K0 n (exitK f53e [.ro, .ro] [false] true [.tmp 4] [4] [.d (.sl .scale) a0, .d (.sl .scale) a1] k) .ret ⟨[(4, .c (.one (.v (.bool false))))], [], []⟩ =
    (k [.d .bool false]) := by kernel_rfl
theorem f53K0_x1 {R : Type} (n : Nat) (k : List Dt → Option R) (a0 : List ScaleT) (a1 : List ScaleT) (vs0 : List ScaleT) (vs1 : List ScaleT) (xvs5 : Int) (xvs14 : Bool) : f53K0 n (exitK f53e [.ro, .ro] [false] true [.tmp 4] [4] [.d (.sl .scale) a0, .d (.sl .scale) a1] k) (.exit 0) ⟨[(0, .c (.one (.ro .scale vs0))), (1, .c (.one (.ro .scale vs1))), (5, .c (.one (.v (.int .i64 xvs5)))), (14, .c (.one (.v (.bool xvs14))))], [], []⟩ =
    (k [.d .bool true]) := by kernel_rfl

theorem f53_run {R : Type} (n : Nat) (k : List Dt → Option R) (a0 : List ScaleT) (a1 : List ScaleT) : evFn f53e f53k n f53c [.ro, .ro] [false] true [.tmp 4] [4] [.d (.sl .scale) a0, .d (.sl .scale) a1] k =
    (cond ((a0.length : Int) != (a1.length : Int))
    (k [.d .bool false])
    (f53L0 n (k [.d .bool false]) (fun (xvs5 : Int) (xvs14 : Bool) =>
      (k [.d .bool true])) a0 a1 n (0 : Int))) := by
  refine Eq.trans (b := (cond ((a0.length : Int) != (a1.length : Int))
    (k [.d .bool false])
    (iter (fun st k => ev f53e f53k n (cAt [1,1,0,1,0,0] f53c) st k) n ⟨[(0, .c (.one (.ro .scale a0))), (1, .c (.one (.ro .scale a1))), (5, .c (.one (.v (.int .i64 (0 : Int)))))], [], []⟩ (f53K0 n (exitK f53e [.ro, .ro] [false] true [.tmp 4] [4] [.d (.sl .scale) a0, .d (.sl .scale) a1] k))))) (by kernel_rfl) ?_
  simp only [f53L0_eq, f53K0_x0, f53K0_x1]
theorem f53_spec (a0 : List ScaleT) (a1 : List ScaleT) (hg : sm2 (smL sm_scale) a0 a1 = true) : ∃ keep rounds, ∀ {R : Type} (k : List Dt → Option R), evFn f53e keep rounds f53c [.ro, .ro] [false] true [.tmp 4] [4] [.d (.sl .scale) a0, .d (.sl .scale) a1] k = k [.d .bool (eqD a0 a1)] := by
  simp only [sm2, Bool.and_eq_true] at hg
  obtain ⟨hg0, hg1⟩ := hg
  have hl : a0.length ≤ 1048576 := smL_len hg0
  refine ⟨f53k, a0.length + 1, fun k => ?_⟩
  rw [f53_run]
  by_cases hc : a0.length = a1.length
  · have hc' : ((a0.length : Int) != (a1.length : Int)) = false := by simp [hc]
    simp only [hc', cond_false]
    refine Eq.trans (loop_idx (n := a0.length) (F := fun m i => f53L0 (a0.length + 1) _ _ a0 a1 m i) (p := fun j => eqD (atI (t := .scale) a0 j) (atI (t := .scale) a1 j)) (good := k [.d .bool true]) (bad := k [.d .bool false])
      (fun m j hj => ?_) (fun m => by simp only [f53L0, idxE, cond_false]) a0.length 0 (a0.length + 1) (by omega) (by omega)) ?_
    · obtain ⟨h1, h0, hw, ht⟩ := idx hj (by omega)
      obtain ⟨h2, _, _, _⟩ := idx (show j < a1.length by omega) (by omega)
      have ha := smL_at (t := .scale) hg0 hj
      have hb := smL_at (t := .scale) hg1 (show j < a1.length by omega)
      simp only [f53L0, h1, h0, h2, hw, ht, Bool.and_self, cond_true, sm2, ha, hb]
      cases eqD (atI (t := .scale) a0 j) (atI (t := .scale) a1 j) <;> rfl
    · rw [allN_eq hc (fun j x y hx hy => by rw [atI_of (t := .scale) hx, atI_of (t := .scale) hy])]
      cases eqD a0 a1 <;> rfl
  · simp only [bneLen hc, cond_true]
    rw [eqD_ne (fun e => hc (by rw [e]))]

noncomputable def q53 : List Dt → Option (Bool × List Dt)
  | [.d (.sl .scale) a0, .d (.sl .scale) a1] => some ((sm2 (smL sm_scale) a0 a1), [.d .bool (eqD a0 a1)])
  | _ => none
noncomputable def s53 : Gm.Spec := Gm.Spec.of [.ro, .ro] [false] true q53
theorem good53 : Gm.Good Try.prog (53, s53) := by
  have hl : ∀ x ∈ [(15, s15)], Gm.Good Try.prog x := List.forall_mem_cons.2 ⟨good15, List.forall_mem_nil _⟩
  refine ⟨⟨spec_ok (tab_ok.env hl) (tab.natl hl) Try.func53 (by kernel_rfl : Try.f53.body = some f53c) [4] (by kernel_rfl) ?_, _, Try.func53, by kernel_rfl, of_decide_eq_true (by kernel_rfl)⟩, Gm.Spec.of_natl _ _ _ _⟩
  intro ds outs h
  unfold q53 at h
  split at h
  · simp only [Option.some.injEq, Prod.mk.injEq] at h; obtain ⟨hg, h⟩ := h; cases h; exact f53_spec _ _ hg
  · cases h
/-! ### loop.example/g00465/laws.eqTold -/
noncomputable def f70c : Code := (Try.f70.body).getD .skip
def f70k : Nat → Kp := kat [⟨[2, 3], []⟩, ⟨[2, 3, 9], []⟩, ⟨[4], []⟩, ⟨[2, 3, 14], []⟩, ⟨[4], []⟩, ⟨[19], []⟩, ⟨[4], []⟩, ⟨[4], []⟩]
noncomputable def f70e : Env := tab.env []
theorem f70_run {R : Type} (n : Nat) (k : List Dt → Option R) (a0 : ToldT) (a1 : ToldT) : evFn f70e f70k n f70c [.ro, .ro] [false] true [.tmp 4] [4] [.d .told a0, .d .told a1] k =
    (cond ((ToldT.time a0) != (ToldT.time a1))
    (k [.d .bool false])
    (cond (!(sEq (ToldT.name a0) (ToldT.name a1)))
      (k [.d .bool false])
      (cond ((ToldT.n a0) != (ToldT.n a1))
        (k [.d .bool false])
        (k [.d .bool true])))) := by kernel_rfl
theorem f70_spec (a0 : ToldT) (a1 : ToldT) (hg : sm2 sm_told a0 a1 = true) : ∃ keep rounds, ∀ {R : Type} (k : List Dt → Option R), evFn f70e keep rounds f70c [.ro, .ro] [false] true [.tmp 4] [4] [.d .told a0, .d .told a1] k = k [.d .bool (eqD a0 a1)] := by
  simp only [sm2, sm_told, Bool.and_eq_true] at hg
  refine ⟨f70k, 0, fun k => ?_⟩
  rw [f70_run, eqD_told]
  try simp only [bne]
  cases (a0.time == a1.time) <;> cases sEq a0.name a1.name <;> cases (a0.n == a1.n) <;> rfl

noncomputable def q70 : List Dt → Option (Bool × List Dt)
  | [.d .told a0, .d .told a1] => some ((sm2 sm_told a0 a1), [.d .bool (eqD a0 a1)])
  | _ => none
noncomputable def s70 : Gm.Spec := Gm.Spec.of [.ro, .ro] [false] true q70
theorem good70 : Gm.Good Try.prog (70, s70) := by
  have hl : ∀ x ∈ ([] : List (Nat × Gm.Spec)), Gm.Good Try.prog x := fun _ h => by cases h
  refine ⟨⟨spec_ok (tab_ok.env hl) (tab.natl hl) Try.func70 (by kernel_rfl : Try.f70.body = some f70c) [4] (by kernel_rfl) ?_, _, Try.func70, by kernel_rfl, of_decide_eq_true (by kernel_rfl)⟩, Gm.Spec.of_natl _ _ _ _⟩
  intro ds outs h
  unfold q70 at h
  split at h
  · simp only [Option.some.injEq, Prod.mk.injEq] at h; obtain ⟨hg, h⟩ := h; cases h; exact f70_spec _ _ hg
  · cases h
/-! ### loop.example/g00465/laws.eqToldS -/
noncomputable def f54c : Code := (Try.f54.body).getD .skip
def f54k : Nat → Kp := kat [⟨[0, 1], []⟩, ⟨[0, 1, 10], []⟩, ⟨[4], []⟩, ⟨[0, 1, 5], []⟩, ⟨[0, 1, 5, 14], []⟩, ⟨[0, 1, 5], []⟩, ⟨[0, 1, 5, 26], []⟩, ⟨[4], []⟩, ⟨[4], []⟩]
noncomputable def f54e : Env := tab.env [(70, s70)]
noncomputable def f54L0 {R : Type} (n : Nat) (x0 : Option R) (x1 : Int → Bool → Option R) (vs0 : List ToldT) (vs1 : List ToldT) : Nat → Int → Option R
  | 0, _ => none
  | m + 1, vs5 =>
    (cond (decide (vs5 < (vs0.length : Int)))
      (cond ((decide ((0 : Int) ≤ vs5)) && (decide (vs5 < (vs0.length : Int))))
        (cond ((decide ((0 : Int) ≤ vs5)) && (decide (vs5 < (vs1.length : Int))))
          (cond (sm2 sm_told (atI (t := .told) vs0 (Int.toNat vs5)) (atI (t := .told) vs1 (Int.toNat vs5)))
            (cond (!(eqD (atI (t := .told) vs0 (Int.toNat vs5)) (atI (t := .told) vs1 (Int.toNat vs5))))
              (x0)
              (f54L0 n x0 x1 vs0 vs1 m (IntKind.wrap .i64 (vs5 + (1 : Int)))))
            none)
          none)
        none)
      (x1 vs5 (decide (vs5 < (vs0.length : Int)))))
theorem f54L0_b {R : Type} (n : Nat) (k' : Ex → St → Option R) (vs0 : List ToldT) (vs1 : List ToldT) (vs5 : Int) : ev f54e f54k n (cAt [1,1,0,1,0,0] f54c) ⟨[(0, .c (.one (.ro .told vs0))), (1, .c (.one (.ro .told vs1))), (5, .c (.one (.v (.int .i64 vs5))))], [], []⟩ k' =
    (cond (decide (vs5 < (vs0.length : Int)))
    (cond ((decide ((0 : Int) ≤ vs5)) && (decide (vs5 < (vs0.length : Int))))
      (cond ((decide ((0 : Int) ≤ vs5)) && (decide (vs5 < (vs1.length : Int))))
        (cond (sm2 sm_told (atI (t := .told) vs0 (Int.toNat vs5)) (atI (t := .told) vs1 (Int.toNat vs5)))
          (cond (!(eqD (atI (t := .told) vs0 (Int.toNat vs5)) (atI (t := .told) vs1 (Int.toNat vs5))))
            (k' .ret ⟨[(4, .c (.one (.v (.bool false))))], [], []⟩)
            (k' .normal ⟨[(0, .c (.one (.ro .told vs0))), (1, .c (.one (.ro .told vs1))), (5, .c (.one (.v (.int .i64 (IntKind.wrap .i64 (vs5 + (1 : Int)))))))], [], []⟩))
          none)
        none)
      none)
    (k' (.exit 0) ⟨[(0, .c (.one (.ro .told vs0))), (1, .c (.one (.ro .told vs1))), (5, .c (.one (.v (.int .i64 vs5)))), (14, .c (.one (.v (.bool (decide (vs5 < (vs0.length : Int)))))))], [], []⟩)) := by kernel_rfl
theorem f54L0_eq {R : Type} (n : Nat) (k' : Ex → St → Option R) (vs0 : List ToldT) (vs1 : List ToldT) : ∀ (m : Nat) (vs5 : Int), iter (fun st k => ev f54e f54k n (cAt [1,1,0,1,0,0] f54c) st k) m ⟨[(0, .c (.one (.ro .told vs0))), (1, .c (.one (.ro .told vs1))), (5, .c (.one (.v (.int .i64 vs5))))], [], []⟩ k' = f54L0 n (k' .ret ⟨[(4, .c (.one (.v (.bool false))))], [], []⟩) (fun (xvs5 : Int) (xvs14 : Bool) => k' (.exit 0) ⟨[(0, .c (.one (.ro .told vs0))), (1, .c (.one (.ro .told vs1))), (5, .c (.one (.v (.int .i64 xvs5)))), (14, .c (.one (.v (.bool xvs14))))], [], []⟩) vs0 vs1 m vs5 := by
  intro m; induction m with
  | zero => intros; rfl
  | succ m ih =>
    intro vs5
    simp only [iter]
    rw [f54L0_b]
    simp only [ih, f54L0]

noncomputable def f54K0 {R : Type} (n : Nat) (k' : Ex → St → Option R) : Ex → St → Option R := (blockK 0 (seqK f54e f54k n (cAt [1,1,1] f54c) k'))
theorem f54K0_x0 {R : Type} (n : Nat) (k : List Dt → Option R) (a0 : List ToldT) (a1 : List ToldT)  : f54K0 n (exitK f54e [.ro, .ro] [false] true [.tmp 4] [4] [.d (.sl .told) a0, .d (.sl .told) a1] k) .ret ⟨[(4, .c (.one (.v (.bool false))))], [], []⟩ =
    (k [.d .bool false]) := by kernel_rfl
theorem f54K0_x1 {R : Type} (n : Nat) (k : List Dt → Option R) (a0 : List ToldT) (a1 : List ToldT) (vs0 : List ToldT) (vs1 : List ToldT) (xvs5 : Int) (xvs14 : Bool) : f54K0 n (exitK f54e [.ro, .ro] [false] true [.tmp 4] [4] [.d (.sl .told) a0, .d (.sl .told) a1] k) (.exit 0) ⟨[(0, .c (.one (.ro .told vs0))), (1, .c (.one (.ro .told vs1))), (5, .c (.one (.v (.int .i64 xvs5)))), (14, .c (.one (.v (.bool xvs14))))], [], []⟩ =
    (k [.d .bool true]) := by kernel_rfl

theorem f54_run {R : Type} (n : Nat) (k : List Dt → Option R) (a0 : List ToldT) (a1 : List ToldT) : evFn f54e f54k n f54c [.ro, .ro] [false] true [.tmp 4] [4] [.d (.sl .told) a0, .d (.sl .told) a1] k =
    (cond ((a0.length : Int) != (a1.length : Int))
    (k [.d .bool false])
    (f54L0 n (k [.d .bool false]) (fun (xvs5 : Int) (xvs14 : Bool) =>
      (k [.d .bool true])) a0 a1 n (0 : Int))) := by
  refine Eq.trans (b := (cond ((a0.length : Int) != (a1.length : Int))
    (k [.d .bool false])
    (iter (fun st k => ev f54e f54k n (cAt [1,1,0,1,0,0] f54c) st k) n ⟨[(0, .c (.one (.ro .told a0))), (1, .c (.one (.ro .told a1))), (5, .c (.one (.v (.int .i64 (0 : Int)))))], [], []⟩ (f54K0 n (exitK f54e [.ro, .ro] [false] true [.tmp 4] [4] [.d (.sl .told) a0, .d (.sl .told) a1] k))))) (by kernel_rfl) ?_
  simp only [f54L0_eq, f54K0_x0, f54K0_x1]
theorem f54_spec (a0 : List ToldT) (a1 : List ToldT) (hg : sm2 (smL sm_told) a0 a1 = true) : ∃ keep rounds, ∀ {R : Type} (k : List Dt → Option R), evFn f54e keep rounds f54c [.ro, .ro] [false] true [.tmp 4] [4] [.d (.sl .told) a0, .d (.sl .told) a1] k = k [.d .bool (eqD a0 a1)] := by
  simp only [sm2, Bool.and_eq_true] at hg
  obtain ⟨hg0, hg1⟩ := hg
  have hl : a0.length ≤ 1048576 := smL_len hg0
  refine ⟨f54k, a0.length + 1, fun k => ?_⟩
  rw [f54_run]
  by_cases hc : a0.length = a1.length
  · have hc' : ((a0.length : Int) != (a1.length : Int)) = false := by simp [hc]
    simp only [hc', cond_false]
    refine Eq.trans (loop_idx (n := a0.length) (F := fun m i => f54L0 (a0.length + 1) _ _ a0 a1 m i) (p := fun j => eqD (atI (t := .told) a0 j) (atI (t := .told) a1 j)) (good := k [.d .bool true]) (bad := k [.d .bool false])
      (fun m j hj => ?_) (fun m => by simp only [f54L0, idxE, cond_false]) a0.length 0 (a0.length + 1) (by omega) (by omega)) ?_
    · obtain ⟨h1, h0, hw, ht⟩ := idx hj (by omega)
      obtain ⟨h2, _, _, _⟩ := idx (show j < a1.length by omega) (by omega)
      have ha := smL_at (t := .told) hg0 hj
      have hb := smL_at (t := .told) hg1 (show j < a1.length by omega)
      simp only [f54L0, h1, h0, h2, hw, ht, Bool.and_self, cond_true, sm2, ha, hb]
      cases eqD (atI (t := .told) a0 j) (atI (t := .told) a1 j) <;> rfl
    · rw [allN_eq hc (fun j x y hx hy => by rw [atI_of (t := .told) hx, atI_of (t := .told) hy])]
      cases eqD a0 a1 <;> rfl
  · simp only [bneLen hc, cond_true]
    rw [eqD_ne (fun e => hc (by rw [e]))]

noncomputable def q54 : List Dt → Option (Bool × List Dt)
  | [.d (.sl .told) a0, .d (.sl .told) a1] => some ((sm2 (smL sm_told) a0 a1), [.d .bool (eqD a0 a1)])
  | _ => none
noncomputable def s54 : Gm.Spec := Gm.Spec.of [.ro, .ro] [false] true q54
theorem good54 : Gm.Good Try.prog (54, s54) := by
  have hl : ∀ x ∈ [(70, s70)], Gm.Good Try.prog x := List.forall_mem_cons.2 ⟨good70, List.forall_mem_nil _⟩
  refine ⟨⟨spec_ok (tab_ok.env hl) (tab.natl hl) Try.func54 (by kernel_rfl : Try.f54.body = some f54c) [4] (by kernel_rfl) ?_, _, Try.func54, by kernel_rfl, of_decide_eq_true (by kernel_rfl)⟩, Gm.Spec.of_natl _ _ _ _⟩
  intro ds outs h
  unfold q54 at h
  split at h
  · simp only [Option.some.injEq, Prod.mk.injEq] at h; obtain ⟨hg, h⟩ := h; cases h; exact f54_spec _ _ hg
  · cases h
/-! ### loop.example/g00465/laws.eqWorld -/
noncomputable def f25c : Code := (Try.f25.body).getD .skip
def f25k : Nat → Kp := kat [⟨[2, 3], []⟩, ⟨[2, 3, 10], []⟩, ⟨[4], []⟩, ⟨[2, 3, 16], []⟩, ⟨[4], []⟩, ⟨[2, 3, 21], []⟩, ⟨[4], []⟩, ⟨[27], []⟩, ⟨[4], []⟩, ⟨[4], []⟩]
noncomputable def f25e : Env := tab.env [(52, s52), (53, s53), (54, s54)]
theorem f25_run {R : Type} (n : Nat) (k : List Dt → Option R) (a0 : WorldT) (a1 : WorldT) : evFn f25e f25k n f25c [.ro, .ro] [false] true [.tmp 4] [4] [.d .world a0, .d .world a1] k =
    (cond (sm2 sm_store (WorldT.store a0) (WorldT.store a1))
    (cond (!(eqD (WorldT.store a0) (WorldT.store a1)))
      (k [.d .bool false])
      (cond (sm2 (smL sm_scale) (WorldT.scales a0) (WorldT.scales a1))
        (cond (!(eqD (WorldT.scales a0) (WorldT.scales a1)))
          (k [.d .bool false])
          (cond ((WorldT.time a0) != (WorldT.time a1))
            (k [.d .bool false])
            (cond (sm2 (smL sm_told) (WorldT.log a0) (WorldT.log a1))
              (cond (!(eqD (WorldT.log a0) (WorldT.log a1)))
                (k [.d .bool false])
                (k [.d .bool true]))
              none)))
        none))
    none) := by kernel_rfl
theorem f25_spec (a0 : WorldT) (a1 : WorldT) (hg : sm2 sm_world a0 a1 = true) : ∃ keep rounds, ∀ {R : Type} (k : List Dt → Option R), evFn f25e keep rounds f25c [.ro, .ro] [false] true [.tmp 4] [4] [.d .world a0, .d .world a1] k = k [.d .bool (eqD a0 a1)] := by
  simp only [sm2, sm_world, Bool.and_eq_true] at hg
  refine ⟨f25k, 0, fun k => ?_⟩
  rw [f25_run, eqD_world]
  simp only [bne, sm2, hg, Bool.and_self, Bool.true_and, cond_true]
  cases eqD a0.store a1.store <;> cases eqD a0.scales a1.scales <;> cases (a0.time == a1.time) <;> cases eqD a0.log a1.log <;> rfl

noncomputable def q25 : List Dt → Option (Bool × List Dt)
  | [.d .world a0, .d .world a1] => some ((sm2 sm_world a0 a1), [.d .bool (eqD a0 a1)])
  | _ => none
noncomputable def s25 : Gm.Spec := Gm.Spec.of [.ro, .ro] [false] true q25
theorem good25 : Gm.Good Try.prog (25, s25) := by
  have hl : ∀ x ∈ [(52, s52), (53, s53), (54, s54)], Gm.Good Try.prog x := List.forall_mem_cons.2 ⟨good52, List.forall_mem_cons.2 ⟨good53, List.forall_mem_cons.2 ⟨good54, List.forall_mem_nil _⟩⟩⟩
  refine ⟨⟨spec_ok (tab_ok.env hl) (tab.natl hl) Try.func25 (by kernel_rfl : Try.f25.body = some f25c) [4] (by kernel_rfl) ?_, _, Try.func25, by kernel_rfl, of_decide_eq_true (by kernel_rfl)⟩, Gm.Spec.of_natl _ _ _ _⟩
  intro ds outs h
  unfold q25 at h
  split at h
  · simp only [Option.some.injEq, Prod.mk.injEq] at h; obtain ⟨hg, h⟩ := h; cases h; exact f25_spec _ _ hg
  · cases h
end Go.Proofs.Ythjkdgbijfkmaaa

/- x -/
namespace Go.Proofs.Ythjkdgbijfkmaaa
open Go Go.Gm
/-! ### loop.example/g00465/laws.FnExactWorldText -/
noncomputable def f6c : Code := (Try.f6.body).getD .skip
def f6k : Nat → Kp := kat [⟨[1], []⟩, ⟨[1, 3], []⟩, ⟨[1, 3], []⟩, ⟨[1, 11], []⟩, ⟨[2], []⟩, ⟨[1, 4], []⟩, ⟨[1, 4, 5], []⟩, ⟨[1, 4, 5, 6], []⟩, ⟨[1, 5, 21], []⟩, ⟨[2], []⟩, ⟨[26], []⟩, ⟨[2], []⟩, ⟨[2], []⟩]
noncomputable def f6e : Env := tab.env [(21, s21), (22, s22), (23, s23), (24, s24), (25, s25)]
theorem f6_run {R : Type} (n : Nat) (k : List Dt → Option R) (a0 : WorldT) : evFn f6e f6k n f6c [.ro] [false] true [.tmp 2] [4] [.d .world a0] k =
    (cond (gz_world a0 (1048576 : Int))
    (cond (decide ((z_world a0 (1048576 : Int)) < (0 : Int)))
      (k [.d .bool true])
      (cond (sm_world a0)
        (cond (sm_world a0)
          (cond (sm_world a0)
            (cond (sm_world a0)
              (cond (!(sEq (worldText a0) (worldText a0)))
                (k [.d .bool false])
                (cond (sm_world a0)
                  (cond (sm2 sm_world a0 a0)
                    (cond (!(eqD a0 a0))
                      (k [.d .bool false])
                      (k [.d .bool true]))
                    none)
                  none))
              none)
            none)
          none)
        none))
    none) := by kernel_rfl
theorem f6_spec (a0 : WorldT) (hg : ok_world a0 = true) : ∃ keep rounds, ∀ {R : Type} (k : List Dt → Option R), evFn f6e keep rounds f6c [.ro] [false] true [.tmp 2] [4] [.d .world a0] k = k [.d .bool ((fun (_ : WorldT) => true) a0)] := by
  refine ⟨f6k, 0, fun k => ?_⟩
  rw [f6_run]
  have h1 : gz_world a0 (1048576 : Int) = true := by unfold gz_world; rw [hg]; rfl
  by_cases hc : z_world a0 (1048576 : Int) < 0
  · simp only [h1, hc, decide_true, cond_true]
  · have hs := sm_world_of hg (small_of (m := szN_world a0) hc)
    simp only [h1, hc, hs, sm2, decide_false, cond_true, cond_false, Bool.and_self, bne_self_eq_false, beq_self_eq_true, sEq_self, eqD_self, Bool.not_true]

noncomputable def q6 : List Dt → Option (Bool × List Dt)
  | [.d .world a0] => some ((ok_world a0), [.d .bool ((fun (_ : WorldT) => true) a0)])
  | _ => none
noncomputable def s6 : Gm.Spec := Gm.Spec.of [.ro] [false] true q6
theorem good6 : Gm.Good Try.prog (6, s6) := by
  have hl : ∀ x ∈ [(21, s21), (22, s22), (23, s23), (24, s24), (25, s25)], Gm.Good Try.prog x := List.forall_mem_cons.2 ⟨good21, List.forall_mem_cons.2 ⟨good22, List.forall_mem_cons.2 ⟨good23, List.forall_mem_cons.2 ⟨good24, List.forall_mem_cons.2 ⟨good25, List.forall_mem_nil _⟩⟩⟩⟩⟩
  refine ⟨⟨spec_ok (tab_ok.env hl) (tab.natl hl) Try.func6 (by kernel_rfl : Try.f6.body = some f6c) [4] (by kernel_rfl) ?_, _, Try.func6, by kernel_rfl, of_decide_eq_true (by kernel_rfl)⟩, Gm.Spec.of_natl _ _ _ _⟩
  intro ds outs h
  unfold q6 at h
  split at h
  · simp only [Option.some.injEq, Prod.mk.injEq] at h; obtain ⟨hg, h⟩ := h; cases h; exact f6_spec _ hg
  · cases h
end Go.Proofs.Ythjkdgbijfkmaaa

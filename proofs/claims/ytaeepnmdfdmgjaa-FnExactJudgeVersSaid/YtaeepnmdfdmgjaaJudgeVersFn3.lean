/- What the functions compute, part 3. No conditions. -/
import Derived.Test.YtaeepnmdfdmgjaaJudgeVersFn2
/- x -/
namespace Go.Proofs.Ytaeepnmdfdmgjaa
open Go Go.Gm
/-! ### loop.example/g00465/laws.szNote -/
noncomputable def f87c : Code := (Try.f87.body).getD .skip
def f87k : Nat → Kp := kat [⟨[1, 2], [], [], []⟩, ⟨[1, 2], [], [], []⟩, ⟨[1, 2, 11], [], [], []⟩, ⟨[4], [], [], []⟩, ⟨[1], [], [], []⟩, ⟨[1, 18], [], [], []⟩, ⟨[4], [], [], []⟩, ⟨[4], [], [], []⟩]
noncomputable def f87e : Env := tab.env []
theorem f87_run {R : Type} (n : Nat) (k : List Dt → Option R) (a0 : NoteT) (a1 : Int) : evFn f87e f87k n f87c [.ro, .ro] [false] true [.tmp 4] [3] [.d .note a0, .d (.i .i64) a1] k =
    (cond (decide ((IntKind.wrap .i64 (a1 - (ByteArray.size (NoteT.key a0) : Int))) < (0 : Int)))
    (k [.d (.i .i64) (-1 : Int)])
    (cond (decide ((IntKind.wrap .i64 ((IntKind.wrap .i64 (a1 - (ByteArray.size (NoteT.key a0) : Int))) - (ByteArray.size (NoteT.text a0) : Int))) < (0 : Int)))
      (k [.d (.i .i64) (-1 : Int)])
      (k [.d (.i .i64) (IntKind.wrap .i64 ((IntKind.wrap .i64 (a1 - (ByteArray.size (NoteT.key a0) : Int))) - (ByteArray.size (NoteT.text a0) : Int)))]))) := by kernel_rfl
theorem f87_spec (a0 : NoteT) (a1 : Int) (hg : gz_note a0 a1 = true) : ∃ keep rounds, ∀ {R : Type} (k : List Dt → Option R), evFn f87e keep rounds f87c [.ro, .ro] [false] true [.tmp 4] [3] [.d .note a0, .d (.i .i64) a1] k = k [.d (.i .i64) (z_note a0 a1)] := by
  simp only [gz_note, ok_note, Bool.and_eq_true, okN_iff] at hg
  obtain ⟨⟨hf_key, hf_text⟩, hn1, hn2⟩ := hg
  have hf_keyb : a0.key.size ≤ 9223372036854775807 := bleN hf_key
  have hf_textb : a0.text.size ≤ 9223372036854775807 := bleN hf_text
  have eN : szN_note a0 = a0.key.size + a0.text.size := rfl
  refine ⟨f87k, 0, fun k => ?_⟩
  rw [f87_run]
  show _ = k [.d (.i .i64) (z_note a0 a1)]
  unfold z_note
  rw [wrap_id (x := a1 - ((a0.key.size : Nat) : Int)) (by omega) (by omega)]
  by_cases h1 : a1 - ((a0.key.size : Nat) : Int) < 0
  · simp only [h1, decide_true, cond_true]; rw [szI_neg (by omega)]
  simp only [h1, decide_false, cond_false]
  rw [wrap_id (x := (a1 - ((a0.key.size : Nat) : Int)) - ((a0.text.size : Nat) : Int)) (by omega) (by omega)]
  by_cases h2 : (a1 - ((a0.key.size : Nat) : Int)) - ((a0.text.size : Nat) : Int) < 0
  · simp only [h2, decide_true, cond_true]; rw [szI_neg (by omega)]
  simp only [h2, decide_false, cond_false]
  rw [szI_pos (by omega)]
  first
    | rfl
    | rw [show ((a1 - ((a0.key.size : Nat) : Int)) - ((a0.text.size : Nat) : Int)) = a1 - ((szN_note a0 : Nat) : Int) by omega]

noncomputable def q87 : List Dt → Option (Bool × List Dt)
  | [.d .note a0, .d (.i .i64) a1] => some ((gz_note a0 a1), [.d (.i .i64) (z_note a0 a1)])
  | _ => none
noncomputable def s87 : Gm.Spec := Gm.Spec.of [.ro, .ro] [false] true q87
theorem good87 : Gm.Good Try.prog (87, s87) := by
  have hl : ∀ x ∈ ([] : List (Nat × Gm.Spec)), Gm.Good Try.prog x := fun _ h => by cases h
  refine ⟨⟨spec_ok (tab_ok.env hl) (tab.natl hl) Try.func87 (by kernel_rfl : Try.f87.body = some f87c) [3] (by kernel_rfl) ?_, _, Try.func87, by kernel_rfl, of_decide_eq_true (by kernel_rfl)⟩, Gm.Spec.of_natl _ _ _ _⟩
  intro ds outs h
  unfold q87 at h
  split at h
  · simp only [Option.some.injEq, Prod.mk.injEq] at h; obtain ⟨hg, h⟩ := h; cases h; exact f87_spec _ _ hg
  · cases h
/-! ### loop.example/g00465/laws.szNoteS -/
noncomputable def f72c : Code := (Try.f72.body).getD .skip
def f72k : Nat → Kp := kat [⟨[0, 1], [], [], []⟩, ⟨[0, 1], [], [], []⟩, ⟨[0, 1, 11], [], [], []⟩, ⟨[4], [], [], []⟩, ⟨[0, 1, 5], [], [], []⟩, ⟨[0, 1, 5, 15], [], [], []⟩, ⟨[0, 1, 5], [], [], []⟩, ⟨[0, 1, 5], [], [], []⟩, ⟨[0, 1, 5, 25], [], [], []⟩, ⟨[4], [], [], []⟩, ⟨[4], [], [], []⟩]
noncomputable def f72e : Env := tab.env [(87, s87)]
noncomputable def f72L0 {R : Type} (n : Nat) (x0 : Option R) (x1 : Int → Int → Bool → Option R) (vs0 : List NoteT) : Nat → Int → Int → Option R
  | 0, _, _ => none
  | m + 1, vs1, vs5 =>
    (cond (decide (vs5 < (vs0.length : Int)))
      (cond ((decide ((0 : Int) ≤ vs5)) && (decide (vs5 < (vs0.length : Int))))
        (cond (gz_note (atI (t := .note) vs0 (Int.toNat vs5)) vs1)
          (cond (decide ((z_note (atI (t := .note) vs0 (Int.toNat vs5)) vs1) < (0 : Int)))
            (x0)
            (f72L0 n x0 x1 vs0 m (z_note (atI (t := .note) vs0 (Int.toNat vs5)) vs1) (IntKind.wrap .i64 (vs5 + (1 : Int)))))
          none)
        none)
      (x1 vs1 vs5 (decide (vs5 < (vs0.length : Int)))))
theorem f72L0_b {R : Type} (n : Nat) (k' : Ex → St → Option R) (vs0 : List NoteT) (vs1 : Int) (vs5 : Int) : ev f72e f72k n (cAt [1,1,1,0,1,0,0] f72c) ⟨[(0, .c (.one (.ro .note vs0))), (1, .c (.one (.v (.int .i64 vs1)))), (5, .c (.one (.v (.int .i64 vs5))))], [], []⟩ k' =
    (cond (decide (vs5 < (vs0.length : Int)))
    (cond ((decide ((0 : Int) ≤ vs5)) && (decide (vs5 < (vs0.length : Int))))
      (cond (gz_note (atI (t := .note) vs0 (Int.toNat vs5)) vs1)
        (cond (decide ((z_note (atI (t := .note) vs0 (Int.toNat vs5)) vs1) < (0 : Int)))
          (k' .ret ⟨[(4, .c (.one (.v (.int .i64 (-1 : Int)))))], [], []⟩)
          (k' .normal ⟨[(0, .c (.one (.ro .note vs0))), (1, .c (.one (.v (.int .i64 (z_note (atI (t := .note) vs0 (Int.toNat vs5)) vs1))))), (5, .c (.one (.v (.int .i64 (IntKind.wrap .i64 (vs5 + (1 : Int)))))))], [], []⟩))
        none)
      none)
    (k' (.exit 0) ⟨[(0, .c (.one (.ro .note vs0))), (1, .c (.one (.v (.int .i64 vs1)))), (5, .c (.one (.v (.int .i64 vs5)))), (15, .c (.one (.v (.bool (decide (vs5 < (vs0.length : Int)))))))], [], []⟩)) := by kernel_rfl
theorem f72L0_eq {R : Type} (n : Nat) (k' : Ex → St → Option R) (vs0 : List NoteT) : ∀ (m : Nat) (vs1 : Int) (vs5 : Int), iter (fun st k => ev f72e f72k n (cAt [1,1,1,0,1,0,0] f72c) st k) m ⟨[(0, .c (.one (.ro .note vs0))), (1, .c (.one (.v (.int .i64 vs1)))), (5, .c (.one (.v (.int .i64 vs5))))], [], []⟩ k' = f72L0 n (k' .ret ⟨[(4, .c (.one (.v (.int .i64 (-1 : Int)))))], [], []⟩) (fun (xvs1 : Int) (xvs5 : Int) (xvs15 : Bool) => k' (.exit 0) ⟨[(0, .c (.one (.ro .note vs0))), (1, .c (.one (.v (.int .i64 xvs1)))), (5, .c (.one (.v (.int .i64 xvs5)))), (15, .c (.one (.v (.bool xvs15))))], [], []⟩) vs0 m vs1 vs5 := by
  intro m; induction m with
  | zero => intros; rfl
  | succ m ih =>
    intro vs1 vs5
    simp only [iter]
    rw [f72L0_b]
    simp only [ih, f72L0]

noncomputable def f72K0 {R : Type} (n : Nat) (k' : Ex → St → Option R) : Ex → St → Option R := (blockK 0 (seqK f72e f72k n (cAt [1,1,1,1] f72c) k'))
theorem f72K0_x0 {R : Type} (n : Nat) (k : List Dt → Option R) (a0 : List NoteT) (a1 : Int)  : f72K0 n (exitK f72e [.ro, .ro] [false] true [.tmp 4] [3] [.d (.sl .note) a0, .d (.i .i64) a1] k) .ret ⟨[(4, .c (.one (.v (.int .i64 (-1 : Int)))))], [], []⟩ =
    (k [.d (.i .i64) (-1 : Int)]) := by kernel_rfl
theorem f72K0_x1 {R : Type} (n : Nat) (k : List Dt → Option R) (a0 : List NoteT) (a1 : Int) (vs0 : List NoteT) (xvs1 : Int) (xvs5 : Int) (xvs15 : Bool) : f72K0 n (exitK f72e [.ro, .ro] [false] true [.tmp 4] [3] [.d (.sl .note) a0, .d (.i .i64) a1] k) (.exit 0) ⟨[(0, .c (.one (.ro .note vs0))), (1, .c (.one (.v (.int .i64 xvs1)))), (5, .c (.one (.v (.int .i64 xvs5)))), (15, .c (.one (.v (.bool xvs15))))], [], []⟩ =
    (k [.d (.i .i64) xvs1]) := by kernel_rfl

theorem f72_run {R : Type} (n : Nat) (k : List Dt → Option R) (a0 : List NoteT) (a1 : Int) : evFn f72e f72k n f72c [.ro, .ro] [false] true [.tmp 4] [3] [.d (.sl .note) a0, .d (.i .i64) a1] k =
    (cond (decide ((IntKind.wrap .i64 (a1 - (a0.length : Int))) < (0 : Int)))
    (k [.d (.i .i64) (-1 : Int)])
    (f72L0 n (k [.d (.i .i64) (-1 : Int)]) (fun (xvs1 : Int) (xvs5 : Int) (xvs15 : Bool) =>
      (k [.d (.i .i64) xvs1])) a0 n (IntKind.wrap .i64 (a1 - (a0.length : Int))) (0 : Int))) := by
  refine Eq.trans (b := (cond (decide ((IntKind.wrap .i64 (a1 - (a0.length : Int))) < (0 : Int)))
    (k [.d (.i .i64) (-1 : Int)])
    (iter (fun st k => ev f72e f72k n (cAt [1,1,1,0,1,0,0] f72c) st k) n ⟨[(0, .c (.one (.ro .note a0))), (1, .c (.one (.v (.int .i64 (IntKind.wrap .i64 (a1 - (a0.length : Int))))))), (5, .c (.one (.v (.int .i64 (0 : Int)))))], [], []⟩ (f72K0 n (exitK f72e [.ro, .ro] [false] true [.tmp 4] [3] [.d (.sl .note) a0, .d (.i .i64) a1] k))))) (by kernel_rfl) ?_
  simp only [f72L0_eq, f72K0_x0, f72K0_x1]
theorem f72_spec (a0 : List NoteT) (a1 : Int) (hg : gzL_note a0 a1 = true) : ∃ keep rounds, ∀ {R : Type} (k : List Dt → Option R), evFn f72e keep rounds f72c [.ro, .ro] [false] true [.tmp 4] [3] [.d (.sl .note) a0, .d (.i .i64) a1] k = k [.d (.i .i64) (zL_note a0 a1)] := by
  simp only [gzL_note, okL, Bool.and_eq_true, okN_iff] at hg
  obtain ⟨⟨hl, hs⟩, hn⟩ := hg
  have hl : a0.length ≤ 9223372036854775807 := bleN hl
  refine ⟨f72k, a0.length + 1, fun k => ?_⟩
  rw [f72_run, wrap_id (x := a1 - (a0.length : Int)) (by omega) (by omega)]
  show _ = k [.d (.i .i64) (zL_note a0 a1)]
  unfold zL_note
  have eL : szL szN_note a0 = a0.length + (a0.map szN_note).sum := rfl
  by_cases hc : a1 - (a0.length : Int) < 0
  · simp only [hc, decide_true, cond_true]
    rw [szI_neg (by omega)]
  · simp only [hc, decide_false, cond_false]
    refine Eq.trans (loop_fold (xs := a0) (F := fun m j left => f72L0 (a0.length + 1) _ _ a0 m left (j : Int)) (step := szStep szN_note)
      (out := fun _ => k [.d (.i .i64) (-1 : Int)]) (good := fun left => k [.d (.i .i64) left]) (fun n => 0 ≤ n ∧ n ≤ 1048576)
      (fun x n n' hx hn h => by
        unfold szStep at h
        split at h
        · cases h
        · cases h; omega)
      (fun m j n x hx hn => ?_)
      (fun m n hn => by simp only [f72L0, idxE, cond_false]) a0.length 0 (a0.length + 1) (a1 - (a0.length : Int)) (by omega) (by omega) (by omega)) ?_
    · obtain ⟨h1, h0, hw, ht⟩ := idx (lt_of_get hx) (by omega)
      have hx2 := List.all_eq_true.1 hs x (List.mem_of_getElem? hx)
      have hg2 : gz_note x n = true := by simp only [gz_note, Bool.and_eq_true, okN_iff]; exact ⟨hx2, by omega, by omega⟩
      have hz : z_note x n = szI (szN_note x) n := rfl
      simp only [f72L0, h1, h0, hw, ht, atI_of (t := .note) hx, Bool.and_self, cond_true, hg2, hz]
      unfold szStep
      by_cases h : n - (szN_note x : Int) < 0
      · rw [szI_neg h]; simp only [h, if_true, Sum.elim_inl]; rfl
      · rw [szI_pos h]; simp only [h, decide_false, cond_false, if_false, Sum.elim_inr]
    · rw [List.drop_zero, sz_fold _ _ _ (by omega)]
      by_cases h2 : a1 - (a0.length : Int) - ((a0.map szN_note).sum : Nat) < 0
      · rw [if_pos h2, szI_neg (by omega)]; rfl
      · rw [if_neg h2, szI_pos (by omega)]
        simp only [Sum.elim_inr]
        rw [show a1 - (a0.length : Int) - ((a0.map szN_note).sum : Nat) = a1 - (szL szN_note a0 : Nat) by omega]

noncomputable def q72 : List Dt → Option (Bool × List Dt)
  | [.d (.sl .note) a0, .d (.i .i64) a1] => some ((gzL_note a0 a1), [.d (.i .i64) (zL_note a0 a1)])
  | _ => none
noncomputable def s72 : Gm.Spec := Gm.Spec.of [.ro, .ro] [false] true q72
theorem good72 : Gm.Good Try.prog (72, s72) := by
  have hl : ∀ x ∈ [(87, s87)], Gm.Good Try.prog x := List.forall_mem_cons.2 ⟨good87, List.forall_mem_nil _⟩
  refine ⟨⟨spec_ok (tab_ok.env hl) (tab.natl hl) Try.func72 (by kernel_rfl : Try.f72.body = some f72c) [3] (by kernel_rfl) ?_, _, Try.func72, by kernel_rfl, of_decide_eq_true (by kernel_rfl)⟩, Gm.Spec.of_natl _ _ _ _⟩
  intro ds outs h
  unfold q72 at h
  split at h
  · simp only [Option.some.injEq, Prod.mk.injEq] at h; obtain ⟨hg, h⟩ := h; cases h; exact f72_spec _ _ hg
  · cases h
/-! ### loop.example/g00465/laws.szMetric -/
noncomputable def f86c : Code := (Try.f86.body).getD .skip
def f86k : Nat → Kp := kat [⟨[1, 2], [], [], []⟩, ⟨[1], [], [], []⟩, ⟨[1, 11], [], [], []⟩, ⟨[4], [], [], []⟩, ⟨[4], [], [], []⟩]
noncomputable def f86e : Env := tab.env []
theorem f86_run {R : Type} (n : Nat) (k : List Dt → Option R) (a0 : MetricT) (a1 : Int) : evFn f86e f86k n f86c [.ro, .ro] [false] true [.tmp 4] [3] [.d .metric a0, .d (.i .i64) a1] k =
    (cond (decide ((IntKind.wrap .i64 (a1 - (ByteArray.size (MetricT.name a0) : Int))) < (0 : Int)))
    (k [.d (.i .i64) (-1 : Int)])
    (k [.d (.i .i64) (IntKind.wrap .i64 (a1 - (ByteArray.size (MetricT.name a0) : Int)))])) := by kernel_rfl
theorem f86_spec (a0 : MetricT) (a1 : Int) (hg : gz_metric a0 a1 = true) : ∃ keep rounds, ∀ {R : Type} (k : List Dt → Option R), evFn f86e keep rounds f86c [.ro, .ro] [false] true [.tmp 4] [3] [.d .metric a0, .d (.i .i64) a1] k = k [.d (.i .i64) (z_metric a0 a1)] := by
  simp only [gz_metric, ok_metric, Bool.and_eq_true, okN_iff] at hg
  obtain ⟨⟨hf_name, hf_kind, hf_goal⟩, hn1, hn2⟩ := hg
  have hf_nameb : a0.name.size ≤ 9223372036854775807 := bleN hf_name
  have eN : szN_metric a0 = a0.name.size := rfl
  refine ⟨f86k, 0, fun k => ?_⟩
  rw [f86_run]
  show _ = k [.d (.i .i64) (z_metric a0 a1)]
  unfold z_metric
  rw [wrap_id (x := a1 - ((a0.name.size : Nat) : Int)) (by omega) (by omega)]
  by_cases h1 : a1 - ((a0.name.size : Nat) : Int) < 0
  · simp only [h1, decide_true, cond_true]; rw [szI_neg (by omega)]
  simp only [h1, decide_false, cond_false]
  rw [szI_pos (by omega)]
  first
    | rfl
    | rw [show (a1 - ((a0.name.size : Nat) : Int)) = a1 - ((szN_metric a0 : Nat) : Int) by omega]

noncomputable def q86 : List Dt → Option (Bool × List Dt)
  | [.d .metric a0, .d (.i .i64) a1] => some ((gz_metric a0 a1), [.d (.i .i64) (z_metric a0 a1)])
  | _ => none
noncomputable def s86 : Gm.Spec := Gm.Spec.of [.ro, .ro] [false] true q86
theorem good86 : Gm.Good Try.prog (86, s86) := by
  have hl : ∀ x ∈ ([] : List (Nat × Gm.Spec)), Gm.Good Try.prog x := fun _ h => by cases h
  refine ⟨⟨spec_ok (tab_ok.env hl) (tab.natl hl) Try.func86 (by kernel_rfl : Try.f86.body = some f86c) [3] (by kernel_rfl) ?_, _, Try.func86, by kernel_rfl, of_decide_eq_true (by kernel_rfl)⟩, Gm.Spec.of_natl _ _ _ _⟩
  intro ds outs h
  unfold q86 at h
  split at h
  · simp only [Option.some.injEq, Prod.mk.injEq] at h; obtain ⟨hg, h⟩ := h; cases h; exact f86_spec _ _ hg
  · cases h
/-! ### loop.example/g00465/laws.szMetricS -/
noncomputable def f71c : Code := (Try.f71.body).getD .skip
def f71k : Nat → Kp := kat [⟨[0, 1], [], [], []⟩, ⟨[0, 1], [], [], []⟩, ⟨[0, 1, 11], [], [], []⟩, ⟨[4], [], [], []⟩, ⟨[0, 1, 5], [], [], []⟩, ⟨[0, 1, 5, 15], [], [], []⟩, ⟨[0, 1, 5], [], [], []⟩, ⟨[0, 1, 5], [], [], []⟩, ⟨[0, 1, 5, 25], [], [], []⟩, ⟨[4], [], [], []⟩, ⟨[4], [], [], []⟩]
noncomputable def f71e : Env := tab.env [(86, s86)]
noncomputable def f71L0 {R : Type} (n : Nat) (x0 : Option R) (x1 : Int → Int → Bool → Option R) (vs0 : List MetricT) : Nat → Int → Int → Option R
  | 0, _, _ => none
  | m + 1, vs1, vs5 =>
    (cond (decide (vs5 < (vs0.length : Int)))
      (cond ((decide ((0 : Int) ≤ vs5)) && (decide (vs5 < (vs0.length : Int))))
        (cond (gz_metric (atI (t := .metric) vs0 (Int.toNat vs5)) vs1)
          (cond (decide ((z_metric (atI (t := .metric) vs0 (Int.toNat vs5)) vs1) < (0 : Int)))
            (x0)
            (f71L0 n x0 x1 vs0 m (z_metric (atI (t := .metric) vs0 (Int.toNat vs5)) vs1) (IntKind.wrap .i64 (vs5 + (1 : Int)))))
          none)
        none)
      (x1 vs1 vs5 (decide (vs5 < (vs0.length : Int)))))
theorem f71L0_b {R : Type} (n : Nat) (k' : Ex → St → Option R) (vs0 : List MetricT) (vs1 : Int) (vs5 : Int) : ev f71e f71k n (cAt [1,1,1,0,1,0,0] f71c) ⟨[(0, .c (.one (.ro .metric vs0))), (1, .c (.one (.v (.int .i64 vs1)))), (5, .c (.one (.v (.int .i64 vs5))))], [], []⟩ k' =
    (cond (decide (vs5 < (vs0.length : Int)))
    (cond ((decide ((0 : Int) ≤ vs5)) && (decide (vs5 < (vs0.length : Int))))
      (cond (gz_metric (atI (t := .metric) vs0 (Int.toNat vs5)) vs1)
        (cond (decide ((z_metric (atI (t := .metric) vs0 (Int.toNat vs5)) vs1) < (0 : Int)))
          (k' .ret ⟨[(4, .c (.one (.v (.int .i64 (-1 : Int)))))], [], []⟩)
          (k' .normal ⟨[(0, .c (.one (.ro .metric vs0))), (1, .c (.one (.v (.int .i64 (z_metric (atI (t := .metric) vs0 (Int.toNat vs5)) vs1))))), (5, .c (.one (.v (.int .i64 (IntKind.wrap .i64 (vs5 + (1 : Int)))))))], [], []⟩))
        none)
      none)
    (k' (.exit 0) ⟨[(0, .c (.one (.ro .metric vs0))), (1, .c (.one (.v (.int .i64 vs1)))), (5, .c (.one (.v (.int .i64 vs5)))), (15, .c (.one (.v (.bool (decide (vs5 < (vs0.length : Int)))))))], [], []⟩)) := by kernel_rfl
theorem f71L0_eq {R : Type} (n : Nat) (k' : Ex → St → Option R) (vs0 : List MetricT) : ∀ (m : Nat) (vs1 : Int) (vs5 : Int), iter (fun st k => ev f71e f71k n (cAt [1,1,1,0,1,0,0] f71c) st k) m ⟨[(0, .c (.one (.ro .metric vs0))), (1, .c (.one (.v (.int .i64 vs1)))), (5, .c (.one (.v (.int .i64 vs5))))], [], []⟩ k' = f71L0 n (k' .ret ⟨[(4, .c (.one (.v (.int .i64 (-1 : Int)))))], [], []⟩) (fun (xvs1 : Int) (xvs5 : Int) (xvs15 : Bool) => k' (.exit 0) ⟨[(0, .c (.one (.ro .metric vs0))), (1, .c (.one (.v (.int .i64 xvs1)))), (5, .c (.one (.v (.int .i64 xvs5)))), (15, .c (.one (.v (.bool xvs15))))], [], []⟩) vs0 m vs1 vs5 := by
  intro m; induction m with
  | zero => intros; rfl
  | succ m ih =>
    intro vs1 vs5
    simp only [iter]
    rw [f71L0_b]
    simp only [ih, f71L0]

noncomputable def f71K0 {R : Type} (n : Nat) (k' : Ex → St → Option R) : Ex → St → Option R := (blockK 0 (seqK f71e f71k n (cAt [1,1,1,1] f71c) k'))
theorem f71K0_x0 {R : Type} (n : Nat) (k : List Dt → Option R) (a0 : List MetricT) (a1 : Int)  : f71K0 n (exitK f71e [.ro, .ro] [false] true [.tmp 4] [3] [.d (.sl .metric) a0, .d (.i .i64) a1] k) .ret ⟨[(4, .c (.one (.v (.int .i64 (-1 : Int)))))], [], []⟩ =
    (k [.d (.i .i64) (-1 : Int)]) := by kernel_rfl
theorem f71K0_x1 {R : Type} (n : Nat) (k : List Dt → Option R) (a0 : List MetricT) (a1 : Int) (vs0 : List MetricT) (xvs1 : Int) (xvs5 : Int) (xvs15 : Bool) : f71K0 n (exitK f71e [.ro, .ro] [false] true [.tmp 4] [3] [.d (.sl .metric) a0, .d (.i .i64) a1] k) (.exit 0) ⟨[(0, .c (.one (.ro .metric vs0))), (1, .c (.one (.v (.int .i64 xvs1)))), (5, .c (.one (.v (.int .i64 xvs5)))), (15, .c (.one (.v (.bool xvs15))))], [], []⟩ =
    (k [.d (.i .i64) xvs1]) := by kernel_rfl

theorem f71_run {R : Type} (n : Nat) (k : List Dt → Option R) (a0 : List MetricT) (a1 : Int) : evFn f71e f71k n f71c [.ro, .ro] [false] true [.tmp 4] [3] [.d (.sl .metric) a0, .d (.i .i64) a1] k =
    (cond (decide ((IntKind.wrap .i64 (a1 - (a0.length : Int))) < (0 : Int)))
    (k [.d (.i .i64) (-1 : Int)])
    (f71L0 n (k [.d (.i .i64) (-1 : Int)]) (fun (xvs1 : Int) (xvs5 : Int) (xvs15 : Bool) =>
      (k [.d (.i .i64) xvs1])) a0 n (IntKind.wrap .i64 (a1 - (a0.length : Int))) (0 : Int))) := by
  refine Eq.trans (b := (cond (decide ((IntKind.wrap .i64 (a1 - (a0.length : Int))) < (0 : Int)))
    (k [.d (.i .i64) (-1 : Int)])
    (iter (fun st k => ev f71e f71k n (cAt [1,1,1,0,1,0,0] f71c) st k) n ⟨[(0, .c (.one (.ro .metric a0))), (1, .c (.one (.v (.int .i64 (IntKind.wrap .i64 (a1 - (a0.length : Int))))))), (5, .c (.one (.v (.int .i64 (0 : Int)))))], [], []⟩ (f71K0 n (exitK f71e [.ro, .ro] [false] true [.tmp 4] [3] [.d (.sl .metric) a0, .d (.i .i64) a1] k))))) (by kernel_rfl) ?_
  simp only [f71L0_eq, f71K0_x0, f71K0_x1]
theorem f71_spec (a0 : List MetricT) (a1 : Int) (hg : gzL_metric a0 a1 = true) : ∃ keep rounds, ∀ {R : Type} (k : List Dt → Option R), evFn f71e keep rounds f71c [.ro, .ro] [false] true [.tmp 4] [3] [.d (.sl .metric) a0, .d (.i .i64) a1] k = k [.d (.i .i64) (zL_metric a0 a1)] := by
  simp only [gzL_metric, okL, Bool.and_eq_true, okN_iff] at hg
  obtain ⟨⟨hl, hs⟩, hn⟩ := hg
  have hl : a0.length ≤ 9223372036854775807 := bleN hl
  refine ⟨f71k, a0.length + 1, fun k => ?_⟩
  rw [f71_run, wrap_id (x := a1 - (a0.length : Int)) (by omega) (by omega)]
  show _ = k [.d (.i .i64) (zL_metric a0 a1)]
  unfold zL_metric
  have eL : szL szN_metric a0 = a0.length + (a0.map szN_metric).sum := rfl
  by_cases hc : a1 - (a0.length : Int) < 0
  · simp only [hc, decide_true, cond_true]
    rw [szI_neg (by omega)]
  · simp only [hc, decide_false, cond_false]
    refine Eq.trans (loop_fold (xs := a0) (F := fun m j left => f71L0 (a0.length + 1) _ _ a0 m left (j : Int)) (step := szStep szN_metric)
      (out := fun _ => k [.d (.i .i64) (-1 : Int)]) (good := fun left => k [.d (.i .i64) left]) (fun n => 0 ≤ n ∧ n ≤ 1048576)
      (fun x n n' hx hn h => by
        unfold szStep at h
        split at h
        · cases h
        · cases h; omega)
      (fun m j n x hx hn => ?_)
      (fun m n hn => by simp only [f71L0, idxE, cond_false]) a0.length 0 (a0.length + 1) (a1 - (a0.length : Int)) (by omega) (by omega) (by omega)) ?_
    · obtain ⟨h1, h0, hw, ht⟩ := idx (lt_of_get hx) (by omega)
      have hx2 := List.all_eq_true.1 hs x (List.mem_of_getElem? hx)
      have hg2 : gz_metric x n = true := by simp only [gz_metric, Bool.and_eq_true, okN_iff]; exact ⟨hx2, by omega, by omega⟩
      have hz : z_metric x n = szI (szN_metric x) n := rfl
      simp only [f71L0, h1, h0, hw, ht, atI_of (t := .metric) hx, Bool.and_self, cond_true, hg2, hz]
      unfold szStep
      by_cases h : n - (szN_metric x : Int) < 0
      · rw [szI_neg h]; simp only [h, if_true, Sum.elim_inl]; rfl
      · rw [szI_pos h]; simp only [h, decide_false, cond_false, if_false, Sum.elim_inr]
    · rw [List.drop_zero, sz_fold _ _ _ (by omega)]
      by_cases h2 : a1 - (a0.length : Int) - ((a0.map szN_metric).sum : Nat) < 0
      · rw [if_pos h2, szI_neg (by omega)]; rfl
      · rw [if_neg h2, szI_pos (by omega)]
        simp only [Sum.elim_inr]
        rw [show a1 - (a0.length : Int) - ((a0.map szN_metric).sum : Nat) = a1 - (szL szN_metric a0 : Nat) by omega]

noncomputable def q71 : List Dt → Option (Bool × List Dt)
  | [.d (.sl .metric) a0, .d (.i .i64) a1] => some ((gzL_metric a0 a1), [.d (.i .i64) (zL_metric a0 a1)])
  | _ => none
noncomputable def s71 : Gm.Spec := Gm.Spec.of [.ro, .ro] [false] true q71
theorem good71 : Gm.Good Try.prog (71, s71) := by
  have hl : ∀ x ∈ [(86, s86)], Gm.Good Try.prog x := List.forall_mem_cons.2 ⟨good86, List.forall_mem_nil _⟩
  refine ⟨⟨spec_ok (tab_ok.env hl) (tab.natl hl) Try.func71 (by kernel_rfl : Try.f71.body = some f71c) [3] (by kernel_rfl) ?_, _, Try.func71, by kernel_rfl, of_decide_eq_true (by kernel_rfl)⟩, Gm.Spec.of_natl _ _ _ _⟩
  intro ds outs h
  unfold q71 at h
  split at h
  · simp only [Option.some.injEq, Prod.mk.injEq] at h; obtain ⟨hg, h⟩ := h; cases h; exact f71_spec _ _ hg
  · cases h
/-! ### loop.example/g00465/laws.szOrder -/
noncomputable def f59c : Code := (Try.f59.body).getD .skip
def f59k : Nat → Kp := kat [⟨[1, 2], [], [], []⟩, ⟨[1, 2], [], [], []⟩, ⟨[1, 2, 11], [], [], []⟩, ⟨[4], [], [], []⟩, ⟨[1, 2], [], [], []⟩, ⟨[1, 2, 18], [], [], []⟩, ⟨[4], [], [], []⟩, ⟨[1, 2], [], [], []⟩, ⟨[1, 2, 24], [], [], []⟩, ⟨[4], [], [], []⟩, ⟨[1], [], [], []⟩, ⟨[1, 30], [], [], []⟩, ⟨[4], [], [], []⟩, ⟨[4], [], [], []⟩]
noncomputable def f59e : Env := tab.env [(71, s71), (72, s72)]
theorem f59_run {R : Type} (n : Nat) (k : List Dt → Option R) (a0 : OrderT) (a1 : Int) : evFn f59e f59k n f59c [.ro, .ro] [false] true [.tmp 4] [3] [.d .order a0, .d (.i .i64) a1] k =
    (cond (decide ((IntKind.wrap .i64 (a1 - (ByteArray.size (OrderT.name a0) : Int))) < (0 : Int)))
    (k [.d (.i .i64) (-1 : Int)])
    (cond (decide ((IntKind.wrap .i64 ((IntKind.wrap .i64 (a1 - (ByteArray.size (OrderT.name a0) : Int))) - (ByteArray.size (OrderT.target a0) : Int))) < (0 : Int)))
      (k [.d (.i .i64) (-1 : Int)])
      (cond (gzL_metric (OrderT.metrics a0) (IntKind.wrap .i64 ((IntKind.wrap .i64 (a1 - (ByteArray.size (OrderT.name a0) : Int))) - (ByteArray.size (OrderT.target a0) : Int))))
        (cond (decide ((zL_metric (OrderT.metrics a0) (IntKind.wrap .i64 ((IntKind.wrap .i64 (a1 - (ByteArray.size (OrderT.name a0) : Int))) - (ByteArray.size (OrderT.target a0) : Int)))) < (0 : Int)))
          (k [.d (.i .i64) (-1 : Int)])
          (cond (gzL_note (OrderT.notes a0) (zL_metric (OrderT.metrics a0) (IntKind.wrap .i64 ((IntKind.wrap .i64 (a1 - (ByteArray.size (OrderT.name a0) : Int))) - (ByteArray.size (OrderT.target a0) : Int)))))
            (cond (decide ((zL_note (OrderT.notes a0) (zL_metric (OrderT.metrics a0) (IntKind.wrap .i64 ((IntKind.wrap .i64 (a1 - (ByteArray.size (OrderT.name a0) : Int))) - (ByteArray.size (OrderT.target a0) : Int))))) < (0 : Int)))
              (k [.d (.i .i64) (-1 : Int)])
              (k [.d (.i .i64) (zL_note (OrderT.notes a0) (zL_metric (OrderT.metrics a0) (IntKind.wrap .i64 ((IntKind.wrap .i64 (a1 - (ByteArray.size (OrderT.name a0) : Int))) - (ByteArray.size (OrderT.target a0) : Int)))))]))
            none))
        none))) := by kernel_rfl
theorem f59_spec (a0 : OrderT) (a1 : Int) (hg : gz_order a0 a1 = true) : ∃ keep rounds, ∀ {R : Type} (k : List Dt → Option R), evFn f59e keep rounds f59c [.ro, .ro] [false] true [.tmp 4] [3] [.d .order a0, .d (.i .i64) a1] k = k [.d (.i .i64) (z_order a0 a1)] := by
  simp only [gz_order, ok_order, Bool.and_eq_true, okN_iff] at hg
  obtain ⟨⟨hf_name, hf_target, hf_low, hf_high, hf_metrics, hf_pace, hf_notes⟩, hn1, hn2⟩ := hg
  have hf_nameb : a0.name.size ≤ 9223372036854775807 := bleN hf_name
  have hf_targetb : a0.target.size ≤ 9223372036854775807 := bleN hf_target
  have eN : szN_order a0 = a0.name.size + a0.target.size + szL szN_metric a0.metrics + szN_pace a0.pace + szL szN_note a0.notes := rfl
  refine ⟨f59k, 0, fun k => ?_⟩
  rw [f59_run]
  show _ = k [.d (.i .i64) (z_order a0 a1)]
  unfold z_order
  have e_pace : szN_pace a0.pace = 0 := rfl
  rw [wrap_id (x := a1 - ((a0.name.size : Nat) : Int)) (by omega) (by omega)]
  by_cases h1 : a1 - ((a0.name.size : Nat) : Int) < 0
  · simp only [h1, decide_true, cond_true]; rw [szI_neg (by omega)]
  simp only [h1, decide_false, cond_false]
  rw [wrap_id (x := (a1 - ((a0.name.size : Nat) : Int)) - ((a0.target.size : Nat) : Int)) (by omega) (by omega)]
  by_cases h2 : (a1 - ((a0.name.size : Nat) : Int)) - ((a0.target.size : Nat) : Int) < 0
  · simp only [h2, decide_true, cond_true]; rw [szI_neg (by omega)]
  simp only [h2, decide_false, cond_false]
  have g3 : gzL_metric a0.metrics ((a1 - ((a0.name.size : Nat) : Int)) - ((a0.target.size : Nat) : Int)) = true := by simp only [gzL_metric, Bool.and_eq_true, okN_iff]; exact ⟨hf_metrics, by omega, by omega⟩
  have z4 : zL_metric a0.metrics ((a1 - ((a0.name.size : Nat) : Int)) - ((a0.target.size : Nat) : Int)) = szI (szL szN_metric a0.metrics) ((a1 - ((a0.name.size : Nat) : Int)) - ((a0.target.size : Nat) : Int)) := rfl
  rw [g3, z4]
  by_cases h4 : ((a1 - ((a0.name.size : Nat) : Int)) - ((a0.target.size : Nat) : Int)) - ((szL szN_metric a0.metrics : Nat) : Int) < 0
  · rw [szI_neg h4, szI_neg (by omega)]; rfl
  rw [szI_pos h4]
  simp only [cond_true, h4, decide_false, cond_false]
  have g5 : gzL_note a0.notes (((a1 - ((a0.name.size : Nat) : Int)) - ((a0.target.size : Nat) : Int)) - ((szL szN_metric a0.metrics : Nat) : Int)) = true := by simp only [gzL_note, Bool.and_eq_true, okN_iff]; exact ⟨hf_notes, by omega, by omega⟩
  have z6 : zL_note a0.notes (((a1 - ((a0.name.size : Nat) : Int)) - ((a0.target.size : Nat) : Int)) - ((szL szN_metric a0.metrics : Nat) : Int)) = szI (szL szN_note a0.notes) (((a1 - ((a0.name.size : Nat) : Int)) - ((a0.target.size : Nat) : Int)) - ((szL szN_metric a0.metrics : Nat) : Int)) := rfl
  rw [g5, z6]
  by_cases h6 : (((a1 - ((a0.name.size : Nat) : Int)) - ((a0.target.size : Nat) : Int)) - ((szL szN_metric a0.metrics : Nat) : Int)) - ((szL szN_note a0.notes : Nat) : Int) < 0
  · rw [szI_neg h6, szI_neg (by omega)]; rfl
  rw [szI_pos h6]
  simp only [cond_true, h6, decide_false, cond_false]
  rw [szI_pos (by omega)]
  first
    | rfl
    | rw [show ((((a1 - ((a0.name.size : Nat) : Int)) - ((a0.target.size : Nat) : Int)) - ((szL szN_metric a0.metrics : Nat) : Int)) - ((szL szN_note a0.notes : Nat) : Int)) = a1 - ((szN_order a0 : Nat) : Int) by omega]

noncomputable def q59 : List Dt → Option (Bool × List Dt)
  | [.d .order a0, .d (.i .i64) a1] => some ((gz_order a0 a1), [.d (.i .i64) (z_order a0 a1)])
  | _ => none
noncomputable def s59 : Gm.Spec := Gm.Spec.of [.ro, .ro] [false] true q59
theorem good59 : Gm.Good Try.prog (59, s59) := by
  have hl : ∀ x ∈ [(71, s71), (72, s72)], Gm.Good Try.prog x := List.forall_mem_cons.2 ⟨good71, List.forall_mem_cons.2 ⟨good72, List.forall_mem_nil _⟩⟩
  refine ⟨⟨spec_ok (tab_ok.env hl) (tab.natl hl) Try.func59 (by kernel_rfl : Try.f59.body = some f59c) [3] (by kernel_rfl) ?_, _, Try.func59, by kernel_rfl, of_decide_eq_true (by kernel_rfl)⟩, Gm.Spec.of_natl _ _ _ _⟩
  intro ds outs h
  unfold q59 at h
  split at h
  · simp only [Option.some.injEq, Prod.mk.injEq] at h; obtain ⟨hg, h⟩ := h; cases h; exact f59_spec _ _ hg
  · cases h
/-! ### loop.example/g00465/laws.szItem -/
noncomputable def f45c : Code := (Try.f45.body).getD .skip
def f45k : Nat → Kp := kat [⟨[1, 2], [], [], []⟩, ⟨[1], [], [], []⟩, ⟨[1, 10], [], [], []⟩, ⟨[4], [], [], []⟩, ⟨[4], [], [], []⟩]
noncomputable def f45e : Env := tab.env [(59, s59)]
theorem f45_run {R : Type} (n : Nat) (k : List Dt → Option R) (a0 : ItemT) (a1 : Int) : evFn f45e f45k n f45c [.ro, .ro] [false] true [.tmp 4] [3] [.d .item a0, .d (.i .i64) a1] k =
    (cond (gz_order (ItemT.order a0) a1)
    (cond (decide ((z_order (ItemT.order a0) a1) < (0 : Int)))
      (k [.d (.i .i64) (-1 : Int)])
      (k [.d (.i .i64) (z_order (ItemT.order a0) a1)]))
    none) := by kernel_rfl
theorem f45_spec (a0 : ItemT) (a1 : Int) (hg : gz_item a0 a1 = true) : ∃ keep rounds, ∀ {R : Type} (k : List Dt → Option R), evFn f45e keep rounds f45c [.ro, .ro] [false] true [.tmp 4] [3] [.d .item a0, .d (.i .i64) a1] k = k [.d (.i .i64) (z_item a0 a1)] := by
  simp only [gz_item, ok_item, Bool.and_eq_true, okN_iff] at hg
  obtain ⟨⟨hf_order, hf_ver⟩, hn1, hn2⟩ := hg
  have eN : szN_item a0 = szN_order a0.order := rfl
  refine ⟨f45k, 0, fun k => ?_⟩
  rw [f45_run]
  show _ = k [.d (.i .i64) (z_item a0 a1)]
  unfold z_item
  have g1 : gz_order a0.order a1 = true := by simp only [gz_order, Bool.and_eq_true, okN_iff]; exact ⟨hf_order, by omega, by omega⟩
  have z2 : z_order a0.order a1 = szI (szN_order a0.order) a1 := rfl
  rw [g1, z2]
  by_cases h2 : a1 - ((szN_order a0.order : Nat) : Int) < 0
  · rw [szI_neg h2, szI_neg (by omega)]; rfl
  rw [szI_pos h2]
  simp only [cond_true, h2, decide_false, cond_false]
  rw [szI_pos (by omega)]
  first
    | rfl
    | rw [show (a1 - ((szN_order a0.order : Nat) : Int)) = a1 - ((szN_item a0 : Nat) : Int) by omega]

noncomputable def q45 : List Dt → Option (Bool × List Dt)
  | [.d .item a0, .d (.i .i64) a1] => some ((gz_item a0 a1), [.d (.i .i64) (z_item a0 a1)])
  | _ => none
noncomputable def s45 : Gm.Spec := Gm.Spec.of [.ro, .ro] [false] true q45
theorem good45 : Gm.Good Try.prog (45, s45) := by
  have hl : ∀ x ∈ [(59, s59)], Gm.Good Try.prog x := List.forall_mem_cons.2 ⟨good59, List.forall_mem_nil _⟩
  refine ⟨⟨spec_ok (tab_ok.env hl) (tab.natl hl) Try.func45 (by kernel_rfl : Try.f45.body = some f45c) [3] (by kernel_rfl) ?_, _, Try.func45, by kernel_rfl, of_decide_eq_true (by kernel_rfl)⟩, Gm.Spec.of_natl _ _ _ _⟩
  intro ds outs h
  unfold q45 at h
  split at h
  · simp only [Option.some.injEq, Prod.mk.injEq] at h; obtain ⟨hg, h⟩ := h; cases h; exact f45_spec _ _ hg
  · cases h
/-! ### loop.example/g00465/laws.szItemS -/
noncomputable def f27c : Code := (Try.f27.body).getD .skip
def f27k : Nat → Kp := kat [⟨[0, 1], [], [], []⟩, ⟨[0, 1], [], [], []⟩, ⟨[0, 1, 11], [], [], []⟩, ⟨[4], [], [], []⟩, ⟨[0, 1, 5], [], [], []⟩, ⟨[0, 1, 5, 15], [], [], []⟩, ⟨[0, 1, 5], [], [], []⟩, ⟨[0, 1, 5], [], [], []⟩, ⟨[0, 1, 5, 25], [], [], []⟩, ⟨[4], [], [], []⟩, ⟨[4], [], [], []⟩]
noncomputable def f27e : Env := tab.env [(45, s45)]
noncomputable def f27L0 {R : Type} (n : Nat) (x0 : Option R) (x1 : Int → Int → Bool → Option R) (vs0 : List ItemT) : Nat → Int → Int → Option R
  | 0, _, _ => none
  | m + 1, vs1, vs5 =>
    (cond (decide (vs5 < (vs0.length : Int)))
      (cond ((decide ((0 : Int) ≤ vs5)) && (decide (vs5 < (vs0.length : Int))))
        (cond (gz_item (atI (t := .item) vs0 (Int.toNat vs5)) vs1)
          (cond (decide ((z_item (atI (t := .item) vs0 (Int.toNat vs5)) vs1) < (0 : Int)))
            (x0)
            (f27L0 n x0 x1 vs0 m (z_item (atI (t := .item) vs0 (Int.toNat vs5)) vs1) (IntKind.wrap .i64 (vs5 + (1 : Int)))))
          none)
        none)
      (x1 vs1 vs5 (decide (vs5 < (vs0.length : Int)))))
theorem f27L0_b {R : Type} (n : Nat) (k' : Ex → St → Option R) (vs0 : List ItemT) (vs1 : Int) (vs5 : Int) : ev f27e f27k n (cAt [1,1,1,0,1,0,0] f27c) ⟨[(0, .c (.one (.ro .item vs0))), (1, .c (.one (.v (.int .i64 vs1)))), (5, .c (.one (.v (.int .i64 vs5))))], [], []⟩ k' =
    (cond (decide (vs5 < (vs0.length : Int)))
    (cond ((decide ((0 : Int) ≤ vs5)) && (decide (vs5 < (vs0.length : Int))))
      (cond (gz_item (atI (t := .item) vs0 (Int.toNat vs5)) vs1)
        (cond (decide ((z_item (atI (t := .item) vs0 (Int.toNat vs5)) vs1) < (0 : Int)))
          (k' .ret ⟨[(4, .c (.one (.v (.int .i64 (-1 : Int)))))], [], []⟩)
          (k' .normal ⟨[(0, .c (.one (.ro .item vs0))), (1, .c (.one (.v (.int .i64 (z_item (atI (t := .item) vs0 (Int.toNat vs5)) vs1))))), (5, .c (.one (.v (.int .i64 (IntKind.wrap .i64 (vs5 + (1 : Int)))))))], [], []⟩))
        none)
      none)
    (k' (.exit 0) ⟨[(0, .c (.one (.ro .item vs0))), (1, .c (.one (.v (.int .i64 vs1)))), (5, .c (.one (.v (.int .i64 vs5)))), (15, .c (.one (.v (.bool (decide (vs5 < (vs0.length : Int)))))))], [], []⟩)) := by kernel_rfl
theorem f27L0_eq {R : Type} (n : Nat) (k' : Ex → St → Option R) (vs0 : List ItemT) : ∀ (m : Nat) (vs1 : Int) (vs5 : Int), iter (fun st k => ev f27e f27k n (cAt [1,1,1,0,1,0,0] f27c) st k) m ⟨[(0, .c (.one (.ro .item vs0))), (1, .c (.one (.v (.int .i64 vs1)))), (5, .c (.one (.v (.int .i64 vs5))))], [], []⟩ k' = f27L0 n (k' .ret ⟨[(4, .c (.one (.v (.int .i64 (-1 : Int)))))], [], []⟩) (fun (xvs1 : Int) (xvs5 : Int) (xvs15 : Bool) => k' (.exit 0) ⟨[(0, .c (.one (.ro .item vs0))), (1, .c (.one (.v (.int .i64 xvs1)))), (5, .c (.one (.v (.int .i64 xvs5)))), (15, .c (.one (.v (.bool xvs15))))], [], []⟩) vs0 m vs1 vs5 := by
  intro m; induction m with
  | zero => intros; rfl
  | succ m ih =>
    intro vs1 vs5
    simp only [iter]
    rw [f27L0_b]
    simp only [ih, f27L0]

noncomputable def f27K0 {R : Type} (n : Nat) (k' : Ex → St → Option R) : Ex → St → Option R := (blockK 0 (seqK f27e f27k n (cAt [1,1,1,1] f27c) k'))
theorem f27K0_x0 {R : Type} (n : Nat) (k : List Dt → Option R) (a0 : List ItemT) (a1 : Int)  : f27K0 n (exitK f27e [.ro, .ro] [false] true [.tmp 4] [3] [.d (.sl .item) a0, .d (.i .i64) a1] k) .ret ⟨[(4, .c (.one (.v (.int .i64 (-1 : Int)))))], [], []⟩ =
    (k [.d (.i .i64) (-1 : Int)]) := by kernel_rfl
theorem f27K0_x1 {R : Type} (n : Nat) (k : List Dt → Option R) (a0 : List ItemT) (a1 : Int) (vs0 : List ItemT) (xvs1 : Int) (xvs5 : Int) (xvs15 : Bool) : f27K0 n (exitK f27e [.ro, .ro] [false] true [.tmp 4] [3] [.d (.sl .item) a0, .d (.i .i64) a1] k) (.exit 0) ⟨[(0, .c (.one (.ro .item vs0))), (1, .c (.one (.v (.int .i64 xvs1)))), (5, .c (.one (.v (.int .i64 xvs5)))), (15, .c (.one (.v (.bool xvs15))))], [], []⟩ =
    (k [.d (.i .i64) xvs1]) := by kernel_rfl

theorem f27_run {R : Type} (n : Nat) (k : List Dt → Option R) (a0 : List ItemT) (a1 : Int) : evFn f27e f27k n f27c [.ro, .ro] [false] true [.tmp 4] [3] [.d (.sl .item) a0, .d (.i .i64) a1] k =
    (cond (decide ((IntKind.wrap .i64 (a1 - (a0.length : Int))) < (0 : Int)))
    (k [.d (.i .i64) (-1 : Int)])
    (f27L0 n (k [.d (.i .i64) (-1 : Int)]) (fun (xvs1 : Int) (xvs5 : Int) (xvs15 : Bool) =>
      (k [.d (.i .i64) xvs1])) a0 n (IntKind.wrap .i64 (a1 - (a0.length : Int))) (0 : Int))) := by
  refine Eq.trans (b := (cond (decide ((IntKind.wrap .i64 (a1 - (a0.length : Int))) < (0 : Int)))
    (k [.d (.i .i64) (-1 : Int)])
    (iter (fun st k => ev f27e f27k n (cAt [1,1,1,0,1,0,0] f27c) st k) n ⟨[(0, .c (.one (.ro .item a0))), (1, .c (.one (.v (.int .i64 (IntKind.wrap .i64 (a1 - (a0.length : Int))))))), (5, .c (.one (.v (.int .i64 (0 : Int)))))], [], []⟩ (f27K0 n (exitK f27e [.ro, .ro] [false] true [.tmp 4] [3] [.d (.sl .item) a0, .d (.i .i64) a1] k))))) (by kernel_rfl) ?_
  simp only [f27L0_eq, f27K0_x0, f27K0_x1]
theorem f27_spec (a0 : List ItemT) (a1 : Int) (hg : gzL_item a0 a1 = true) : ∃ keep rounds, ∀ {R : Type} (k : List Dt → Option R), evFn f27e keep rounds f27c [.ro, .ro] [false] true [.tmp 4] [3] [.d (.sl .item) a0, .d (.i .i64) a1] k = k [.d (.i .i64) (zL_item a0 a1)] := by
  simp only [gzL_item, okL, Bool.and_eq_true, okN_iff] at hg
  obtain ⟨⟨hl, hs⟩, hn⟩ := hg
  have hl : a0.length ≤ 9223372036854775807 := bleN hl
  refine ⟨f27k, a0.length + 1, fun k => ?_⟩
  rw [f27_run, wrap_id (x := a1 - (a0.length : Int)) (by omega) (by omega)]
  show _ = k [.d (.i .i64) (zL_item a0 a1)]
  unfold zL_item
  have eL : szL szN_item a0 = a0.length + (a0.map szN_item).sum := rfl
  by_cases hc : a1 - (a0.length : Int) < 0
  · simp only [hc, decide_true, cond_true]
    rw [szI_neg (by omega)]
  · simp only [hc, decide_false, cond_false]
    refine Eq.trans (loop_fold (xs := a0) (F := fun m j left => f27L0 (a0.length + 1) _ _ a0 m left (j : Int)) (step := szStep szN_item)
      (out := fun _ => k [.d (.i .i64) (-1 : Int)]) (good := fun left => k [.d (.i .i64) left]) (fun n => 0 ≤ n ∧ n ≤ 1048576)
      (fun x n n' hx hn h => by
        unfold szStep at h
        split at h
        · cases h
        · cases h; omega)
      (fun m j n x hx hn => ?_)
      (fun m n hn => by simp only [f27L0, idxE, cond_false]) a0.length 0 (a0.length + 1) (a1 - (a0.length : Int)) (by omega) (by omega) (by omega)) ?_
    · obtain ⟨h1, h0, hw, ht⟩ := idx (lt_of_get hx) (by omega)
      have hx2 := List.all_eq_true.1 hs x (List.mem_of_getElem? hx)
      have hg2 : gz_item x n = true := by simp only [gz_item, Bool.and_eq_true, okN_iff]; exact ⟨hx2, by omega, by omega⟩
      have hz : z_item x n = szI (szN_item x) n := rfl
      simp only [f27L0, h1, h0, hw, ht, atI_of (t := .item) hx, Bool.and_self, cond_true, hg2, hz]
      unfold szStep
      by_cases h : n - (szN_item x : Int) < 0
      · rw [szI_neg h]; simp only [h, if_true, Sum.elim_inl]; rfl
      · rw [szI_pos h]; simp only [h, decide_false, cond_false, if_false, Sum.elim_inr]
    · rw [List.drop_zero, sz_fold _ _ _ (by omega)]
      by_cases h2 : a1 - (a0.length : Int) - ((a0.map szN_item).sum : Nat) < 0
      · rw [if_pos h2, szI_neg (by omega)]; rfl
      · rw [if_neg h2, szI_pos (by omega)]
        simp only [Sum.elim_inr]
        rw [show a1 - (a0.length : Int) - ((a0.map szN_item).sum : Nat) = a1 - (szL szN_item a0 : Nat) by omega]

noncomputable def q27 : List Dt → Option (Bool × List Dt)
  | [.d (.sl .item) a0, .d (.i .i64) a1] => some ((gzL_item a0 a1), [.d (.i .i64) (zL_item a0 a1)])
  | _ => none
noncomputable def s27 : Gm.Spec := Gm.Spec.of [.ro, .ro] [false] true q27
theorem good27 : Gm.Good Try.prog (27, s27) := by
  have hl : ∀ x ∈ [(45, s45)], Gm.Good Try.prog x := List.forall_mem_cons.2 ⟨good45, List.forall_mem_nil _⟩
  refine ⟨⟨spec_ok (tab_ok.env hl) (tab.natl hl) Try.func27 (by kernel_rfl : Try.f27.body = some f27c) [3] (by kernel_rfl) ?_, _, Try.func27, by kernel_rfl, of_decide_eq_true (by kernel_rfl)⟩, Gm.Spec.of_natl _ _ _ _⟩
  intro ds outs h
  unfold q27 at h
  split at h
  · simp only [Option.some.injEq, Prod.mk.injEq] at h; obtain ⟨hg, h⟩ := h; cases h; exact f27_spec _ _ hg
  · cases h
/-! ### loop.example/g00465/laws.szStore -/
noncomputable def f12c : Code := (Try.f12.body).getD .skip
def f12k : Nat → Kp := kat [⟨[1, 2], [], [], []⟩, ⟨[1], [], [], []⟩, ⟨[1, 10], [], [], []⟩, ⟨[4], [], [], []⟩, ⟨[4], [], [], []⟩]
noncomputable def f12e : Env := tab.env [(27, s27)]
theorem f12_run {R : Type} (n : Nat) (k : List Dt → Option R) (a0 : StoreT) (a1 : Int) : evFn f12e f12k n f12c [.ro, .ro] [false] true [.tmp 4] [3] [.d .store a0, .d (.i .i64) a1] k =
    (cond (gzL_item (StoreT.items a0) a1)
    (cond (decide ((zL_item (StoreT.items a0) a1) < (0 : Int)))
      (k [.d (.i .i64) (-1 : Int)])
      (k [.d (.i .i64) (zL_item (StoreT.items a0) a1)]))
    none) := by kernel_rfl
theorem f12_spec (a0 : StoreT) (a1 : Int) (hg : gz_store a0 a1 = true) : ∃ keep rounds, ∀ {R : Type} (k : List Dt → Option R), evFn f12e keep rounds f12c [.ro, .ro] [false] true [.tmp 4] [3] [.d .store a0, .d (.i .i64) a1] k = k [.d (.i .i64) (z_store a0 a1)] := by
  simp only [gz_store, ok_store, Bool.and_eq_true, okN_iff] at hg
  obtain ⟨⟨hf_items, hf_next⟩, hn1, hn2⟩ := hg
  have eN : szN_store a0 = szL szN_item a0.items := rfl
  refine ⟨f12k, 0, fun k => ?_⟩
  rw [f12_run]
  show _ = k [.d (.i .i64) (z_store a0 a1)]
  unfold z_store
  have g1 : gzL_item a0.items a1 = true := by simp only [gzL_item, Bool.and_eq_true, okN_iff]; exact ⟨hf_items, by omega, by omega⟩
  have z2 : zL_item a0.items a1 = szI (szL szN_item a0.items) a1 := rfl
  rw [g1, z2]
  by_cases h2 : a1 - ((szL szN_item a0.items : Nat) : Int) < 0
  · rw [szI_neg h2, szI_neg (by omega)]; rfl
  rw [szI_pos h2]
  simp only [cond_true, h2, decide_false, cond_false]
  rw [szI_pos (by omega)]
  first
    | rfl
    | rw [show (a1 - ((szL szN_item a0.items : Nat) : Int)) = a1 - ((szN_store a0 : Nat) : Int) by omega]

noncomputable def q12 : List Dt → Option (Bool × List Dt)
  | [.d .store a0, .d (.i .i64) a1] => some ((gz_store a0 a1), [.d (.i .i64) (z_store a0 a1)])
  | _ => none
noncomputable def s12 : Gm.Spec := Gm.Spec.of [.ro, .ro] [false] true q12
theorem good12 : Gm.Good Try.prog (12, s12) := by
  have hl : ∀ x ∈ [(27, s27)], Gm.Good Try.prog x := List.forall_mem_cons.2 ⟨good27, List.forall_mem_nil _⟩
  refine ⟨⟨spec_ok (tab_ok.env hl) (tab.natl hl) Try.func12 (by kernel_rfl : Try.f12.body = some f12c) [3] (by kernel_rfl) ?_, _, Try.func12, by kernel_rfl, of_decide_eq_true (by kernel_rfl)⟩, Gm.Spec.of_natl _ _ _ _⟩
  intro ds outs h
  unfold q12 at h
  split at h
  · simp only [Option.some.injEq, Prod.mk.injEq] at h; obtain ⟨hg, h⟩ := h; cases h; exact f12_spec _ _ hg
  · cases h
/-! ### loop.example/g00465/laws.szRecS -/
noncomputable def f46c : Code := (Try.f46.body).getD .skip
def f46k : Nat → Kp := kat [⟨[0, 1], [], [], []⟩, ⟨[1], [], [], []⟩, ⟨[1, 10], [], [], []⟩, ⟨[4], [], [], []⟩, ⟨[4], [], [], []⟩]
noncomputable def f46e : Env := tab.env []
theorem f46_run {R : Type} (n : Nat) (k : List Dt → Option R) (a0 : List RcdT) (a1 : Int) : evFn f46e f46k n f46c [.ro, .ro] [false] true [.tmp 4] [3] [.d (.sl .rcd) a0, .d (.i .i64) a1] k =
    (cond (decide ((IntKind.wrap .i64 (a1 - (a0.length : Int))) < (0 : Int)))
    (k [.d (.i .i64) (-1 : Int)])
    (k [.d (.i .i64) (IntKind.wrap .i64 (a1 - (a0.length : Int)))])) := by kernel_rfl
theorem f46_spec (a0 : List RcdT) (a1 : Int) (hg : gzL_rcd a0 a1 = true) : ∃ keep rounds, ∀ {R : Type} (k : List Dt → Option R), evFn f46e keep rounds f46c [.ro, .ro] [false] true [.tmp 4] [3] [.d (.sl .rcd) a0, .d (.i .i64) a1] k = k [.d (.i .i64) (zL_rcd a0 a1)] := by
  simp only [gzL_rcd, okL, Bool.and_eq_true, okN_iff] at hg
  obtain ⟨⟨hl, hs⟩, hn⟩ := hg
  have hl : a0.length ≤ 9223372036854775807 := bleN hl
  refine ⟨f46k, 0, fun k => ?_⟩
  rw [f46_run, wrap_id (x := a1 - (a0.length : Int)) (by omega) (by omega)]
  show _ = k [.d (.i .i64) (zL_rcd a0 a1)]
  unfold zL_rcd
  have eL : szL szN_rcd a0 = a0.length := by
    have z : ∀ l : List _, (l.map szN_rcd).sum = 0 := fun l => by induction l with | nil => rfl | cons x r ih => rw [List.map_cons, List.sum_cons, ih]; rfl
    unfold szL; rw [z]; rfl
  rw [eL]
  by_cases hc : a1 - (a0.length : Int) < 0
  · simp only [hc, decide_true, cond_true]
    rw [szI_neg (by omega)]
  · simp only [hc, decide_false, cond_false]
    rw [szI_pos (by omega)]

noncomputable def q46 : List Dt → Option (Bool × List Dt)
  | [.d (.sl .rcd) a0, .d (.i .i64) a1] => some ((gzL_rcd a0 a1), [.d (.i .i64) (zL_rcd a0 a1)])
  | _ => none
noncomputable def s46 : Gm.Spec := Gm.Spec.of [.ro, .ro] [false] true q46
theorem good46 : Gm.Good Try.prog (46, s46) := by
  have hl : ∀ x ∈ ([] : List (Nat × Gm.Spec)), Gm.Good Try.prog x := fun _ h => by cases h
  refine ⟨⟨spec_ok (tab_ok.env hl) (tab.natl hl) Try.func46 (by kernel_rfl : Try.f46.body = some f46c) [3] (by kernel_rfl) ?_, _, Try.func46, by kernel_rfl, of_decide_eq_true (by kernel_rfl)⟩, Gm.Spec.of_natl _ _ _ _⟩
  intro ds outs h
  unfold q46 at h
  split at h
  · simp only [Option.some.injEq, Prod.mk.injEq] at h; obtain ⟨hg, h⟩ := h; cases h; exact f46_spec _ _ hg
  · cases h
/-! ### loop.example/g00465/laws.szScale -/
noncomputable def f28c : Code := (Try.f28.body).getD .skip
def f28k : Nat → Kp := kat [⟨[1, 2], [], [], []⟩, ⟨[1, 2], [], [], []⟩, ⟨[1, 2, 11], [], [], []⟩, ⟨[4], [], [], []⟩, ⟨[1], [], [], []⟩, ⟨[1, 17], [], [], []⟩, ⟨[4], [], [], []⟩, ⟨[4], [], [], []⟩]
noncomputable def f28e : Env := tab.env [(46, s46)]
theorem f28_run {R : Type} (n : Nat) (k : List Dt → Option R) (a0 : ScaleT) (a1 : Int) : evFn f28e f28k n f28c [.ro, .ro] [false] true [.tmp 4] [3] [.d .scale a0, .d (.i .i64) a1] k =
    (cond (decide ((IntKind.wrap .i64 (a1 - (ByteArray.size (ScaleT.name a0) : Int))) < (0 : Int)))
    (k [.d (.i .i64) (-1 : Int)])
    (cond (gzL_rcd (ScaleT.recs a0) (IntKind.wrap .i64 (a1 - (ByteArray.size (ScaleT.name a0) : Int))))
      (cond (decide ((zL_rcd (ScaleT.recs a0) (IntKind.wrap .i64 (a1 - (ByteArray.size (ScaleT.name a0) : Int)))) < (0 : Int)))
        (k [.d (.i .i64) (-1 : Int)])
        (k [.d (.i .i64) (zL_rcd (ScaleT.recs a0) (IntKind.wrap .i64 (a1 - (ByteArray.size (ScaleT.name a0) : Int))))]))
      none)) := by kernel_rfl
theorem f28_spec (a0 : ScaleT) (a1 : Int) (hg : gz_scale a0 a1 = true) : ∃ keep rounds, ∀ {R : Type} (k : List Dt → Option R), evFn f28e keep rounds f28c [.ro, .ro] [false] true [.tmp 4] [3] [.d .scale a0, .d (.i .i64) a1] k = k [.d (.i .i64) (z_scale a0 a1)] := by
  simp only [gz_scale, ok_scale, Bool.and_eq_true, okN_iff] at hg
  obtain ⟨⟨hf_name, hf_now, hf_recs⟩, hn1, hn2⟩ := hg
  have hf_nameb : a0.name.size ≤ 9223372036854775807 := bleN hf_name
  have eN : szN_scale a0 = a0.name.size + szL szN_rcd a0.recs := rfl
  refine ⟨f28k, 0, fun k => ?_⟩
  rw [f28_run]
  show _ = k [.d (.i .i64) (z_scale a0 a1)]
  unfold z_scale
  rw [wrap_id (x := a1 - ((a0.name.size : Nat) : Int)) (by omega) (by omega)]
  by_cases h1 : a1 - ((a0.name.size : Nat) : Int) < 0
  · simp only [h1, decide_true, cond_true]; rw [szI_neg (by omega)]
  simp only [h1, decide_false, cond_false]
  have g2 : gzL_rcd a0.recs (a1 - ((a0.name.size : Nat) : Int)) = true := by simp only [gzL_rcd, Bool.and_eq_true, okN_iff]; exact ⟨hf_recs, by omega, by omega⟩
  have z3 : zL_rcd a0.recs (a1 - ((a0.name.size : Nat) : Int)) = szI (szL szN_rcd a0.recs) (a1 - ((a0.name.size : Nat) : Int)) := rfl
  rw [g2, z3]
  by_cases h3 : (a1 - ((a0.name.size : Nat) : Int)) - ((szL szN_rcd a0.recs : Nat) : Int) < 0
  · rw [szI_neg h3, szI_neg (by omega)]; rfl
  rw [szI_pos h3]
  simp only [cond_true, h3, decide_false, cond_false]
  rw [szI_pos (by omega)]
  first
    | rfl
    | rw [show ((a1 - ((a0.name.size : Nat) : Int)) - ((szL szN_rcd a0.recs : Nat) : Int)) = a1 - ((szN_scale a0 : Nat) : Int) by omega]

noncomputable def q28 : List Dt → Option (Bool × List Dt)
  | [.d .scale a0, .d (.i .i64) a1] => some ((gz_scale a0 a1), [.d (.i .i64) (z_scale a0 a1)])
  | _ => none
noncomputable def s28 : Gm.Spec := Gm.Spec.of [.ro, .ro] [false] true q28
theorem good28 : Gm.Good Try.prog (28, s28) := by
  have hl : ∀ x ∈ [(46, s46)], Gm.Good Try.prog x := List.forall_mem_cons.2 ⟨good46, List.forall_mem_nil _⟩
  refine ⟨⟨spec_ok (tab_ok.env hl) (tab.natl hl) Try.func28 (by kernel_rfl : Try.f28.body = some f28c) [3] (by kernel_rfl) ?_, _, Try.func28, by kernel_rfl, of_decide_eq_true (by kernel_rfl)⟩, Gm.Spec.of_natl _ _ _ _⟩
  intro ds outs h
  unfold q28 at h
  split at h
  · simp only [Option.some.injEq, Prod.mk.injEq] at h; obtain ⟨hg, h⟩ := h; cases h; exact f28_spec _ _ hg
  · cases h
/-! ### loop.example/g00465/laws.szScaleS -/
noncomputable def f13c : Code := (Try.f13.body).getD .skip
def f13k : Nat → Kp := kat [⟨[0, 1], [], [], []⟩, ⟨[0, 1], [], [], []⟩, ⟨[0, 1, 11], [], [], []⟩, ⟨[4], [], [], []⟩, ⟨[0, 1, 5], [], [], []⟩, ⟨[0, 1, 5, 15], [], [], []⟩, ⟨[0, 1, 5], [], [], []⟩, ⟨[0, 1, 5], [], [], []⟩, ⟨[0, 1, 5, 25], [], [], []⟩, ⟨[4], [], [], []⟩, ⟨[4], [], [], []⟩]
noncomputable def f13e : Env := tab.env [(28, s28)]
noncomputable def f13L0 {R : Type} (n : Nat) (x0 : Option R) (x1 : Int → Int → Bool → Option R) (vs0 : List ScaleT) : Nat → Int → Int → Option R
  | 0, _, _ => none
  | m + 1, vs1, vs5 =>
    (cond (decide (vs5 < (vs0.length : Int)))
      (cond ((decide ((0 : Int) ≤ vs5)) && (decide (vs5 < (vs0.length : Int))))
        (cond (gz_scale (atI (t := .scale) vs0 (Int.toNat vs5)) vs1)
          (cond (decide ((z_scale (atI (t := .scale) vs0 (Int.toNat vs5)) vs1) < (0 : Int)))
            (x0)
            (f13L0 n x0 x1 vs0 m (z_scale (atI (t := .scale) vs0 (Int.toNat vs5)) vs1) (IntKind.wrap .i64 (vs5 + (1 : Int)))))
          none)
        none)
      (x1 vs1 vs5 (decide (vs5 < (vs0.length : Int)))))
theorem f13L0_b {R : Type} (n : Nat) (k' : Ex → St → Option R) (vs0 : List ScaleT) (vs1 : Int) (vs5 : Int) : ev f13e f13k n (cAt [1,1,1,0,1,0,0] f13c) ⟨[(0, .c (.one (.ro .scale vs0))), (1, .c (.one (.v (.int .i64 vs1)))), (5, .c (.one (.v (.int .i64 vs5))))], [], []⟩ k' =
    (cond (decide (vs5 < (vs0.length : Int)))
    (cond ((decide ((0 : Int) ≤ vs5)) && (decide (vs5 < (vs0.length : Int))))
      (cond (gz_scale (atI (t := .scale) vs0 (Int.toNat vs5)) vs1)
        (cond (decide ((z_scale (atI (t := .scale) vs0 (Int.toNat vs5)) vs1) < (0 : Int)))
          (k' .ret ⟨[(4, .c (.one (.v (.int .i64 (-1 : Int)))))], [], []⟩)
          (k' .normal ⟨[(0, .c (.one (.ro .scale vs0))), (1, .c (.one (.v (.int .i64 (z_scale (atI (t := .scale) vs0 (Int.toNat vs5)) vs1))))), (5, .c (.one (.v (.int .i64 (IntKind.wrap .i64 (vs5 + (1 : Int)))))))], [], []⟩))
        none)
      none)
    (k' (.exit 0) ⟨[(0, .c (.one (.ro .scale vs0))), (1, .c (.one (.v (.int .i64 vs1)))), (5, .c (.one (.v (.int .i64 vs5)))), (15, .c (.one (.v (.bool (decide (vs5 < (vs0.length : Int)))))))], [], []⟩)) := by kernel_rfl
theorem f13L0_eq {R : Type} (n : Nat) (k' : Ex → St → Option R) (vs0 : List ScaleT) : ∀ (m : Nat) (vs1 : Int) (vs5 : Int), iter (fun st k => ev f13e f13k n (cAt [1,1,1,0,1,0,0] f13c) st k) m ⟨[(0, .c (.one (.ro .scale vs0))), (1, .c (.one (.v (.int .i64 vs1)))), (5, .c (.one (.v (.int .i64 vs5))))], [], []⟩ k' = f13L0 n (k' .ret ⟨[(4, .c (.one (.v (.int .i64 (-1 : Int)))))], [], []⟩) (fun (xvs1 : Int) (xvs5 : Int) (xvs15 : Bool) => k' (.exit 0) ⟨[(0, .c (.one (.ro .scale vs0))), (1, .c (.one (.v (.int .i64 xvs1)))), (5, .c (.one (.v (.int .i64 xvs5)))), (15, .c (.one (.v (.bool xvs15))))], [], []⟩) vs0 m vs1 vs5 := by
  intro m; induction m with
  | zero => intros; rfl
  | succ m ih =>
    intro vs1 vs5
    simp only [iter]
    rw [f13L0_b]
    simp only [ih, f13L0]

noncomputable def f13K0 {R : Type} (n : Nat) (k' : Ex → St → Option R) : Ex → St → Option R := (blockK 0 (seqK f13e f13k n (cAt [1,1,1,1] f13c) k'))
theorem f13K0_x0 {R : Type} (n : Nat) (k : List Dt → Option R) (a0 : List ScaleT) (a1 : Int)  : f13K0 n (exitK f13e [.ro, .ro] [false] true [.tmp 4] [3] [.d (.sl .scale) a0, .d (.i .i64) a1] k) .ret ⟨[(4, .c (.one (.v (.int .i64 (-1 : Int)))))], [], []⟩ =
    (k [.d (.i .i64) (-1 : Int)]) := by kernel_rfl
theorem f13K0_x1 {R : Type} (n : Nat) (k : List Dt → Option R) (a0 : List ScaleT) (a1 : Int) (vs0 : List ScaleT) (xvs1 : Int) (xvs5 : Int) (xvs15 : Bool) : f13K0 n (exitK f13e [.ro, .ro] [false] true [.tmp 4] [3] [.d (.sl .scale) a0, .d (.i .i64) a1] k) (.exit 0) ⟨[(0, .c (.one (.ro .scale vs0))), (1, .c (.one (.v (.int .i64 xvs1)))), (5, .c (.one (.v (.int .i64 xvs5)))), (15, .c (.one (.v (.bool xvs15))))], [], []⟩ =
    (k [.d (.i .i64) xvs1]) := by kernel_rfl

theorem f13_run {R : Type} (n : Nat) (k : List Dt → Option R) (a0 : List ScaleT) (a1 : Int) : evFn f13e f13k n f13c [.ro, .ro] [false] true [.tmp 4] [3] [.d (.sl .scale) a0, .d (.i .i64) a1] k =
    (cond (decide ((IntKind.wrap .i64 (a1 - (a0.length : Int))) < (0 : Int)))
    (k [.d (.i .i64) (-1 : Int)])
    (f13L0 n (k [.d (.i .i64) (-1 : Int)]) (fun (xvs1 : Int) (xvs5 : Int) (xvs15 : Bool) =>
      (k [.d (.i .i64) xvs1])) a0 n (IntKind.wrap .i64 (a1 - (a0.length : Int))) (0 : Int))) := by
  refine Eq.trans (b := (cond (decide ((IntKind.wrap .i64 (a1 - (a0.length : Int))) < (0 : Int)))
    (k [.d (.i .i64) (-1 : Int)])
    (iter (fun st k => ev f13e f13k n (cAt [1,1,1,0,1,0,0] f13c) st k) n ⟨[(0, .c (.one (.ro .scale a0))), (1, .c (.one (.v (.int .i64 (IntKind.wrap .i64 (a1 - (a0.length : Int))))))), (5, .c (.one (.v (.int .i64 (0 : Int)))))], [], []⟩ (f13K0 n (exitK f13e [.ro, .ro] [false] true [.tmp 4] [3] [.d (.sl .scale) a0, .d (.i .i64) a1] k))))) (by kernel_rfl) ?_
  simp only [f13L0_eq, f13K0_x0, f13K0_x1]
theorem f13_spec (a0 : List ScaleT) (a1 : Int) (hg : gzL_scale a0 a1 = true) : ∃ keep rounds, ∀ {R : Type} (k : List Dt → Option R), evFn f13e keep rounds f13c [.ro, .ro] [false] true [.tmp 4] [3] [.d (.sl .scale) a0, .d (.i .i64) a1] k = k [.d (.i .i64) (zL_scale a0 a1)] := by
  simp only [gzL_scale, okL, Bool.and_eq_true, okN_iff] at hg
  obtain ⟨⟨hl, hs⟩, hn⟩ := hg
  have hl : a0.length ≤ 9223372036854775807 := bleN hl
  refine ⟨f13k, a0.length + 1, fun k => ?_⟩
  rw [f13_run, wrap_id (x := a1 - (a0.length : Int)) (by omega) (by omega)]
  show _ = k [.d (.i .i64) (zL_scale a0 a1)]
  unfold zL_scale
  have eL : szL szN_scale a0 = a0.length + (a0.map szN_scale).sum := rfl
  by_cases hc : a1 - (a0.length : Int) < 0
  · simp only [hc, decide_true, cond_true]
    rw [szI_neg (by omega)]
  · simp only [hc, decide_false, cond_false]
    refine Eq.trans (loop_fold (xs := a0) (F := fun m j left => f13L0 (a0.length + 1) _ _ a0 m left (j : Int)) (step := szStep szN_scale)
      (out := fun _ => k [.d (.i .i64) (-1 : Int)]) (good := fun left => k [.d (.i .i64) left]) (fun n => 0 ≤ n ∧ n ≤ 1048576)
      (fun x n n' hx hn h => by
        unfold szStep at h
        split at h
        · cases h
        · cases h; omega)
      (fun m j n x hx hn => ?_)
      (fun m n hn => by simp only [f13L0, idxE, cond_false]) a0.length 0 (a0.length + 1) (a1 - (a0.length : Int)) (by omega) (by omega) (by omega)) ?_
    · obtain ⟨h1, h0, hw, ht⟩ := idx (lt_of_get hx) (by omega)
      have hx2 := List.all_eq_true.1 hs x (List.mem_of_getElem? hx)
      have hg2 : gz_scale x n = true := by simp only [gz_scale, Bool.and_eq_true, okN_iff]; exact ⟨hx2, by omega, by omega⟩
      have hz : z_scale x n = szI (szN_scale x) n := rfl
      simp only [f13L0, h1, h0, hw, ht, atI_of (t := .scale) hx, Bool.and_self, cond_true, hg2, hz]
      unfold szStep
      by_cases h : n - (szN_scale x : Int) < 0
      · rw [szI_neg h]; simp only [h, if_true, Sum.elim_inl]; rfl
      · rw [szI_pos h]; simp only [h, decide_false, cond_false, if_false, Sum.elim_inr]
    · rw [List.drop_zero, sz_fold _ _ _ (by omega)]
      by_cases h2 : a1 - (a0.length : Int) - ((a0.map szN_scale).sum : Nat) < 0
      · rw [if_pos h2, szI_neg (by omega)]; rfl
      · rw [if_neg h2, szI_pos (by omega)]
        simp only [Sum.elim_inr]
        rw [show a1 - (a0.length : Int) - ((a0.map szN_scale).sum : Nat) = a1 - (szL szN_scale a0 : Nat) by omega]

noncomputable def q13 : List Dt → Option (Bool × List Dt)
  | [.d (.sl .scale) a0, .d (.i .i64) a1] => some ((gzL_scale a0 a1), [.d (.i .i64) (zL_scale a0 a1)])
  | _ => none
noncomputable def s13 : Gm.Spec := Gm.Spec.of [.ro, .ro] [false] true q13
theorem good13 : Gm.Good Try.prog (13, s13) := by
  have hl : ∀ x ∈ [(28, s28)], Gm.Good Try.prog x := List.forall_mem_cons.2 ⟨good28, List.forall_mem_nil _⟩
  refine ⟨⟨spec_ok (tab_ok.env hl) (tab.natl hl) Try.func13 (by kernel_rfl : Try.f13.body = some f13c) [3] (by kernel_rfl) ?_, _, Try.func13, by kernel_rfl, of_decide_eq_true (by kernel_rfl)⟩, Gm.Spec.of_natl _ _ _ _⟩
  intro ds outs h
  unfold q13 at h
  split at h
  · simp only [Option.some.injEq, Prod.mk.injEq] at h; obtain ⟨hg, h⟩ := h; cases h; exact f13_spec _ _ hg
  · cases h
/-! ### loop.example/g00465/laws.szTold -/
noncomputable def f29c : Code := (Try.f29.body).getD .skip
def f29k : Nat → Kp := kat [⟨[1, 2], [], [], []⟩, ⟨[1], [], [], []⟩, ⟨[1, 11], [], [], []⟩, ⟨[4], [], [], []⟩, ⟨[4], [], [], []⟩]
noncomputable def f29e : Env := tab.env []
theorem f29_run {R : Type} (n : Nat) (k : List Dt → Option R) (a0 : ToldT) (a1 : Int) : evFn f29e f29k n f29c [.ro, .ro] [false] true [.tmp 4] [3] [.d .told a0, .d (.i .i64) a1] k =
    (cond (decide ((IntKind.wrap .i64 (a1 - (ByteArray.size (ToldT.name a0) : Int))) < (0 : Int)))
    (k [.d (.i .i64) (-1 : Int)])
    (k [.d (.i .i64) (IntKind.wrap .i64 (a1 - (ByteArray.size (ToldT.name a0) : Int)))])) := by kernel_rfl
theorem f29_spec (a0 : ToldT) (a1 : Int) (hg : gz_told a0 a1 = true) : ∃ keep rounds, ∀ {R : Type} (k : List Dt → Option R), evFn f29e keep rounds f29c [.ro, .ro] [false] true [.tmp 4] [3] [.d .told a0, .d (.i .i64) a1] k = k [.d (.i .i64) (z_told a0 a1)] := by
  simp only [gz_told, ok_told, Bool.and_eq_true, okN_iff] at hg
  obtain ⟨⟨hf_time, hf_name, hf_n⟩, hn1, hn2⟩ := hg
  have hf_nameb : a0.name.size ≤ 9223372036854775807 := bleN hf_name
  have eN : szN_told a0 = a0.name.size := rfl
  refine ⟨f29k, 0, fun k => ?_⟩
  rw [f29_run]
  show _ = k [.d (.i .i64) (z_told a0 a1)]
  unfold z_told
  rw [wrap_id (x := a1 - ((a0.name.size : Nat) : Int)) (by omega) (by omega)]
  by_cases h1 : a1 - ((a0.name.size : Nat) : Int) < 0
  · simp only [h1, decide_true, cond_true]; rw [szI_neg (by omega)]
  simp only [h1, decide_false, cond_false]
  rw [szI_pos (by omega)]
  first
    | rfl
    | rw [show (a1 - ((a0.name.size : Nat) : Int)) = a1 - ((szN_told a0 : Nat) : Int) by omega]

noncomputable def q29 : List Dt → Option (Bool × List Dt)
  | [.d .told a0, .d (.i .i64) a1] => some ((gz_told a0 a1), [.d (.i .i64) (z_told a0 a1)])
  | _ => none
noncomputable def s29 : Gm.Spec := Gm.Spec.of [.ro, .ro] [false] true q29
theorem good29 : Gm.Good Try.prog (29, s29) := by
  have hl : ∀ x ∈ ([] : List (Nat × Gm.Spec)), Gm.Good Try.prog x := fun _ h => by cases h
  refine ⟨⟨spec_ok (tab_ok.env hl) (tab.natl hl) Try.func29 (by kernel_rfl : Try.f29.body = some f29c) [3] (by kernel_rfl) ?_, _, Try.func29, by kernel_rfl, of_decide_eq_true (by kernel_rfl)⟩, Gm.Spec.of_natl _ _ _ _⟩
  intro ds outs h
  unfold q29 at h
  split at h
  · simp only [Option.some.injEq, Prod.mk.injEq] at h; obtain ⟨hg, h⟩ := h; cases h; exact f29_spec _ _ hg
  · cases h
/-! ### loop.example/g00465/laws.szToldS -/
noncomputable def f14c : Code := (Try.f14.body).getD .skip
def f14k : Nat → Kp := kat [⟨[0, 1], [], [], []⟩, ⟨[0, 1], [], [], []⟩, ⟨[0, 1, 11], [], [], []⟩, ⟨[4], [], [], []⟩, ⟨[0, 1, 5], [], [], []⟩, ⟨[0, 1, 5, 15], [], [], []⟩, ⟨[0, 1, 5], [], [], []⟩, ⟨[0, 1, 5], [], [], []⟩, ⟨[0, 1, 5, 25], [], [], []⟩, ⟨[4], [], [], []⟩, ⟨[4], [], [], []⟩]
noncomputable def f14e : Env := tab.env [(29, s29)]
noncomputable def f14L0 {R : Type} (n : Nat) (x0 : Option R) (x1 : Int → Int → Bool → Option R) (vs0 : List ToldT) : Nat → Int → Int → Option R
  | 0, _, _ => none
  | m + 1, vs1, vs5 =>
    (cond (decide (vs5 < (vs0.length : Int)))
      (cond ((decide ((0 : Int) ≤ vs5)) && (decide (vs5 < (vs0.length : Int))))
        (cond (gz_told (atI (t := .told) vs0 (Int.toNat vs5)) vs1)
          (cond (decide ((z_told (atI (t := .told) vs0 (Int.toNat vs5)) vs1) < (0 : Int)))
            (x0)
            (f14L0 n x0 x1 vs0 m (z_told (atI (t := .told) vs0 (Int.toNat vs5)) vs1) (IntKind.wrap .i64 (vs5 + (1 : Int)))))
          none)
        none)
      (x1 vs1 vs5 (decide (vs5 < (vs0.length : Int)))))
theorem f14L0_b {R : Type} (n : Nat) (k' : Ex → St → Option R) (vs0 : List ToldT) (vs1 : Int) (vs5 : Int) : ev f14e f14k n (cAt [1,1,1,0,1,0,0] f14c) ⟨[(0, .c (.one (.ro .told vs0))), (1, .c (.one (.v (.int .i64 vs1)))), (5, .c (.one (.v (.int .i64 vs5))))], [], []⟩ k' =
    (cond (decide (vs5 < (vs0.length : Int)))
    (cond ((decide ((0 : Int) ≤ vs5)) && (decide (vs5 < (vs0.length : Int))))
      (cond (gz_told (atI (t := .told) vs0 (Int.toNat vs5)) vs1)
        (cond (decide ((z_told (atI (t := .told) vs0 (Int.toNat vs5)) vs1) < (0 : Int)))
          (k' .ret ⟨[(4, .c (.one (.v (.int .i64 (-1 : Int)))))], [], []⟩)
          (k' .normal ⟨[(0, .c (.one (.ro .told vs0))), (1, .c (.one (.v (.int .i64 (z_told (atI (t := .told) vs0 (Int.toNat vs5)) vs1))))), (5, .c (.one (.v (.int .i64 (IntKind.wrap .i64 (vs5 + (1 : Int)))))))], [], []⟩))
        none)
      none)
    (k' (.exit 0) ⟨[(0, .c (.one (.ro .told vs0))), (1, .c (.one (.v (.int .i64 vs1)))), (5, .c (.one (.v (.int .i64 vs5)))), (15, .c (.one (.v (.bool (decide (vs5 < (vs0.length : Int)))))))], [], []⟩)) := by kernel_rfl
theorem f14L0_eq {R : Type} (n : Nat) (k' : Ex → St → Option R) (vs0 : List ToldT) : ∀ (m : Nat) (vs1 : Int) (vs5 : Int), iter (fun st k => ev f14e f14k n (cAt [1,1,1,0,1,0,0] f14c) st k) m ⟨[(0, .c (.one (.ro .told vs0))), (1, .c (.one (.v (.int .i64 vs1)))), (5, .c (.one (.v (.int .i64 vs5))))], [], []⟩ k' = f14L0 n (k' .ret ⟨[(4, .c (.one (.v (.int .i64 (-1 : Int)))))], [], []⟩) (fun (xvs1 : Int) (xvs5 : Int) (xvs15 : Bool) => k' (.exit 0) ⟨[(0, .c (.one (.ro .told vs0))), (1, .c (.one (.v (.int .i64 xvs1)))), (5, .c (.one (.v (.int .i64 xvs5)))), (15, .c (.one (.v (.bool xvs15))))], [], []⟩) vs0 m vs1 vs5 := by
  intro m; induction m with
  | zero => intros; rfl
  | succ m ih =>
    intro vs1 vs5
    simp only [iter]
    rw [f14L0_b]
    simp only [ih, f14L0]

noncomputable def f14K0 {R : Type} (n : Nat) (k' : Ex → St → Option R) : Ex → St → Option R := (blockK 0 (seqK f14e f14k n (cAt [1,1,1,1] f14c) k'))
theorem f14K0_x0 {R : Type} (n : Nat) (k : List Dt → Option R) (a0 : List ToldT) (a1 : Int)  : f14K0 n (exitK f14e [.ro, .ro] [false] true [.tmp 4] [3] [.d (.sl .told) a0, .d (.i .i64) a1] k) .ret ⟨[(4, .c (.one (.v (.int .i64 (-1 : Int)))))], [], []⟩ =
    (k [.d (.i .i64) (-1 : Int)]) := by kernel_rfl
theorem f14K0_x1 {R : Type} (n : Nat) (k : List Dt → Option R) (a0 : List ToldT) (a1 : Int) (vs0 : List ToldT) (xvs1 : Int) (xvs5 : Int) (xvs15 : Bool) : f14K0 n (exitK f14e [.ro, .ro] [false] true [.tmp 4] [3] [.d (.sl .told) a0, .d (.i .i64) a1] k) (.exit 0) ⟨[(0, .c (.one (.ro .told vs0))), (1, .c (.one (.v (.int .i64 xvs1)))), (5, .c (.one (.v (.int .i64 xvs5)))), (15, .c (.one (.v (.bool xvs15))))], [], []⟩ =
    (k [.d (.i .i64) xvs1]) := by kernel_rfl

theorem f14_run {R : Type} (n : Nat) (k : List Dt → Option R) (a0 : List ToldT) (a1 : Int) : evFn f14e f14k n f14c [.ro, .ro] [false] true [.tmp 4] [3] [.d (.sl .told) a0, .d (.i .i64) a1] k =
    (cond (decide ((IntKind.wrap .i64 (a1 - (a0.length : Int))) < (0 : Int)))
    (k [.d (.i .i64) (-1 : Int)])
    (f14L0 n (k [.d (.i .i64) (-1 : Int)]) (fun (xvs1 : Int) (xvs5 : Int) (xvs15 : Bool) =>
      (k [.d (.i .i64) xvs1])) a0 n (IntKind.wrap .i64 (a1 - (a0.length : Int))) (0 : Int))) := by
  refine Eq.trans (b := (cond (decide ((IntKind.wrap .i64 (a1 - (a0.length : Int))) < (0 : Int)))
    (k [.d (.i .i64) (-1 : Int)])
    (iter (fun st k => ev f14e f14k n (cAt [1,1,1,0,1,0,0] f14c) st k) n ⟨[(0, .c (.one (.ro .told a0))), (1, .c (.one (.v (.int .i64 (IntKind.wrap .i64 (a1 - (a0.length : Int))))))), (5, .c (.one (.v (.int .i64 (0 : Int)))))], [], []⟩ (f14K0 n (exitK f14e [.ro, .ro] [false] true [.tmp 4] [3] [.d (.sl .told) a0, .d (.i .i64) a1] k))))) (by kernel_rfl) ?_
  simp only [f14L0_eq, f14K0_x0, f14K0_x1]
theorem f14_spec (a0 : List ToldT) (a1 : Int) (hg : gzL_told a0 a1 = true) : ∃ keep rounds, ∀ {R : Type} (k : List Dt → Option R), evFn f14e keep rounds f14c [.ro, .ro] [false] true [.tmp 4] [3] [.d (.sl .told) a0, .d (.i .i64) a1] k = k [.d (.i .i64) (zL_told a0 a1)] := by
  simp only [gzL_told, okL, Bool.and_eq_true, okN_iff] at hg
  obtain ⟨⟨hl, hs⟩, hn⟩ := hg
  have hl : a0.length ≤ 9223372036854775807 := bleN hl
  refine ⟨f14k, a0.length + 1, fun k => ?_⟩
  rw [f14_run, wrap_id (x := a1 - (a0.length : Int)) (by omega) (by omega)]
  show _ = k [.d (.i .i64) (zL_told a0 a1)]
  unfold zL_told
  have eL : szL szN_told a0 = a0.length + (a0.map szN_told).sum := rfl
  by_cases hc : a1 - (a0.length : Int) < 0
  · simp only [hc, decide_true, cond_true]
    rw [szI_neg (by omega)]
  · simp only [hc, decide_false, cond_false]
    refine Eq.trans (loop_fold (xs := a0) (F := fun m j left => f14L0 (a0.length + 1) _ _ a0 m left (j : Int)) (step := szStep szN_told)
      (out := fun _ => k [.d (.i .i64) (-1 : Int)]) (good := fun left => k [.d (.i .i64) left]) (fun n => 0 ≤ n ∧ n ≤ 1048576)
      (fun x n n' hx hn h => by
        unfold szStep at h
        split at h
        · cases h
        · cases h; omega)
      (fun m j n x hx hn => ?_)
      (fun m n hn => by simp only [f14L0, idxE, cond_false]) a0.length 0 (a0.length + 1) (a1 - (a0.length : Int)) (by omega) (by omega) (by omega)) ?_
    · obtain ⟨h1, h0, hw, ht⟩ := idx (lt_of_get hx) (by omega)
      have hx2 := List.all_eq_true.1 hs x (List.mem_of_getElem? hx)
      have hg2 : gz_told x n = true := by simp only [gz_told, Bool.and_eq_true, okN_iff]; exact ⟨hx2, by omega, by omega⟩
      have hz : z_told x n = szI (szN_told x) n := rfl
      simp only [f14L0, h1, h0, hw, ht, atI_of (t := .told) hx, Bool.and_self, cond_true, hg2, hz]
      unfold szStep
      by_cases h : n - (szN_told x : Int) < 0
      · rw [szI_neg h]; simp only [h, if_true, Sum.elim_inl]; rfl
      · rw [szI_pos h]; simp only [h, decide_false, cond_false, if_false, Sum.elim_inr]
    · rw [List.drop_zero, sz_fold _ _ _ (by omega)]
      by_cases h2 : a1 - (a0.length : Int) - ((a0.map szN_told).sum : Nat) < 0
      · rw [if_pos h2, szI_neg (by omega)]; rfl
      · rw [if_neg h2, szI_pos (by omega)]
        simp only [Sum.elim_inr]
        rw [show a1 - (a0.length : Int) - ((a0.map szN_told).sum : Nat) = a1 - (szL szN_told a0 : Nat) by omega]

noncomputable def q14 : List Dt → Option (Bool × List Dt)
  | [.d (.sl .told) a0, .d (.i .i64) a1] => some ((gzL_told a0 a1), [.d (.i .i64) (zL_told a0 a1)])
  | _ => none
noncomputable def s14 : Gm.Spec := Gm.Spec.of [.ro, .ro] [false] true q14
theorem good14 : Gm.Good Try.prog (14, s14) := by
  have hl : ∀ x ∈ [(29, s29)], Gm.Good Try.prog x := List.forall_mem_cons.2 ⟨good29, List.forall_mem_nil _⟩
  refine ⟨⟨spec_ok (tab_ok.env hl) (tab.natl hl) Try.func14 (by kernel_rfl : Try.f14.body = some f14c) [3] (by kernel_rfl) ?_, _, Try.func14, by kernel_rfl, of_decide_eq_true (by kernel_rfl)⟩, Gm.Spec.of_natl _ _ _ _⟩
  intro ds outs h
  unfold q14 at h
  split at h
  · simp only [Option.some.injEq, Prod.mk.injEq] at h; obtain ⟨hg, h⟩ := h; cases h; exact f14_spec _ _ hg
  · cases h
/-! ### loop.example/g00465/laws.szWorld -/
noncomputable def f5c : Code := (Try.f5.body).getD .skip
def f5k : Nat → Kp := kat [⟨[1, 2], [], [], []⟩, ⟨[1, 2], [], [], []⟩, ⟨[1, 2, 10], [], [], []⟩, ⟨[4], [], [], []⟩, ⟨[1, 2], [], [], []⟩, ⟨[1, 2, 16], [], [], []⟩, ⟨[4], [], [], []⟩, ⟨[1], [], [], []⟩, ⟨[1, 22], [], [], []⟩, ⟨[4], [], [], []⟩, ⟨[4], [], [], []⟩]
noncomputable def f5e : Env := tab.env [(12, s12), (13, s13), (14, s14)]
theorem f5_run {R : Type} (n : Nat) (k : List Dt → Option R) (a0 : WorldT) (a1 : Int) : evFn f5e f5k n f5c [.ro, .ro] [false] true [.tmp 4] [3] [.d .world a0, .d (.i .i64) a1] k =
    (cond (gz_store (WorldT.store a0) a1)
    (cond (decide ((z_store (WorldT.store a0) a1) < (0 : Int)))
      (k [.d (.i .i64) (-1 : Int)])
      (cond (gzL_scale (WorldT.scales a0) (z_store (WorldT.store a0) a1))
        (cond (decide ((zL_scale (WorldT.scales a0) (z_store (WorldT.store a0) a1)) < (0 : Int)))
          (k [.d (.i .i64) (-1 : Int)])
          (cond (gzL_told (WorldT.log a0) (zL_scale (WorldT.scales a0) (z_store (WorldT.store a0) a1)))
            (cond (decide ((zL_told (WorldT.log a0) (zL_scale (WorldT.scales a0) (z_store (WorldT.store a0) a1))) < (0 : Int)))
              (k [.d (.i .i64) (-1 : Int)])
              (k [.d (.i .i64) (zL_told (WorldT.log a0) (zL_scale (WorldT.scales a0) (z_store (WorldT.store a0) a1)))]))
            none))
        none))
    none) := by kernel_rfl
theorem f5_spec (a0 : WorldT) (a1 : Int) (hg : gz_world a0 a1 = true) : ∃ keep rounds, ∀ {R : Type} (k : List Dt → Option R), evFn f5e keep rounds f5c [.ro, .ro] [false] true [.tmp 4] [3] [.d .world a0, .d (.i .i64) a1] k = k [.d (.i .i64) (z_world a0 a1)] := by
  simp only [gz_world, ok_world, Bool.and_eq_true, okN_iff] at hg
  obtain ⟨⟨hf_store, hf_scales, hf_time, hf_log⟩, hn1, hn2⟩ := hg
  have eN : szN_world a0 = szN_store a0.store + szL szN_scale a0.scales + szL szN_told a0.log := rfl
  refine ⟨f5k, 0, fun k => ?_⟩
  rw [f5_run]
  show _ = k [.d (.i .i64) (z_world a0 a1)]
  unfold z_world
  have g1 : gz_store a0.store a1 = true := by simp only [gz_store, Bool.and_eq_true, okN_iff]; exact ⟨hf_store, by omega, by omega⟩
  have z2 : z_store a0.store a1 = szI (szN_store a0.store) a1 := rfl
  rw [g1, z2]
  by_cases h2 : a1 - ((szN_store a0.store : Nat) : Int) < 0
  · rw [szI_neg h2, szI_neg (by omega)]; rfl
  rw [szI_pos h2]
  simp only [cond_true, h2, decide_false, cond_false]
  have g3 : gzL_scale a0.scales (a1 - ((szN_store a0.store : Nat) : Int)) = true := by simp only [gzL_scale, Bool.and_eq_true, okN_iff]; exact ⟨hf_scales, by omega, by omega⟩
  have z4 : zL_scale a0.scales (a1 - ((szN_store a0.store : Nat) : Int)) = szI (szL szN_scale a0.scales) (a1 - ((szN_store a0.store : Nat) : Int)) := rfl
  rw [g3, z4]
  by_cases h4 : (a1 - ((szN_store a0.store : Nat) : Int)) - ((szL szN_scale a0.scales : Nat) : Int) < 0
  · rw [szI_neg h4, szI_neg (by omega)]; rfl
  rw [szI_pos h4]
  simp only [cond_true, h4, decide_false, cond_false]
  have g5 : gzL_told a0.log ((a1 - ((szN_store a0.store : Nat) : Int)) - ((szL szN_scale a0.scales : Nat) : Int)) = true := by simp only [gzL_told, Bool.and_eq_true, okN_iff]; exact ⟨hf_log, by omega, by omega⟩
  have z6 : zL_told a0.log ((a1 - ((szN_store a0.store : Nat) : Int)) - ((szL szN_scale a0.scales : Nat) : Int)) = szI (szL szN_told a0.log) ((a1 - ((szN_store a0.store : Nat) : Int)) - ((szL szN_scale a0.scales : Nat) : Int)) := rfl
  rw [g5, z6]
  by_cases h6 : ((a1 - ((szN_store a0.store : Nat) : Int)) - ((szL szN_scale a0.scales : Nat) : Int)) - ((szL szN_told a0.log : Nat) : Int) < 0
  · rw [szI_neg h6, szI_neg (by omega)]; rfl
  rw [szI_pos h6]
  simp only [cond_true, h6, decide_false, cond_false]
  rw [szI_pos (by omega)]
  first
    | rfl
    | rw [show (((a1 - ((szN_store a0.store : Nat) : Int)) - ((szL szN_scale a0.scales : Nat) : Int)) - ((szL szN_told a0.log : Nat) : Int)) = a1 - ((szN_world a0 : Nat) : Int) by omega]

noncomputable def q5 : List Dt → Option (Bool × List Dt)
  | [.d .world a0, .d (.i .i64) a1] => some ((gz_world a0 a1), [.d (.i .i64) (z_world a0 a1)])
  | _ => none
noncomputable def s5 : Gm.Spec := Gm.Spec.of [.ro, .ro] [false] true q5
theorem good5 : Gm.Good Try.prog (5, s5) := by
  have hl : ∀ x ∈ [(12, s12), (13, s13), (14, s14)], Gm.Good Try.prog x := List.forall_mem_cons.2 ⟨good12, List.forall_mem_cons.2 ⟨good13, List.forall_mem_cons.2 ⟨good14, List.forall_mem_nil _⟩⟩⟩
  refine ⟨⟨spec_ok (tab_ok.env hl) (tab.natl hl) Try.func5 (by kernel_rfl : Try.f5.body = some f5c) [3] (by kernel_rfl) ?_, _, Try.func5, by kernel_rfl, of_decide_eq_true (by kernel_rfl)⟩, Gm.Spec.of_natl _ _ _ _⟩
  intro ds outs h
  unfold q5 at h
  split at h
  · simp only [Option.some.injEq, Prod.mk.injEq] at h; obtain ⟨hg, h⟩ := h; cases h; exact f5_spec _ _ hg
  · cases h
/-! ### loop.example/g00465/laws.toMetric -/
noncomputable def f89c : Code := (Try.f89.body).getD .skip
def f89k : Nat → Kp := kat [⟨[1, 2], [], [], []⟩, ⟨[1, 2, 3], [], [], []⟩, ⟨[1, 2, 3], [], [], []⟩, ⟨[1, 2, 3], [], [], []⟩, ⟨[2, 3], [], [], []⟩, ⟨[2], [], [], []⟩]
noncomputable def f89e : Env := tab.env []
theorem f89_run {R : Type} (n : Nat) (k : List Dt → Option R) (a0 : MetricT) : evFn f89e f89k n f89c [.ro] [false] true [.cell 2 111] [111] [.d .metric a0] k =
    (k [.d .metric a0]) := by kernel_rfl
theorem f89_spec (a0 : MetricT) (hg : sm_metric a0 = true) : ∃ keep rounds, ∀ {R : Type} (k : List Dt → Option R), evFn f89e keep rounds f89c [.ro] [false] true [.cell 2 111] [111] [.d .metric a0] k = k [.d .metric a0] := by
  exact ⟨f89k, 0, fun k => f89_run 0 k a0⟩

noncomputable def q89 : List Dt → Option (Bool × List Dt)
  | [.d .metric a0] => some ((sm_metric a0), [.d .metric a0])
  | _ => none
noncomputable def s89 : Gm.Spec := Gm.Spec.of [.ro] [false] true q89
theorem good89 : Gm.Good Try.prog (89, s89) := by
  have hl : ∀ x ∈ ([] : List (Nat × Gm.Spec)), Gm.Good Try.prog x := fun _ h => by cases h
  refine ⟨⟨spec_ok (tab_ok.env hl) (tab.natl hl) Try.func89 (by kernel_rfl : Try.f89.body = some f89c) [111] (by kernel_rfl) ?_, _, Try.func89, by kernel_rfl, of_decide_eq_true (by kernel_rfl)⟩, Gm.Spec.of_natl _ _ _ _⟩
  intro ds outs h
  unfold q89 at h
  split at h
  · simp only [Option.some.injEq, Prod.mk.injEq] at h; obtain ⟨hg, h⟩ := h; cases h; exact f89_spec _ hg
  · cases h
/-! ### loop.example/g00465/laws.toMetricS -/
noncomputable def f77c : Code := (Try.f77.body).getD .skip
def f77k : Nat → Kp := kat [⟨[0], [], [], []⟩, ⟨[0, 3], [], [], []⟩, ⟨[0, 3, 4], [], [], []⟩, ⟨[0, 3, 4, 11], [], [], []⟩, ⟨[0, 3, 4], [], [], []⟩, ⟨[0, 3, 4], [], [], []⟩, ⟨[2], [], [], []⟩]
noncomputable def f77e : Env := tab.env [(89, s89)]
noncomputable def f77L0 {R : Type} (n : Nat) (x0 : Int → Bool → (List MetricT) → Option R) (vs0 : List MetricT) : Nat → Int → (List MetricT) → Option R
  | 0, _, _ => none
  | m + 1, vs4, vr448 =>
    (cond (decide (vs4 < (vs0.length : Int)))
      (cond ((decide ((0 : Int) ≤ vs4)) && (decide (vs4 < (vs0.length : Int))))
        (cond (sm_metric (atI (t := .metric) vs0 (Int.toNat vs4)))
          (cond ((decide ((0 : Int) ≤ vs4)) && (decide (vs4 < (vr448.length : Int))))
            (f77L0 n x0 vs0 m (IntKind.wrap .i64 (vs4 + (1 : Int))) (vr448.set (Int.toNat vs4) (atI (t := .metric) vs0 (Int.toNat vs4))))
            none)
          none)
        none)
      (x0 vs4 (decide (vs4 < (vs0.length : Int))) vr448))
theorem f77L0_b {R : Type} (n : Nat) (k' : Ex → St → Option R) (vs0 : List MetricT) (vs4 : Int) (vr448 : List MetricT) : ev f77e f77k n (cAt [1,1,0,1,0,0] f77c) ⟨[(0, .c (.one (.ro .metric vs0))), (3, .c (.one (.h 448 0 0 []))), (4, .c (.one (.v (.int .i64 vs4))))], [], [(448, .live ⟨.metric, .deep, 0, [], vr448⟩)]⟩ k' =
    (cond (decide (vs4 < (vs0.length : Int)))
    (cond ((decide ((0 : Int) ≤ vs4)) && (decide (vs4 < (vs0.length : Int))))
      (cond (sm_metric (atI (t := .metric) vs0 (Int.toNat vs4)))
        (cond ((decide ((0 : Int) ≤ vs4)) && (decide (vs4 < (vr448.length : Int))))
          (k' .normal ⟨[(0, .c (.one (.ro .metric vs0))), (3, .c (.one (.h 448 0 0 []))), (4, .c (.one (.v (.int .i64 (IntKind.wrap .i64 (vs4 + (1 : Int)))))))], [], [(448, .live ⟨.metric, .deep, 0, [], (vr448.set (Int.toNat vs4) (atI (t := .metric) vs0 (Int.toNat vs4)))⟩)]⟩)
          none)
        none)
      none)
    (k' (.exit 0) ⟨[(0, .c (.one (.ro .metric vs0))), (3, .c (.one (.h 448 0 0 []))), (4, .c (.one (.v (.int .i64 vs4)))), (11, .c (.one (.v (.bool (decide (vs4 < (vs0.length : Int)))))))], [], [(448, .live ⟨.metric, .deep, 0, [], vr448⟩)]⟩)) := by kernel_rfl
theorem f77L0_eq {R : Type} (n : Nat) (k' : Ex → St → Option R) (vs0 : List MetricT) : ∀ (m : Nat) (vs4 : Int) (vr448 : List MetricT), iter (fun st k => ev f77e f77k n (cAt [1,1,0,1,0,0] f77c) st k) m ⟨[(0, .c (.one (.ro .metric vs0))), (3, .c (.one (.h 448 0 0 []))), (4, .c (.one (.v (.int .i64 vs4))))], [], [(448, .live ⟨.metric, .deep, 0, [], vr448⟩)]⟩ k' = f77L0 n (fun (xvs4 : Int) (xvs11 : Bool) (xvr448 : List MetricT) => k' (.exit 0) ⟨[(0, .c (.one (.ro .metric vs0))), (3, .c (.one (.h 448 0 0 []))), (4, .c (.one (.v (.int .i64 xvs4)))), (11, .c (.one (.v (.bool xvs11))))], [], [(448, .live ⟨.metric, .deep, 0, [], xvr448⟩)]⟩) vs0 m vs4 vr448 := by
  intro m; induction m with
  | zero => intros; rfl
  | succ m ih =>
    intro vs4 vr448
    simp only [iter]
    rw [f77L0_b]
    simp only [ih, f77L0]

noncomputable def f77K0 {R : Type} (n : Nat) (k' : Ex → St → Option R) : Ex → St → Option R := (blockK 0 (seqK f77e f77k n (cAt [1,1,1] f77c) k'))
theorem f77K0_x0 {R : Type} (n : Nat) (k : List Dt → Option R) (a0 : List MetricT) (vs0 : List MetricT) (xvs4 : Int) (xvs11 : Bool) (xvr448 : List MetricT) : f77K0 n (exitK f77e [.ro] [false] true [.tmp 2] [56] [.d (.sl .metric) a0] k) (.exit 0) ⟨[(0, .c (.one (.ro .metric vs0))), (3, .c (.one (.h 448 0 0 []))), (4, .c (.one (.v (.int .i64 xvs4)))), (11, .c (.one (.v (.bool xvs11))))], [], [(448, .live ⟨.metric, .deep, 0, [], xvr448⟩)]⟩ =
    (k [.d (.sl .metric) xvr448]) := by kernel_rfl

theorem f77_run {R : Type} (n : Nat) (k : List Dt → Option R) (a0 : List MetricT) : evFn f77e f77k n f77c [.ro] [false] true [.tmp 2] [56] [.d (.sl .metric) a0] k =
    (cond ((decide ((a0.length : Int) = (a0.length : Int))) && ((decide ((0 : Int) ≤ (a0.length : Int))) && (decide ((a0.length : Int) ≤ (LIM : Int)))))
    (f77L0 n (fun (xvs4 : Int) (xvs11 : Bool) (xvr448 : List MetricT) =>
      (k [.d (.sl .metric) xvr448])) a0 n (0 : Int) (List.replicate (Int.toNat (a0.length : Int)) (⟨ByteArray.empty, (0 : Int), (0 : Int)⟩ : MetricT)))
    none) := by
  refine Eq.trans (b := (cond ((decide ((a0.length : Int) = (a0.length : Int))) && ((decide ((0 : Int) ≤ (a0.length : Int))) && (decide ((a0.length : Int) ≤ (LIM : Int)))))
    (iter (fun st k => ev f77e f77k n (cAt [1,1,0,1,0,0] f77c) st k) n ⟨[(0, .c (.one (.ro .metric a0))), (3, .c (.one (.h 448 0 0 []))), (4, .c (.one (.v (.int .i64 (0 : Int)))))], [], [(448, .live ⟨.metric, .deep, 0, [], (List.replicate (Int.toNat (a0.length : Int)) (⟨ByteArray.empty, (0 : Int), (0 : Int)⟩ : MetricT))⟩)]⟩ (f77K0 n (exitK f77e [.ro] [false] true [.tmp 2] [56] [.d (.sl .metric) a0] k)))
    none)) (by kernel_rfl) ?_
  simp only [f77L0_eq, f77K0_x0]
theorem f77_spec (a0 : List MetricT) (hg : smL sm_metric a0 = true) : ∃ keep rounds, ∀ {R : Type} (k : List Dt → Option R), evFn f77e keep rounds f77c [.ro] [false] true [.tmp 2] [56] [.d (.sl .metric) a0] k = k [.d (.sl .metric) a0] := by
  have hl : a0.length ≤ 1048576 := smL_len hg
  have hs := smL_all hg
  refine ⟨f77k, a0.length + 1, fun k => ?_⟩
  rw [f77_run, mkOk hl]
  simp only [cond_true]
  have := loop_copy (xs := a0) (f := fun x => x) (F := fun m j out => f77L0 (a0.length + 1) (fun (xvs4 : Int) (xvs11 : Bool) (xvr448 : List MetricT) => (k [.d (.sl .metric) xvr448])) a0 m (j : Int) out) (good := fun out => k [.d (.sl .metric) out]) (⟨ByteArray.empty, (0 : Int), (0 : Int)⟩ : MetricT)
    (fun m j out x hx hl' => by
      obtain ⟨h1, h0, hw, ht⟩ := idx (lt_of_get hx) (by omega)
      obtain ⟨h2, _, _, _⟩ := idx (show j < out.length by rw [hl']; exact lt_of_get hx) (by omega)
      have hx2 := List.all_eq_true.1 hs x (List.mem_of_getElem? hx)
      simp only [f77L0, h1, h0, h2, hw, ht, atI_of (t := .metric) hx, Bool.and_self, cond_true, hx2])
    (fun m out => by simp only [f77L0, idxE, cond_false]) a0.length 0 (a0.length + 1) (by omega) (by omega)
  simpa using this

noncomputable def q77 : List Dt → Option (Bool × List Dt)
  | [.d (.sl .metric) a0] => some ((smL sm_metric a0), [.d (.sl .metric) a0])
  | _ => none
noncomputable def s77 : Gm.Spec := Gm.Spec.of [.ro] [false] true q77
theorem good77 : Gm.Good Try.prog (77, s77) := by
  have hl : ∀ x ∈ [(89, s89)], Gm.Good Try.prog x := List.forall_mem_cons.2 ⟨good89, List.forall_mem_nil _⟩
  refine ⟨⟨spec_ok (tab_ok.env hl) (tab.natl hl) Try.func77 (by kernel_rfl : Try.f77.body = some f77c) [56] (by kernel_rfl) ?_, _, Try.func77, by kernel_rfl, of_decide_eq_true (by kernel_rfl)⟩, Gm.Spec.of_natl _ _ _ _⟩
  intro ds outs h
  unfold q77 at h
  split at h
  · simp only [Option.some.injEq, Prod.mk.injEq] at h; obtain ⟨hg, h⟩ := h; cases h; exact f77_spec _ hg
  · cases h
/-! ### loop.example/g00465/laws.toPace -/
noncomputable def f78c : Code := (Try.f78.body).getD .skip
def f78k : Nat → Kp := kat [⟨[1, 2], [], [], []⟩, ⟨[1, 2, 3], [], [], []⟩, ⟨[1, 2, 3], [], [], []⟩, ⟨[1, 2, 3], [], [], []⟩, ⟨[1, 2, 3], [], [], []⟩, ⟨[2, 3], [], [], []⟩, ⟨[2], [], [], []⟩]
noncomputable def f78e : Env := tab.env []
theorem f78_run {R : Type} (n : Nat) (k : List Dt → Option R) (a0 : PaceT) : evFn f78e f78k n f78c [.ro] [false] true [.cell 2 58] [58] [.d .pace a0] k =
    (k [.d .pace a0]) := by kernel_rfl
theorem f78_spec (a0 : PaceT) (hg : sm_pace a0 = true) : ∃ keep rounds, ∀ {R : Type} (k : List Dt → Option R), evFn f78e keep rounds f78c [.ro] [false] true [.cell 2 58] [58] [.d .pace a0] k = k [.d .pace a0] := by
  exact ⟨f78k, 0, fun k => f78_run 0 k a0⟩

noncomputable def q78 : List Dt → Option (Bool × List Dt)
  | [.d .pace a0] => some ((sm_pace a0), [.d .pace a0])
  | _ => none
noncomputable def s78 : Gm.Spec := Gm.Spec.of [.ro] [false] true q78
theorem good78 : Gm.Good Try.prog (78, s78) := by
  have hl : ∀ x ∈ ([] : List (Nat × Gm.Spec)), Gm.Good Try.prog x := fun _ h => by cases h
  refine ⟨⟨spec_ok (tab_ok.env hl) (tab.natl hl) Try.func78 (by kernel_rfl : Try.f78.body = some f78c) [58] (by kernel_rfl) ?_, _, Try.func78, by kernel_rfl, of_decide_eq_true (by kernel_rfl)⟩, Gm.Spec.of_natl _ _ _ _⟩
  intro ds outs h
  unfold q78 at h
  split at h
  · simp only [Option.some.injEq, Prod.mk.injEq] at h; obtain ⟨hg, h⟩ := h; cases h; exact f78_spec _ hg
  · cases h
/-! ### loop.example/g00465/laws.toNote -/
noncomputable def f90c : Code := (Try.f90.body).getD .skip
def f90k : Nat → Kp := kat [⟨[1, 2], [], [], []⟩, ⟨[1, 2, 3], [], [], []⟩, ⟨[1, 2, 3], [], [], []⟩, ⟨[2, 3], [], [], []⟩, ⟨[2], [], [], []⟩]
noncomputable def f90e : Env := tab.env []
theorem f90_run {R : Type} (n : Nat) (k : List Dt → Option R) (a0 : NoteT) : evFn f90e f90k n f90c [.ro] [false] true [.cell 2 119] [119] [.d .note a0] k =
    (k [.d .note a0]) := by kernel_rfl
theorem f90_spec (a0 : NoteT) (hg : sm_note a0 = true) : ∃ keep rounds, ∀ {R : Type} (k : List Dt → Option R), evFn f90e keep rounds f90c [.ro] [false] true [.cell 2 119] [119] [.d .note a0] k = k [.d .note a0] := by
  exact ⟨f90k, 0, fun k => f90_run 0 k a0⟩

noncomputable def q90 : List Dt → Option (Bool × List Dt)
  | [.d .note a0] => some ((sm_note a0), [.d .note a0])
  | _ => none
noncomputable def s90 : Gm.Spec := Gm.Spec.of [.ro] [false] true q90
theorem good90 : Gm.Good Try.prog (90, s90) := by
  have hl : ∀ x ∈ ([] : List (Nat × Gm.Spec)), Gm.Good Try.prog x := fun _ h => by cases h
  refine ⟨⟨spec_ok (tab_ok.env hl) (tab.natl hl) Try.func90 (by kernel_rfl : Try.f90.body = some f90c) [119] (by kernel_rfl) ?_, _, Try.func90, by kernel_rfl, of_decide_eq_true (by kernel_rfl)⟩, Gm.Spec.of_natl _ _ _ _⟩
  intro ds outs h
  unfold q90 at h
  split at h
  · simp only [Option.some.injEq, Prod.mk.injEq] at h; obtain ⟨hg, h⟩ := h; cases h; exact f90_spec _ hg
  · cases h
/-! ### loop.example/g00465/laws.toNoteS -/
noncomputable def f79c : Code := (Try.f79.body).getD .skip
def f79k : Nat → Kp := kat [⟨[0], [], [], []⟩, ⟨[0, 3], [], [], []⟩, ⟨[0, 3, 4], [], [], []⟩, ⟨[0, 3, 4, 11], [], [], []⟩, ⟨[0, 3, 4], [], [], []⟩, ⟨[0, 3, 4], [], [], []⟩, ⟨[2], [], [], []⟩]
noncomputable def f79e : Env := tab.env [(90, s90)]
noncomputable def f79L0 {R : Type} (n : Nat) (x0 : Int → Bool → (List NoteT) → Option R) (vs0 : List NoteT) : Nat → Int → (List NoteT) → Option R
  | 0, _, _ => none
  | m + 1, vs4, vr448 =>
    (cond (decide (vs4 < (vs0.length : Int)))
      (cond ((decide ((0 : Int) ≤ vs4)) && (decide (vs4 < (vs0.length : Int))))
        (cond (sm_note (atI (t := .note) vs0 (Int.toNat vs4)))
          (cond ((decide ((0 : Int) ≤ vs4)) && (decide (vs4 < (vr448.length : Int))))
            (f79L0 n x0 vs0 m (IntKind.wrap .i64 (vs4 + (1 : Int))) (vr448.set (Int.toNat vs4) (atI (t := .note) vs0 (Int.toNat vs4))))
            none)
          none)
        none)
      (x0 vs4 (decide (vs4 < (vs0.length : Int))) vr448))
theorem f79L0_b {R : Type} (n : Nat) (k' : Ex → St → Option R) (vs0 : List NoteT) (vs4 : Int) (vr448 : List NoteT) : ev f79e f79k n (cAt [1,1,0,1,0,0] f79c) ⟨[(0, .c (.one (.ro .note vs0))), (3, .c (.one (.h 448 0 0 []))), (4, .c (.one (.v (.int .i64 vs4))))], [], [(448, .live ⟨.note, .deep, 0, [], vr448⟩)]⟩ k' =
    (cond (decide (vs4 < (vs0.length : Int)))
    (cond ((decide ((0 : Int) ≤ vs4)) && (decide (vs4 < (vs0.length : Int))))
      (cond (sm_note (atI (t := .note) vs0 (Int.toNat vs4)))
        (cond ((decide ((0 : Int) ≤ vs4)) && (decide (vs4 < (vr448.length : Int))))
          (k' .normal ⟨[(0, .c (.one (.ro .note vs0))), (3, .c (.one (.h 448 0 0 []))), (4, .c (.one (.v (.int .i64 (IntKind.wrap .i64 (vs4 + (1 : Int)))))))], [], [(448, .live ⟨.note, .deep, 0, [], (vr448.set (Int.toNat vs4) (atI (t := .note) vs0 (Int.toNat vs4)))⟩)]⟩)
          none)
        none)
      none)
    (k' (.exit 0) ⟨[(0, .c (.one (.ro .note vs0))), (3, .c (.one (.h 448 0 0 []))), (4, .c (.one (.v (.int .i64 vs4)))), (11, .c (.one (.v (.bool (decide (vs4 < (vs0.length : Int)))))))], [], [(448, .live ⟨.note, .deep, 0, [], vr448⟩)]⟩)) := by kernel_rfl
theorem f79L0_eq {R : Type} (n : Nat) (k' : Ex → St → Option R) (vs0 : List NoteT) : ∀ (m : Nat) (vs4 : Int) (vr448 : List NoteT), iter (fun st k => ev f79e f79k n (cAt [1,1,0,1,0,0] f79c) st k) m ⟨[(0, .c (.one (.ro .note vs0))), (3, .c (.one (.h 448 0 0 []))), (4, .c (.one (.v (.int .i64 vs4))))], [], [(448, .live ⟨.note, .deep, 0, [], vr448⟩)]⟩ k' = f79L0 n (fun (xvs4 : Int) (xvs11 : Bool) (xvr448 : List NoteT) => k' (.exit 0) ⟨[(0, .c (.one (.ro .note vs0))), (3, .c (.one (.h 448 0 0 []))), (4, .c (.one (.v (.int .i64 xvs4)))), (11, .c (.one (.v (.bool xvs11))))], [], [(448, .live ⟨.note, .deep, 0, [], xvr448⟩)]⟩) vs0 m vs4 vr448 := by
  intro m; induction m with
  | zero => intros; rfl
  | succ m ih =>
    intro vs4 vr448
    simp only [iter]
    rw [f79L0_b]
    simp only [ih, f79L0]

noncomputable def f79K0 {R : Type} (n : Nat) (k' : Ex → St → Option R) : Ex → St → Option R := (blockK 0 (seqK f79e f79k n (cAt [1,1,1] f79c) k'))
theorem f79K0_x0 {R : Type} (n : Nat) (k : List Dt → Option R) (a0 : List NoteT) (vs0 : List NoteT) (xvs4 : Int) (xvs11 : Bool) (xvr448 : List NoteT) : f79K0 n (exitK f79e [.ro] [false] true [.tmp 2] [59] [.d (.sl .note) a0] k) (.exit 0) ⟨[(0, .c (.one (.ro .note vs0))), (3, .c (.one (.h 448 0 0 []))), (4, .c (.one (.v (.int .i64 xvs4)))), (11, .c (.one (.v (.bool xvs11))))], [], [(448, .live ⟨.note, .deep, 0, [], xvr448⟩)]⟩ =
    (k [.d (.sl .note) xvr448]) := by kernel_rfl

theorem f79_run {R : Type} (n : Nat) (k : List Dt → Option R) (a0 : List NoteT) : evFn f79e f79k n f79c [.ro] [false] true [.tmp 2] [59] [.d (.sl .note) a0] k =
    (cond ((decide ((a0.length : Int) = (a0.length : Int))) && ((decide ((0 : Int) ≤ (a0.length : Int))) && (decide ((a0.length : Int) ≤ (LIM : Int)))))
    (f79L0 n (fun (xvs4 : Int) (xvs11 : Bool) (xvr448 : List NoteT) =>
      (k [.d (.sl .note) xvr448])) a0 n (0 : Int) (List.replicate (Int.toNat (a0.length : Int)) (⟨ByteArray.empty, ByteArray.empty⟩ : NoteT)))
    none) := by
  refine Eq.trans (b := (cond ((decide ((a0.length : Int) = (a0.length : Int))) && ((decide ((0 : Int) ≤ (a0.length : Int))) && (decide ((a0.length : Int) ≤ (LIM : Int)))))
    (iter (fun st k => ev f79e f79k n (cAt [1,1,0,1,0,0] f79c) st k) n ⟨[(0, .c (.one (.ro .note a0))), (3, .c (.one (.h 448 0 0 []))), (4, .c (.one (.v (.int .i64 (0 : Int)))))], [], [(448, .live ⟨.note, .deep, 0, [], (List.replicate (Int.toNat (a0.length : Int)) (⟨ByteArray.empty, ByteArray.empty⟩ : NoteT))⟩)]⟩ (f79K0 n (exitK f79e [.ro] [false] true [.tmp 2] [59] [.d (.sl .note) a0] k)))
    none)) (by kernel_rfl) ?_
  simp only [f79L0_eq, f79K0_x0]
theorem f79_spec (a0 : List NoteT) (hg : smL sm_note a0 = true) : ∃ keep rounds, ∀ {R : Type} (k : List Dt → Option R), evFn f79e keep rounds f79c [.ro] [false] true [.tmp 2] [59] [.d (.sl .note) a0] k = k [.d (.sl .note) a0] := by
  have hl : a0.length ≤ 1048576 := smL_len hg
  have hs := smL_all hg
  refine ⟨f79k, a0.length + 1, fun k => ?_⟩
  rw [f79_run, mkOk hl]
  simp only [cond_true]
  have := loop_copy (xs := a0) (f := fun x => x) (F := fun m j out => f79L0 (a0.length + 1) (fun (xvs4 : Int) (xvs11 : Bool) (xvr448 : List NoteT) => (k [.d (.sl .note) xvr448])) a0 m (j : Int) out) (good := fun out => k [.d (.sl .note) out]) (⟨ByteArray.empty, ByteArray.empty⟩ : NoteT)
    (fun m j out x hx hl' => by
      obtain ⟨h1, h0, hw, ht⟩ := idx (lt_of_get hx) (by omega)
      obtain ⟨h2, _, _, _⟩ := idx (show j < out.length by rw [hl']; exact lt_of_get hx) (by omega)
      have hx2 := List.all_eq_true.1 hs x (List.mem_of_getElem? hx)
      simp only [f79L0, h1, h0, h2, hw, ht, atI_of (t := .note) hx, Bool.and_self, cond_true, hx2])
    (fun m out => by simp only [f79L0, idxE, cond_false]) a0.length 0 (a0.length + 1) (by omega) (by omega)
  simpa using this

noncomputable def q79 : List Dt → Option (Bool × List Dt)
  | [.d (.sl .note) a0] => some ((smL sm_note a0), [.d (.sl .note) a0])
  | _ => none
noncomputable def s79 : Gm.Spec := Gm.Spec.of [.ro] [false] true q79
theorem good79 : Gm.Good Try.prog (79, s79) := by
  have hl : ∀ x ∈ [(90, s90)], Gm.Good Try.prog x := List.forall_mem_cons.2 ⟨good90, List.forall_mem_nil _⟩
  refine ⟨⟨spec_ok (tab_ok.env hl) (tab.natl hl) Try.func79 (by kernel_rfl : Try.f79.body = some f79c) [59] (by kernel_rfl) ?_, _, Try.func79, by kernel_rfl, of_decide_eq_true (by kernel_rfl)⟩, Gm.Spec.of_natl _ _ _ _⟩
  intro ds outs h
  unfold q79 at h
  split at h
  · simp only [Option.some.injEq, Prod.mk.injEq] at h; obtain ⟨hg, h⟩ := h; cases h; exact f79_spec _ hg
  · cases h
/-! ### loop.example/g00465/laws.toOrder -/
noncomputable def f63c : Code := (Try.f63.body).getD .skip
def f63k : Nat → Kp := kat [⟨[1, 2], [], [], []⟩, ⟨[1, 2, 3], [], [], []⟩, ⟨[1, 2, 3], [], [], []⟩, ⟨[1, 2, 3], [], [], []⟩, ⟨[1, 2, 3], [], [], []⟩, ⟨[1, 2, 3], [], [], []⟩, ⟨[1, 2, 3], [], [], []⟩, ⟨[1, 2, 3], [], [], []⟩, ⟨[2, 3], [], [], []⟩, ⟨[2], [], [], []⟩]
noncomputable def f63e : Env := tab.env [(77, s77), (78, s78), (79, s79)]
theorem f63_run {R : Type} (n : Nat) (k : List Dt → Option R) (a0 : OrderT) : evFn f63e f63k n f63c [.ro] [false] true [.cell 2 61] [61] [.d .order a0] k =
    (cond (smL sm_metric (OrderT.metrics a0))
    (cond (sm_pace (OrderT.pace a0))
      (cond (smL sm_note (OrderT.notes a0))
        (k [.d .order a0])
        none)
      none)
    none) := by kernel_rfl
theorem f63_spec (a0 : OrderT) (hg : sm_order a0 = true) : ∃ keep rounds, ∀ {R : Type} (k : List Dt → Option R), evFn f63e keep rounds f63c [.ro] [false] true [.cell 2 61] [61] [.d .order a0] k = k [.d .order a0] := by
  simp only [sm_order, Bool.and_eq_true] at hg
  refine ⟨f63k, 0, fun k => ?_⟩
  rw [f63_run]
  simp only [hg, cond_true]

noncomputable def q63 : List Dt → Option (Bool × List Dt)
  | [.d .order a0] => some ((sm_order a0), [.d .order a0])
  | _ => none
noncomputable def s63 : Gm.Spec := Gm.Spec.of [.ro] [false] true q63
theorem good63 : Gm.Good Try.prog (63, s63) := by
  have hl : ∀ x ∈ [(77, s77), (78, s78), (79, s79)], Gm.Good Try.prog x := List.forall_mem_cons.2 ⟨good77, List.forall_mem_cons.2 ⟨good78, List.forall_mem_cons.2 ⟨good79, List.forall_mem_nil _⟩⟩⟩
  refine ⟨⟨spec_ok (tab_ok.env hl) (tab.natl hl) Try.func63 (by kernel_rfl : Try.f63.body = some f63c) [61] (by kernel_rfl) ?_, _, Try.func63, by kernel_rfl, of_decide_eq_true (by kernel_rfl)⟩, Gm.Spec.of_natl _ _ _ _⟩
  intro ds outs h
  unfold q63 at h
  split at h
  · simp only [Option.some.injEq, Prod.mk.injEq] at h; obtain ⟨hg, h⟩ := h; cases h; exact f63_spec _ hg
  · cases h
/-! ### loop.example/g00465/laws.toItem -/
noncomputable def f50c : Code := (Try.f50.body).getD .skip
def f50k : Nat → Kp := kat [⟨[1, 2], [], [], []⟩, ⟨[1, 2, 3], [], [], []⟩, ⟨[1, 2, 3], [], [], []⟩, ⟨[2, 3], [], [], []⟩, ⟨[2], [], [], []⟩]
noncomputable def f50e : Env := tab.env [(63, s63)]
theorem f50_run {R : Type} (n : Nat) (k : List Dt → Option R) (a0 : ItemT) : evFn f50e f50k n f50c [.ro] [false] true [.cell 2 63] [63] [.d .item a0] k =
    (cond (sm_order (ItemT.order a0))
    (k [.d .item a0])
    none) := by kernel_rfl
theorem f50_spec (a0 : ItemT) (hg : sm_item a0 = true) : ∃ keep rounds, ∀ {R : Type} (k : List Dt → Option R), evFn f50e keep rounds f50c [.ro] [false] true [.cell 2 63] [63] [.d .item a0] k = k [.d .item a0] := by
  simp only [sm_item, Bool.and_eq_true] at hg
  refine ⟨f50k, 0, fun k => ?_⟩
  rw [f50_run]
  simp only [hg, cond_true]

noncomputable def q50 : List Dt → Option (Bool × List Dt)
  | [.d .item a0] => some ((sm_item a0), [.d .item a0])
  | _ => none
noncomputable def s50 : Gm.Spec := Gm.Spec.of [.ro] [false] true q50
theorem good50 : Gm.Good Try.prog (50, s50) := by
  have hl : ∀ x ∈ [(63, s63)], Gm.Good Try.prog x := List.forall_mem_cons.2 ⟨good63, List.forall_mem_nil _⟩
  refine ⟨⟨spec_ok (tab_ok.env hl) (tab.natl hl) Try.func50 (by kernel_rfl : Try.f50.body = some f50c) [63] (by kernel_rfl) ?_, _, Try.func50, by kernel_rfl, of_decide_eq_true (by kernel_rfl)⟩, Gm.Spec.of_natl _ _ _ _⟩
  intro ds outs h
  unfold q50 at h
  split at h
  · simp only [Option.some.injEq, Prod.mk.injEq] at h; obtain ⟨hg, h⟩ := h; cases h; exact f50_spec _ hg
  · cases h
/-! ### loop.example/g00465/laws.toItemS -/
noncomputable def f33c : Code := (Try.f33.body).getD .skip
def f33k : Nat → Kp := kat [⟨[0], [], [], []⟩, ⟨[0, 3], [], [], []⟩, ⟨[0, 3, 4], [], [], []⟩, ⟨[0, 3, 4, 11], [], [], []⟩, ⟨[0, 3, 4], [], [], []⟩, ⟨[0, 3, 4], [], [], []⟩, ⟨[2], [], [], []⟩]
noncomputable def f33e : Env := tab.env [(50, s50)]
noncomputable def f33L0 {R : Type} (n : Nat) (x0 : Int → Bool → (List ItemT) → Option R) (vs0 : List ItemT) : Nat → Int → (List ItemT) → Option R
  | 0, _, _ => none
  | m + 1, vs4, vr448 =>
    (cond (decide (vs4 < (vs0.length : Int)))
      (cond ((decide ((0 : Int) ≤ vs4)) && (decide (vs4 < (vs0.length : Int))))
        (cond (sm_item (atI (t := .item) vs0 (Int.toNat vs4)))
          (cond ((decide ((0 : Int) ≤ vs4)) && (decide (vs4 < (vr448.length : Int))))
            (f33L0 n x0 vs0 m (IntKind.wrap .i64 (vs4 + (1 : Int))) (vr448.set (Int.toNat vs4) (atI (t := .item) vs0 (Int.toNat vs4))))
            none)
          none)
        none)
      (x0 vs4 (decide (vs4 < (vs0.length : Int))) vr448))
theorem f33L0_b {R : Type} (n : Nat) (k' : Ex → St → Option R) (vs0 : List ItemT) (vs4 : Int) (vr448 : List ItemT) : ev f33e f33k n (cAt [1,1,0,1,0,0] f33c) ⟨[(0, .c (.one (.ro .item vs0))), (3, .c (.one (.h 448 0 0 []))), (4, .c (.one (.v (.int .i64 vs4))))], [], [(448, .live ⟨.item, .deep, 0, [], vr448⟩)]⟩ k' =
    (cond (decide (vs4 < (vs0.length : Int)))
    (cond ((decide ((0 : Int) ≤ vs4)) && (decide (vs4 < (vs0.length : Int))))
      (cond (sm_item (atI (t := .item) vs0 (Int.toNat vs4)))
        (cond ((decide ((0 : Int) ≤ vs4)) && (decide (vs4 < (vr448.length : Int))))
          (k' .normal ⟨[(0, .c (.one (.ro .item vs0))), (3, .c (.one (.h 448 0 0 []))), (4, .c (.one (.v (.int .i64 (IntKind.wrap .i64 (vs4 + (1 : Int)))))))], [], [(448, .live ⟨.item, .deep, 0, [], (vr448.set (Int.toNat vs4) (atI (t := .item) vs0 (Int.toNat vs4)))⟩)]⟩)
          none)
        none)
      none)
    (k' (.exit 0) ⟨[(0, .c (.one (.ro .item vs0))), (3, .c (.one (.h 448 0 0 []))), (4, .c (.one (.v (.int .i64 vs4)))), (11, .c (.one (.v (.bool (decide (vs4 < (vs0.length : Int)))))))], [], [(448, .live ⟨.item, .deep, 0, [], vr448⟩)]⟩)) := by kernel_rfl
theorem f33L0_eq {R : Type} (n : Nat) (k' : Ex → St → Option R) (vs0 : List ItemT) : ∀ (m : Nat) (vs4 : Int) (vr448 : List ItemT), iter (fun st k => ev f33e f33k n (cAt [1,1,0,1,0,0] f33c) st k) m ⟨[(0, .c (.one (.ro .item vs0))), (3, .c (.one (.h 448 0 0 []))), (4, .c (.one (.v (.int .i64 vs4))))], [], [(448, .live ⟨.item, .deep, 0, [], vr448⟩)]⟩ k' = f33L0 n (fun (xvs4 : Int) (xvs11 : Bool) (xvr448 : List ItemT) => k' (.exit 0) ⟨[(0, .c (.one (.ro .item vs0))), (3, .c (.one (.h 448 0 0 []))), (4, .c (.one (.v (.int .i64 xvs4)))), (11, .c (.one (.v (.bool xvs11))))], [], [(448, .live ⟨.item, .deep, 0, [], xvr448⟩)]⟩) vs0 m vs4 vr448 := by
  intro m; induction m with
  | zero => intros; rfl
  | succ m ih =>
    intro vs4 vr448
    simp only [iter]
    rw [f33L0_b]
    simp only [ih, f33L0]

noncomputable def f33K0 {R : Type} (n : Nat) (k' : Ex → St → Option R) : Ex → St → Option R := (blockK 0 (seqK f33e f33k n (cAt [1,1,1] f33c) k'))
theorem f33K0_x0 {R : Type} (n : Nat) (k : List Dt → Option R) (a0 : List ItemT) (vs0 : List ItemT) (xvs4 : Int) (xvs11 : Bool) (xvr448 : List ItemT) : f33K0 n (exitK f33e [.ro] [false] true [.tmp 2] [31] [.d (.sl .item) a0] k) (.exit 0) ⟨[(0, .c (.one (.ro .item vs0))), (3, .c (.one (.h 448 0 0 []))), (4, .c (.one (.v (.int .i64 xvs4)))), (11, .c (.one (.v (.bool xvs11))))], [], [(448, .live ⟨.item, .deep, 0, [], xvr448⟩)]⟩ =
    (k [.d (.sl .item) xvr448]) := by kernel_rfl

theorem f33_run {R : Type} (n : Nat) (k : List Dt → Option R) (a0 : List ItemT) : evFn f33e f33k n f33c [.ro] [false] true [.tmp 2] [31] [.d (.sl .item) a0] k =
    (cond ((decide ((a0.length : Int) = (a0.length : Int))) && ((decide ((0 : Int) ≤ (a0.length : Int))) && (decide ((a0.length : Int) ≤ (LIM : Int)))))
    (f33L0 n (fun (xvs4 : Int) (xvs11 : Bool) (xvr448 : List ItemT) =>
      (k [.d (.sl .item) xvr448])) a0 n (0 : Int) (List.replicate (Int.toNat (a0.length : Int)) (⟨(⟨ByteArray.empty, ByteArray.empty, (0 : Int), (0 : Int), ([] : List MetricT), (⟨(0 : Int), (0 : Int), (0 : Int), (0 : Int)⟩ : PaceT), ([] : List NoteT)⟩ : OrderT), (0 : Int)⟩ : ItemT)))
    none) := by
  refine Eq.trans (b := (cond ((decide ((a0.length : Int) = (a0.length : Int))) && ((decide ((0 : Int) ≤ (a0.length : Int))) && (decide ((a0.length : Int) ≤ (LIM : Int)))))
    (iter (fun st k => ev f33e f33k n (cAt [1,1,0,1,0,0] f33c) st k) n ⟨[(0, .c (.one (.ro .item a0))), (3, .c (.one (.h 448 0 0 []))), (4, .c (.one (.v (.int .i64 (0 : Int)))))], [], [(448, .live ⟨.item, .deep, 0, [], (List.replicate (Int.toNat (a0.length : Int)) (⟨(⟨ByteArray.empty, ByteArray.empty, (0 : Int), (0 : Int), ([] : List MetricT), (⟨(0 : Int), (0 : Int), (0 : Int), (0 : Int)⟩ : PaceT), ([] : List NoteT)⟩ : OrderT), (0 : Int)⟩ : ItemT))⟩)]⟩ (f33K0 n (exitK f33e [.ro] [false] true [.tmp 2] [31] [.d (.sl .item) a0] k)))
    none)) (by kernel_rfl) ?_
  simp only [f33L0_eq, f33K0_x0]
theorem f33_spec (a0 : List ItemT) (hg : smL sm_item a0 = true) : ∃ keep rounds, ∀ {R : Type} (k : List Dt → Option R), evFn f33e keep rounds f33c [.ro] [false] true [.tmp 2] [31] [.d (.sl .item) a0] k = k [.d (.sl .item) a0] := by
  have hl : a0.length ≤ 1048576 := smL_len hg
  have hs := smL_all hg
  refine ⟨f33k, a0.length + 1, fun k => ?_⟩
  rw [f33_run, mkOk hl]
  simp only [cond_true]
  have := loop_copy (xs := a0) (f := fun x => x) (F := fun m j out => f33L0 (a0.length + 1) (fun (xvs4 : Int) (xvs11 : Bool) (xvr448 : List ItemT) => (k [.d (.sl .item) xvr448])) a0 m (j : Int) out) (good := fun out => k [.d (.sl .item) out]) (⟨(⟨ByteArray.empty, ByteArray.empty, (0 : Int), (0 : Int), ([] : List MetricT), (⟨(0 : Int), (0 : Int), (0 : Int), (0 : Int)⟩ : PaceT), ([] : List NoteT)⟩ : OrderT), (0 : Int)⟩ : ItemT)
    (fun m j out x hx hl' => by
      obtain ⟨h1, h0, hw, ht⟩ := idx (lt_of_get hx) (by omega)
      obtain ⟨h2, _, _, _⟩ := idx (show j < out.length by rw [hl']; exact lt_of_get hx) (by omega)
      have hx2 := List.all_eq_true.1 hs x (List.mem_of_getElem? hx)
      simp only [f33L0, h1, h0, h2, hw, ht, atI_of (t := .item) hx, Bool.and_self, cond_true, hx2])
    (fun m out => by simp only [f33L0, idxE, cond_false]) a0.length 0 (a0.length + 1) (by omega) (by omega)
  simpa using this

noncomputable def q33 : List Dt → Option (Bool × List Dt)
  | [.d (.sl .item) a0] => some ((smL sm_item a0), [.d (.sl .item) a0])
  | _ => none
noncomputable def s33 : Gm.Spec := Gm.Spec.of [.ro] [false] true q33
theorem good33 : Gm.Good Try.prog (33, s33) := by
  have hl : ∀ x ∈ [(50, s50)], Gm.Good Try.prog x := List.forall_mem_cons.2 ⟨good50, List.forall_mem_nil _⟩
  refine ⟨⟨spec_ok (tab_ok.env hl) (tab.natl hl) Try.func33 (by kernel_rfl : Try.f33.body = some f33c) [31] (by kernel_rfl) ?_, _, Try.func33, by kernel_rfl, of_decide_eq_true (by kernel_rfl)⟩, Gm.Spec.of_natl _ _ _ _⟩
  intro ds outs h
  unfold q33 at h
  split at h
  · simp only [Option.some.injEq, Prod.mk.injEq] at h; obtain ⟨hg, h⟩ := h; cases h; exact f33_spec _ hg
  · cases h
/-! ### loop.example/g00465/laws.toStore -/
noncomputable def f17c : Code := (Try.f17.body).getD .skip
def f17k : Nat → Kp := kat [⟨[1, 2], [], [], []⟩, ⟨[1, 2, 3], [], [], []⟩, ⟨[1, 2, 3], [], [], []⟩, ⟨[2, 3], [], [], []⟩, ⟨[2], [], [], []⟩]
noncomputable def f17e : Env := tab.env [(33, s33)]
theorem f17_run {R : Type} (n : Nat) (k : List Dt → Option R) (a0 : StoreT) : evFn f17e f17k n f17c [.ro] [false] true [.cell 2 33] [33] [.d .store a0] k =
    (cond (smL sm_item (StoreT.items a0))
    (k [.d .store a0])
    none) := by kernel_rfl
theorem f17_spec (a0 : StoreT) (hg : sm_store a0 = true) : ∃ keep rounds, ∀ {R : Type} (k : List Dt → Option R), evFn f17e keep rounds f17c [.ro] [false] true [.cell 2 33] [33] [.d .store a0] k = k [.d .store a0] := by
  simp only [sm_store, Bool.and_eq_true] at hg
  refine ⟨f17k, 0, fun k => ?_⟩
  rw [f17_run]
  simp only [hg, cond_true]

noncomputable def q17 : List Dt → Option (Bool × List Dt)
  | [.d .store a0] => some ((sm_store a0), [.d .store a0])
  | _ => none
noncomputable def s17 : Gm.Spec := Gm.Spec.of [.ro] [false] true q17
theorem good17 : Gm.Good Try.prog (17, s17) := by
  have hl : ∀ x ∈ [(33, s33)], Gm.Good Try.prog x := List.forall_mem_cons.2 ⟨good33, List.forall_mem_nil _⟩
  refine ⟨⟨spec_ok (tab_ok.env hl) (tab.natl hl) Try.func17 (by kernel_rfl : Try.f17.body = some f17c) [33] (by kernel_rfl) ?_, _, Try.func17, by kernel_rfl, of_decide_eq_true (by kernel_rfl)⟩, Gm.Spec.of_natl _ _ _ _⟩
  intro ds outs h
  unfold q17 at h
  split at h
  · simp only [Option.some.injEq, Prod.mk.injEq] at h; obtain ⟨hg, h⟩ := h; cases h; exact f17_spec _ hg
  · cases h
/-! ### loop.example/g00465/laws.toRec -/
noncomputable def f64c : Code := (Try.f64.body).getD .skip
def f64k : Nat → Kp := kat [⟨[1, 2], [], [], []⟩, ⟨[1, 2, 3], [], [], []⟩, ⟨[1, 2, 3], [], [], []⟩, ⟨[2, 3], [], [], []⟩, ⟨[2], [], [], []⟩]
noncomputable def f64e : Env := tab.env []
theorem f64_run {R : Type} (n : Nat) (k : List Dt → Option R) (a0 : RcdT) : evFn f64e f64k n f64c [.ro] [false] true [.cell 2 74] [74] [.d .rcd a0] k =
    (k [.d .rcd a0]) := by kernel_rfl
theorem f64_spec (a0 : RcdT) (hg : sm_rcd a0 = true) : ∃ keep rounds, ∀ {R : Type} (k : List Dt → Option R), evFn f64e keep rounds f64c [.ro] [false] true [.cell 2 74] [74] [.d .rcd a0] k = k [.d .rcd a0] := by
  exact ⟨f64k, 0, fun k => f64_run 0 k a0⟩

noncomputable def q64 : List Dt → Option (Bool × List Dt)
  | [.d .rcd a0] => some ((sm_rcd a0), [.d .rcd a0])
  | _ => none
noncomputable def s64 : Gm.Spec := Gm.Spec.of [.ro] [false] true q64
theorem good64 : Gm.Good Try.prog (64, s64) := by
  have hl : ∀ x ∈ ([] : List (Nat × Gm.Spec)), Gm.Good Try.prog x := fun _ h => by cases h
  refine ⟨⟨spec_ok (tab_ok.env hl) (tab.natl hl) Try.func64 (by kernel_rfl : Try.f64.body = some f64c) [74] (by kernel_rfl) ?_, _, Try.func64, by kernel_rfl, of_decide_eq_true (by kernel_rfl)⟩, Gm.Spec.of_natl _ _ _ _⟩
  intro ds outs h
  unfold q64 at h
  split at h
  · simp only [Option.some.injEq, Prod.mk.injEq] at h; obtain ⟨hg, h⟩ := h; cases h; exact f64_spec _ hg
  · cases h
/-! ### loop.example/g00465/laws.toRecS -/
noncomputable def f51c : Code := (Try.f51.body).getD .skip
def f51k : Nat → Kp := kat [⟨[0], [], [], []⟩, ⟨[0, 3], [], [], []⟩, ⟨[0, 3, 4], [], [], []⟩, ⟨[0, 3, 4, 11], [], [], []⟩, ⟨[0, 3, 4], [], [], []⟩, ⟨[0, 3, 4], [], [], []⟩, ⟨[2], [], [], []⟩]
noncomputable def f51e : Env := tab.env [(64, s64)]
noncomputable def f51L0 {R : Type} (n : Nat) (x0 : Int → Bool → (List RcdT) → Option R) (vs0 : List RcdT) : Nat → Int → (List RcdT) → Option R
  | 0, _, _ => none
  | m + 1, vs4, vr448 =>
    (cond (decide (vs4 < (vs0.length : Int)))
      (cond ((decide ((0 : Int) ≤ vs4)) && (decide (vs4 < (vs0.length : Int))))
        (cond (sm_rcd (atI (t := .rcd) vs0 (Int.toNat vs4)))
          (cond ((decide ((0 : Int) ≤ vs4)) && (decide (vs4 < (vr448.length : Int))))
            (f51L0 n x0 vs0 m (IntKind.wrap .i64 (vs4 + (1 : Int))) (vr448.set (Int.toNat vs4) (atI (t := .rcd) vs0 (Int.toNat vs4))))
            none)
          none)
        none)
      (x0 vs4 (decide (vs4 < (vs0.length : Int))) vr448))
theorem f51L0_b {R : Type} (n : Nat) (k' : Ex → St → Option R) (vs0 : List RcdT) (vs4 : Int) (vr448 : List RcdT) : ev f51e f51k n (cAt [1,1,0,1,0,0] f51c) ⟨[(0, .c (.one (.ro .rcd vs0))), (3, .c (.one (.h 448 0 0 []))), (4, .c (.one (.v (.int .i64 vs4))))], [], [(448, .live ⟨.rcd, .deep, 0, [], vr448⟩)]⟩ k' =
    (cond (decide (vs4 < (vs0.length : Int)))
    (cond ((decide ((0 : Int) ≤ vs4)) && (decide (vs4 < (vs0.length : Int))))
      (cond (sm_rcd (atI (t := .rcd) vs0 (Int.toNat vs4)))
        (cond ((decide ((0 : Int) ≤ vs4)) && (decide (vs4 < (vr448.length : Int))))
          (k' .normal ⟨[(0, .c (.one (.ro .rcd vs0))), (3, .c (.one (.h 448 0 0 []))), (4, .c (.one (.v (.int .i64 (IntKind.wrap .i64 (vs4 + (1 : Int)))))))], [], [(448, .live ⟨.rcd, .deep, 0, [], (vr448.set (Int.toNat vs4) (atI (t := .rcd) vs0 (Int.toNat vs4)))⟩)]⟩)
          none)
        none)
      none)
    (k' (.exit 0) ⟨[(0, .c (.one (.ro .rcd vs0))), (3, .c (.one (.h 448 0 0 []))), (4, .c (.one (.v (.int .i64 vs4)))), (11, .c (.one (.v (.bool (decide (vs4 < (vs0.length : Int)))))))], [], [(448, .live ⟨.rcd, .deep, 0, [], vr448⟩)]⟩)) := by kernel_rfl
theorem f51L0_eq {R : Type} (n : Nat) (k' : Ex → St → Option R) (vs0 : List RcdT) : ∀ (m : Nat) (vs4 : Int) (vr448 : List RcdT), iter (fun st k => ev f51e f51k n (cAt [1,1,0,1,0,0] f51c) st k) m ⟨[(0, .c (.one (.ro .rcd vs0))), (3, .c (.one (.h 448 0 0 []))), (4, .c (.one (.v (.int .i64 vs4))))], [], [(448, .live ⟨.rcd, .deep, 0, [], vr448⟩)]⟩ k' = f51L0 n (fun (xvs4 : Int) (xvs11 : Bool) (xvr448 : List RcdT) => k' (.exit 0) ⟨[(0, .c (.one (.ro .rcd vs0))), (3, .c (.one (.h 448 0 0 []))), (4, .c (.one (.v (.int .i64 xvs4)))), (11, .c (.one (.v (.bool xvs11))))], [], [(448, .live ⟨.rcd, .deep, 0, [], xvr448⟩)]⟩) vs0 m vs4 vr448 := by
  intro m; induction m with
  | zero => intros; rfl
  | succ m ih =>
    intro vs4 vr448
    simp only [iter]
    rw [f51L0_b]
    simp only [ih, f51L0]

noncomputable def f51K0 {R : Type} (n : Nat) (k' : Ex → St → Option R) : Ex → St → Option R := (blockK 0 (seqK f51e f51k n (cAt [1,1,1] f51c) k'))
theorem f51K0_x0 {R : Type} (n : Nat) (k : List Dt → Option R) (a0 : List RcdT) (vs0 : List RcdT) (xvs4 : Int) (xvs11 : Bool) (xvr448 : List RcdT) : f51K0 n (exitK f51e [.ro] [false] true [.tmp 2] [45] [.d (.sl .rcd) a0] k) (.exit 0) ⟨[(0, .c (.one (.ro .rcd vs0))), (3, .c (.one (.h 448 0 0 []))), (4, .c (.one (.v (.int .i64 xvs4)))), (11, .c (.one (.v (.bool xvs11))))], [], [(448, .live ⟨.rcd, .deep, 0, [], xvr448⟩)]⟩ =
    (k [.d (.sl .rcd) xvr448]) := by kernel_rfl

theorem f51_run {R : Type} (n : Nat) (k : List Dt → Option R) (a0 : List RcdT) : evFn f51e f51k n f51c [.ro] [false] true [.tmp 2] [45] [.d (.sl .rcd) a0] k =
    (cond ((decide ((a0.length : Int) = (a0.length : Int))) && ((decide ((0 : Int) ≤ (a0.length : Int))) && (decide ((a0.length : Int) ≤ (LIM : Int)))))
    (f51L0 n (fun (xvs4 : Int) (xvs11 : Bool) (xvr448 : List RcdT) =>
      (k [.d (.sl .rcd) xvr448])) a0 n (0 : Int) (List.replicate (Int.toNat (a0.length : Int)) (⟨(0 : Int), (0 : Int)⟩ : RcdT)))
    none) := by
  refine Eq.trans (b := (cond ((decide ((a0.length : Int) = (a0.length : Int))) && ((decide ((0 : Int) ≤ (a0.length : Int))) && (decide ((a0.length : Int) ≤ (LIM : Int)))))
    (iter (fun st k => ev f51e f51k n (cAt [1,1,0,1,0,0] f51c) st k) n ⟨[(0, .c (.one (.ro .rcd a0))), (3, .c (.one (.h 448 0 0 []))), (4, .c (.one (.v (.int .i64 (0 : Int)))))], [], [(448, .live ⟨.rcd, .deep, 0, [], (List.replicate (Int.toNat (a0.length : Int)) (⟨(0 : Int), (0 : Int)⟩ : RcdT))⟩)]⟩ (f51K0 n (exitK f51e [.ro] [false] true [.tmp 2] [45] [.d (.sl .rcd) a0] k)))
    none)) (by kernel_rfl) ?_
  simp only [f51L0_eq, f51K0_x0]
theorem f51_spec (a0 : List RcdT) (hg : smL sm_rcd a0 = true) : ∃ keep rounds, ∀ {R : Type} (k : List Dt → Option R), evFn f51e keep rounds f51c [.ro] [false] true [.tmp 2] [45] [.d (.sl .rcd) a0] k = k [.d (.sl .rcd) a0] := by
  have hl : a0.length ≤ 1048576 := smL_len hg
  have hs := smL_all hg
  refine ⟨f51k, a0.length + 1, fun k => ?_⟩
  rw [f51_run, mkOk hl]
  simp only [cond_true]
  have := loop_copy (xs := a0) (f := fun x => x) (F := fun m j out => f51L0 (a0.length + 1) (fun (xvs4 : Int) (xvs11 : Bool) (xvr448 : List RcdT) => (k [.d (.sl .rcd) xvr448])) a0 m (j : Int) out) (good := fun out => k [.d (.sl .rcd) out]) (⟨(0 : Int), (0 : Int)⟩ : RcdT)
    (fun m j out x hx hl' => by
      obtain ⟨h1, h0, hw, ht⟩ := idx (lt_of_get hx) (by omega)
      obtain ⟨h2, _, _, _⟩ := idx (show j < out.length by rw [hl']; exact lt_of_get hx) (by omega)
      have hx2 := List.all_eq_true.1 hs x (List.mem_of_getElem? hx)
      simp only [f51L0, h1, h0, h2, hw, ht, atI_of (t := .rcd) hx, Bool.and_self, cond_true, hx2])
    (fun m out => by simp only [f51L0, idxE, cond_false]) a0.length 0 (a0.length + 1) (by omega) (by omega)
  simpa using this

noncomputable def q51 : List Dt → Option (Bool × List Dt)
  | [.d (.sl .rcd) a0] => some ((smL sm_rcd a0), [.d (.sl .rcd) a0])
  | _ => none
noncomputable def s51 : Gm.Spec := Gm.Spec.of [.ro] [false] true q51
theorem good51 : Gm.Good Try.prog (51, s51) := by
  have hl : ∀ x ∈ [(64, s64)], Gm.Good Try.prog x := List.forall_mem_cons.2 ⟨good64, List.forall_mem_nil _⟩
  refine ⟨⟨spec_ok (tab_ok.env hl) (tab.natl hl) Try.func51 (by kernel_rfl : Try.f51.body = some f51c) [45] (by kernel_rfl) ?_, _, Try.func51, by kernel_rfl, of_decide_eq_true (by kernel_rfl)⟩, Gm.Spec.of_natl _ _ _ _⟩
  intro ds outs h
  unfold q51 at h
  split at h
  · simp only [Option.some.injEq, Prod.mk.injEq] at h; obtain ⟨hg, h⟩ := h; cases h; exact f51_spec _ hg
  · cases h
/-! ### loop.example/g00465/laws.toScale -/
noncomputable def f34c : Code := (Try.f34.body).getD .skip
def f34k : Nat → Kp := kat [⟨[1, 2], [], [], []⟩, ⟨[1, 2, 3], [], [], []⟩, ⟨[1, 2, 3], [], [], []⟩, ⟨[1, 2, 3], [], [], []⟩, ⟨[2, 3], [], [], []⟩, ⟨[2], [], [], []⟩]
noncomputable def f34e : Env := tab.env [(51, s51)]
theorem f34_run {R : Type} (n : Nat) (k : List Dt → Option R) (a0 : ScaleT) : evFn f34e f34k n f34c [.ro] [false] true [.cell 2 47] [47] [.d .scale a0] k =
    (cond (smL sm_rcd (ScaleT.recs a0))
    (k [.d .scale a0])
    none) := by kernel_rfl
theorem f34_spec (a0 : ScaleT) (hg : sm_scale a0 = true) : ∃ keep rounds, ∀ {R : Type} (k : List Dt → Option R), evFn f34e keep rounds f34c [.ro] [false] true [.cell 2 47] [47] [.d .scale a0] k = k [.d .scale a0] := by
  simp only [sm_scale, Bool.and_eq_true] at hg
  refine ⟨f34k, 0, fun k => ?_⟩
  rw [f34_run]
  simp only [hg, cond_true]

noncomputable def q34 : List Dt → Option (Bool × List Dt)
  | [.d .scale a0] => some ((sm_scale a0), [.d .scale a0])
  | _ => none
noncomputable def s34 : Gm.Spec := Gm.Spec.of [.ro] [false] true q34
theorem good34 : Gm.Good Try.prog (34, s34) := by
  have hl : ∀ x ∈ [(51, s51)], Gm.Good Try.prog x := List.forall_mem_cons.2 ⟨good51, List.forall_mem_nil _⟩
  refine ⟨⟨spec_ok (tab_ok.env hl) (tab.natl hl) Try.func34 (by kernel_rfl : Try.f34.body = some f34c) [47] (by kernel_rfl) ?_, _, Try.func34, by kernel_rfl, of_decide_eq_true (by kernel_rfl)⟩, Gm.Spec.of_natl _ _ _ _⟩
  intro ds outs h
  unfold q34 at h
  split at h
  · simp only [Option.some.injEq, Prod.mk.injEq] at h; obtain ⟨hg, h⟩ := h; cases h; exact f34_spec _ hg
  · cases h
/-! ### loop.example/g00465/laws.toScaleS -/
noncomputable def f18c : Code := (Try.f18.body).getD .skip
def f18k : Nat → Kp := kat [⟨[0], [], [], []⟩, ⟨[0, 3], [], [], []⟩, ⟨[0, 3, 4], [], [], []⟩, ⟨[0, 3, 4, 11], [], [], []⟩, ⟨[0, 3, 4], [], [], []⟩, ⟨[0, 3, 4], [], [], []⟩, ⟨[2], [], [], []⟩]
noncomputable def f18e : Env := tab.env [(34, s34)]
noncomputable def f18L0 {R : Type} (n : Nat) (x0 : Int → Bool → (List ScaleT) → Option R) (vs0 : List ScaleT) : Nat → Int → (List ScaleT) → Option R
  | 0, _, _ => none
  | m + 1, vs4, vr448 =>
    (cond (decide (vs4 < (vs0.length : Int)))
      (cond ((decide ((0 : Int) ≤ vs4)) && (decide (vs4 < (vs0.length : Int))))
        (cond (sm_scale (atI (t := .scale) vs0 (Int.toNat vs4)))
          (cond ((decide ((0 : Int) ≤ vs4)) && (decide (vs4 < (vr448.length : Int))))
            (f18L0 n x0 vs0 m (IntKind.wrap .i64 (vs4 + (1 : Int))) (vr448.set (Int.toNat vs4) (atI (t := .scale) vs0 (Int.toNat vs4))))
            none)
          none)
        none)
      (x0 vs4 (decide (vs4 < (vs0.length : Int))) vr448))
theorem f18L0_b {R : Type} (n : Nat) (k' : Ex → St → Option R) (vs0 : List ScaleT) (vs4 : Int) (vr448 : List ScaleT) : ev f18e f18k n (cAt [1,1,0,1,0,0] f18c) ⟨[(0, .c (.one (.ro .scale vs0))), (3, .c (.one (.h 448 0 0 []))), (4, .c (.one (.v (.int .i64 vs4))))], [], [(448, .live ⟨.scale, .deep, 0, [], vr448⟩)]⟩ k' =
    (cond (decide (vs4 < (vs0.length : Int)))
    (cond ((decide ((0 : Int) ≤ vs4)) && (decide (vs4 < (vs0.length : Int))))
      (cond (sm_scale (atI (t := .scale) vs0 (Int.toNat vs4)))
        (cond ((decide ((0 : Int) ≤ vs4)) && (decide (vs4 < (vr448.length : Int))))
          (k' .normal ⟨[(0, .c (.one (.ro .scale vs0))), (3, .c (.one (.h 448 0 0 []))), (4, .c (.one (.v (.int .i64 (IntKind.wrap .i64 (vs4 + (1 : Int)))))))], [], [(448, .live ⟨.scale, .deep, 0, [], (vr448.set (Int.toNat vs4) (atI (t := .scale) vs0 (Int.toNat vs4)))⟩)]⟩)
          none)
        none)
      none)
    (k' (.exit 0) ⟨[(0, .c (.one (.ro .scale vs0))), (3, .c (.one (.h 448 0 0 []))), (4, .c (.one (.v (.int .i64 vs4)))), (11, .c (.one (.v (.bool (decide (vs4 < (vs0.length : Int)))))))], [], [(448, .live ⟨.scale, .deep, 0, [], vr448⟩)]⟩)) := by kernel_rfl
theorem f18L0_eq {R : Type} (n : Nat) (k' : Ex → St → Option R) (vs0 : List ScaleT) : ∀ (m : Nat) (vs4 : Int) (vr448 : List ScaleT), iter (fun st k => ev f18e f18k n (cAt [1,1,0,1,0,0] f18c) st k) m ⟨[(0, .c (.one (.ro .scale vs0))), (3, .c (.one (.h 448 0 0 []))), (4, .c (.one (.v (.int .i64 vs4))))], [], [(448, .live ⟨.scale, .deep, 0, [], vr448⟩)]⟩ k' = f18L0 n (fun (xvs4 : Int) (xvs11 : Bool) (xvr448 : List ScaleT) => k' (.exit 0) ⟨[(0, .c (.one (.ro .scale vs0))), (3, .c (.one (.h 448 0 0 []))), (4, .c (.one (.v (.int .i64 xvs4)))), (11, .c (.one (.v (.bool xvs11))))], [], [(448, .live ⟨.scale, .deep, 0, [], xvr448⟩)]⟩) vs0 m vs4 vr448 := by
  intro m; induction m with
  | zero => intros; rfl
  | succ m ih =>
    intro vs4 vr448
    simp only [iter]
    rw [f18L0_b]
    simp only [ih, f18L0]

noncomputable def f18K0 {R : Type} (n : Nat) (k' : Ex → St → Option R) : Ex → St → Option R := (blockK 0 (seqK f18e f18k n (cAt [1,1,1] f18c) k'))
theorem f18K0_x0 {R : Type} (n : Nat) (k : List Dt → Option R) (a0 : List ScaleT) (vs0 : List ScaleT) (xvs4 : Int) (xvs11 : Bool) (xvr448 : List ScaleT) : f18K0 n (exitK f18e [.ro] [false] true [.tmp 2] [34] [.d (.sl .scale) a0] k) (.exit 0) ⟨[(0, .c (.one (.ro .scale vs0))), (3, .c (.one (.h 448 0 0 []))), (4, .c (.one (.v (.int .i64 xvs4)))), (11, .c (.one (.v (.bool xvs11))))], [], [(448, .live ⟨.scale, .deep, 0, [], xvr448⟩)]⟩ =
    (k [.d (.sl .scale) xvr448]) := by kernel_rfl

theorem f18_run {R : Type} (n : Nat) (k : List Dt → Option R) (a0 : List ScaleT) : evFn f18e f18k n f18c [.ro] [false] true [.tmp 2] [34] [.d (.sl .scale) a0] k =
    (cond ((decide ((a0.length : Int) = (a0.length : Int))) && ((decide ((0 : Int) ≤ (a0.length : Int))) && (decide ((a0.length : Int) ≤ (LIM : Int)))))
    (f18L0 n (fun (xvs4 : Int) (xvs11 : Bool) (xvr448 : List ScaleT) =>
      (k [.d (.sl .scale) xvr448])) a0 n (0 : Int) (List.replicate (Int.toNat (a0.length : Int)) (⟨ByteArray.empty, (0 : Int), ([] : List RcdT)⟩ : ScaleT)))
    none) := by
  refine Eq.trans (b := (cond ((decide ((a0.length : Int) = (a0.length : Int))) && ((decide ((0 : Int) ≤ (a0.length : Int))) && (decide ((a0.length : Int) ≤ (LIM : Int)))))
    (iter (fun st k => ev f18e f18k n (cAt [1,1,0,1,0,0] f18c) st k) n ⟨[(0, .c (.one (.ro .scale a0))), (3, .c (.one (.h 448 0 0 []))), (4, .c (.one (.v (.int .i64 (0 : Int)))))], [], [(448, .live ⟨.scale, .deep, 0, [], (List.replicate (Int.toNat (a0.length : Int)) (⟨ByteArray.empty, (0 : Int), ([] : List RcdT)⟩ : ScaleT))⟩)]⟩ (f18K0 n (exitK f18e [.ro] [false] true [.tmp 2] [34] [.d (.sl .scale) a0] k)))
    none)) (by kernel_rfl) ?_
  simp only [f18L0_eq, f18K0_x0]
theorem f18_spec (a0 : List ScaleT) (hg : smL sm_scale a0 = true) : ∃ keep rounds, ∀ {R : Type} (k : List Dt → Option R), evFn f18e keep rounds f18c [.ro] [false] true [.tmp 2] [34] [.d (.sl .scale) a0] k = k [.d (.sl .scale) a0] := by
  have hl : a0.length ≤ 1048576 := smL_len hg
  have hs := smL_all hg
  refine ⟨f18k, a0.length + 1, fun k => ?_⟩
  rw [f18_run, mkOk hl]
  simp only [cond_true]
  have := loop_copy (xs := a0) (f := fun x => x) (F := fun m j out => f18L0 (a0.length + 1) (fun (xvs4 : Int) (xvs11 : Bool) (xvr448 : List ScaleT) => (k [.d (.sl .scale) xvr448])) a0 m (j : Int) out) (good := fun out => k [.d (.sl .scale) out]) (⟨ByteArray.empty, (0 : Int), ([] : List RcdT)⟩ : ScaleT)
    (fun m j out x hx hl' => by
      obtain ⟨h1, h0, hw, ht⟩ := idx (lt_of_get hx) (by omega)
      obtain ⟨h2, _, _, _⟩ := idx (show j < out.length by rw [hl']; exact lt_of_get hx) (by omega)
      have hx2 := List.all_eq_true.1 hs x (List.mem_of_getElem? hx)
      simp only [f18L0, h1, h0, h2, hw, ht, atI_of (t := .scale) hx, Bool.and_self, cond_true, hx2])
    (fun m out => by simp only [f18L0, idxE, cond_false]) a0.length 0 (a0.length + 1) (by omega) (by omega)
  simpa using this

noncomputable def q18 : List Dt → Option (Bool × List Dt)
  | [.d (.sl .scale) a0] => some ((smL sm_scale a0), [.d (.sl .scale) a0])
  | _ => none
noncomputable def s18 : Gm.Spec := Gm.Spec.of [.ro] [false] true q18
theorem good18 : Gm.Good Try.prog (18, s18) := by
  have hl : ∀ x ∈ [(34, s34)], Gm.Good Try.prog x := List.forall_mem_cons.2 ⟨good34, List.forall_mem_nil _⟩
  refine ⟨⟨spec_ok (tab_ok.env hl) (tab.natl hl) Try.func18 (by kernel_rfl : Try.f18.body = some f18c) [34] (by kernel_rfl) ?_, _, Try.func18, by kernel_rfl, of_decide_eq_true (by kernel_rfl)⟩, Gm.Spec.of_natl _ _ _ _⟩
  intro ds outs h
  unfold q18 at h
  split at h
  · simp only [Option.some.injEq, Prod.mk.injEq] at h; obtain ⟨hg, h⟩ := h; cases h; exact f18_spec _ hg
  · cases h
/-! ### loop.example/g00465/laws.toTold -/
noncomputable def f35c : Code := (Try.f35.body).getD .skip
def f35k : Nat → Kp := kat [⟨[1, 2], [], [], []⟩, ⟨[1, 2, 3], [], [], []⟩, ⟨[1, 2, 3], [], [], []⟩, ⟨[1, 2, 3], [], [], []⟩, ⟨[2, 3], [], [], []⟩, ⟨[2], [], [], []⟩]
noncomputable def f35e : Env := tab.env []
theorem f35_run {R : Type} (n : Nat) (k : List Dt → Option R) (a0 : ToldT) : evFn f35e f35k n f35c [.ro] [false] true [.cell 2 77] [77] [.d .told a0] k =
    (k [.d .told a0]) := by kernel_rfl
theorem f35_spec (a0 : ToldT) (hg : sm_told a0 = true) : ∃ keep rounds, ∀ {R : Type} (k : List Dt → Option R), evFn f35e keep rounds f35c [.ro] [false] true [.cell 2 77] [77] [.d .told a0] k = k [.d .told a0] := by
  exact ⟨f35k, 0, fun k => f35_run 0 k a0⟩

noncomputable def q35 : List Dt → Option (Bool × List Dt)
  | [.d .told a0] => some ((sm_told a0), [.d .told a0])
  | _ => none
noncomputable def s35 : Gm.Spec := Gm.Spec.of [.ro] [false] true q35
theorem good35 : Gm.Good Try.prog (35, s35) := by
  have hl : ∀ x ∈ ([] : List (Nat × Gm.Spec)), Gm.Good Try.prog x := fun _ h => by cases h
  refine ⟨⟨spec_ok (tab_ok.env hl) (tab.natl hl) Try.func35 (by kernel_rfl : Try.f35.body = some f35c) [77] (by kernel_rfl) ?_, _, Try.func35, by kernel_rfl, of_decide_eq_true (by kernel_rfl)⟩, Gm.Spec.of_natl _ _ _ _⟩
  intro ds outs h
  unfold q35 at h
  split at h
  · simp only [Option.some.injEq, Prod.mk.injEq] at h; obtain ⟨hg, h⟩ := h; cases h; exact f35_spec _ hg
  · cases h
/-! ### loop.example/g00465/laws.toToldS -/
noncomputable def f19c : Code := (Try.f19.body).getD .skip
def f19k : Nat → Kp := kat [⟨[0], [], [], []⟩, ⟨[0, 3], [], [], []⟩, ⟨[0, 3, 4], [], [], []⟩, ⟨[0, 3, 4, 11], [], [], []⟩, ⟨[0, 3, 4], [], [], []⟩, ⟨[0, 3, 4], [], [], []⟩, ⟨[2], [], [], []⟩]
noncomputable def f19e : Env := tab.env [(35, s35)]
noncomputable def f19L0 {R : Type} (n : Nat) (x0 : Int → Bool → (List ToldT) → Option R) (vs0 : List ToldT) : Nat → Int → (List ToldT) → Option R
  | 0, _, _ => none
  | m + 1, vs4, vr448 =>
    (cond (decide (vs4 < (vs0.length : Int)))
      (cond ((decide ((0 : Int) ≤ vs4)) && (decide (vs4 < (vs0.length : Int))))
        (cond (sm_told (atI (t := .told) vs0 (Int.toNat vs4)))
          (cond ((decide ((0 : Int) ≤ vs4)) && (decide (vs4 < (vr448.length : Int))))
            (f19L0 n x0 vs0 m (IntKind.wrap .i64 (vs4 + (1 : Int))) (vr448.set (Int.toNat vs4) (atI (t := .told) vs0 (Int.toNat vs4))))
            none)
          none)
        none)
      (x0 vs4 (decide (vs4 < (vs0.length : Int))) vr448))
theorem f19L0_b {R : Type} (n : Nat) (k' : Ex → St → Option R) (vs0 : List ToldT) (vs4 : Int) (vr448 : List ToldT) : ev f19e f19k n (cAt [1,1,0,1,0,0] f19c) ⟨[(0, .c (.one (.ro .told vs0))), (3, .c (.one (.h 448 0 0 []))), (4, .c (.one (.v (.int .i64 vs4))))], [], [(448, .live ⟨.told, .deep, 0, [], vr448⟩)]⟩ k' =
    (cond (decide (vs4 < (vs0.length : Int)))
    (cond ((decide ((0 : Int) ≤ vs4)) && (decide (vs4 < (vs0.length : Int))))
      (cond (sm_told (atI (t := .told) vs0 (Int.toNat vs4)))
        (cond ((decide ((0 : Int) ≤ vs4)) && (decide (vs4 < (vr448.length : Int))))
          (k' .normal ⟨[(0, .c (.one (.ro .told vs0))), (3, .c (.one (.h 448 0 0 []))), (4, .c (.one (.v (.int .i64 (IntKind.wrap .i64 (vs4 + (1 : Int)))))))], [], [(448, .live ⟨.told, .deep, 0, [], (vr448.set (Int.toNat vs4) (atI (t := .told) vs0 (Int.toNat vs4)))⟩)]⟩)
          none)
        none)
      none)
    (k' (.exit 0) ⟨[(0, .c (.one (.ro .told vs0))), (3, .c (.one (.h 448 0 0 []))), (4, .c (.one (.v (.int .i64 vs4)))), (11, .c (.one (.v (.bool (decide (vs4 < (vs0.length : Int)))))))], [], [(448, .live ⟨.told, .deep, 0, [], vr448⟩)]⟩)) := by kernel_rfl
theorem f19L0_eq {R : Type} (n : Nat) (k' : Ex → St → Option R) (vs0 : List ToldT) : ∀ (m : Nat) (vs4 : Int) (vr448 : List ToldT), iter (fun st k => ev f19e f19k n (cAt [1,1,0,1,0,0] f19c) st k) m ⟨[(0, .c (.one (.ro .told vs0))), (3, .c (.one (.h 448 0 0 []))), (4, .c (.one (.v (.int .i64 vs4))))], [], [(448, .live ⟨.told, .deep, 0, [], vr448⟩)]⟩ k' = f19L0 n (fun (xvs4 : Int) (xvs11 : Bool) (xvr448 : List ToldT) => k' (.exit 0) ⟨[(0, .c (.one (.ro .told vs0))), (3, .c (.one (.h 448 0 0 []))), (4, .c (.one (.v (.int .i64 xvs4)))), (11, .c (.one (.v (.bool xvs11))))], [], [(448, .live ⟨.told, .deep, 0, [], xvr448⟩)]⟩) vs0 m vs4 vr448 := by
  intro m; induction m with
  | zero => intros; rfl
  | succ m ih =>
    intro vs4 vr448
    simp only [iter]
    rw [f19L0_b]
    simp only [ih, f19L0]

noncomputable def f19K0 {R : Type} (n : Nat) (k' : Ex → St → Option R) : Ex → St → Option R := (blockK 0 (seqK f19e f19k n (cAt [1,1,1] f19c) k'))
theorem f19K0_x0 {R : Type} (n : Nat) (k : List Dt → Option R) (a0 : List ToldT) (vs0 : List ToldT) (xvs4 : Int) (xvs11 : Bool) (xvr448 : List ToldT) : f19K0 n (exitK f19e [.ro] [false] true [.tmp 2] [35] [.d (.sl .told) a0] k) (.exit 0) ⟨[(0, .c (.one (.ro .told vs0))), (3, .c (.one (.h 448 0 0 []))), (4, .c (.one (.v (.int .i64 xvs4)))), (11, .c (.one (.v (.bool xvs11))))], [], [(448, .live ⟨.told, .deep, 0, [], xvr448⟩)]⟩ =
    (k [.d (.sl .told) xvr448]) := by kernel_rfl

theorem f19_run {R : Type} (n : Nat) (k : List Dt → Option R) (a0 : List ToldT) : evFn f19e f19k n f19c [.ro] [false] true [.tmp 2] [35] [.d (.sl .told) a0] k =
    (cond ((decide ((a0.length : Int) = (a0.length : Int))) && ((decide ((0 : Int) ≤ (a0.length : Int))) && (decide ((a0.length : Int) ≤ (LIM : Int)))))
    (f19L0 n (fun (xvs4 : Int) (xvs11 : Bool) (xvr448 : List ToldT) =>
      (k [.d (.sl .told) xvr448])) a0 n (0 : Int) (List.replicate (Int.toNat (a0.length : Int)) (⟨(0 : Int), ByteArray.empty, (0 : Int)⟩ : ToldT)))
    none) := by
  refine Eq.trans (b := (cond ((decide ((a0.length : Int) = (a0.length : Int))) && ((decide ((0 : Int) ≤ (a0.length : Int))) && (decide ((a0.length : Int) ≤ (LIM : Int)))))
    (iter (fun st k => ev f19e f19k n (cAt [1,1,0,1,0,0] f19c) st k) n ⟨[(0, .c (.one (.ro .told a0))), (3, .c (.one (.h 448 0 0 []))), (4, .c (.one (.v (.int .i64 (0 : Int)))))], [], [(448, .live ⟨.told, .deep, 0, [], (List.replicate (Int.toNat (a0.length : Int)) (⟨(0 : Int), ByteArray.empty, (0 : Int)⟩ : ToldT))⟩)]⟩ (f19K0 n (exitK f19e [.ro] [false] true [.tmp 2] [35] [.d (.sl .told) a0] k)))
    none)) (by kernel_rfl) ?_
  simp only [f19L0_eq, f19K0_x0]
theorem f19_spec (a0 : List ToldT) (hg : smL sm_told a0 = true) : ∃ keep rounds, ∀ {R : Type} (k : List Dt → Option R), evFn f19e keep rounds f19c [.ro] [false] true [.tmp 2] [35] [.d (.sl .told) a0] k = k [.d (.sl .told) a0] := by
  have hl : a0.length ≤ 1048576 := smL_len hg
  have hs := smL_all hg
  refine ⟨f19k, a0.length + 1, fun k => ?_⟩
  rw [f19_run, mkOk hl]
  simp only [cond_true]
  have := loop_copy (xs := a0) (f := fun x => x) (F := fun m j out => f19L0 (a0.length + 1) (fun (xvs4 : Int) (xvs11 : Bool) (xvr448 : List ToldT) => (k [.d (.sl .told) xvr448])) a0 m (j : Int) out) (good := fun out => k [.d (.sl .told) out]) (⟨(0 : Int), ByteArray.empty, (0 : Int)⟩ : ToldT)
    (fun m j out x hx hl' => by
      obtain ⟨h1, h0, hw, ht⟩ := idx (lt_of_get hx) (by omega)
      obtain ⟨h2, _, _, _⟩ := idx (show j < out.length by rw [hl']; exact lt_of_get hx) (by omega)
      have hx2 := List.all_eq_true.1 hs x (List.mem_of_getElem? hx)
      simp only [f19L0, h1, h0, h2, hw, ht, atI_of (t := .told) hx, Bool.and_self, cond_true, hx2])
    (fun m out => by simp only [f19L0, idxE, cond_false]) a0.length 0 (a0.length + 1) (by omega) (by omega)
  simpa using this

noncomputable def q19 : List Dt → Option (Bool × List Dt)
  | [.d (.sl .told) a0] => some ((smL sm_told a0), [.d (.sl .told) a0])
  | _ => none
noncomputable def s19 : Gm.Spec := Gm.Spec.of [.ro] [false] true q19
theorem good19 : Gm.Good Try.prog (19, s19) := by
  have hl : ∀ x ∈ [(35, s35)], Gm.Good Try.prog x := List.forall_mem_cons.2 ⟨good35, List.forall_mem_nil _⟩
  refine ⟨⟨spec_ok (tab_ok.env hl) (tab.natl hl) Try.func19 (by kernel_rfl : Try.f19.body = some f19c) [35] (by kernel_rfl) ?_, _, Try.func19, by kernel_rfl, of_decide_eq_true (by kernel_rfl)⟩, Gm.Spec.of_natl _ _ _ _⟩
  intro ds outs h
  unfold q19 at h
  split at h
  · simp only [Option.some.injEq, Prod.mk.injEq] at h; obtain ⟨hg, h⟩ := h; cases h; exact f19_spec _ hg
  · cases h
/-! ### loop.example/g00465/laws.toWorld -/
noncomputable def f7c : Code := (Try.f7.body).getD .skip
def f7k : Nat → Kp := kat [⟨[1, 2], [], [], []⟩, ⟨[1, 2, 3], [], [], []⟩, ⟨[1, 2, 3], [], [], []⟩, ⟨[1, 2, 3], [], [], []⟩, ⟨[1, 2, 3], [], [], []⟩, ⟨[2, 3], [], [], []⟩, ⟨[2], [], [], []⟩]
noncomputable def f7e : Env := tab.env [(17, s17), (18, s18), (19, s19)]
theorem f7_run {R : Type} (n : Nat) (k : List Dt → Option R) (a0 : WorldT) : evFn f7e f7k n f7c [.ro] [false] true [.cell 2 37] [37] [.d .world a0] k =
    (cond (sm_store (WorldT.store a0))
    (cond (smL sm_scale (WorldT.scales a0))
      (cond (smL sm_told (WorldT.log a0))
        (k [.d .world a0])
        none)
      none)
    none) := by kernel_rfl
theorem f7_spec (a0 : WorldT) (hg : sm_world a0 = true) : ∃ keep rounds, ∀ {R : Type} (k : List Dt → Option R), evFn f7e keep rounds f7c [.ro] [false] true [.cell 2 37] [37] [.d .world a0] k = k [.d .world a0] := by
  simp only [sm_world, Bool.and_eq_true] at hg
  refine ⟨f7k, 0, fun k => ?_⟩
  rw [f7_run]
  simp only [hg, cond_true]

noncomputable def q7 : List Dt → Option (Bool × List Dt)
  | [.d .world a0] => some ((sm_world a0), [.d .world a0])
  | _ => none
noncomputable def s7 : Gm.Spec := Gm.Spec.of [.ro] [false] true q7
theorem good7 : Gm.Good Try.prog (7, s7) := by
  have hl : ∀ x ∈ [(17, s17), (18, s18), (19, s19)], Gm.Good Try.prog x := List.forall_mem_cons.2 ⟨good17, List.forall_mem_cons.2 ⟨good18, List.forall_mem_cons.2 ⟨good19, List.forall_mem_nil _⟩⟩⟩
  refine ⟨⟨spec_ok (tab_ok.env hl) (tab.natl hl) Try.func7 (by kernel_rfl : Try.f7.body = some f7c) [37] (by kernel_rfl) ?_, _, Try.func7, by kernel_rfl, of_decide_eq_true (by kernel_rfl)⟩, Gm.Spec.of_natl _ _ _ _⟩
  intro ds outs h
  unfold q7 at h
  split at h
  · simp only [Option.some.injEq, Prod.mk.injEq] at h; obtain ⟨hg, h⟩ := h; cases h; exact f7_spec _ hg
  · cases h
/-! ### loop.example/g00465/laws.eqMetric -/
noncomputable def f94c : Code := (Try.f94.body).getD .skip
def f94k : Nat → Kp := kat [⟨[2, 3], [], [], []⟩, ⟨[2, 3, 9], [], [], []⟩, ⟨[4], [], [], []⟩, ⟨[2, 3, 14], [], [], []⟩, ⟨[4], [], [], []⟩, ⟨[19], [], [], []⟩, ⟨[4], [], [], []⟩, ⟨[4], [], [], []⟩]
noncomputable def f94e : Env := tab.env []
theorem f94_run {R : Type} (n : Nat) (k : List Dt → Option R) (a0 : MetricT) (a1 : MetricT) : evFn f94e f94k n f94c [.ro, .ro] [false] true [.tmp 4] [4] [.d .metric a0, .d .metric a1] k =
    (cond (!(sEq (MetricT.name a0) (MetricT.name a1)))
    (k [.d .bool false])
    (cond ((MetricT.kind a0) != (MetricT.kind a1))
      (k [.d .bool false])
      (cond ((MetricT.goal a0) != (MetricT.goal a1))
        (k [.d .bool false])
        (k [.d .bool true])))) := by kernel_rfl
theorem f94_spec (a0 : MetricT) (a1 : MetricT) (hg : sm2 sm_metric a0 a1 = true) : ∃ keep rounds, ∀ {R : Type} (k : List Dt → Option R), evFn f94e keep rounds f94c [.ro, .ro] [false] true [.tmp 4] [4] [.d .metric a0, .d .metric a1] k = k [.d .bool (eqD a0 a1)] := by
  simp only [sm2, sm_metric, Bool.and_eq_true] at hg
  refine ⟨f94k, 0, fun k => ?_⟩
  rw [f94_run, eqD_metric]
  try simp only [bne]
  cases sEq a0.name a1.name <;> cases (a0.kind == a1.kind) <;> cases (a0.goal == a1.goal) <;> rfl

noncomputable def q94 : List Dt → Option (Bool × List Dt)
  | [.d .metric a0, .d .metric a1] => some ((sm2 sm_metric a0 a1), [.d .bool (eqD a0 a1)])
  | _ => none
noncomputable def s94 : Gm.Spec := Gm.Spec.of [.ro, .ro] [false] true q94
theorem good94 : Gm.Good Try.prog (94, s94) := by
  have hl : ∀ x ∈ ([] : List (Nat × Gm.Spec)), Gm.Good Try.prog x := fun _ h => by cases h
  refine ⟨⟨spec_ok (tab_ok.env hl) (tab.natl hl) Try.func94 (by kernel_rfl : Try.f94.body = some f94c) [4] (by kernel_rfl) ?_, _, Try.func94, by kernel_rfl, of_decide_eq_true (by kernel_rfl)⟩, Gm.Spec.of_natl _ _ _ _⟩
  intro ds outs h
  unfold q94 at h
  split at h
  · simp only [Option.some.injEq, Prod.mk.injEq] at h; obtain ⟨hg, h⟩ := h; cases h; exact f94_spec _ _ hg
  · cases h
/-! ### loop.example/g00465/laws.eqMetricS -/
noncomputable def f83c : Code := (Try.f83.body).getD .skip
def f83k : Nat → Kp := kat [⟨[0, 1], [], [], []⟩, ⟨[0, 1, 10], [], [], []⟩, ⟨[4], [], [], []⟩, ⟨[0, 1, 5], [], [], []⟩, ⟨[0, 1, 5, 14], [], [], []⟩, ⟨[0, 1, 5], [], [], []⟩, ⟨[0, 1, 5, 26], [], [], []⟩, ⟨[4], [], [], []⟩, ⟨[4], [], [], []⟩]
noncomputable def f83e : Env := tab.env [(94, s94)]
noncomputable def f83L0 {R : Type} (n : Nat) (x0 : Option R) (x1 : Int → Bool → Option R) (vs0 : List MetricT) (vs1 : List MetricT) : Nat → Int → Option R
  | 0, _ => none
  | m + 1, vs5 =>
    (cond (decide (vs5 < (vs0.length : Int)))
      (cond ((decide ((0 : Int) ≤ vs5)) && (decide (vs5 < (vs0.length : Int))))
        (cond ((decide ((0 : Int) ≤ vs5)) && (decide (vs5 < (vs1.length : Int))))
          (cond (sm2 sm_metric (atI (t := .metric) vs0 (Int.toNat vs5)) (atI (t := .metric) vs1 (Int.toNat vs5)))
            (cond (!(eqD (atI (t := .metric) vs0 (Int.toNat vs5)) (atI (t := .metric) vs1 (Int.toNat vs5))))
              (x0)
              (f83L0 n x0 x1 vs0 vs1 m (IntKind.wrap .i64 (vs5 + (1 : Int)))))
            none)
          none)
        none)
      (x1 vs5 (decide (vs5 < (vs0.length : Int)))))
theorem f83L0_b {R : Type} (n : Nat) (k' : Ex → St → Option R) (vs0 : List MetricT) (vs1 : List MetricT) (vs5 : Int) : ev f83e f83k n (cAt [1,1,0,1,0,0] f83c) ⟨[(0, .c (.one (.ro .metric vs0))), (1, .c (.one (.ro .metric vs1))), (5, .c (.one (.v (.int .i64 vs5))))], [], []⟩ k' =
    (cond (decide (vs5 < (vs0.length : Int)))
    (cond ((decide ((0 : Int) ≤ vs5)) && (decide (vs5 < (vs0.length : Int))))
      (cond ((decide ((0 : Int) ≤ vs5)) && (decide (vs5 < (vs1.length : Int))))
        (cond (sm2 sm_metric (atI (t := .metric) vs0 (Int.toNat vs5)) (atI (t := .metric) vs1 (Int.toNat vs5)))
          (cond (!(eqD (atI (t := .metric) vs0 (Int.toNat vs5)) (atI (t := .metric) vs1 (Int.toNat vs5))))
            (k' .ret ⟨[(4, .c (.one (.v (.bool false))))], [], []⟩)
            (k' .normal ⟨[(0, .c (.one (.ro .metric vs0))), (1, .c (.one (.ro .metric vs1))), (5, .c (.one (.v (.int .i64 (IntKind.wrap .i64 (vs5 + (1 : Int)))))))], [], []⟩))
          none)
        none)
      none)
    (k' (.exit 0) ⟨[(0, .c (.one (.ro .metric vs0))), (1, .c (.one (.ro .metric vs1))), (5, .c (.one (.v (.int .i64 vs5)))), (14, .c (.one (.v (.bool (decide (vs5 < (vs0.length : Int)))))))], [], []⟩)) := by kernel_rfl
theorem f83L0_eq {R : Type} (n : Nat) (k' : Ex → St → Option R) (vs0 : List MetricT) (vs1 : List MetricT) : ∀ (m : Nat) (vs5 : Int), iter (fun st k => ev f83e f83k n (cAt [1,1,0,1,0,0] f83c) st k) m ⟨[(0, .c (.one (.ro .metric vs0))), (1, .c (.one (.ro .metric vs1))), (5, .c (.one (.v (.int .i64 vs5))))], [], []⟩ k' = f83L0 n (k' .ret ⟨[(4, .c (.one (.v (.bool false))))], [], []⟩) (fun (xvs5 : Int) (xvs14 : Bool) => k' (.exit 0) ⟨[(0, .c (.one (.ro .metric vs0))), (1, .c (.one (.ro .metric vs1))), (5, .c (.one (.v (.int .i64 xvs5)))), (14, .c (.one (.v (.bool xvs14))))], [], []⟩) vs0 vs1 m vs5 := by
  intro m; induction m with
  | zero => intros; rfl
  | succ m ih =>
    intro vs5
    simp only [iter]
    rw [f83L0_b]
    simp only [ih, f83L0]

noncomputable def f83K0 {R : Type} (n : Nat) (k' : Ex → St → Option R) : Ex → St → Option R := (blockK 0 (seqK f83e f83k n (cAt [1,1,1] f83c) k'))
theorem f83K0_x0 {R : Type} (n : Nat) (k : List Dt → Option R) (a0 : List MetricT) (a1 : List MetricT)  : f83K0 n (exitK f83e [.ro, .ro] [false] true [.tmp 4] [4] [.d (.sl .metric) a0, .d (.sl .metric) a1] k) .ret ⟨[(4, .c (.one (.v (.bool false))))], [], []⟩ =
    (k [.d .bool false]) := by kernel_rfl
theorem f83K0_x1 {R : Type} (n : Nat) (k : List Dt → Option R) (a0 : List MetricT) (a1 : List MetricT) (vs0 : List MetricT) (vs1 : List MetricT) (xvs5 : Int) (xvs14 : Bool) : f83K0 n (exitK f83e [.ro, .ro] [false] true [.tmp 4] [4] [.d (.sl .metric) a0, .d (.sl .metric) a1] k) (.exit 0) ⟨[(0, .c (.one (.ro .metric vs0))), (1, .c (.one (.ro .metric vs1))), (5, .c (.one (.v (.int .i64 xvs5)))), (14, .c (.one (.v (.bool xvs14))))], [], []⟩ =
    (k [.d .bool true]) := by kernel_rfl

theorem f83_run {R : Type} (n : Nat) (k : List Dt → Option R) (a0 : List MetricT) (a1 : List MetricT) : evFn f83e f83k n f83c [.ro, .ro] [false] true [.tmp 4] [4] [.d (.sl .metric) a0, .d (.sl .metric) a1] k =
    (cond ((a0.length : Int) != (a1.length : Int))
    (k [.d .bool false])
    (f83L0 n (k [.d .bool false]) (fun (xvs5 : Int) (xvs14 : Bool) =>
      (k [.d .bool true])) a0 a1 n (0 : Int))) := by
  refine Eq.trans (b := (cond ((a0.length : Int) != (a1.length : Int))
    (k [.d .bool false])
    (iter (fun st k => ev f83e f83k n (cAt [1,1,0,1,0,0] f83c) st k) n ⟨[(0, .c (.one (.ro .metric a0))), (1, .c (.one (.ro .metric a1))), (5, .c (.one (.v (.int .i64 (0 : Int)))))], [], []⟩ (f83K0 n (exitK f83e [.ro, .ro] [false] true [.tmp 4] [4] [.d (.sl .metric) a0, .d (.sl .metric) a1] k))))) (by kernel_rfl) ?_
  simp only [f83L0_eq, f83K0_x0, f83K0_x1]
theorem f83_spec (a0 : List MetricT) (a1 : List MetricT) (hg : sm2 (smL sm_metric) a0 a1 = true) : ∃ keep rounds, ∀ {R : Type} (k : List Dt → Option R), evFn f83e keep rounds f83c [.ro, .ro] [false] true [.tmp 4] [4] [.d (.sl .metric) a0, .d (.sl .metric) a1] k = k [.d .bool (eqD a0 a1)] := by
  simp only [sm2, Bool.and_eq_true] at hg
  obtain ⟨hg0, hg1⟩ := hg
  have hl : a0.length ≤ 1048576 := smL_len hg0
  refine ⟨f83k, a0.length + 1, fun k => ?_⟩
  rw [f83_run]
  by_cases hc : a0.length = a1.length
  · have hc' : ((a0.length : Int) != (a1.length : Int)) = false := by simp [hc]
    simp only [hc', cond_false]
    refine Eq.trans (loop_idx (n := a0.length) (F := fun m i => f83L0 (a0.length + 1) _ _ a0 a1 m i) (p := fun j => eqD (atI (t := .metric) a0 j) (atI (t := .metric) a1 j)) (good := k [.d .bool true]) (bad := k [.d .bool false])
      (fun m j hj => ?_) (fun m => by simp only [f83L0, idxE, cond_false]) a0.length 0 (a0.length + 1) (by omega) (by omega)) ?_
    · obtain ⟨h1, h0, hw, ht⟩ := idx hj (by omega)
      obtain ⟨h2, _, _, _⟩ := idx (show j < a1.length by omega) (by omega)
      have ha := smL_at (t := .metric) hg0 hj
      have hb := smL_at (t := .metric) hg1 (show j < a1.length by omega)
      simp only [f83L0, h1, h0, h2, hw, ht, Bool.and_self, cond_true, sm2, ha, hb]
      cases eqD (atI (t := .metric) a0 j) (atI (t := .metric) a1 j) <;> rfl
    · rw [allN_eq hc (fun j x y hx hy => by rw [atI_of (t := .metric) hx, atI_of (t := .metric) hy])]
      cases eqD a0 a1 <;> rfl
  · simp only [bneLen hc, cond_true]
    rw [eqD_ne (fun e => hc (by rw [e]))]

noncomputable def q83 : List Dt → Option (Bool × List Dt)
  | [.d (.sl .metric) a0, .d (.sl .metric) a1] => some ((sm2 (smL sm_metric) a0 a1), [.d .bool (eqD a0 a1)])
  | _ => none
noncomputable def s83 : Gm.Spec := Gm.Spec.of [.ro, .ro] [false] true q83
theorem good83 : Gm.Good Try.prog (83, s83) := by
  have hl : ∀ x ∈ [(94, s94)], Gm.Good Try.prog x := List.forall_mem_cons.2 ⟨good94, List.forall_mem_nil _⟩
  refine ⟨⟨spec_ok (tab_ok.env hl) (tab.natl hl) Try.func83 (by kernel_rfl : Try.f83.body = some f83c) [4] (by kernel_rfl) ?_, _, Try.func83, by kernel_rfl, of_decide_eq_true (by kernel_rfl)⟩, Gm.Spec.of_natl _ _ _ _⟩
  intro ds outs h
  unfold q83 at h
  split at h
  · simp only [Option.some.injEq, Prod.mk.injEq] at h; obtain ⟨hg, h⟩ := h; cases h; exact f83_spec _ _ hg
  · cases h
/-! ### loop.example/g00465/laws.eqPace -/
noncomputable def f84c : Code := (Try.f84.body).getD .skip
def f84k : Nat → Kp := kat [⟨[2, 3], [], [], []⟩, ⟨[2, 3, 9], [], [], []⟩, ⟨[4], [], [], []⟩, ⟨[2, 3, 14], [], [], []⟩, ⟨[4], [], [], []⟩, ⟨[2, 3, 19], [], [], []⟩, ⟨[4], [], [], []⟩, ⟨[24], [], [], []⟩, ⟨[4], [], [], []⟩, ⟨[4], [], [], []⟩]
noncomputable def f84e : Env := tab.env []
theorem f84_run {R : Type} (n : Nat) (k : List Dt → Option R) (a0 : PaceT) (a1 : PaceT) : evFn f84e f84k n f84c [.ro, .ro] [false] true [.tmp 4] [4] [.d .pace a0, .d .pace a1] k =
    (cond ((PaceT.up a0) != (PaceT.up a1))
    (k [.d .bool false])
    (cond ((PaceT.down a0) != (PaceT.down a1))
      (k [.d .bool false])
      (cond ((PaceT.upSpan a0) != (PaceT.upSpan a1))
        (k [.d .bool false])
        (cond ((PaceT.downSpan a0) != (PaceT.downSpan a1))
          (k [.d .bool false])
          (k [.d .bool true]))))) := by kernel_rfl
theorem f84_spec (a0 : PaceT) (a1 : PaceT) (hg : sm2 sm_pace a0 a1 = true) : ∃ keep rounds, ∀ {R : Type} (k : List Dt → Option R), evFn f84e keep rounds f84c [.ro, .ro] [false] true [.tmp 4] [4] [.d .pace a0, .d .pace a1] k = k [.d .bool (eqD a0 a1)] := by
  simp only [sm2, sm_pace, Bool.and_eq_true] at hg
  refine ⟨f84k, 0, fun k => ?_⟩
  rw [f84_run, eqD_pace]
  try simp only [bne]
  cases (a0.up == a1.up) <;> cases (a0.down == a1.down) <;> cases (a0.upSpan == a1.upSpan) <;> cases (a0.downSpan == a1.downSpan) <;> rfl

noncomputable def q84 : List Dt → Option (Bool × List Dt)
  | [.d .pace a0, .d .pace a1] => some ((sm2 sm_pace a0 a1), [.d .bool (eqD a0 a1)])
  | _ => none
noncomputable def s84 : Gm.Spec := Gm.Spec.of [.ro, .ro] [false] true q84
theorem good84 : Gm.Good Try.prog (84, s84) := by
  have hl : ∀ x ∈ ([] : List (Nat × Gm.Spec)), Gm.Good Try.prog x := fun _ h => by cases h
  refine ⟨⟨spec_ok (tab_ok.env hl) (tab.natl hl) Try.func84 (by kernel_rfl : Try.f84.body = some f84c) [4] (by kernel_rfl) ?_, _, Try.func84, by kernel_rfl, of_decide_eq_true (by kernel_rfl)⟩, Gm.Spec.of_natl _ _ _ _⟩
  intro ds outs h
  unfold q84 at h
  split at h
  · simp only [Option.some.injEq, Prod.mk.injEq] at h; obtain ⟨hg, h⟩ := h; cases h; exact f84_spec _ _ hg
  · cases h
/-! ### loop.example/g00465/laws.eqNote -/
noncomputable def f95c : Code := (Try.f95.body).getD .skip
def f95k : Nat → Kp := kat [⟨[2, 3], [], [], []⟩, ⟨[2, 3, 9], [], [], []⟩, ⟨[4], [], [], []⟩, ⟨[14], [], [], []⟩, ⟨[4], [], [], []⟩, ⟨[4], [], [], []⟩]
noncomputable def f95e : Env := tab.env []
theorem f95_run {R : Type} (n : Nat) (k : List Dt → Option R) (a0 : NoteT) (a1 : NoteT) : evFn f95e f95k n f95c [.ro, .ro] [false] true [.tmp 4] [4] [.d .note a0, .d .note a1] k =
    (cond (!(sEq (NoteT.key a0) (NoteT.key a1)))
    (k [.d .bool false])
    (cond (!(sEq (NoteT.text a0) (NoteT.text a1)))
      (k [.d .bool false])
      (k [.d .bool true]))) := by kernel_rfl
theorem f95_spec (a0 : NoteT) (a1 : NoteT) (hg : sm2 sm_note a0 a1 = true) : ∃ keep rounds, ∀ {R : Type} (k : List Dt → Option R), evFn f95e keep rounds f95c [.ro, .ro] [false] true [.tmp 4] [4] [.d .note a0, .d .note a1] k = k [.d .bool (eqD a0 a1)] := by
  simp only [sm2, sm_note, Bool.and_eq_true] at hg
  refine ⟨f95k, 0, fun k => ?_⟩
  rw [f95_run, eqD_note]
  try simp only [bne]
  cases sEq a0.key a1.key <;> cases sEq a0.text a1.text <;> rfl

noncomputable def q95 : List Dt → Option (Bool × List Dt)
  | [.d .note a0, .d .note a1] => some ((sm2 sm_note a0 a1), [.d .bool (eqD a0 a1)])
  | _ => none
noncomputable def s95 : Gm.Spec := Gm.Spec.of [.ro, .ro] [false] true q95
theorem good95 : Gm.Good Try.prog (95, s95) := by
  have hl : ∀ x ∈ ([] : List (Nat × Gm.Spec)), Gm.Good Try.prog x := fun _ h => by cases h
  refine ⟨⟨spec_ok (tab_ok.env hl) (tab.natl hl) Try.func95 (by kernel_rfl : Try.f95.body = some f95c) [4] (by kernel_rfl) ?_, _, Try.func95, by kernel_rfl, of_decide_eq_true (by kernel_rfl)⟩, Gm.Spec.of_natl _ _ _ _⟩
  intro ds outs h
  unfold q95 at h
  split at h
  · simp only [Option.some.injEq, Prod.mk.injEq] at h; obtain ⟨hg, h⟩ := h; cases h; exact f95_spec _ _ hg
  · cases h
/-! ### loop.example/g00465/laws.eqNoteS -/
noncomputable def f85c : Code := (Try.f85.body).getD .skip
def f85k : Nat → Kp := kat [⟨[0, 1], [], [], []⟩, ⟨[0, 1, 10], [], [], []⟩, ⟨[4], [], [], []⟩, ⟨[0, 1, 5], [], [], []⟩, ⟨[0, 1, 5, 14], [], [], []⟩, ⟨[0, 1, 5], [], [], []⟩, ⟨[0, 1, 5, 26], [], [], []⟩, ⟨[4], [], [], []⟩, ⟨[4], [], [], []⟩]
noncomputable def f85e : Env := tab.env [(95, s95)]
noncomputable def f85L0 {R : Type} (n : Nat) (x0 : Option R) (x1 : Int → Bool → Option R) (vs0 : List NoteT) (vs1 : List NoteT) : Nat → Int → Option R
  | 0, _ => none
  | m + 1, vs5 =>
    (cond (decide (vs5 < (vs0.length : Int)))
      (cond ((decide ((0 : Int) ≤ vs5)) && (decide (vs5 < (vs0.length : Int))))
        (cond ((decide ((0 : Int) ≤ vs5)) && (decide (vs5 < (vs1.length : Int))))
          (cond (sm2 sm_note (atI (t := .note) vs0 (Int.toNat vs5)) (atI (t := .note) vs1 (Int.toNat vs5)))
            (cond (!(eqD (atI (t := .note) vs0 (Int.toNat vs5)) (atI (t := .note) vs1 (Int.toNat vs5))))
              (x0)
              (f85L0 n x0 x1 vs0 vs1 m (IntKind.wrap .i64 (vs5 + (1 : Int)))))
            none)
          none)
        none)
      (x1 vs5 (decide (vs5 < (vs0.length : Int)))))
theorem f85L0_b {R : Type} (n : Nat) (k' : Ex → St → Option R) (vs0 : List NoteT) (vs1 : List NoteT) (vs5 : Int) : ev f85e f85k n (cAt [1,1,0,1,0,0] f85c) ⟨[(0, .c (.one (.ro .note vs0))), (1, .c (.one (.ro .note vs1))), (5, .c (.one (.v (.int .i64 vs5))))], [], []⟩ k' =
    (cond (decide (vs5 < (vs0.length : Int)))
    (cond ((decide ((0 : Int) ≤ vs5)) && (decide (vs5 < (vs0.length : Int))))
      (cond ((decide ((0 : Int) ≤ vs5)) && (decide (vs5 < (vs1.length : Int))))
        (cond (sm2 sm_note (atI (t := .note) vs0 (Int.toNat vs5)) (atI (t := .note) vs1 (Int.toNat vs5)))
          (cond (!(eqD (atI (t := .note) vs0 (Int.toNat vs5)) (atI (t := .note) vs1 (Int.toNat vs5))))
            (k' .ret ⟨[(4, .c (.one (.v (.bool false))))], [], []⟩)
            (k' .normal ⟨[(0, .c (.one (.ro .note vs0))), (1, .c (.one (.ro .note vs1))), (5, .c (.one (.v (.int .i64 (IntKind.wrap .i64 (vs5 + (1 : Int)))))))], [], []⟩))
          none)
        none)
      none)
    (k' (.exit 0) ⟨[(0, .c (.one (.ro .note vs0))), (1, .c (.one (.ro .note vs1))), (5, .c (.one (.v (.int .i64 vs5)))), (14, .c (.one (.v (.bool (decide (vs5 < (vs0.length : Int)))))))], [], []⟩)) := by kernel_rfl
theorem f85L0_eq {R : Type} (n : Nat) (k' : Ex → St → Option R) (vs0 : List NoteT) (vs1 : List NoteT) : ∀ (m : Nat) (vs5 : Int), iter (fun st k => ev f85e f85k n (cAt [1,1,0,1,0,0] f85c) st k) m ⟨[(0, .c (.one (.ro .note vs0))), (1, .c (.one (.ro .note vs1))), (5, .c (.one (.v (.int .i64 vs5))))], [], []⟩ k' = f85L0 n (k' .ret ⟨[(4, .c (.one (.v (.bool false))))], [], []⟩) (fun (xvs5 : Int) (xvs14 : Bool) => k' (.exit 0) ⟨[(0, .c (.one (.ro .note vs0))), (1, .c (.one (.ro .note vs1))), (5, .c (.one (.v (.int .i64 xvs5)))), (14, .c (.one (.v (.bool xvs14))))], [], []⟩) vs0 vs1 m vs5 := by
  intro m; induction m with
  | zero => intros; rfl
  | succ m ih =>
    intro vs5
    simp only [iter]
    rw [f85L0_b]
    simp only [ih, f85L0]

noncomputable def f85K0 {R : Type} (n : Nat) (k' : Ex → St → Option R) : Ex → St → Option R := (blockK 0 (seqK f85e f85k n (cAt [1,1,1] f85c) k'))
theorem f85K0_x0 {R : Type} (n : Nat) (k : List Dt → Option R) (a0 : List NoteT) (a1 : List NoteT)  : f85K0 n (exitK f85e [.ro, .ro] [false] true [.tmp 4] [4] [.d (.sl .note) a0, .d (.sl .note) a1] k) .ret ⟨[(4, .c (.one (.v (.bool false))))], [], []⟩ =
    (k [.d .bool false]) := by kernel_rfl
theorem f85K0_x1 {R : Type} (n : Nat) (k : List Dt → Option R) (a0 : List NoteT) (a1 : List NoteT) (vs0 : List NoteT) (vs1 : List NoteT) (xvs5 : Int) (xvs14 : Bool) : f85K0 n (exitK f85e [.ro, .ro] [false] true [.tmp 4] [4] [.d (.sl .note) a0, .d (.sl .note) a1] k) (.exit 0) ⟨[(0, .c (.one (.ro .note vs0))), (1, .c (.one (.ro .note vs1))), (5, .c (.one (.v (.int .i64 xvs5)))), (14, .c (.one (.v (.bool xvs14))))], [], []⟩ =
    (k [.d .bool true]) := by kernel_rfl

theorem f85_run {R : Type} (n : Nat) (k : List Dt → Option R) (a0 : List NoteT) (a1 : List NoteT) : evFn f85e f85k n f85c [.ro, .ro] [false] true [.tmp 4] [4] [.d (.sl .note) a0, .d (.sl .note) a1] k =
    (cond ((a0.length : Int) != (a1.length : Int))
    (k [.d .bool false])
    (f85L0 n (k [.d .bool false]) (fun (xvs5 : Int) (xvs14 : Bool) =>
      (k [.d .bool true])) a0 a1 n (0 : Int))) := by
  refine Eq.trans (b := (cond ((a0.length : Int) != (a1.length : Int))
    (k [.d .bool false])
    (iter (fun st k => ev f85e f85k n (cAt [1,1,0,1,0,0] f85c) st k) n ⟨[(0, .c (.one (.ro .note a0))), (1, .c (.one (.ro .note a1))), (5, .c (.one (.v (.int .i64 (0 : Int)))))], [], []⟩ (f85K0 n (exitK f85e [.ro, .ro] [false] true [.tmp 4] [4] [.d (.sl .note) a0, .d (.sl .note) a1] k))))) (by kernel_rfl) ?_
  simp only [f85L0_eq, f85K0_x0, f85K0_x1]
theorem f85_spec (a0 : List NoteT) (a1 : List NoteT) (hg : sm2 (smL sm_note) a0 a1 = true) : ∃ keep rounds, ∀ {R : Type} (k : List Dt → Option R), evFn f85e keep rounds f85c [.ro, .ro] [false] true [.tmp 4] [4] [.d (.sl .note) a0, .d (.sl .note) a1] k = k [.d .bool (eqD a0 a1)] := by
  simp only [sm2, Bool.and_eq_true] at hg
  obtain ⟨hg0, hg1⟩ := hg
  have hl : a0.length ≤ 1048576 := smL_len hg0
  refine ⟨f85k, a0.length + 1, fun k => ?_⟩
  rw [f85_run]
  by_cases hc : a0.length = a1.length
  · have hc' : ((a0.length : Int) != (a1.length : Int)) = false := by simp [hc]
    simp only [hc', cond_false]
    refine Eq.trans (loop_idx (n := a0.length) (F := fun m i => f85L0 (a0.length + 1) _ _ a0 a1 m i) (p := fun j => eqD (atI (t := .note) a0 j) (atI (t := .note) a1 j)) (good := k [.d .bool true]) (bad := k [.d .bool false])
      (fun m j hj => ?_) (fun m => by simp only [f85L0, idxE, cond_false]) a0.length 0 (a0.length + 1) (by omega) (by omega)) ?_
    · obtain ⟨h1, h0, hw, ht⟩ := idx hj (by omega)
      obtain ⟨h2, _, _, _⟩ := idx (show j < a1.length by omega) (by omega)
      have ha := smL_at (t := .note) hg0 hj
      have hb := smL_at (t := .note) hg1 (show j < a1.length by omega)
      simp only [f85L0, h1, h0, h2, hw, ht, Bool.and_self, cond_true, sm2, ha, hb]
      cases eqD (atI (t := .note) a0 j) (atI (t := .note) a1 j) <;> rfl
    · rw [allN_eq hc (fun j x y hx hy => by rw [atI_of (t := .note) hx, atI_of (t := .note) hy])]
      cases eqD a0 a1 <;> rfl
  · simp only [bneLen hc, cond_true]
    rw [eqD_ne (fun e => hc (by rw [e]))]

noncomputable def q85 : List Dt → Option (Bool × List Dt)
  | [.d (.sl .note) a0, .d (.sl .note) a1] => some ((sm2 (smL sm_note) a0 a1), [.d .bool (eqD a0 a1)])
  | _ => none
noncomputable def s85 : Gm.Spec := Gm.Spec.of [.ro, .ro] [false] true q85
theorem good85 : Gm.Good Try.prog (85, s85) := by
  have hl : ∀ x ∈ [(95, s95)], Gm.Good Try.prog x := List.forall_mem_cons.2 ⟨good95, List.forall_mem_nil _⟩
  refine ⟨⟨spec_ok (tab_ok.env hl) (tab.natl hl) Try.func85 (by kernel_rfl : Try.f85.body = some f85c) [4] (by kernel_rfl) ?_, _, Try.func85, by kernel_rfl, of_decide_eq_true (by kernel_rfl)⟩, Gm.Spec.of_natl _ _ _ _⟩
  intro ds outs h
  unfold q85 at h
  split at h
  · simp only [Option.some.injEq, Prod.mk.injEq] at h; obtain ⟨hg, h⟩ := h; cases h; exact f85_spec _ _ hg
  · cases h
/-! ### loop.example/g00465/laws.eqOrder -/
noncomputable def f69c : Code := (Try.f69.body).getD .skip
def f69k : Nat → Kp := kat [⟨[2, 3], [], [], []⟩, ⟨[2, 3, 9], [], [], []⟩, ⟨[4], [], [], []⟩, ⟨[2, 3, 14], [], [], []⟩, ⟨[4], [], [], []⟩, ⟨[2, 3, 19], [], [], []⟩, ⟨[4], [], [], []⟩, ⟨[2, 3, 24], [], [], []⟩, ⟨[4], [], [], []⟩, ⟨[2, 3, 30], [], [], []⟩, ⟨[4], [], [], []⟩, ⟨[2, 3, 36], [], [], []⟩, ⟨[4], [], [], []⟩, ⟨[42], [], [], []⟩, ⟨[4], [], [], []⟩, ⟨[4], [], [], []⟩]
noncomputable def f69e : Env := tab.env [(83, s83), (84, s84), (85, s85)]
theorem f69_run {R : Type} (n : Nat) (k : List Dt → Option R) (a0 : OrderT) (a1 : OrderT) : evFn f69e f69k n f69c [.ro, .ro] [false] true [.tmp 4] [4] [.d .order a0, .d .order a1] k =
    (cond (!(sEq (OrderT.name a0) (OrderT.name a1)))
    (k [.d .bool false])
    (cond (!(sEq (OrderT.target a0) (OrderT.target a1)))
      (k [.d .bool false])
      (cond ((OrderT.low a0) != (OrderT.low a1))
        (k [.d .bool false])
        (cond ((OrderT.high a0) != (OrderT.high a1))
          (k [.d .bool false])
          (cond (sm2 (smL sm_metric) (OrderT.metrics a0) (OrderT.metrics a1))
            (cond (!(eqD (OrderT.metrics a0) (OrderT.metrics a1)))
              (k [.d .bool false])
              (cond (sm2 sm_pace (OrderT.pace a0) (OrderT.pace a1))
                (cond (!(eqD (OrderT.pace a0) (OrderT.pace a1)))
                  (k [.d .bool false])
                  (cond (sm2 (smL sm_note) (OrderT.notes a0) (OrderT.notes a1))
                    (cond (!(eqD (OrderT.notes a0) (OrderT.notes a1)))
                      (k [.d .bool false])
                      (k [.d .bool true]))
                    none))
                none))
            none))))) := by kernel_rfl
theorem f69_spec (a0 : OrderT) (a1 : OrderT) (hg : sm2 sm_order a0 a1 = true) : ∃ keep rounds, ∀ {R : Type} (k : List Dt → Option R), evFn f69e keep rounds f69c [.ro, .ro] [false] true [.tmp 4] [4] [.d .order a0, .d .order a1] k = k [.d .bool (eqD a0 a1)] := by
  simp only [sm2, sm_order, Bool.and_eq_true] at hg
  refine ⟨f69k, 0, fun k => ?_⟩
  rw [f69_run, eqD_order]
  simp only [bne, sm2, hg, Bool.and_self, Bool.true_and, cond_true]
  cases sEq a0.name a1.name <;> cases sEq a0.target a1.target <;> cases (a0.low == a1.low) <;> cases (a0.high == a1.high) <;> cases eqD a0.metrics a1.metrics <;> cases eqD a0.pace a1.pace <;> cases eqD a0.notes a1.notes <;> rfl

noncomputable def q69 : List Dt → Option (Bool × List Dt)
  | [.d .order a0, .d .order a1] => some ((sm2 sm_order a0 a1), [.d .bool (eqD a0 a1)])
  | _ => none
noncomputable def s69 : Gm.Spec := Gm.Spec.of [.ro, .ro] [false] true q69
theorem good69 : Gm.Good Try.prog (69, s69) := by
  have hl : ∀ x ∈ [(83, s83), (84, s84), (85, s85)], Gm.Good Try.prog x := List.forall_mem_cons.2 ⟨good83, List.forall_mem_cons.2 ⟨good84, List.forall_mem_cons.2 ⟨good85, List.forall_mem_nil _⟩⟩⟩
  refine ⟨⟨spec_ok (tab_ok.env hl) (tab.natl hl) Try.func69 (by kernel_rfl : Try.f69.body = some f69c) [4] (by kernel_rfl) ?_, _, Try.func69, by kernel_rfl, of_decide_eq_true (by kernel_rfl)⟩, Gm.Spec.of_natl _ _ _ _⟩
  intro ds outs h
  unfold q69 at h
  split at h
  · simp only [Option.some.injEq, Prod.mk.injEq] at h; obtain ⟨hg, h⟩ := h; cases h; exact f69_spec _ _ hg
  · cases h
/-! ### loop.example/g00465/laws.eqItem -/
noncomputable def f57c : Code := (Try.f57.body).getD .skip
def f57k : Nat → Kp := kat [⟨[2, 3], [], [], []⟩, ⟨[2, 3, 10], [], [], []⟩, ⟨[4], [], [], []⟩, ⟨[15], [], [], []⟩, ⟨[4], [], [], []⟩, ⟨[4], [], [], []⟩]
noncomputable def f57e : Env := tab.env [(69, s69)]
theorem f57_run {R : Type} (n : Nat) (k : List Dt → Option R) (a0 : ItemT) (a1 : ItemT) : evFn f57e f57k n f57c [.ro, .ro] [false] true [.tmp 4] [4] [.d .item a0, .d .item a1] k =
    (cond (sm2 sm_order (ItemT.order a0) (ItemT.order a1))
    (cond (!(eqD (ItemT.order a0) (ItemT.order a1)))
      (k [.d .bool false])
      (cond ((ItemT.ver a0) != (ItemT.ver a1))
        (k [.d .bool false])
        (k [.d .bool true])))
    none) := by kernel_rfl
theorem f57_spec (a0 : ItemT) (a1 : ItemT) (hg : sm2 sm_item a0 a1 = true) : ∃ keep rounds, ∀ {R : Type} (k : List Dt → Option R), evFn f57e keep rounds f57c [.ro, .ro] [false] true [.tmp 4] [4] [.d .item a0, .d .item a1] k = k [.d .bool (eqD a0 a1)] := by
  simp only [sm2, sm_item, Bool.and_eq_true] at hg
  refine ⟨f57k, 0, fun k => ?_⟩
  rw [f57_run, eqD_item]
  simp only [bne, sm2, hg, Bool.and_self, Bool.true_and, cond_true]
  cases eqD a0.order a1.order <;> cases (a0.ver == a1.ver) <;> rfl

noncomputable def q57 : List Dt → Option (Bool × List Dt)
  | [.d .item a0, .d .item a1] => some ((sm2 sm_item a0 a1), [.d .bool (eqD a0 a1)])
  | _ => none
noncomputable def s57 : Gm.Spec := Gm.Spec.of [.ro, .ro] [false] true q57
theorem good57 : Gm.Good Try.prog (57, s57) := by
  have hl : ∀ x ∈ [(69, s69)], Gm.Good Try.prog x := List.forall_mem_cons.2 ⟨good69, List.forall_mem_nil _⟩
  refine ⟨⟨spec_ok (tab_ok.env hl) (tab.natl hl) Try.func57 (by kernel_rfl : Try.f57.body = some f57c) [4] (by kernel_rfl) ?_, _, Try.func57, by kernel_rfl, of_decide_eq_true (by kernel_rfl)⟩, Gm.Spec.of_natl _ _ _ _⟩
  intro ds outs h
  unfold q57 at h
  split at h
  · simp only [Option.some.injEq, Prod.mk.injEq] at h; obtain ⟨hg, h⟩ := h; cases h; exact f57_spec _ _ hg
  · cases h
/-! ### loop.example/g00465/laws.eqItemS -/
noncomputable def f42c : Code := (Try.f42.body).getD .skip
def f42k : Nat → Kp := kat [⟨[0, 1], [], [], []⟩, ⟨[0, 1, 10], [], [], []⟩, ⟨[4], [], [], []⟩, ⟨[0, 1, 5], [], [], []⟩, ⟨[0, 1, 5, 14], [], [], []⟩, ⟨[0, 1, 5], [], [], []⟩, ⟨[0, 1, 5, 26], [], [], []⟩, ⟨[4], [], [], []⟩, ⟨[4], [], [], []⟩]
noncomputable def f42e : Env := tab.env [(57, s57)]
noncomputable def f42L0 {R : Type} (n : Nat) (x0 : Option R) (x1 : Int → Bool → Option R) (vs0 : List ItemT) (vs1 : List ItemT) : Nat → Int → Option R
  | 0, _ => none
  | m + 1, vs5 =>
    (cond (decide (vs5 < (vs0.length : Int)))
      (cond ((decide ((0 : Int) ≤ vs5)) && (decide (vs5 < (vs0.length : Int))))
        (cond ((decide ((0 : Int) ≤ vs5)) && (decide (vs5 < (vs1.length : Int))))
          (cond (sm2 sm_item (atI (t := .item) vs0 (Int.toNat vs5)) (atI (t := .item) vs1 (Int.toNat vs5)))
            (cond (!(eqD (atI (t := .item) vs0 (Int.toNat vs5)) (atI (t := .item) vs1 (Int.toNat vs5))))
              (x0)
              (f42L0 n x0 x1 vs0 vs1 m (IntKind.wrap .i64 (vs5 + (1 : Int)))))
            none)
          none)
        none)
      (x1 vs5 (decide (vs5 < (vs0.length : Int)))))
theorem f42L0_b {R : Type} (n : Nat) (k' : Ex → St → Option R) (vs0 : List ItemT) (vs1 : List ItemT) (vs5 : Int) : ev f42e f42k n (cAt [1,1,0,1,0,0] f42c) ⟨[(0, .c (.one (.ro .item vs0))), (1, .c (.one (.ro .item vs1))), (5, .c (.one (.v (.int .i64 vs5))))], [], []⟩ k' =
    (cond (decide (vs5 < (vs0.length : Int)))
    (cond ((decide ((0 : Int) ≤ vs5)) && (decide (vs5 < (vs0.length : Int))))
      (cond ((decide ((0 : Int) ≤ vs5)) && (decide (vs5 < (vs1.length : Int))))
        (cond (sm2 sm_item (atI (t := .item) vs0 (Int.toNat vs5)) (atI (t := .item) vs1 (Int.toNat vs5)))
          (cond (!(eqD (atI (t := .item) vs0 (Int.toNat vs5)) (atI (t := .item) vs1 (Int.toNat vs5))))
            (k' .ret ⟨[(4, .c (.one (.v (.bool false))))], [], []⟩)
            (k' .normal ⟨[(0, .c (.one (.ro .item vs0))), (1, .c (.one (.ro .item vs1))), (5, .c (.one (.v (.int .i64 (IntKind.wrap .i64 (vs5 + (1 : Int)))))))], [], []⟩))
          none)
        none)
      none)
    (k' (.exit 0) ⟨[(0, .c (.one (.ro .item vs0))), (1, .c (.one (.ro .item vs1))), (5, .c (.one (.v (.int .i64 vs5)))), (14, .c (.one (.v (.bool (decide (vs5 < (vs0.length : Int)))))))], [], []⟩)) := by kernel_rfl
theorem f42L0_eq {R : Type} (n : Nat) (k' : Ex → St → Option R) (vs0 : List ItemT) (vs1 : List ItemT) : ∀ (m : Nat) (vs5 : Int), iter (fun st k => ev f42e f42k n (cAt [1,1,0,1,0,0] f42c) st k) m ⟨[(0, .c (.one (.ro .item vs0))), (1, .c (.one (.ro .item vs1))), (5, .c (.one (.v (.int .i64 vs5))))], [], []⟩ k' = f42L0 n (k' .ret ⟨[(4, .c (.one (.v (.bool false))))], [], []⟩) (fun (xvs5 : Int) (xvs14 : Bool) => k' (.exit 0) ⟨[(0, .c (.one (.ro .item vs0))), (1, .c (.one (.ro .item vs1))), (5, .c (.one (.v (.int .i64 xvs5)))), (14, .c (.one (.v (.bool xvs14))))], [], []⟩) vs0 vs1 m vs5 := by
  intro m; induction m with
  | zero => intros; rfl
  | succ m ih =>
    intro vs5
    simp only [iter]
    rw [f42L0_b]
    simp only [ih, f42L0]

noncomputable def f42K0 {R : Type} (n : Nat) (k' : Ex → St → Option R) : Ex → St → Option R := (blockK 0 (seqK f42e f42k n (cAt [1,1,1] f42c) k'))
theorem f42K0_x0 {R : Type} (n : Nat) (k : List Dt → Option R) (a0 : List ItemT) (a1 : List ItemT)  : f42K0 n (exitK f42e [.ro, .ro] [false] true [.tmp 4] [4] [.d (.sl .item) a0, .d (.sl .item) a1] k) .ret ⟨[(4, .c (.one (.v (.bool false))))], [], []⟩ =
    (k [.d .bool false]) := by kernel_rfl
theorem f42K0_x1 {R : Type} (n : Nat) (k : List Dt → Option R) (a0 : List ItemT) (a1 : List ItemT) (vs0 : List ItemT) (vs1 : List ItemT) (xvs5 : Int) (xvs14 : Bool) : f42K0 n (exitK f42e [.ro, .ro] [false] true [.tmp 4] [4] [.d (.sl .item) a0, .d (.sl .item) a1] k) (.exit 0) ⟨[(0, .c (.one (.ro .item vs0))), (1, .c (.one (.ro .item vs1))), (5, .c (.one (.v (.int .i64 xvs5)))), (14, .c (.one (.v (.bool xvs14))))], [], []⟩ =
    (k [.d .bool true]) := by kernel_rfl

theorem f42_run {R : Type} (n : Nat) (k : List Dt → Option R) (a0 : List ItemT) (a1 : List ItemT) : evFn f42e f42k n f42c [.ro, .ro] [false] true [.tmp 4] [4] [.d (.sl .item) a0, .d (.sl .item) a1] k =
    (cond ((a0.length : Int) != (a1.length : Int))
    (k [.d .bool false])
    (f42L0 n (k [.d .bool false]) (fun (xvs5 : Int) (xvs14 : Bool) =>
      (k [.d .bool true])) a0 a1 n (0 : Int))) := by
  refine Eq.trans (b := (cond ((a0.length : Int) != (a1.length : Int))
    (k [.d .bool false])
    (iter (fun st k => ev f42e f42k n (cAt [1,1,0,1,0,0] f42c) st k) n ⟨[(0, .c (.one (.ro .item a0))), (1, .c (.one (.ro .item a1))), (5, .c (.one (.v (.int .i64 (0 : Int)))))], [], []⟩ (f42K0 n (exitK f42e [.ro, .ro] [false] true [.tmp 4] [4] [.d (.sl .item) a0, .d (.sl .item) a1] k))))) (by kernel_rfl) ?_
  simp only [f42L0_eq, f42K0_x0, f42K0_x1]
theorem f42_spec (a0 : List ItemT) (a1 : List ItemT) (hg : sm2 (smL sm_item) a0 a1 = true) : ∃ keep rounds, ∀ {R : Type} (k : List Dt → Option R), evFn f42e keep rounds f42c [.ro, .ro] [false] true [.tmp 4] [4] [.d (.sl .item) a0, .d (.sl .item) a1] k = k [.d .bool (eqD a0 a1)] := by
  simp only [sm2, Bool.and_eq_true] at hg
  obtain ⟨hg0, hg1⟩ := hg
  have hl : a0.length ≤ 1048576 := smL_len hg0
  refine ⟨f42k, a0.length + 1, fun k => ?_⟩
  rw [f42_run]
  by_cases hc : a0.length = a1.length
  · have hc' : ((a0.length : Int) != (a1.length : Int)) = false := by simp [hc]
    simp only [hc', cond_false]
    refine Eq.trans (loop_idx (n := a0.length) (F := fun m i => f42L0 (a0.length + 1) _ _ a0 a1 m i) (p := fun j => eqD (atI (t := .item) a0 j) (atI (t := .item) a1 j)) (good := k [.d .bool true]) (bad := k [.d .bool false])
      (fun m j hj => ?_) (fun m => by simp only [f42L0, idxE, cond_false]) a0.length 0 (a0.length + 1) (by omega) (by omega)) ?_
    · obtain ⟨h1, h0, hw, ht⟩ := idx hj (by omega)
      obtain ⟨h2, _, _, _⟩ := idx (show j < a1.length by omega) (by omega)
      have ha := smL_at (t := .item) hg0 hj
      have hb := smL_at (t := .item) hg1 (show j < a1.length by omega)
      simp only [f42L0, h1, h0, h2, hw, ht, Bool.and_self, cond_true, sm2, ha, hb]
      cases eqD (atI (t := .item) a0 j) (atI (t := .item) a1 j) <;> rfl
    · rw [allN_eq hc (fun j x y hx hy => by rw [atI_of (t := .item) hx, atI_of (t := .item) hy])]
      cases eqD a0 a1 <;> rfl
  · simp only [bneLen hc, cond_true]
    rw [eqD_ne (fun e => hc (by rw [e]))]

noncomputable def q42 : List Dt → Option (Bool × List Dt)
  | [.d (.sl .item) a0, .d (.sl .item) a1] => some ((sm2 (smL sm_item) a0 a1), [.d .bool (eqD a0 a1)])
  | _ => none
noncomputable def s42 : Gm.Spec := Gm.Spec.of [.ro, .ro] [false] true q42
theorem good42 : Gm.Good Try.prog (42, s42) := by
  have hl : ∀ x ∈ [(57, s57)], Gm.Good Try.prog x := List.forall_mem_cons.2 ⟨good57, List.forall_mem_nil _⟩
  refine ⟨⟨spec_ok (tab_ok.env hl) (tab.natl hl) Try.func42 (by kernel_rfl : Try.f42.body = some f42c) [4] (by kernel_rfl) ?_, _, Try.func42, by kernel_rfl, of_decide_eq_true (by kernel_rfl)⟩, Gm.Spec.of_natl _ _ _ _⟩
  intro ds outs h
  unfold q42 at h
  split at h
  · simp only [Option.some.injEq, Prod.mk.injEq] at h; obtain ⟨hg, h⟩ := h; cases h; exact f42_spec _ _ hg
  · cases h
/-! ### loop.example/g00465/laws.eqStore -/
noncomputable def f24c : Code := (Try.f24.body).getD .skip
def f24k : Nat → Kp := kat [⟨[2, 3], [], [], []⟩, ⟨[2, 3, 10], [], [], []⟩, ⟨[4], [], [], []⟩, ⟨[15], [], [], []⟩, ⟨[4], [], [], []⟩, ⟨[4], [], [], []⟩]
noncomputable def f24e : Env := tab.env [(42, s42)]
theorem f24_run {R : Type} (n : Nat) (k : List Dt → Option R) (a0 : StoreT) (a1 : StoreT) : evFn f24e f24k n f24c [.ro, .ro] [false] true [.tmp 4] [4] [.d .store a0, .d .store a1] k =
    (cond (sm2 (smL sm_item) (StoreT.items a0) (StoreT.items a1))
    (cond (!(eqD (StoreT.items a0) (StoreT.items a1)))
      (k [.d .bool false])
      (cond ((StoreT.next a0) != (StoreT.next a1))
        (k [.d .bool false])
        (k [.d .bool true])))
    none) := by kernel_rfl
theorem f24_spec (a0 : StoreT) (a1 : StoreT) (hg : sm2 sm_store a0 a1 = true) : ∃ keep rounds, ∀ {R : Type} (k : List Dt → Option R), evFn f24e keep rounds f24c [.ro, .ro] [false] true [.tmp 4] [4] [.d .store a0, .d .store a1] k = k [.d .bool (eqD a0 a1)] := by
  simp only [sm2, sm_store, Bool.and_eq_true] at hg
  refine ⟨f24k, 0, fun k => ?_⟩
  rw [f24_run, eqD_store]
  simp only [bne, sm2, hg, Bool.and_self, Bool.true_and, cond_true]
  cases eqD a0.items a1.items <;> cases (a0.next == a1.next) <;> rfl

noncomputable def q24 : List Dt → Option (Bool × List Dt)
  | [.d .store a0, .d .store a1] => some ((sm2 sm_store a0 a1), [.d .bool (eqD a0 a1)])
  | _ => none
noncomputable def s24 : Gm.Spec := Gm.Spec.of [.ro, .ro] [false] true q24
theorem good24 : Gm.Good Try.prog (24, s24) := by
  have hl : ∀ x ∈ [(42, s42)], Gm.Good Try.prog x := List.forall_mem_cons.2 ⟨good42, List.forall_mem_nil _⟩
  refine ⟨⟨spec_ok (tab_ok.env hl) (tab.natl hl) Try.func24 (by kernel_rfl : Try.f24.body = some f24c) [4] (by kernel_rfl) ?_, _, Try.func24, by kernel_rfl, of_decide_eq_true (by kernel_rfl)⟩, Gm.Spec.of_natl _ _ _ _⟩
  intro ds outs h
  unfold q24 at h
  split at h
  · simp only [Option.some.injEq, Prod.mk.injEq] at h; obtain ⟨hg, h⟩ := h; cases h; exact f24_spec _ _ hg
  · cases h
/-! ### loop.example/g00465/laws.eqRec -/
noncomputable def f70c : Code := (Try.f70.body).getD .skip
def f70k : Nat → Kp := kat [⟨[2, 3], [], [], []⟩, ⟨[2, 3, 9], [], [], []⟩, ⟨[4], [], [], []⟩, ⟨[14], [], [], []⟩, ⟨[4], [], [], []⟩, ⟨[4], [], [], []⟩]
noncomputable def f70e : Env := tab.env []
theorem f70_run {R : Type} (n : Nat) (k : List Dt → Option R) (a0 : RcdT) (a1 : RcdT) : evFn f70e f70k n f70c [.ro, .ro] [false] true [.tmp 4] [4] [.d .rcd a0, .d .rcd a1] k =
    (cond ((RcdT.time a0) != (RcdT.time a1))
    (k [.d .bool false])
    (cond ((RcdT.n a0) != (RcdT.n a1))
      (k [.d .bool false])
      (k [.d .bool true]))) := by kernel_rfl
theorem f70_spec (a0 : RcdT) (a1 : RcdT) (hg : sm2 sm_rcd a0 a1 = true) : ∃ keep rounds, ∀ {R : Type} (k : List Dt → Option R), evFn f70e keep rounds f70c [.ro, .ro] [false] true [.tmp 4] [4] [.d .rcd a0, .d .rcd a1] k = k [.d .bool (eqD a0 a1)] := by
  simp only [sm2, sm_rcd, Bool.and_eq_true] at hg
  refine ⟨f70k, 0, fun k => ?_⟩
  rw [f70_run, eqD_rcd]
  try simp only [bne]
  cases (a0.time == a1.time) <;> cases (a0.n == a1.n) <;> rfl

noncomputable def q70 : List Dt → Option (Bool × List Dt)
  | [.d .rcd a0, .d .rcd a1] => some ((sm2 sm_rcd a0 a1), [.d .bool (eqD a0 a1)])
  | _ => none
noncomputable def s70 : Gm.Spec := Gm.Spec.of [.ro, .ro] [false] true q70
theorem good70 : Gm.Good Try.prog (70, s70) := by
  have hl : ∀ x ∈ ([] : List (Nat × Gm.Spec)), Gm.Good Try.prog x := fun _ h => by cases h
  refine ⟨⟨spec_ok (tab_ok.env hl) (tab.natl hl) Try.func70 (by kernel_rfl : Try.f70.body = some f70c) [4] (by kernel_rfl) ?_, _, Try.func70, by kernel_rfl, of_decide_eq_true (by kernel_rfl)⟩, Gm.Spec.of_natl _ _ _ _⟩
  intro ds outs h
  unfold q70 at h
  split at h
  · simp only [Option.some.injEq, Prod.mk.injEq] at h; obtain ⟨hg, h⟩ := h; cases h; exact f70_spec _ _ hg
  · cases h
/-! ### loop.example/g00465/laws.eqRecS -/
noncomputable def f58c : Code := (Try.f58.body).getD .skip
def f58k : Nat → Kp := kat [⟨[0, 1], [], [], []⟩, ⟨[0, 1, 10], [], [], []⟩, ⟨[4], [], [], []⟩, ⟨[0, 1, 5], [], [], []⟩, ⟨[0, 1, 5, 14], [], [], []⟩, ⟨[0, 1, 5], [], [], []⟩, ⟨[0, 1, 5, 26], [], [], []⟩, ⟨[4], [], [], []⟩, ⟨[4], [], [], []⟩]
noncomputable def f58e : Env := tab.env [(70, s70)]
noncomputable def f58L0 {R : Type} (n : Nat) (x0 : Option R) (x1 : Int → Bool → Option R) (vs0 : List RcdT) (vs1 : List RcdT) : Nat → Int → Option R
  | 0, _ => none
  | m + 1, vs5 =>
    (cond (decide (vs5 < (vs0.length : Int)))
      (cond ((decide ((0 : Int) ≤ vs5)) && (decide (vs5 < (vs0.length : Int))))
        (cond ((decide ((0 : Int) ≤ vs5)) && (decide (vs5 < (vs1.length : Int))))
          (cond (sm2 sm_rcd (atI (t := .rcd) vs0 (Int.toNat vs5)) (atI (t := .rcd) vs1 (Int.toNat vs5)))
            (cond (!(eqD (atI (t := .rcd) vs0 (Int.toNat vs5)) (atI (t := .rcd) vs1 (Int.toNat vs5))))
              (x0)
              (f58L0 n x0 x1 vs0 vs1 m (IntKind.wrap .i64 (vs5 + (1 : Int)))))
            none)
          none)
        none)
      (x1 vs5 (decide (vs5 < (vs0.length : Int)))))
theorem f58L0_b {R : Type} (n : Nat) (k' : Ex → St → Option R) (vs0 : List RcdT) (vs1 : List RcdT) (vs5 : Int) : ev f58e f58k n (cAt [1,1,0,1,0,0] f58c) ⟨[(0, .c (.one (.ro .rcd vs0))), (1, .c (.one (.ro .rcd vs1))), (5, .c (.one (.v (.int .i64 vs5))))], [], []⟩ k' =
    (cond (decide (vs5 < (vs0.length : Int)))
    (cond ((decide ((0 : Int) ≤ vs5)) && (decide (vs5 < (vs0.length : Int))))
      (cond ((decide ((0 : Int) ≤ vs5)) && (decide (vs5 < (vs1.length : Int))))
        (cond (sm2 sm_rcd (atI (t := .rcd) vs0 (Int.toNat vs5)) (atI (t := .rcd) vs1 (Int.toNat vs5)))
          (cond (!(eqD (atI (t := .rcd) vs0 (Int.toNat vs5)) (atI (t := .rcd) vs1 (Int.toNat vs5))))
            (k' .ret ⟨[(4, .c (.one (.v (.bool false))))], [], []⟩)
            (k' .normal ⟨[(0, .c (.one (.ro .rcd vs0))), (1, .c (.one (.ro .rcd vs1))), (5, .c (.one (.v (.int .i64 (IntKind.wrap .i64 (vs5 + (1 : Int)))))))], [], []⟩))
          none)
        none)
      none)
    (k' (.exit 0) ⟨[(0, .c (.one (.ro .rcd vs0))), (1, .c (.one (.ro .rcd vs1))), (5, .c (.one (.v (.int .i64 vs5)))), (14, .c (.one (.v (.bool (decide (vs5 < (vs0.length : Int)))))))], [], []⟩)) := by kernel_rfl
theorem f58L0_eq {R : Type} (n : Nat) (k' : Ex → St → Option R) (vs0 : List RcdT) (vs1 : List RcdT) : ∀ (m : Nat) (vs5 : Int), iter (fun st k => ev f58e f58k n (cAt [1,1,0,1,0,0] f58c) st k) m ⟨[(0, .c (.one (.ro .rcd vs0))), (1, .c (.one (.ro .rcd vs1))), (5, .c (.one (.v (.int .i64 vs5))))], [], []⟩ k' = f58L0 n (k' .ret ⟨[(4, .c (.one (.v (.bool false))))], [], []⟩) (fun (xvs5 : Int) (xvs14 : Bool) => k' (.exit 0) ⟨[(0, .c (.one (.ro .rcd vs0))), (1, .c (.one (.ro .rcd vs1))), (5, .c (.one (.v (.int .i64 xvs5)))), (14, .c (.one (.v (.bool xvs14))))], [], []⟩) vs0 vs1 m vs5 := by
  intro m; induction m with
  | zero => intros; rfl
  | succ m ih =>
    intro vs5
    simp only [iter]
    rw [f58L0_b]
    simp only [ih, f58L0]

noncomputable def f58K0 {R : Type} (n : Nat) (k' : Ex → St → Option R) : Ex → St → Option R := (blockK 0 (seqK f58e f58k n (cAt [1,1,1] f58c) k'))
theorem f58K0_x0 {R : Type} (n : Nat) (k : List Dt → Option R) (a0 : List RcdT) (a1 : List RcdT)  : f58K0 n (exitK f58e [.ro, .ro] [false] true [.tmp 4] [4] [.d (.sl .rcd) a0, .d (.sl .rcd) a1] k) .ret ⟨[(4, .c (.one (.v (.bool false))))], [], []⟩ =
    (k [.d .bool false]) := by kernel_rfl
theorem f58K0_x1 {R : Type} (n : Nat) (k : List Dt → Option R) (a0 : List RcdT) (a1 : List RcdT) (vs0 : List RcdT) (vs1 : List RcdT) (xvs5 : Int) (xvs14 : Bool) : f58K0 n (exitK f58e [.ro, .ro] [false] true [.tmp 4] [4] [.d (.sl .rcd) a0, .d (.sl .rcd) a1] k) (.exit 0) ⟨[(0, .c (.one (.ro .rcd vs0))), (1, .c (.one (.ro .rcd vs1))), (5, .c (.one (.v (.int .i64 xvs5)))), (14, .c (.one (.v (.bool xvs14))))], [], []⟩ =
    (k [.d .bool true]) := by kernel_rfl

theorem f58_run {R : Type} (n : Nat) (k : List Dt → Option R) (a0 : List RcdT) (a1 : List RcdT) : evFn f58e f58k n f58c [.ro, .ro] [false] true [.tmp 4] [4] [.d (.sl .rcd) a0, .d (.sl .rcd) a1] k =
    (cond ((a0.length : Int) != (a1.length : Int))
    (k [.d .bool false])
    (f58L0 n (k [.d .bool false]) (fun (xvs5 : Int) (xvs14 : Bool) =>
      (k [.d .bool true])) a0 a1 n (0 : Int))) := by
  refine Eq.trans (b := (cond ((a0.length : Int) != (a1.length : Int))
    (k [.d .bool false])
    (iter (fun st k => ev f58e f58k n (cAt [1,1,0,1,0,0] f58c) st k) n ⟨[(0, .c (.one (.ro .rcd a0))), (1, .c (.one (.ro .rcd a1))), (5, .c (.one (.v (.int .i64 (0 : Int)))))], [], []⟩ (f58K0 n (exitK f58e [.ro, .ro] [false] true [.tmp 4] [4] [.d (.sl .rcd) a0, .d (.sl .rcd) a1] k))))) (by kernel_rfl) ?_
  simp only [f58L0_eq, f58K0_x0, f58K0_x1]
theorem f58_spec (a0 : List RcdT) (a1 : List RcdT) (hg : sm2 (smL sm_rcd) a0 a1 = true) : ∃ keep rounds, ∀ {R : Type} (k : List Dt → Option R), evFn f58e keep rounds f58c [.ro, .ro] [false] true [.tmp 4] [4] [.d (.sl .rcd) a0, .d (.sl .rcd) a1] k = k [.d .bool (eqD a0 a1)] := by
  simp only [sm2, Bool.and_eq_true] at hg
  obtain ⟨hg0, hg1⟩ := hg
  have hl : a0.length ≤ 1048576 := smL_len hg0
  refine ⟨f58k, a0.length + 1, fun k => ?_⟩
  rw [f58_run]
  by_cases hc : a0.length = a1.length
  · have hc' : ((a0.length : Int) != (a1.length : Int)) = false := by simp [hc]
    simp only [hc', cond_false]
    refine Eq.trans (loop_idx (n := a0.length) (F := fun m i => f58L0 (a0.length + 1) _ _ a0 a1 m i) (p := fun j => eqD (atI (t := .rcd) a0 j) (atI (t := .rcd) a1 j)) (good := k [.d .bool true]) (bad := k [.d .bool false])
      (fun m j hj => ?_) (fun m => by simp only [f58L0, idxE, cond_false]) a0.length 0 (a0.length + 1) (by omega) (by omega)) ?_
    · obtain ⟨h1, h0, hw, ht⟩ := idx hj (by omega)
      obtain ⟨h2, _, _, _⟩ := idx (show j < a1.length by omega) (by omega)
      have ha := smL_at (t := .rcd) hg0 hj
      have hb := smL_at (t := .rcd) hg1 (show j < a1.length by omega)
      simp only [f58L0, h1, h0, h2, hw, ht, Bool.and_self, cond_true, sm2, ha, hb]
      cases eqD (atI (t := .rcd) a0 j) (atI (t := .rcd) a1 j) <;> rfl
    · rw [allN_eq hc (fun j x y hx hy => by rw [atI_of (t := .rcd) hx, atI_of (t := .rcd) hy])]
      cases eqD a0 a1 <;> rfl
  · simp only [bneLen hc, cond_true]
    rw [eqD_ne (fun e => hc (by rw [e]))]

noncomputable def q58 : List Dt → Option (Bool × List Dt)
  | [.d (.sl .rcd) a0, .d (.sl .rcd) a1] => some ((sm2 (smL sm_rcd) a0 a1), [.d .bool (eqD a0 a1)])
  | _ => none
noncomputable def s58 : Gm.Spec := Gm.Spec.of [.ro, .ro] [false] true q58
theorem good58 : Gm.Good Try.prog (58, s58) := by
  have hl : ∀ x ∈ [(70, s70)], Gm.Good Try.prog x := List.forall_mem_cons.2 ⟨good70, List.forall_mem_nil _⟩
  refine ⟨⟨spec_ok (tab_ok.env hl) (tab.natl hl) Try.func58 (by kernel_rfl : Try.f58.body = some f58c) [4] (by kernel_rfl) ?_, _, Try.func58, by kernel_rfl, of_decide_eq_true (by kernel_rfl)⟩, Gm.Spec.of_natl _ _ _ _⟩
  intro ds outs h
  unfold q58 at h
  split at h
  · simp only [Option.some.injEq, Prod.mk.injEq] at h; obtain ⟨hg, h⟩ := h; cases h; exact f58_spec _ _ hg
  · cases h
/-! ### loop.example/g00465/laws.eqScale -/
noncomputable def f43c : Code := (Try.f43.body).getD .skip
def f43k : Nat → Kp := kat [⟨[2, 3], [], [], []⟩, ⟨[2, 3, 9], [], [], []⟩, ⟨[4], [], [], []⟩, ⟨[2, 3, 14], [], [], []⟩, ⟨[4], [], [], []⟩, ⟨[20], [], [], []⟩, ⟨[4], [], [], []⟩, ⟨[4], [], [], []⟩]
noncomputable def f43e : Env := tab.env [(58, s58)]
theorem f43_run {R : Type} (n : Nat) (k : List Dt → Option R) (a0 : ScaleT) (a1 : ScaleT) : evFn f43e f43k n f43c [.ro, .ro] [false] true [.tmp 4] [4] [.d .scale a0, .d .scale a1] k =
    (cond (!(sEq (ScaleT.name a0) (ScaleT.name a1)))
    (k [.d .bool false])
    (cond ((ScaleT.now a0) != (ScaleT.now a1))
      (k [.d .bool false])
      (cond (sm2 (smL sm_rcd) (ScaleT.recs a0) (ScaleT.recs a1))
        (cond (!(eqD (ScaleT.recs a0) (ScaleT.recs a1)))
          (k [.d .bool false])
          (k [.d .bool true]))
        none))) := by kernel_rfl
theorem f43_spec (a0 : ScaleT) (a1 : ScaleT) (hg : sm2 sm_scale a0 a1 = true) : ∃ keep rounds, ∀ {R : Type} (k : List Dt → Option R), evFn f43e keep rounds f43c [.ro, .ro] [false] true [.tmp 4] [4] [.d .scale a0, .d .scale a1] k = k [.d .bool (eqD a0 a1)] := by
  simp only [sm2, sm_scale, Bool.and_eq_true] at hg
  refine ⟨f43k, 0, fun k => ?_⟩
  rw [f43_run, eqD_scale]
  simp only [bne, sm2, hg, Bool.and_self, Bool.true_and, cond_true]
  cases sEq a0.name a1.name <;> cases (a0.now == a1.now) <;> cases eqD a0.recs a1.recs <;> rfl

noncomputable def q43 : List Dt → Option (Bool × List Dt)
  | [.d .scale a0, .d .scale a1] => some ((sm2 sm_scale a0 a1), [.d .bool (eqD a0 a1)])
  | _ => none
noncomputable def s43 : Gm.Spec := Gm.Spec.of [.ro, .ro] [false] true q43
theorem good43 : Gm.Good Try.prog (43, s43) := by
  have hl : ∀ x ∈ [(58, s58)], Gm.Good Try.prog x := List.forall_mem_cons.2 ⟨good58, List.forall_mem_nil _⟩
  refine ⟨⟨spec_ok (tab_ok.env hl) (tab.natl hl) Try.func43 (by kernel_rfl : Try.f43.body = some f43c) [4] (by kernel_rfl) ?_, _, Try.func43, by kernel_rfl, of_decide_eq_true (by kernel_rfl)⟩, Gm.Spec.of_natl _ _ _ _⟩
  intro ds outs h
  unfold q43 at h
  split at h
  · simp only [Option.some.injEq, Prod.mk.injEq] at h; obtain ⟨hg, h⟩ := h; cases h; exact f43_spec _ _ hg
  · cases h
/-! ### loop.example/g00465/laws.eqScaleS -/
noncomputable def f25c : Code := (Try.f25.body).getD .skip
def f25k : Nat → Kp := kat [⟨[0, 1], [], [], []⟩, ⟨[0, 1, 10], [], [], []⟩, ⟨[4], [], [], []⟩, ⟨[0, 1, 5], [], [], []⟩, ⟨[0, 1, 5, 14], [], [], []⟩, ⟨[0, 1, 5], [], [], []⟩, ⟨[0, 1, 5, 26], [], [], []⟩, ⟨[4], [], [], []⟩, ⟨[4], [], [], []⟩]
noncomputable def f25e : Env := tab.env [(43, s43)]
noncomputable def f25L0 {R : Type} (n : Nat) (x0 : Option R) (x1 : Int → Bool → Option R) (vs0 : List ScaleT) (vs1 : List ScaleT) : Nat → Int → Option R
  | 0, _ => none
  | m + 1, vs5 =>
    (cond (decide (vs5 < (vs0.length : Int)))
      (cond ((decide ((0 : Int) ≤ vs5)) && (decide (vs5 < (vs0.length : Int))))
        (cond ((decide ((0 : Int) ≤ vs5)) && (decide (vs5 < (vs1.length : Int))))
          (cond (sm2 sm_scale (atI (t := .scale) vs0 (Int.toNat vs5)) (atI (t := .scale) vs1 (Int.toNat vs5)))
            (cond (!(eqD (atI (t := .scale) vs0 (Int.toNat vs5)) (atI (t := .scale) vs1 (Int.toNat vs5))))
              (x0)
              (f25L0 n x0 x1 vs0 vs1 m (IntKind.wrap .i64 (vs5 + (1 : Int)))))
            none)
          none)
        none)
      (x1 vs5 (decide (vs5 < (vs0.length : Int)))))
theorem f25L0_b {R : Type} (n : Nat) (k' : Ex → St → Option R) (vs0 : List ScaleT) (vs1 : List ScaleT) (vs5 : Int) : ev f25e f25k n (cAt [1,1,0,1,0,0] f25c) ⟨[(0, .c (.one (.ro .scale vs0))), (1, .c (.one (.ro .scale vs1))), (5, .c (.one (.v (.int .i64 vs5))))], [], []⟩ k' =
    (cond (decide (vs5 < (vs0.length : Int)))
    (cond ((decide ((0 : Int) ≤ vs5)) && (decide (vs5 < (vs0.length : Int))))
      (cond ((decide ((0 : Int) ≤ vs5)) && (decide (vs5 < (vs1.length : Int))))
        (cond (sm2 sm_scale (atI (t := .scale) vs0 (Int.toNat vs5)) (atI (t := .scale) vs1 (Int.toNat vs5)))
          (cond (!(eqD (atI (t := .scale) vs0 (Int.toNat vs5)) (atI (t := .scale) vs1 (Int.toNat vs5))))
            (k' .ret ⟨[(4, .c (.one (.v (.bool false))))], [], []⟩)
            (k' .normal ⟨[(0, .c (.one (.ro .scale vs0))), (1, .c (.one (.ro .scale vs1))), (5, .c (.one (.v (.int .i64 (IntKind.wrap .i64 (vs5 + (1 : Int)))))))], [], []⟩))
          none)
        none)
      none)
    (k' (.exit 0) ⟨[(0, .c (.one (.ro .scale vs0))), (1, .c (.one (.ro .scale vs1))), (5, .c (.one (.v (.int .i64 vs5)))), (14, .c (.one (.v (.bool (decide (vs5 < (vs0.length : Int)))))))], [], []⟩)) := by kernel_rfl
theorem f25L0_eq {R : Type} (n : Nat) (k' : Ex → St → Option R) (vs0 : List ScaleT) (vs1 : List ScaleT) : ∀ (m : Nat) (vs5 : Int), iter (fun st k => ev f25e f25k n (cAt [1,1,0,1,0,0] f25c) st k) m ⟨[(0, .c (.one (.ro .scale vs0))), (1, .c (.one (.ro .scale vs1))), (5, .c (.one (.v (.int .i64 vs5))))], [], []⟩ k' = f25L0 n (k' .ret ⟨[(4, .c (.one (.v (.bool false))))], [], []⟩) (fun (xvs5 : Int) (xvs14 : Bool) => k' (.exit 0) ⟨[(0, .c (.one (.ro .scale vs0))), (1, .c (.one (.ro .scale vs1))), (5, .c (.one (.v (.int .i64 xvs5)))), (14, .c (.one (.v (.bool xvs14))))], [], []⟩) vs0 vs1 m vs5 := by
  intro m; induction m with
  | zero => intros; rfl
  | succ m ih =>
    intro vs5
    simp only [iter]
    rw [f25L0_b]
    simp only [ih, f25L0]

noncomputable def f25K0 {R : Type} (n : Nat) (k' : Ex → St → Option R) : Ex → St → Option R := (blockK 0 (seqK f25e f25k n (cAt [1,1,1] f25c) k'))
theorem f25K0_x0 {R : Type} (n : Nat) (k : List Dt → Option R) (a0 : List ScaleT) (a1 : List ScaleT)  : f25K0 n (exitK f25e [.ro, .ro] [false] true [.tmp 4] [4] [.d (.sl .scale) a0, .d (.sl .scale) a1] k) .ret ⟨[(4, .c (.one (.v (.bool false))))], [], []⟩ =
    (k [.d .bool false]) := by kernel_rfl
theorem f25K0_x1 {R : Type} (n : Nat) (k : List Dt → Option R) (a0 : List ScaleT) (a1 : List ScaleT) (vs0 : List ScaleT) (vs1 : List ScaleT) (xvs5 : Int) (xvs14 : Bool) : f25K0 n (exitK f25e [.ro, .ro] [false] true [.tmp 4] [4] [.d (.sl .scale) a0, .d (.sl .scale) a1] k) (.exit 0) ⟨[(0, .c (.one (.ro .scale vs0))), (1, .c (.one (.ro .scale vs1))), (5, .c (.one (.v (.int .i64 xvs5)))), (14, .c (.one (.v (.bool xvs14))))], [], []⟩ =
    (k [.d .bool true]) := by kernel_rfl

theorem f25_run {R : Type} (n : Nat) (k : List Dt → Option R) (a0 : List ScaleT) (a1 : List ScaleT) : evFn f25e f25k n f25c [.ro, .ro] [false] true [.tmp 4] [4] [.d (.sl .scale) a0, .d (.sl .scale) a1] k =
    (cond ((a0.length : Int) != (a1.length : Int))
    (k [.d .bool false])
    (f25L0 n (k [.d .bool false]) (fun (xvs5 : Int) (xvs14 : Bool) =>
      (k [.d .bool true])) a0 a1 n (0 : Int))) := by
  refine Eq.trans (b := (cond ((a0.length : Int) != (a1.length : Int))
    (k [.d .bool false])
    (iter (fun st k => ev f25e f25k n (cAt [1,1,0,1,0,0] f25c) st k) n ⟨[(0, .c (.one (.ro .scale a0))), (1, .c (.one (.ro .scale a1))), (5, .c (.one (.v (.int .i64 (0 : Int)))))], [], []⟩ (f25K0 n (exitK f25e [.ro, .ro] [false] true [.tmp 4] [4] [.d (.sl .scale) a0, .d (.sl .scale) a1] k))))) (by kernel_rfl) ?_
  simp only [f25L0_eq, f25K0_x0, f25K0_x1]
theorem f25_spec (a0 : List ScaleT) (a1 : List ScaleT) (hg : sm2 (smL sm_scale) a0 a1 = true) : ∃ keep rounds, ∀ {R : Type} (k : List Dt → Option R), evFn f25e keep rounds f25c [.ro, .ro] [false] true [.tmp 4] [4] [.d (.sl .scale) a0, .d (.sl .scale) a1] k = k [.d .bool (eqD a0 a1)] := by
  simp only [sm2, Bool.and_eq_true] at hg
  obtain ⟨hg0, hg1⟩ := hg
  have hl : a0.length ≤ 1048576 := smL_len hg0
  refine ⟨f25k, a0.length + 1, fun k => ?_⟩
  rw [f25_run]
  by_cases hc : a0.length = a1.length
  · have hc' : ((a0.length : Int) != (a1.length : Int)) = false := by simp [hc]
    simp only [hc', cond_false]
    refine Eq.trans (loop_idx (n := a0.length) (F := fun m i => f25L0 (a0.length + 1) _ _ a0 a1 m i) (p := fun j => eqD (atI (t := .scale) a0 j) (atI (t := .scale) a1 j)) (good := k [.d .bool true]) (bad := k [.d .bool false])
      (fun m j hj => ?_) (fun m => by simp only [f25L0, idxE, cond_false]) a0.length 0 (a0.length + 1) (by omega) (by omega)) ?_
    · obtain ⟨h1, h0, hw, ht⟩ := idx hj (by omega)
      obtain ⟨h2, _, _, _⟩ := idx (show j < a1.length by omega) (by omega)
      have ha := smL_at (t := .scale) hg0 hj
      have hb := smL_at (t := .scale) hg1 (show j < a1.length by omega)
      simp only [f25L0, h1, h0, h2, hw, ht, Bool.and_self, cond_true, sm2, ha, hb]
      cases eqD (atI (t := .scale) a0 j) (atI (t := .scale) a1 j) <;> rfl
    · rw [allN_eq hc (fun j x y hx hy => by rw [atI_of (t := .scale) hx, atI_of (t := .scale) hy])]
      cases eqD a0 a1 <;> rfl
  · simp only [bneLen hc, cond_true]
    rw [eqD_ne (fun e => hc (by rw [e]))]

noncomputable def q25 : List Dt → Option (Bool × List Dt)
  | [.d (.sl .scale) a0, .d (.sl .scale) a1] => some ((sm2 (smL sm_scale) a0 a1), [.d .bool (eqD a0 a1)])
  | _ => none
noncomputable def s25 : Gm.Spec := Gm.Spec.of [.ro, .ro] [false] true q25
theorem good25 : Gm.Good Try.prog (25, s25) := by
  have hl : ∀ x ∈ [(43, s43)], Gm.Good Try.prog x := List.forall_mem_cons.2 ⟨good43, List.forall_mem_nil _⟩
  refine ⟨⟨spec_ok (tab_ok.env hl) (tab.natl hl) Try.func25 (by kernel_rfl : Try.f25.body = some f25c) [4] (by kernel_rfl) ?_, _, Try.func25, by kernel_rfl, of_decide_eq_true (by kernel_rfl)⟩, Gm.Spec.of_natl _ _ _ _⟩
  intro ds outs h
  unfold q25 at h
  split at h
  · simp only [Option.some.injEq, Prod.mk.injEq] at h; obtain ⟨hg, h⟩ := h; cases h; exact f25_spec _ _ hg
  · cases h
/-! ### loop.example/g00465/laws.eqTold -/
noncomputable def f44c : Code := (Try.f44.body).getD .skip
def f44k : Nat → Kp := kat [⟨[2, 3], [], [], []⟩, ⟨[2, 3, 9], [], [], []⟩, ⟨[4], [], [], []⟩, ⟨[2, 3, 14], [], [], []⟩, ⟨[4], [], [], []⟩, ⟨[19], [], [], []⟩, ⟨[4], [], [], []⟩, ⟨[4], [], [], []⟩]
noncomputable def f44e : Env := tab.env []
theorem f44_run {R : Type} (n : Nat) (k : List Dt → Option R) (a0 : ToldT) (a1 : ToldT) : evFn f44e f44k n f44c [.ro, .ro] [false] true [.tmp 4] [4] [.d .told a0, .d .told a1] k =
    (cond ((ToldT.time a0) != (ToldT.time a1))
    (k [.d .bool false])
    (cond (!(sEq (ToldT.name a0) (ToldT.name a1)))
      (k [.d .bool false])
      (cond ((ToldT.n a0) != (ToldT.n a1))
        (k [.d .bool false])
        (k [.d .bool true])))) := by kernel_rfl
theorem f44_spec (a0 : ToldT) (a1 : ToldT) (hg : sm2 sm_told a0 a1 = true) : ∃ keep rounds, ∀ {R : Type} (k : List Dt → Option R), evFn f44e keep rounds f44c [.ro, .ro] [false] true [.tmp 4] [4] [.d .told a0, .d .told a1] k = k [.d .bool (eqD a0 a1)] := by
  simp only [sm2, sm_told, Bool.and_eq_true] at hg
  refine ⟨f44k, 0, fun k => ?_⟩
  rw [f44_run, eqD_told]
  try simp only [bne]
  cases (a0.time == a1.time) <;> cases sEq a0.name a1.name <;> cases (a0.n == a1.n) <;> rfl

noncomputable def q44 : List Dt → Option (Bool × List Dt)
  | [.d .told a0, .d .told a1] => some ((sm2 sm_told a0 a1), [.d .bool (eqD a0 a1)])
  | _ => none
noncomputable def s44 : Gm.Spec := Gm.Spec.of [.ro, .ro] [false] true q44
theorem good44 : Gm.Good Try.prog (44, s44) := by
  have hl : ∀ x ∈ ([] : List (Nat × Gm.Spec)), Gm.Good Try.prog x := fun _ h => by cases h
  refine ⟨⟨spec_ok (tab_ok.env hl) (tab.natl hl) Try.func44 (by kernel_rfl : Try.f44.body = some f44c) [4] (by kernel_rfl) ?_, _, Try.func44, by kernel_rfl, of_decide_eq_true (by kernel_rfl)⟩, Gm.Spec.of_natl _ _ _ _⟩
  intro ds outs h
  unfold q44 at h
  split at h
  · simp only [Option.some.injEq, Prod.mk.injEq] at h; obtain ⟨hg, h⟩ := h; cases h; exact f44_spec _ _ hg
  · cases h
/-! ### loop.example/g00465/laws.eqToldS -/
noncomputable def f26c : Code := (Try.f26.body).getD .skip
def f26k : Nat → Kp := kat [⟨[0, 1], [], [], []⟩, ⟨[0, 1, 10], [], [], []⟩, ⟨[4], [], [], []⟩, ⟨[0, 1, 5], [], [], []⟩, ⟨[0, 1, 5, 14], [], [], []⟩, ⟨[0, 1, 5], [], [], []⟩, ⟨[0, 1, 5, 26], [], [], []⟩, ⟨[4], [], [], []⟩, ⟨[4], [], [], []⟩]
noncomputable def f26e : Env := tab.env [(44, s44)]
noncomputable def f26L0 {R : Type} (n : Nat) (x0 : Option R) (x1 : Int → Bool → Option R) (vs0 : List ToldT) (vs1 : List ToldT) : Nat → Int → Option R
  | 0, _ => none
  | m + 1, vs5 =>
    (cond (decide (vs5 < (vs0.length : Int)))
      (cond ((decide ((0 : Int) ≤ vs5)) && (decide (vs5 < (vs0.length : Int))))
        (cond ((decide ((0 : Int) ≤ vs5)) && (decide (vs5 < (vs1.length : Int))))
          (cond (sm2 sm_told (atI (t := .told) vs0 (Int.toNat vs5)) (atI (t := .told) vs1 (Int.toNat vs5)))
            (cond (!(eqD (atI (t := .told) vs0 (Int.toNat vs5)) (atI (t := .told) vs1 (Int.toNat vs5))))
              (x0)
              (f26L0 n x0 x1 vs0 vs1 m (IntKind.wrap .i64 (vs5 + (1 : Int)))))
            none)
          none)
        none)
      (x1 vs5 (decide (vs5 < (vs0.length : Int)))))
theorem f26L0_b {R : Type} (n : Nat) (k' : Ex → St → Option R) (vs0 : List ToldT) (vs1 : List ToldT) (vs5 : Int) : ev f26e f26k n (cAt [1,1,0,1,0,0] f26c) ⟨[(0, .c (.one (.ro .told vs0))), (1, .c (.one (.ro .told vs1))), (5, .c (.one (.v (.int .i64 vs5))))], [], []⟩ k' =
    (cond (decide (vs5 < (vs0.length : Int)))
    (cond ((decide ((0 : Int) ≤ vs5)) && (decide (vs5 < (vs0.length : Int))))
      (cond ((decide ((0 : Int) ≤ vs5)) && (decide (vs5 < (vs1.length : Int))))
        (cond (sm2 sm_told (atI (t := .told) vs0 (Int.toNat vs5)) (atI (t := .told) vs1 (Int.toNat vs5)))
          (cond (!(eqD (atI (t := .told) vs0 (Int.toNat vs5)) (atI (t := .told) vs1 (Int.toNat vs5))))
            (k' .ret ⟨[(4, .c (.one (.v (.bool false))))], [], []⟩)
            (k' .normal ⟨[(0, .c (.one (.ro .told vs0))), (1, .c (.one (.ro .told vs1))), (5, .c (.one (.v (.int .i64 (IntKind.wrap .i64 (vs5 + (1 : Int)))))))], [], []⟩))
          none)
        none)
      none)
    (k' (.exit 0) ⟨[(0, .c (.one (.ro .told vs0))), (1, .c (.one (.ro .told vs1))), (5, .c (.one (.v (.int .i64 vs5)))), (14, .c (.one (.v (.bool (decide (vs5 < (vs0.length : Int)))))))], [], []⟩)) := by kernel_rfl
theorem f26L0_eq {R : Type} (n : Nat) (k' : Ex → St → Option R) (vs0 : List ToldT) (vs1 : List ToldT) : ∀ (m : Nat) (vs5 : Int), iter (fun st k => ev f26e f26k n (cAt [1,1,0,1,0,0] f26c) st k) m ⟨[(0, .c (.one (.ro .told vs0))), (1, .c (.one (.ro .told vs1))), (5, .c (.one (.v (.int .i64 vs5))))], [], []⟩ k' = f26L0 n (k' .ret ⟨[(4, .c (.one (.v (.bool false))))], [], []⟩) (fun (xvs5 : Int) (xvs14 : Bool) => k' (.exit 0) ⟨[(0, .c (.one (.ro .told vs0))), (1, .c (.one (.ro .told vs1))), (5, .c (.one (.v (.int .i64 xvs5)))), (14, .c (.one (.v (.bool xvs14))))], [], []⟩) vs0 vs1 m vs5 := by
  intro m; induction m with
  | zero => intros; rfl
  | succ m ih =>
    intro vs5
    simp only [iter]
    rw [f26L0_b]
    simp only [ih, f26L0]

noncomputable def f26K0 {R : Type} (n : Nat) (k' : Ex → St → Option R) : Ex → St → Option R := (blockK 0 (seqK f26e f26k n (cAt [1,1,1] f26c) k'))
theorem f26K0_x0 {R : Type} (n : Nat) (k : List Dt → Option R) (a0 : List ToldT) (a1 : List ToldT)  : f26K0 n (exitK f26e [.ro, .ro] [false] true [.tmp 4] [4] [.d (.sl .told) a0, .d (.sl .told) a1] k) .ret ⟨[(4, .c (.one (.v (.bool false))))], [], []⟩ =
    (k [.d .bool false]) := by kernel_rfl
theorem f26K0_x1 {R : Type} (n : Nat) (k : List Dt → Option R) (a0 : List ToldT) (a1 : List ToldT) (vs0 : List ToldT) (vs1 : List ToldT) (xvs5 : Int) (xvs14 : Bool) : f26K0 n (exitK f26e [.ro, .ro] [false] true [.tmp 4] [4] [.d (.sl .told) a0, .d (.sl .told) a1] k) (.exit 0) ⟨[(0, .c (.one (.ro .told vs0))), (1, .c (.one (.ro .told vs1))), (5, .c (.one (.v (.int .i64 xvs5)))), (14, .c (.one (.v (.bool xvs14))))], [], []⟩ =
    (k [.d .bool true]) := by kernel_rfl

theorem f26_run {R : Type} (n : Nat) (k : List Dt → Option R) (a0 : List ToldT) (a1 : List ToldT) : evFn f26e f26k n f26c [.ro, .ro] [false] true [.tmp 4] [4] [.d (.sl .told) a0, .d (.sl .told) a1] k =
    (cond ((a0.length : Int) != (a1.length : Int))
    (k [.d .bool false])
    (f26L0 n (k [.d .bool false]) (fun (xvs5 : Int) (xvs14 : Bool) =>
      (k [.d .bool true])) a0 a1 n (0 : Int))) := by
  refine Eq.trans (b := (cond ((a0.length : Int) != (a1.length : Int))
    (k [.d .bool false])
    (iter (fun st k => ev f26e f26k n (cAt [1,1,0,1,0,0] f26c) st k) n ⟨[(0, .c (.one (.ro .told a0))), (1, .c (.one (.ro .told a1))), (5, .c (.one (.v (.int .i64 (0 : Int)))))], [], []⟩ (f26K0 n (exitK f26e [.ro, .ro] [false] true [.tmp 4] [4] [.d (.sl .told) a0, .d (.sl .told) a1] k))))) (by kernel_rfl) ?_
  simp only [f26L0_eq, f26K0_x0, f26K0_x1]
theorem f26_spec (a0 : List ToldT) (a1 : List ToldT) (hg : sm2 (smL sm_told) a0 a1 = true) : ∃ keep rounds, ∀ {R : Type} (k : List Dt → Option R), evFn f26e keep rounds f26c [.ro, .ro] [false] true [.tmp 4] [4] [.d (.sl .told) a0, .d (.sl .told) a1] k = k [.d .bool (eqD a0 a1)] := by
  simp only [sm2, Bool.and_eq_true] at hg
  obtain ⟨hg0, hg1⟩ := hg
  have hl : a0.length ≤ 1048576 := smL_len hg0
  refine ⟨f26k, a0.length + 1, fun k => ?_⟩
  rw [f26_run]
  by_cases hc : a0.length = a1.length
  · have hc' : ((a0.length : Int) != (a1.length : Int)) = false := by simp [hc]
    simp only [hc', cond_false]
    refine Eq.trans (loop_idx (n := a0.length) (F := fun m i => f26L0 (a0.length + 1) _ _ a0 a1 m i) (p := fun j => eqD (atI (t := .told) a0 j) (atI (t := .told) a1 j)) (good := k [.d .bool true]) (bad := k [.d .bool false])
      (fun m j hj => ?_) (fun m => by simp only [f26L0, idxE, cond_false]) a0.length 0 (a0.length + 1) (by omega) (by omega)) ?_
    · obtain ⟨h1, h0, hw, ht⟩ := idx hj (by omega)
      obtain ⟨h2, _, _, _⟩ := idx (show j < a1.length by omega) (by omega)
      have ha := smL_at (t := .told) hg0 hj
      have hb := smL_at (t := .told) hg1 (show j < a1.length by omega)
      simp only [f26L0, h1, h0, h2, hw, ht, Bool.and_self, cond_true, sm2, ha, hb]
      cases eqD (atI (t := .told) a0 j) (atI (t := .told) a1 j) <;> rfl
    · rw [allN_eq hc (fun j x y hx hy => by rw [atI_of (t := .told) hx, atI_of (t := .told) hy])]
      cases eqD a0 a1 <;> rfl
  · simp only [bneLen hc, cond_true]
    rw [eqD_ne (fun e => hc (by rw [e]))]

noncomputable def q26 : List Dt → Option (Bool × List Dt)
  | [.d (.sl .told) a0, .d (.sl .told) a1] => some ((sm2 (smL sm_told) a0 a1), [.d .bool (eqD a0 a1)])
  | _ => none
noncomputable def s26 : Gm.Spec := Gm.Spec.of [.ro, .ro] [false] true q26
theorem good26 : Gm.Good Try.prog (26, s26) := by
  have hl : ∀ x ∈ [(44, s44)], Gm.Good Try.prog x := List.forall_mem_cons.2 ⟨good44, List.forall_mem_nil _⟩
  refine ⟨⟨spec_ok (tab_ok.env hl) (tab.natl hl) Try.func26 (by kernel_rfl : Try.f26.body = some f26c) [4] (by kernel_rfl) ?_, _, Try.func26, by kernel_rfl, of_decide_eq_true (by kernel_rfl)⟩, Gm.Spec.of_natl _ _ _ _⟩
  intro ds outs h
  unfold q26 at h
  split at h
  · simp only [Option.some.injEq, Prod.mk.injEq] at h; obtain ⟨hg, h⟩ := h; cases h; exact f26_spec _ _ hg
  · cases h
/-! ### loop.example/g00465/laws.eqWorld -/
noncomputable def f9c : Code := (Try.f9.body).getD .skip
def f9k : Nat → Kp := kat [⟨[2, 3], [], [], []⟩, ⟨[2, 3, 10], [], [], []⟩, ⟨[4], [], [], []⟩, ⟨[2, 3, 16], [], [], []⟩, ⟨[4], [], [], []⟩, ⟨[2, 3, 21], [], [], []⟩, ⟨[4], [], [], []⟩, ⟨[27], [], [], []⟩, ⟨[4], [], [], []⟩, ⟨[4], [], [], []⟩]
noncomputable def f9e : Env := tab.env [(24, s24), (25, s25), (26, s26)]
theorem f9_run {R : Type} (n : Nat) (k : List Dt → Option R) (a0 : WorldT) (a1 : WorldT) : evFn f9e f9k n f9c [.ro, .ro] [false] true [.tmp 4] [4] [.d .world a0, .d .world a1] k =
    (cond (sm2 sm_store (WorldT.store a0) (WorldT.store a1))
    (cond (!(eqD (WorldT.store a0) (WorldT.store a1)))
      (k [.d .bool false])
      (cond (sm2 (smL sm_scale) (WorldT.scales a0) (WorldT.scales a1))
        (cond (!(eqD (WorldT.scales a0) (WorldT.scales a1)))
          (k [.d .bool false])
          (cond ((WorldT.time a0) != (WorldT.time a1))
            (k [.d .bool false])
            (cond (sm2 (smL sm_told) (WorldT.log a0) (WorldT.log a1))
              (cond (!(eqD (WorldT.log a0) (WorldT.log a1)))
                (k [.d .bool false])
                (k [.d .bool true]))
              none)))
        none))
    none) := by kernel_rfl
theorem f9_spec (a0 : WorldT) (a1 : WorldT) (hg : sm2 sm_world a0 a1 = true) : ∃ keep rounds, ∀ {R : Type} (k : List Dt → Option R), evFn f9e keep rounds f9c [.ro, .ro] [false] true [.tmp 4] [4] [.d .world a0, .d .world a1] k = k [.d .bool (eqD a0 a1)] := by
  simp only [sm2, sm_world, Bool.and_eq_true] at hg
  refine ⟨f9k, 0, fun k => ?_⟩
  rw [f9_run, eqD_world]
  simp only [bne, sm2, hg, Bool.and_self, Bool.true_and, cond_true]
  cases eqD a0.store a1.store <;> cases eqD a0.scales a1.scales <;> cases (a0.time == a1.time) <;> cases eqD a0.log a1.log <;> rfl

noncomputable def q9 : List Dt → Option (Bool × List Dt)
  | [.d .world a0, .d .world a1] => some ((sm2 sm_world a0 a1), [.d .bool (eqD a0 a1)])
  | _ => none
noncomputable def s9 : Gm.Spec := Gm.Spec.of [.ro, .ro] [false] true q9
theorem good9 : Gm.Good Try.prog (9, s9) := by
  have hl : ∀ x ∈ [(24, s24), (25, s25), (26, s26)], Gm.Good Try.prog x := List.forall_mem_cons.2 ⟨good24, List.forall_mem_cons.2 ⟨good25, List.forall_mem_cons.2 ⟨good26, List.forall_mem_nil _⟩⟩⟩
  refine ⟨⟨spec_ok (tab_ok.env hl) (tab.natl hl) Try.func9 (by kernel_rfl : Try.f9.body = some f9c) [4] (by kernel_rfl) ?_, _, Try.func9, by kernel_rfl, of_decide_eq_true (by kernel_rfl)⟩, Gm.Spec.of_natl _ _ _ _⟩
  intro ds outs h
  unfold q9 at h
  split at h
  · simp only [Option.some.injEq, Prod.mk.injEq] at h; obtain ⟨hg, h⟩ := h; cases h; exact f9_spec _ _ hg
  · cases h
end Go.Proofs.Ytaeepnmdfdmgjaa

/- x -/
namespace Go.Proofs.Ytaeepnmdfdmgjaa
open Go Go.Gm
/-! ### loop.example/g00465/laws.FnExactJudgeVers -/
noncomputable def f4c : Code := (Try.f4.body).getD .skip
def f4k : Nat → Kp := kat [⟨[1], [], [], []⟩, ⟨[1, 3], [], [], []⟩, ⟨[1, 3], [], [], []⟩, ⟨[1, 11], [], [], []⟩, ⟨[2], [], [], []⟩, ⟨[1, 4], [], [], []⟩, ⟨[1, 4, 5], [], [], []⟩, ⟨[1, 4, 5, 6], [], [], []⟩, ⟨[1, 5, 21], [], [], []⟩, ⟨[2], [], [], []⟩, ⟨[26], [], [], []⟩, ⟨[2], [], [], []⟩, ⟨[2], [], [], []⟩]
noncomputable def f4e : Env := tab.env [(5, s5), (7, s7), (9, s9), (10, s10), (11, s11)]
theorem f4_run {R : Type} (n : Nat) (k : List Dt → Option R) (a0 : WorldT) : evFn f4e f4k n f4c [.ro] [false] true [.tmp 2] [4] [.d .world a0] k =
    (cond (gz_world a0 (1048576 : Int))
    (cond (decide ((z_world a0 (1048576 : Int)) < (0 : Int)))
      (k [.d .bool true])
      (cond (sm_world a0)
        (cond (sm_world a0)
          (cond (sm_world a0)
            (cond (sm_world a0)
              (cond (!((judgeV a0) == (judgeV a0)))
                (k [.d .bool false])
                (cond (sm_world a0)
                  (cond (sm2 sm_world a0 a0)
                    (cond (!(eqD a0 a0))
                      (k [.d .bool false])
                      (k [.d .bool true]))
                    none)
                  none))
              none)
            none)
          none)
        none))
    none) := by kernel_rfl
theorem f4_spec (a0 : WorldT) (hg : (ok_world a0) = true) : ∃ keep rounds, ∀ {R : Type} (k : List Dt → Option R), evFn f4e keep rounds f4c [.ro] [false] true [.tmp 2] [4] [.d .world a0] k = k [.d .bool ((fun (_ : WorldT) => true) a0)] := by
  have hg0 := hg
  refine ⟨f4k, 0, fun {R} k => ?_⟩
  rw [f4_run]
  have g0 : gz_world a0 (1048576 : Int) = true := by simp only [gz_world, Bool.and_eq_true, okN_iff]; exact ⟨hg0, by omega, by omega⟩
  have e0 : z_world a0 (1048576 : Int) = szI (szN_world a0) (1048576 : Int) := rfl
  by_cases c0 : szI (szN_world a0) (1048576 : Int) < 0
  · simp only [g0, e0, c0, decide_true, decide_false, cond_true, cond_false]
  have b0 : szI (szN_world a0) (1048576 : Int) = (1048576 : Int) - ((szN_world a0) : Nat) := by
    by_cases h : (1048576 : Int) - ((szN_world a0) : Nat) < 0
    · rw [szI_neg h] at c0; omega
    · exact szI_pos h
  have s0 : sm_world a0 = true := sm_world_of hg0 (by omega)
  have n0 : 0 ≤ (szI (szN_world a0) (1048576 : Int)) ∧ (szI (szN_world a0) (1048576 : Int)) ≤ 1048576 := by omega
  simp (disch := omega) only [g0, e0, c0, s0, sm2, gmk_of, decide_ge0, decide_false, cond_true, cond_false, Bool.and_self, bne_self_eq_false, beq_self_eq_true, sEq_self, eqD_self, Bool.not_true]

noncomputable def q4 : List Dt → Option (Bool × List Dt)
  | [.d .world a0] => some (((fun (x0 : WorldT) => ok_world x0) a0), [.d .bool ((fun (_ : WorldT) => true) a0)])
  | _ => none
noncomputable def s4 : Gm.Spec := Gm.Spec.of [.ro] [false] true q4
theorem good4 : Gm.Good Try.prog (4, s4) := by
  have hl : ∀ x ∈ [(5, s5), (7, s7), (9, s9), (10, s10), (11, s11)], Gm.Good Try.prog x := List.forall_mem_cons.2 ⟨good5, List.forall_mem_cons.2 ⟨good7, List.forall_mem_cons.2 ⟨good9, List.forall_mem_cons.2 ⟨good10, List.forall_mem_cons.2 ⟨good11, List.forall_mem_nil _⟩⟩⟩⟩⟩
  refine ⟨⟨spec_ok (tab_ok.env hl) (tab.natl hl) Try.func4 (by kernel_rfl : Try.f4.body = some f4c) [4] (by kernel_rfl) ?_, _, Try.func4, by kernel_rfl, of_decide_eq_true (by kernel_rfl)⟩, Gm.Spec.of_natl _ _ _ _⟩
  intro ds outs h
  unfold q4 at h
  split at h
  · simp only [Option.some.injEq, Prod.mk.injEq] at h; obtain ⟨hg, h⟩ := h; cases h; exact f4_spec _ hg
  · cases h
end Go.Proofs.Ytaeepnmdfdmgjaa

/- What the functions compute, part 2. No conditions. -/
import Derived.Test.YtnbehmbjoanfoaaReplayFn1
/- x -/
namespace Go.Proofs.Ytnbehmbjoanfoaa
open Go Go.Gm
/-! ### loop.example/g00465/laws.szMetric -/
noncomputable def f142c : Code := (Try.f142.body).getD .skip
def f142k : Nat → Kp := kat [⟨[1, 2], [], [], []⟩, ⟨[1], [], [], []⟩, ⟨[1, 11], [], [], []⟩, ⟨[4], [], [], []⟩, ⟨[4], [], [], []⟩]
noncomputable def f142e : Env := tab.env []
theorem f142_run {R : Type} (n : Nat) (k : List Dt → Option R) (a0 : MetricT) (a1 : Int) : evFn f142e f142k n f142c [.ro, .ro] [false] true [.tmp 4] [3] [.d .metric a0, .d (.i .i64) a1] k =
    (cond (decide ((IntKind.wrap .i64 (a1 - (ByteArray.size (MetricT.name a0) : Int))) < (0 : Int)))
    (k [.d (.i .i64) (-1 : Int)])
    (k [.d (.i .i64) (IntKind.wrap .i64 (a1 - (ByteArray.size (MetricT.name a0) : Int)))])) := by kernel_rfl
theorem f142_spec (a0 : MetricT) (a1 : Int) (hg : gz_metric a0 a1 = true) : ∃ keep rounds, ∀ {R : Type} (k : List Dt → Option R), evFn f142e keep rounds f142c [.ro, .ro] [false] true [.tmp 4] [3] [.d .metric a0, .d (.i .i64) a1] k = k [.d (.i .i64) (z_metric a0 a1)] := by
  simp only [gz_metric, ok_metric, Bool.and_eq_true, okN_iff] at hg
  obtain ⟨⟨hf_name, hf_kind, hf_goal⟩, hn1, hn2⟩ := hg
  have hf_nameb : a0.name.size ≤ 9223372036854775807 := bleN hf_name
  have eN : szN_metric a0 = a0.name.size := rfl
  refine ⟨f142k, 0, fun k => ?_⟩
  rw [f142_run]
  show _ = k [.d (.i .i64) (z_metric a0 a1)]
  unfold z_metric
  rw [wrap_id (x := a1 - ((a0.name.size : Nat) : Int)) (by omega) (by omega)]
  by_cases h1 : a1 - ((a0.name.size : Nat) : Int) < 0
  · simp only [h1, decide_true, cond_true]; rw [szI_neg (by omega)]
  simp only [h1, decide_false, cond_false]
  rw [szI_pos (by omega)]
  first
    | rfl
    | rw [show (a1 - ((a0.name.size : Nat) : Int)) = a1 - ((szN_metric a0 : Nat) : Int) by omega]

noncomputable def q142 : List Dt → Option (Bool × List Dt)
  | [.d .metric a0, .d (.i .i64) a1] => some ((gz_metric a0 a1), [.d (.i .i64) (z_metric a0 a1)])
  | _ => none
noncomputable def s142 : Gm.Spec := Gm.Spec.of [.ro, .ro] [false] true q142
theorem good142 : Gm.Good Try.prog (142, s142) := by
  have hl : ∀ x ∈ ([] : List (Nat × Gm.Spec)), Gm.Good Try.prog x := fun _ h => by cases h
  refine ⟨⟨spec_ok (tab_ok.env hl) (tab.natl hl) Try.func142 (by kernel_rfl : Try.f142.body = some f142c) [3] (by kernel_rfl) ?_, _, Try.func142, by kernel_rfl, of_decide_eq_true (by kernel_rfl)⟩, Gm.Spec.of_natl _ _ _ _⟩
  intro ds outs h
  unfold q142 at h
  split at h
  · simp only [Option.some.injEq, Prod.mk.injEq] at h; obtain ⟨hg, h⟩ := h; cases h; exact f142_spec _ _ hg
  · cases h
/-! ### loop.example/g00465/laws.szMetricS -/
noncomputable def f116c : Code := (Try.f116.body).getD .skip
def f116k : Nat → Kp := kat [⟨[0, 1], [], [], []⟩, ⟨[0, 1], [], [], []⟩, ⟨[0, 1, 11], [], [], []⟩, ⟨[4], [], [], []⟩, ⟨[0, 1, 5], [], [], []⟩, ⟨[0, 1, 5, 15], [], [], []⟩, ⟨[0, 1, 5], [], [], []⟩, ⟨[0, 1, 5], [], [], []⟩, ⟨[0, 1, 5, 25], [], [], []⟩, ⟨[4], [], [], []⟩, ⟨[4], [], [], []⟩]
noncomputable def f116e : Env := tab.env [(142, s142)]
noncomputable def f116L0 {R : Type} (n : Nat) (x0 : Option R) (x1 : Int → Int → Bool → Option R) (vs0 : List MetricT) : Nat → Int → Int → Option R
  | 0, _, _ => none
  | m + 1, vs1, vs5 =>
    (cond (decide (vs5 < (vs0.length : Int)))
      (cond ((decide ((0 : Int) ≤ vs5)) && (decide (vs5 < (vs0.length : Int))))
        (cond (gz_metric (atI (t := .metric) vs0 (Int.toNat vs5)) vs1)
          (cond (decide ((z_metric (atI (t := .metric) vs0 (Int.toNat vs5)) vs1) < (0 : Int)))
            (x0)
            (f116L0 n x0 x1 vs0 m (z_metric (atI (t := .metric) vs0 (Int.toNat vs5)) vs1) (IntKind.wrap .i64 (vs5 + (1 : Int)))))
          none)
        none)
      (x1 vs1 vs5 (decide (vs5 < (vs0.length : Int)))))
theorem f116L0_b {R : Type} (n : Nat) (k' : Ex → St → Option R) (vs0 : List MetricT) (vs1 : Int) (vs5 : Int) : ev f116e f116k n (cAt [1,1,1,0,1,0,0] f116c) ⟨[(0, .c (.one (.ro .metric vs0))), (1, .c (.one (.v (.int .i64 vs1)))), (5, .c (.one (.v (.int .i64 vs5))))], [], []⟩ k' =
    (cond (decide (vs5 < (vs0.length : Int)))
    (cond ((decide ((0 : Int) ≤ vs5)) && (decide (vs5 < (vs0.length : Int))))
      (cond (gz_metric (atI (t := .metric) vs0 (Int.toNat vs5)) vs1)
        (cond (decide ((z_metric (atI (t := .metric) vs0 (Int.toNat vs5)) vs1) < (0 : Int)))
          (k' .ret ⟨[(4, .c (.one (.v (.int .i64 (-1 : Int)))))], [], []⟩)
          (k' .normal ⟨[(0, .c (.one (.ro .metric vs0))), (1, .c (.one (.v (.int .i64 (z_metric (atI (t := .metric) vs0 (Int.toNat vs5)) vs1))))), (5, .c (.one (.v (.int .i64 (IntKind.wrap .i64 (vs5 + (1 : Int)))))))], [], []⟩))
        none)
      none)
    (k' (.exit 0) ⟨[(0, .c (.one (.ro .metric vs0))), (1, .c (.one (.v (.int .i64 vs1)))), (5, .c (.one (.v (.int .i64 vs5)))), (15, .c (.one (.v (.bool (decide (vs5 < (vs0.length : Int)))))))], [], []⟩)) := by kernel_rfl
theorem f116L0_eq {R : Type} (n : Nat) (k' : Ex → St → Option R) (vs0 : List MetricT) : ∀ (m : Nat) (vs1 : Int) (vs5 : Int), iter (fun st k => ev f116e f116k n (cAt [1,1,1,0,1,0,0] f116c) st k) m ⟨[(0, .c (.one (.ro .metric vs0))), (1, .c (.one (.v (.int .i64 vs1)))), (5, .c (.one (.v (.int .i64 vs5))))], [], []⟩ k' = f116L0 n (k' .ret ⟨[(4, .c (.one (.v (.int .i64 (-1 : Int)))))], [], []⟩) (fun (xvs1 : Int) (xvs5 : Int) (xvs15 : Bool) => k' (.exit 0) ⟨[(0, .c (.one (.ro .metric vs0))), (1, .c (.one (.v (.int .i64 xvs1)))), (5, .c (.one (.v (.int .i64 xvs5)))), (15, .c (.one (.v (.bool xvs15))))], [], []⟩) vs0 m vs1 vs5 := by
  intro m; induction m with
  | zero => intros; rfl
  | succ m ih =>
    intro vs1 vs5
    simp only [iter]
    rw [f116L0_b]
    simp only [ih, f116L0]

noncomputable def f116K0 {R : Type} (n : Nat) (k' : Ex → St → Option R) : Ex → St → Option R := (blockK 0 (seqK f116e f116k n (cAt [1,1,1,1] f116c) k'))
theorem f116K0_x0 {R : Type} (n : Nat) (k : List Dt → Option R) (a0 : List MetricT) (a1 : Int)  : f116K0 n (exitK f116e [.ro, .ro] [false] true [.tmp 4] [3] [.d (.sl .metric) a0, .d (.i .i64) a1] k) .ret ⟨[(4, .c (.one (.v (.int .i64 (-1 : Int)))))], [], []⟩ =
    (k [.d (.i .i64) (-1 : Int)]) := by kernel_rfl
theorem f116K0_x1 {R : Type} (n : Nat) (k : List Dt → Option R) (a0 : List MetricT) (a1 : Int) (vs0 : List MetricT) (xvs1 : Int) (xvs5 : Int) (xvs15 : Bool) : f116K0 n (exitK f116e [.ro, .ro] [false] true [.tmp 4] [3] [.d (.sl .metric) a0, .d (.i .i64) a1] k) (.exit 0) ⟨[(0, .c (.one (.ro .metric vs0))), (1, .c (.one (.v (.int .i64 xvs1)))), (5, .c (.one (.v (.int .i64 xvs5)))), (15, .c (.one (.v (.bool xvs15))))], [], []⟩ =
    (k [.d (.i .i64) xvs1]) := by kernel_rfl

theorem f116_run {R : Type} (n : Nat) (k : List Dt → Option R) (a0 : List MetricT) (a1 : Int) : evFn f116e f116k n f116c [.ro, .ro] [false] true [.tmp 4] [3] [.d (.sl .metric) a0, .d (.i .i64) a1] k =
    (cond (decide ((IntKind.wrap .i64 (a1 - (a0.length : Int))) < (0 : Int)))
    (k [.d (.i .i64) (-1 : Int)])
    (f116L0 n (k [.d (.i .i64) (-1 : Int)]) (fun (xvs1 : Int) (xvs5 : Int) (xvs15 : Bool) =>
      (k [.d (.i .i64) xvs1])) a0 n (IntKind.wrap .i64 (a1 - (a0.length : Int))) (0 : Int))) := by
  refine Eq.trans (b := (cond (decide ((IntKind.wrap .i64 (a1 - (a0.length : Int))) < (0 : Int)))
    (k [.d (.i .i64) (-1 : Int)])
    (iter (fun st k => ev f116e f116k n (cAt [1,1,1,0,1,0,0] f116c) st k) n ⟨[(0, .c (.one (.ro .metric a0))), (1, .c (.one (.v (.int .i64 (IntKind.wrap .i64 (a1 - (a0.length : Int))))))), (5, .c (.one (.v (.int .i64 (0 : Int)))))], [], []⟩ (f116K0 n (exitK f116e [.ro, .ro] [false] true [.tmp 4] [3] [.d (.sl .metric) a0, .d (.i .i64) a1] k))))) (by kernel_rfl) ?_
  simp only [f116L0_eq, f116K0_x0, f116K0_x1]
theorem f116_spec (a0 : List MetricT) (a1 : Int) (hg : gzL_metric a0 a1 = true) : ∃ keep rounds, ∀ {R : Type} (k : List Dt → Option R), evFn f116e keep rounds f116c [.ro, .ro] [false] true [.tmp 4] [3] [.d (.sl .metric) a0, .d (.i .i64) a1] k = k [.d (.i .i64) (zL_metric a0 a1)] := by
  simp only [gzL_metric, okL, Bool.and_eq_true, okN_iff] at hg
  obtain ⟨⟨hl, hs⟩, hn⟩ := hg
  have hl : a0.length ≤ 9223372036854775807 := bleN hl
  refine ⟨f116k, a0.length + 1, fun k => ?_⟩
  rw [f116_run, wrap_id (x := a1 - (a0.length : Int)) (by omega) (by omega)]
  show _ = k [.d (.i .i64) (zL_metric a0 a1)]
  unfold zL_metric
  have eL : szL szN_metric a0 = a0.length + (a0.map szN_metric).sum := rfl
  by_cases hc : a1 - (a0.length : Int) < 0
  · simp only [hc, decide_true, cond_true]
    rw [szI_neg (by omega)]
  · simp only [hc, decide_false, cond_false]
    refine Eq.trans (loop_fold (xs := a0) (F := fun m j left => f116L0 (a0.length + 1) _ _ a0 m left (j : Int)) (step := szStep szN_metric)
      (out := fun _ => k [.d (.i .i64) (-1 : Int)]) (good := fun left => k [.d (.i .i64) left]) (fun n => 0 ≤ n ∧ n ≤ 1048576)
      (fun x n n' hx hn h => by
        unfold szStep at h
        split at h
        · cases h
        · cases h; omega)
      (fun m j n x hx hn => ?_)
      (fun m n hn => by simp only [f116L0, idxE, cond_false]) a0.length 0 (a0.length + 1) (a1 - (a0.length : Int)) (by omega) (by omega) (by omega)) ?_
    · obtain ⟨h1, h0, hw, ht⟩ := idx (lt_of_get hx) (by omega)
      have hx2 := List.all_eq_true.1 hs x (List.mem_of_getElem? hx)
      have hg2 : gz_metric x n = true := by simp only [gz_metric, Bool.and_eq_true, okN_iff]; exact ⟨hx2, by omega, by omega⟩
      have hz : z_metric x n = szI (szN_metric x) n := rfl
      simp only [f116L0, h1, h0, hw, ht, atI_of (t := .metric) hx, Bool.and_self, cond_true, hg2, hz]
      unfold szStep
      by_cases h : n - (szN_metric x : Int) < 0
      · rw [szI_neg h]; simp only [h, if_true, Sum.elim_inl]; rfl
      · rw [szI_pos h]; simp only [h, decide_false, cond_false, if_false, Sum.elim_inr]
    · rw [List.drop_zero, sz_fold _ _ _ (by omega)]
      by_cases h2 : a1 - (a0.length : Int) - ((a0.map szN_metric).sum : Nat) < 0
      · rw [if_pos h2, szI_neg (by omega)]; rfl
      · rw [if_neg h2, szI_pos (by omega)]
        simp only [Sum.elim_inr]
        rw [show a1 - (a0.length : Int) - ((a0.map szN_metric).sum : Nat) = a1 - (szL szN_metric a0 : Nat) by omega]

noncomputable def q116 : List Dt → Option (Bool × List Dt)
  | [.d (.sl .metric) a0, .d (.i .i64) a1] => some ((gzL_metric a0 a1), [.d (.i .i64) (zL_metric a0 a1)])
  | _ => none
noncomputable def s116 : Gm.Spec := Gm.Spec.of [.ro, .ro] [false] true q116
theorem good116 : Gm.Good Try.prog (116, s116) := by
  have hl : ∀ x ∈ [(142, s142)], Gm.Good Try.prog x := List.forall_mem_cons.2 ⟨good142, List.forall_mem_nil _⟩
  refine ⟨⟨spec_ok (tab_ok.env hl) (tab.natl hl) Try.func116 (by kernel_rfl : Try.f116.body = some f116c) [3] (by kernel_rfl) ?_, _, Try.func116, by kernel_rfl, of_decide_eq_true (by kernel_rfl)⟩, Gm.Spec.of_natl _ _ _ _⟩
  intro ds outs h
  unfold q116 at h
  split at h
  · simp only [Option.some.injEq, Prod.mk.injEq] at h; obtain ⟨hg, h⟩ := h; cases h; exact f116_spec _ _ hg
  · cases h
/-! ### loop.example/g00465/laws.szNote -/
noncomputable def f143c : Code := (Try.f143.body).getD .skip
def f143k : Nat → Kp := kat [⟨[1, 2], [], [], []⟩, ⟨[1, 2], [], [], []⟩, ⟨[1, 2, 11], [], [], []⟩, ⟨[4], [], [], []⟩, ⟨[1], [], [], []⟩, ⟨[1, 18], [], [], []⟩, ⟨[4], [], [], []⟩, ⟨[4], [], [], []⟩]
noncomputable def f143e : Env := tab.env []
theorem f143_run {R : Type} (n : Nat) (k : List Dt → Option R) (a0 : NoteT) (a1 : Int) : evFn f143e f143k n f143c [.ro, .ro] [false] true [.tmp 4] [3] [.d .note a0, .d (.i .i64) a1] k =
    (cond (decide ((IntKind.wrap .i64 (a1 - (ByteArray.size (NoteT.key a0) : Int))) < (0 : Int)))
    (k [.d (.i .i64) (-1 : Int)])
    (cond (decide ((IntKind.wrap .i64 ((IntKind.wrap .i64 (a1 - (ByteArray.size (NoteT.key a0) : Int))) - (ByteArray.size (NoteT.text a0) : Int))) < (0 : Int)))
      (k [.d (.i .i64) (-1 : Int)])
      (k [.d (.i .i64) (IntKind.wrap .i64 ((IntKind.wrap .i64 (a1 - (ByteArray.size (NoteT.key a0) : Int))) - (ByteArray.size (NoteT.text a0) : Int)))]))) := by kernel_rfl
theorem f143_spec (a0 : NoteT) (a1 : Int) (hg : gz_note a0 a1 = true) : ∃ keep rounds, ∀ {R : Type} (k : List Dt → Option R), evFn f143e keep rounds f143c [.ro, .ro] [false] true [.tmp 4] [3] [.d .note a0, .d (.i .i64) a1] k = k [.d (.i .i64) (z_note a0 a1)] := by
  simp only [gz_note, ok_note, Bool.and_eq_true, okN_iff] at hg
  obtain ⟨⟨hf_key, hf_text⟩, hn1, hn2⟩ := hg
  have hf_keyb : a0.key.size ≤ 9223372036854775807 := bleN hf_key
  have hf_textb : a0.text.size ≤ 9223372036854775807 := bleN hf_text
  have eN : szN_note a0 = a0.key.size + a0.text.size := rfl
  refine ⟨f143k, 0, fun k => ?_⟩
  rw [f143_run]
  show _ = k [.d (.i .i64) (z_note a0 a1)]
  unfold z_note
  rw [wrap_id (x := a1 - ((a0.key.size : Nat) : Int)) (by omega) (by omega)]
  by_cases h1 : a1 - ((a0.key.size : Nat) : Int) < 0
  · simp only [h1, decide_true, cond_true]; rw [szI_neg (by omega)]
  simp only [h1, decide_false, cond_false]
  rw [wrap_id (x := (a1 - ((a0.key.size : Nat) : Int)) - ((a0.text.size : Nat) : Int)) (by omega) (by omega)]
  by_cases h2 : (a1 - ((a0.key.size : Nat) : Int)) - ((a0.text.size : Nat) : Int) < 0
  · simp only [h2, decide_true, cond_true]; rw [szI_neg (by omega)]
  simp only [h2, decide_false, cond_false]
  rw [szI_pos (by omega)]
  first
    | rfl
    | rw [show ((a1 - ((a0.key.size : Nat) : Int)) - ((a0.text.size : Nat) : Int)) = a1 - ((szN_note a0 : Nat) : Int) by omega]

noncomputable def q143 : List Dt → Option (Bool × List Dt)
  | [.d .note a0, .d (.i .i64) a1] => some ((gz_note a0 a1), [.d (.i .i64) (z_note a0 a1)])
  | _ => none
noncomputable def s143 : Gm.Spec := Gm.Spec.of [.ro, .ro] [false] true q143
theorem good143 : Gm.Good Try.prog (143, s143) := by
  have hl : ∀ x ∈ ([] : List (Nat × Gm.Spec)), Gm.Good Try.prog x := fun _ h => by cases h
  refine ⟨⟨spec_ok (tab_ok.env hl) (tab.natl hl) Try.func143 (by kernel_rfl : Try.f143.body = some f143c) [3] (by kernel_rfl) ?_, _, Try.func143, by kernel_rfl, of_decide_eq_true (by kernel_rfl)⟩, Gm.Spec.of_natl _ _ _ _⟩
  intro ds outs h
  unfold q143 at h
  split at h
  · simp only [Option.some.injEq, Prod.mk.injEq] at h; obtain ⟨hg, h⟩ := h; cases h; exact f143_spec _ _ hg
  · cases h
/-! ### loop.example/g00465/laws.szNoteS -/
noncomputable def f117c : Code := (Try.f117.body).getD .skip
def f117k : Nat → Kp := kat [⟨[0, 1], [], [], []⟩, ⟨[0, 1], [], [], []⟩, ⟨[0, 1, 11], [], [], []⟩, ⟨[4], [], [], []⟩, ⟨[0, 1, 5], [], [], []⟩, ⟨[0, 1, 5, 15], [], [], []⟩, ⟨[0, 1, 5], [], [], []⟩, ⟨[0, 1, 5], [], [], []⟩, ⟨[0, 1, 5, 25], [], [], []⟩, ⟨[4], [], [], []⟩, ⟨[4], [], [], []⟩]
noncomputable def f117e : Env := tab.env [(143, s143)]
noncomputable def f117L0 {R : Type} (n : Nat) (x0 : Option R) (x1 : Int → Int → Bool → Option R) (vs0 : List NoteT) : Nat → Int → Int → Option R
  | 0, _, _ => none
  | m + 1, vs1, vs5 =>
    (cond (decide (vs5 < (vs0.length : Int)))
      (cond ((decide ((0 : Int) ≤ vs5)) && (decide (vs5 < (vs0.length : Int))))
        (cond (gz_note (atI (t := .note) vs0 (Int.toNat vs5)) vs1)
          (cond (decide ((z_note (atI (t := .note) vs0 (Int.toNat vs5)) vs1) < (0 : Int)))
            (x0)
            (f117L0 n x0 x1 vs0 m (z_note (atI (t := .note) vs0 (Int.toNat vs5)) vs1) (IntKind.wrap .i64 (vs5 + (1 : Int)))))
          none)
        none)
      (x1 vs1 vs5 (decide (vs5 < (vs0.length : Int)))))
theorem f117L0_b {R : Type} (n : Nat) (k' : Ex → St → Option R) (vs0 : List NoteT) (vs1 : Int) (vs5 : Int) : ev f117e f117k n (cAt [1,1,1,0,1,0,0] f117c) ⟨[(0, .c (.one (.ro .note vs0))), (1, .c (.one (.v (.int .i64 vs1)))), (5, .c (.one (.v (.int .i64 vs5))))], [], []⟩ k' =
    (cond (decide (vs5 < (vs0.length : Int)))
    (cond ((decide ((0 : Int) ≤ vs5)) && (decide (vs5 < (vs0.length : Int))))
      (cond (gz_note (atI (t := .note) vs0 (Int.toNat vs5)) vs1)
        (cond (decide ((z_note (atI (t := .note) vs0 (Int.toNat vs5)) vs1) < (0 : Int)))
          (k' .ret ⟨[(4, .c (.one (.v (.int .i64 (-1 : Int)))))], [], []⟩)
          (k' .normal ⟨[(0, .c (.one (.ro .note vs0))), (1, .c (.one (.v (.int .i64 (z_note (atI (t := .note) vs0 (Int.toNat vs5)) vs1))))), (5, .c (.one (.v (.int .i64 (IntKind.wrap .i64 (vs5 + (1 : Int)))))))], [], []⟩))
        none)
      none)
    (k' (.exit 0) ⟨[(0, .c (.one (.ro .note vs0))), (1, .c (.one (.v (.int .i64 vs1)))), (5, .c (.one (.v (.int .i64 vs5)))), (15, .c (.one (.v (.bool (decide (vs5 < (vs0.length : Int)))))))], [], []⟩)) := by kernel_rfl
theorem f117L0_eq {R : Type} (n : Nat) (k' : Ex → St → Option R) (vs0 : List NoteT) : ∀ (m : Nat) (vs1 : Int) (vs5 : Int), iter (fun st k => ev f117e f117k n (cAt [1,1,1,0,1,0,0] f117c) st k) m ⟨[(0, .c (.one (.ro .note vs0))), (1, .c (.one (.v (.int .i64 vs1)))), (5, .c (.one (.v (.int .i64 vs5))))], [], []⟩ k' = f117L0 n (k' .ret ⟨[(4, .c (.one (.v (.int .i64 (-1 : Int)))))], [], []⟩) (fun (xvs1 : Int) (xvs5 : Int) (xvs15 : Bool) => k' (.exit 0) ⟨[(0, .c (.one (.ro .note vs0))), (1, .c (.one (.v (.int .i64 xvs1)))), (5, .c (.one (.v (.int .i64 xvs5)))), (15, .c (.one (.v (.bool xvs15))))], [], []⟩) vs0 m vs1 vs5 := by
  intro m; induction m with
  | zero => intros; rfl
  | succ m ih =>
    intro vs1 vs5
    simp only [iter]
    rw [f117L0_b]
    simp only [ih, f117L0]

noncomputable def f117K0 {R : Type} (n : Nat) (k' : Ex → St → Option R) : Ex → St → Option R := (blockK 0 (seqK f117e f117k n (cAt [1,1,1,1] f117c) k'))
theorem f117K0_x0 {R : Type} (n : Nat) (k : List Dt → Option R) (a0 : List NoteT) (a1 : Int)  : f117K0 n (exitK f117e [.ro, .ro] [false] true [.tmp 4] [3] [.d (.sl .note) a0, .d (.i .i64) a1] k) .ret ⟨[(4, .c (.one (.v (.int .i64 (-1 : Int)))))], [], []⟩ =
    (k [.d (.i .i64) (-1 : Int)]) := by kernel_rfl
theorem f117K0_x1 {R : Type} (n : Nat) (k : List Dt → Option R) (a0 : List NoteT) (a1 : Int) (vs0 : List NoteT) (xvs1 : Int) (xvs5 : Int) (xvs15 : Bool) : f117K0 n (exitK f117e [.ro, .ro] [false] true [.tmp 4] [3] [.d (.sl .note) a0, .d (.i .i64) a1] k) (.exit 0) ⟨[(0, .c (.one (.ro .note vs0))), (1, .c (.one (.v (.int .i64 xvs1)))), (5, .c (.one (.v (.int .i64 xvs5)))), (15, .c (.one (.v (.bool xvs15))))], [], []⟩ =
    (k [.d (.i .i64) xvs1]) := by kernel_rfl

theorem f117_run {R : Type} (n : Nat) (k : List Dt → Option R) (a0 : List NoteT) (a1 : Int) : evFn f117e f117k n f117c [.ro, .ro] [false] true [.tmp 4] [3] [.d (.sl .note) a0, .d (.i .i64) a1] k =
    (cond (decide ((IntKind.wrap .i64 (a1 - (a0.length : Int))) < (0 : Int)))
    (k [.d (.i .i64) (-1 : Int)])
    (f117L0 n (k [.d (.i .i64) (-1 : Int)]) (fun (xvs1 : Int) (xvs5 : Int) (xvs15 : Bool) =>
      (k [.d (.i .i64) xvs1])) a0 n (IntKind.wrap .i64 (a1 - (a0.length : Int))) (0 : Int))) := by
  refine Eq.trans (b := (cond (decide ((IntKind.wrap .i64 (a1 - (a0.length : Int))) < (0 : Int)))
    (k [.d (.i .i64) (-1 : Int)])
    (iter (fun st k => ev f117e f117k n (cAt [1,1,1,0,1,0,0] f117c) st k) n ⟨[(0, .c (.one (.ro .note a0))), (1, .c (.one (.v (.int .i64 (IntKind.wrap .i64 (a1 - (a0.length : Int))))))), (5, .c (.one (.v (.int .i64 (0 : Int)))))], [], []⟩ (f117K0 n (exitK f117e [.ro, .ro] [false] true [.tmp 4] [3] [.d (.sl .note) a0, .d (.i .i64) a1] k))))) (by kernel_rfl) ?_
  simp only [f117L0_eq, f117K0_x0, f117K0_x1]
theorem f117_spec (a0 : List NoteT) (a1 : Int) (hg : gzL_note a0 a1 = true) : ∃ keep rounds, ∀ {R : Type} (k : List Dt → Option R), evFn f117e keep rounds f117c [.ro, .ro] [false] true [.tmp 4] [3] [.d (.sl .note) a0, .d (.i .i64) a1] k = k [.d (.i .i64) (zL_note a0 a1)] := by
  simp only [gzL_note, okL, Bool.and_eq_true, okN_iff] at hg
  obtain ⟨⟨hl, hs⟩, hn⟩ := hg
  have hl : a0.length ≤ 9223372036854775807 := bleN hl
  refine ⟨f117k, a0.length + 1, fun k => ?_⟩
  rw [f117_run, wrap_id (x := a1 - (a0.length : Int)) (by omega) (by omega)]
  show _ = k [.d (.i .i64) (zL_note a0 a1)]
  unfold zL_note
  have eL : szL szN_note a0 = a0.length + (a0.map szN_note).sum := rfl
  by_cases hc : a1 - (a0.length : Int) < 0
  · simp only [hc, decide_true, cond_true]
    rw [szI_neg (by omega)]
  · simp only [hc, decide_false, cond_false]
    refine Eq.trans (loop_fold (xs := a0) (F := fun m j left => f117L0 (a0.length + 1) _ _ a0 m left (j : Int)) (step := szStep szN_note)
      (out := fun _ => k [.d (.i .i64) (-1 : Int)]) (good := fun left => k [.d (.i .i64) left]) (fun n => 0 ≤ n ∧ n ≤ 1048576)
      (fun x n n' hx hn h => by
        unfold szStep at h
        split at h
        · cases h
        · cases h; omega)
      (fun m j n x hx hn => ?_)
      (fun m n hn => by simp only [f117L0, idxE, cond_false]) a0.length 0 (a0.length + 1) (a1 - (a0.length : Int)) (by omega) (by omega) (by omega)) ?_
    · obtain ⟨h1, h0, hw, ht⟩ := idx (lt_of_get hx) (by omega)
      have hx2 := List.all_eq_true.1 hs x (List.mem_of_getElem? hx)
      have hg2 : gz_note x n = true := by simp only [gz_note, Bool.and_eq_true, okN_iff]; exact ⟨hx2, by omega, by omega⟩
      have hz : z_note x n = szI (szN_note x) n := rfl
      simp only [f117L0, h1, h0, hw, ht, atI_of (t := .note) hx, Bool.and_self, cond_true, hg2, hz]
      unfold szStep
      by_cases h : n - (szN_note x : Int) < 0
      · rw [szI_neg h]; simp only [h, if_true, Sum.elim_inl]; rfl
      · rw [szI_pos h]; simp only [h, decide_false, cond_false, if_false, Sum.elim_inr]
    · rw [List.drop_zero, sz_fold _ _ _ (by omega)]
      by_cases h2 : a1 - (a0.length : Int) - ((a0.map szN_note).sum : Nat) < 0
      · rw [if_pos h2, szI_neg (by omega)]; rfl
      · rw [if_neg h2, szI_pos (by omega)]
        simp only [Sum.elim_inr]
        rw [show a1 - (a0.length : Int) - ((a0.map szN_note).sum : Nat) = a1 - (szL szN_note a0 : Nat) by omega]

noncomputable def q117 : List Dt → Option (Bool × List Dt)
  | [.d (.sl .note) a0, .d (.i .i64) a1] => some ((gzL_note a0 a1), [.d (.i .i64) (zL_note a0 a1)])
  | _ => none
noncomputable def s117 : Gm.Spec := Gm.Spec.of [.ro, .ro] [false] true q117
theorem good117 : Gm.Good Try.prog (117, s117) := by
  have hl : ∀ x ∈ [(143, s143)], Gm.Good Try.prog x := List.forall_mem_cons.2 ⟨good143, List.forall_mem_nil _⟩
  refine ⟨⟨spec_ok (tab_ok.env hl) (tab.natl hl) Try.func117 (by kernel_rfl : Try.f117.body = some f117c) [3] (by kernel_rfl) ?_, _, Try.func117, by kernel_rfl, of_decide_eq_true (by kernel_rfl)⟩, Gm.Spec.of_natl _ _ _ _⟩
  intro ds outs h
  unfold q117 at h
  split at h
  · simp only [Option.some.injEq, Prod.mk.injEq] at h; obtain ⟨hg, h⟩ := h; cases h; exact f117_spec _ _ hg
  · cases h
/-! ### loop.example/g00465/laws.szOrder -/
noncomputable def f87c : Code := (Try.f87.body).getD .skip
def f87k : Nat → Kp := kat [⟨[1, 2], [], [], []⟩, ⟨[1, 2], [], [], []⟩, ⟨[1, 2, 11], [], [], []⟩, ⟨[4], [], [], []⟩, ⟨[1, 2], [], [], []⟩, ⟨[1, 2, 18], [], [], []⟩, ⟨[4], [], [], []⟩, ⟨[1, 2], [], [], []⟩, ⟨[1, 2, 24], [], [], []⟩, ⟨[4], [], [], []⟩, ⟨[1], [], [], []⟩, ⟨[1, 30], [], [], []⟩, ⟨[4], [], [], []⟩, ⟨[4], [], [], []⟩]
noncomputable def f87e : Env := tab.env [(116, s116), (117, s117)]
theorem f87_run {R : Type} (n : Nat) (k : List Dt → Option R) (a0 : OrderT) (a1 : Int) : evFn f87e f87k n f87c [.ro, .ro] [false] true [.tmp 4] [3] [.d .order a0, .d (.i .i64) a1] k =
    (cond (decide ((IntKind.wrap .i64 (a1 - (ByteArray.size (OrderT.name a0) : Int))) < (0 : Int)))
    (k [.d (.i .i64) (-1 : Int)])
    (cond (decide ((IntKind.wrap .i64 ((IntKind.wrap .i64 (a1 - (ByteArray.size (OrderT.name a0) : Int))) - (ByteArray.size (OrderT.target a0) : Int))) < (0 : Int)))
      (k [.d (.i .i64) (-1 : Int)])
      (cond (gzL_metric (OrderT.metrics a0) (IntKind.wrap .i64 ((IntKind.wrap .i64 (a1 - (ByteArray.size (OrderT.name a0) : Int))) - (ByteArray.size (OrderT.target a0) : Int))))
        (cond (decide ((zL_metric (OrderT.metrics a0) (IntKind.wrap .i64 ((IntKind.wrap .i64 (a1 - (ByteArray.size (OrderT.name a0) : Int))) - (ByteArray.size (OrderT.target a0) : Int)))) < (0 : Int)))
          (k [.d (.i .i64) (-1 : Int)])
          (cond (gzL_note (OrderT.notes a0) (zL_metric (OrderT.metrics a0) (IntKind.wrap .i64 ((IntKind.wrap .i64 (a1 - (ByteArray.size (OrderT.name a0) : Int))) - (ByteArray.size (OrderT.target a0) : Int)))))
            (cond (decide ((zL_note (OrderT.notes a0) (zL_metric (OrderT.metrics a0) (IntKind.wrap .i64 ((IntKind.wrap .i64 (a1 - (ByteArray.size (OrderT.name a0) : Int))) - (ByteArray.size (OrderT.target a0) : Int))))) < (0 : Int)))
              (k [.d (.i .i64) (-1 : Int)])
              (k [.d (.i .i64) (zL_note (OrderT.notes a0) (zL_metric (OrderT.metrics a0) (IntKind.wrap .i64 ((IntKind.wrap .i64 (a1 - (ByteArray.size (OrderT.name a0) : Int))) - (ByteArray.size (OrderT.target a0) : Int)))))]))
            none))
        none))) := by kernel_rfl
theorem f87_spec (a0 : OrderT) (a1 : Int) (hg : gz_order a0 a1 = true) : ∃ keep rounds, ∀ {R : Type} (k : List Dt → Option R), evFn f87e keep rounds f87c [.ro, .ro] [false] true [.tmp 4] [3] [.d .order a0, .d (.i .i64) a1] k = k [.d (.i .i64) (z_order a0 a1)] := by
  simp only [gz_order, ok_order, Bool.and_eq_true, okN_iff] at hg
  obtain ⟨⟨hf_name, hf_target, hf_low, hf_high, hf_metrics, hf_pace, hf_notes⟩, hn1, hn2⟩ := hg
  have hf_nameb : a0.name.size ≤ 9223372036854775807 := bleN hf_name
  have hf_targetb : a0.target.size ≤ 9223372036854775807 := bleN hf_target
  have eN : szN_order a0 = a0.name.size + a0.target.size + szL szN_metric a0.metrics + szN_pace a0.pace + szL szN_note a0.notes := rfl
  refine ⟨f87k, 0, fun k => ?_⟩
  rw [f87_run]
  show _ = k [.d (.i .i64) (z_order a0 a1)]
  unfold z_order
  have e_pace : szN_pace a0.pace = 0 := rfl
  rw [wrap_id (x := a1 - ((a0.name.size : Nat) : Int)) (by omega) (by omega)]
  by_cases h1 : a1 - ((a0.name.size : Nat) : Int) < 0
  · simp only [h1, decide_true, cond_true]; rw [szI_neg (by omega)]
  simp only [h1, decide_false, cond_false]
  rw [wrap_id (x := (a1 - ((a0.name.size : Nat) : Int)) - ((a0.target.size : Nat) : Int)) (by omega) (by omega)]
  by_cases h2 : (a1 - ((a0.name.size : Nat) : Int)) - ((a0.target.size : Nat) : Int) < 0
  · simp only [h2, decide_true, cond_true]; rw [szI_neg (by omega)]
  simp only [h2, decide_false, cond_false]
  have g3 : gzL_metric a0.metrics ((a1 - ((a0.name.size : Nat) : Int)) - ((a0.target.size : Nat) : Int)) = true := by simp only [gzL_metric, Bool.and_eq_true, okN_iff]; exact ⟨hf_metrics, by omega, by omega⟩
  have z4 : zL_metric a0.metrics ((a1 - ((a0.name.size : Nat) : Int)) - ((a0.target.size : Nat) : Int)) = szI (szL szN_metric a0.metrics) ((a1 - ((a0.name.size : Nat) : Int)) - ((a0.target.size : Nat) : Int)) := rfl
  rw [g3, z4]
  by_cases h4 : ((a1 - ((a0.name.size : Nat) : Int)) - ((a0.target.size : Nat) : Int)) - ((szL szN_metric a0.metrics : Nat) : Int) < 0
  · rw [szI_neg h4, szI_neg (by omega)]; rfl
  rw [szI_pos h4]
  simp only [cond_true, h4, decide_false, cond_false]
  have g5 : gzL_note a0.notes (((a1 - ((a0.name.size : Nat) : Int)) - ((a0.target.size : Nat) : Int)) - ((szL szN_metric a0.metrics : Nat) : Int)) = true := by simp only [gzL_note, Bool.and_eq_true, okN_iff]; exact ⟨hf_notes, by omega, by omega⟩
  have z6 : zL_note a0.notes (((a1 - ((a0.name.size : Nat) : Int)) - ((a0.target.size : Nat) : Int)) - ((szL szN_metric a0.metrics : Nat) : Int)) = szI (szL szN_note a0.notes) (((a1 - ((a0.name.size : Nat) : Int)) - ((a0.target.size : Nat) : Int)) - ((szL szN_metric a0.metrics : Nat) : Int)) := rfl
  rw [g5, z6]
  by_cases h6 : (((a1 - ((a0.name.size : Nat) : Int)) - ((a0.target.size : Nat) : Int)) - ((szL szN_metric a0.metrics : Nat) : Int)) - ((szL szN_note a0.notes : Nat) : Int) < 0
  · rw [szI_neg h6, szI_neg (by omega)]; rfl
  rw [szI_pos h6]
  simp only [cond_true, h6, decide_false, cond_false]
  rw [szI_pos (by omega)]
  first
    | rfl
    | rw [show ((((a1 - ((a0.name.size : Nat) : Int)) - ((a0.target.size : Nat) : Int)) - ((szL szN_metric a0.metrics : Nat) : Int)) - ((szL szN_note a0.notes : Nat) : Int)) = a1 - ((szN_order a0 : Nat) : Int) by omega]

noncomputable def q87 : List Dt → Option (Bool × List Dt)
  | [.d .order a0, .d (.i .i64) a1] => some ((gz_order a0 a1), [.d (.i .i64) (z_order a0 a1)])
  | _ => none
noncomputable def s87 : Gm.Spec := Gm.Spec.of [.ro, .ro] [false] true q87
theorem good87 : Gm.Good Try.prog (87, s87) := by
  have hl : ∀ x ∈ [(116, s116), (117, s117)], Gm.Good Try.prog x := List.forall_mem_cons.2 ⟨good116, List.forall_mem_cons.2 ⟨good117, List.forall_mem_nil _⟩⟩
  refine ⟨⟨spec_ok (tab_ok.env hl) (tab.natl hl) Try.func87 (by kernel_rfl : Try.f87.body = some f87c) [3] (by kernel_rfl) ?_, _, Try.func87, by kernel_rfl, of_decide_eq_true (by kernel_rfl)⟩, Gm.Spec.of_natl _ _ _ _⟩
  intro ds outs h
  unfold q87 at h
  split at h
  · simp only [Option.some.injEq, Prod.mk.injEq] at h; obtain ⟨hg, h⟩ := h; cases h; exact f87_spec _ _ hg
  · cases h
/-! ### loop.example/g00465/laws.szItem -/
noncomputable def f50c : Code := (Try.f50.body).getD .skip
def f50k : Nat → Kp := kat [⟨[1, 2], [], [], []⟩, ⟨[1], [], [], []⟩, ⟨[1, 10], [], [], []⟩, ⟨[4], [], [], []⟩, ⟨[4], [], [], []⟩]
noncomputable def f50e : Env := tab.env [(87, s87)]
theorem f50_run {R : Type} (n : Nat) (k : List Dt → Option R) (a0 : ItemT) (a1 : Int) : evFn f50e f50k n f50c [.ro, .ro] [false] true [.tmp 4] [3] [.d .item a0, .d (.i .i64) a1] k =
    (cond (gz_order (ItemT.order a0) a1)
    (cond (decide ((z_order (ItemT.order a0) a1) < (0 : Int)))
      (k [.d (.i .i64) (-1 : Int)])
      (k [.d (.i .i64) (z_order (ItemT.order a0) a1)]))
    none) := by kernel_rfl
theorem f50_spec (a0 : ItemT) (a1 : Int) (hg : gz_item a0 a1 = true) : ∃ keep rounds, ∀ {R : Type} (k : List Dt → Option R), evFn f50e keep rounds f50c [.ro, .ro] [false] true [.tmp 4] [3] [.d .item a0, .d (.i .i64) a1] k = k [.d (.i .i64) (z_item a0 a1)] := by
  simp only [gz_item, ok_item, Bool.and_eq_true, okN_iff] at hg
  obtain ⟨⟨hf_order, hf_ver⟩, hn1, hn2⟩ := hg
  have eN : szN_item a0 = szN_order a0.order := rfl
  refine ⟨f50k, 0, fun k => ?_⟩
  rw [f50_run]
  show _ = k [.d (.i .i64) (z_item a0 a1)]
  unfold z_item
  have g1 : gz_order a0.order a1 = true := by simp only [gz_order, Bool.and_eq_true, okN_iff]; exact ⟨hf_order, by omega, by omega⟩
  have z2 : z_order a0.order a1 = szI (szN_order a0.order) a1 := rfl
  rw [g1, z2]
  by_cases h2 : a1 - ((szN_order a0.order : Nat) : Int) < 0
  · rw [szI_neg h2, szI_neg (by omega)]; rfl
  rw [szI_pos h2]
  simp only [cond_true, h2, decide_false, cond_false]
  rw [szI_pos (by omega)]
  first
    | rfl
    | rw [show (a1 - ((szN_order a0.order : Nat) : Int)) = a1 - ((szN_item a0 : Nat) : Int) by omega]

noncomputable def q50 : List Dt → Option (Bool × List Dt)
  | [.d .item a0, .d (.i .i64) a1] => some ((gz_item a0 a1), [.d (.i .i64) (z_item a0 a1)])
  | _ => none
noncomputable def s50 : Gm.Spec := Gm.Spec.of [.ro, .ro] [false] true q50
theorem good50 : Gm.Good Try.prog (50, s50) := by
  have hl : ∀ x ∈ [(87, s87)], Gm.Good Try.prog x := List.forall_mem_cons.2 ⟨good87, List.forall_mem_nil _⟩
  refine ⟨⟨spec_ok (tab_ok.env hl) (tab.natl hl) Try.func50 (by kernel_rfl : Try.f50.body = some f50c) [3] (by kernel_rfl) ?_, _, Try.func50, by kernel_rfl, of_decide_eq_true (by kernel_rfl)⟩, Gm.Spec.of_natl _ _ _ _⟩
  intro ds outs h
  unfold q50 at h
  split at h
  · simp only [Option.some.injEq, Prod.mk.injEq] at h; obtain ⟨hg, h⟩ := h; cases h; exact f50_spec _ _ hg
  · cases h
/-! ### loop.example/g00465/laws.szEvent -/
noncomputable def f70c : Code := (Try.f70.body).getD .skip
def f70k : Nat → Kp := kat [⟨[1, 2], [], [], []⟩, ⟨[1], [], [], []⟩, ⟨[1, 10], [], [], []⟩, ⟨[4], [], [], []⟩, ⟨[4], [], [], []⟩]
noncomputable def f70e : Env := tab.env [(50, s50)]
theorem f70_run {R : Type} (n : Nat) (k : List Dt → Option R) (a0 : EventT) (a1 : Int) : evFn f70e f70k n f70c [.ro, .ro] [false] true [.tmp 4] [3] [.d .event a0, .d (.i .i64) a1] k =
    (cond (gz_item (EventT.item a0) a1)
    (cond (decide ((z_item (EventT.item a0) a1) < (0 : Int)))
      (k [.d (.i .i64) (-1 : Int)])
      (k [.d (.i .i64) (z_item (EventT.item a0) a1)]))
    none) := by kernel_rfl
theorem f70_spec (a0 : EventT) (a1 : Int) (hg : gz_event a0 a1 = true) : ∃ keep rounds, ∀ {R : Type} (k : List Dt → Option R), evFn f70e keep rounds f70c [.ro, .ro] [false] true [.tmp 4] [3] [.d .event a0, .d (.i .i64) a1] k = k [.d (.i .i64) (z_event a0 a1)] := by
  simp only [gz_event, ok_event, Bool.and_eq_true, okN_iff] at hg
  obtain ⟨⟨hf_seq, hf_kind, hf_item⟩, hn1, hn2⟩ := hg
  have eN : szN_event a0 = szN_item a0.item := rfl
  refine ⟨f70k, 0, fun k => ?_⟩
  rw [f70_run]
  show _ = k [.d (.i .i64) (z_event a0 a1)]
  unfold z_event
  have g1 : gz_item a0.item a1 = true := by simp only [gz_item, Bool.and_eq_true, okN_iff]; exact ⟨hf_item, by omega, by omega⟩
  have z2 : z_item a0.item a1 = szI (szN_item a0.item) a1 := rfl
  rw [g1, z2]
  by_cases h2 : a1 - ((szN_item a0.item : Nat) : Int) < 0
  · rw [szI_neg h2, szI_neg (by omega)]; rfl
  rw [szI_pos h2]
  simp only [cond_true, h2, decide_false, cond_false]
  rw [szI_pos (by omega)]
  first
    | rfl
    | rw [show (a1 - ((szN_item a0.item : Nat) : Int)) = a1 - ((szN_event a0 : Nat) : Int) by omega]

noncomputable def q70 : List Dt → Option (Bool × List Dt)
  | [.d .event a0, .d (.i .i64) a1] => some ((gz_event a0 a1), [.d (.i .i64) (z_event a0 a1)])
  | _ => none
noncomputable def s70 : Gm.Spec := Gm.Spec.of [.ro, .ro] [false] true q70
theorem good70 : Gm.Good Try.prog (70, s70) := by
  have hl : ∀ x ∈ [(50, s50)], Gm.Good Try.prog x := List.forall_mem_cons.2 ⟨good50, List.forall_mem_nil _⟩
  refine ⟨⟨spec_ok (tab_ok.env hl) (tab.natl hl) Try.func70 (by kernel_rfl : Try.f70.body = some f70c) [3] (by kernel_rfl) ?_, _, Try.func70, by kernel_rfl, of_decide_eq_true (by kernel_rfl)⟩, Gm.Spec.of_natl _ _ _ _⟩
  intro ds outs h
  unfold q70 at h
  split at h
  · simp only [Option.some.injEq, Prod.mk.injEq] at h; obtain ⟨hg, h⟩ := h; cases h; exact f70_spec _ _ hg
  · cases h
/-! ### loop.example/g00465/laws.szEventS -/
noncomputable def f27c : Code := (Try.f27.body).getD .skip
def f27k : Nat → Kp := kat [⟨[0, 1], [], [], []⟩, ⟨[0, 1], [], [], []⟩, ⟨[0, 1, 11], [], [], []⟩, ⟨[4], [], [], []⟩, ⟨[0, 1, 5], [], [], []⟩, ⟨[0, 1, 5, 15], [], [], []⟩, ⟨[0, 1, 5], [], [], []⟩, ⟨[0, 1, 5], [], [], []⟩, ⟨[0, 1, 5, 25], [], [], []⟩, ⟨[4], [], [], []⟩, ⟨[4], [], [], []⟩]
noncomputable def f27e : Env := tab.env [(70, s70)]
noncomputable def f27L0 {R : Type} (n : Nat) (x0 : Option R) (x1 : Int → Int → Bool → Option R) (vs0 : List EventT) : Nat → Int → Int → Option R
  | 0, _, _ => none
  | m + 1, vs1, vs5 =>
    (cond (decide (vs5 < (vs0.length : Int)))
      (cond ((decide ((0 : Int) ≤ vs5)) && (decide (vs5 < (vs0.length : Int))))
        (cond (gz_event (atI (t := .event) vs0 (Int.toNat vs5)) vs1)
          (cond (decide ((z_event (atI (t := .event) vs0 (Int.toNat vs5)) vs1) < (0 : Int)))
            (x0)
            (f27L0 n x0 x1 vs0 m (z_event (atI (t := .event) vs0 (Int.toNat vs5)) vs1) (IntKind.wrap .i64 (vs5 + (1 : Int)))))
          none)
        none)
      (x1 vs1 vs5 (decide (vs5 < (vs0.length : Int)))))
theorem f27L0_b {R : Type} (n : Nat) (k' : Ex → St → Option R) (vs0 : List EventT) (vs1 : Int) (vs5 : Int) : ev f27e f27k n (cAt [1,1,1,0,1,0,0] f27c) ⟨[(0, .c (.one (.ro .event vs0))), (1, .c (.one (.v (.int .i64 vs1)))), (5, .c (.one (.v (.int .i64 vs5))))], [], []⟩ k' =
    (cond (decide (vs5 < (vs0.length : Int)))
    (cond ((decide ((0 : Int) ≤ vs5)) && (decide (vs5 < (vs0.length : Int))))
      (cond (gz_event (atI (t := .event) vs0 (Int.toNat vs5)) vs1)
        (cond (decide ((z_event (atI (t := .event) vs0 (Int.toNat vs5)) vs1) < (0 : Int)))
          (k' .ret ⟨[(4, .c (.one (.v (.int .i64 (-1 : Int)))))], [], []⟩)
          (k' .normal ⟨[(0, .c (.one (.ro .event vs0))), (1, .c (.one (.v (.int .i64 (z_event (atI (t := .event) vs0 (Int.toNat vs5)) vs1))))), (5, .c (.one (.v (.int .i64 (IntKind.wrap .i64 (vs5 + (1 : Int)))))))], [], []⟩))
        none)
      none)
    (k' (.exit 0) ⟨[(0, .c (.one (.ro .event vs0))), (1, .c (.one (.v (.int .i64 vs1)))), (5, .c (.one (.v (.int .i64 vs5)))), (15, .c (.one (.v (.bool (decide (vs5 < (vs0.length : Int)))))))], [], []⟩)) := by kernel_rfl
theorem f27L0_eq {R : Type} (n : Nat) (k' : Ex → St → Option R) (vs0 : List EventT) : ∀ (m : Nat) (vs1 : Int) (vs5 : Int), iter (fun st k => ev f27e f27k n (cAt [1,1,1,0,1,0,0] f27c) st k) m ⟨[(0, .c (.one (.ro .event vs0))), (1, .c (.one (.v (.int .i64 vs1)))), (5, .c (.one (.v (.int .i64 vs5))))], [], []⟩ k' = f27L0 n (k' .ret ⟨[(4, .c (.one (.v (.int .i64 (-1 : Int)))))], [], []⟩) (fun (xvs1 : Int) (xvs5 : Int) (xvs15 : Bool) => k' (.exit 0) ⟨[(0, .c (.one (.ro .event vs0))), (1, .c (.one (.v (.int .i64 xvs1)))), (5, .c (.one (.v (.int .i64 xvs5)))), (15, .c (.one (.v (.bool xvs15))))], [], []⟩) vs0 m vs1 vs5 := by
  intro m; induction m with
  | zero => intros; rfl
  | succ m ih =>
    intro vs1 vs5
    simp only [iter]
    rw [f27L0_b]
    simp only [ih, f27L0]

noncomputable def f27K0 {R : Type} (n : Nat) (k' : Ex → St → Option R) : Ex → St → Option R := (blockK 0 (seqK f27e f27k n (cAt [1,1,1,1] f27c) k'))
theorem f27K0_x0 {R : Type} (n : Nat) (k : List Dt → Option R) (a0 : List EventT) (a1 : Int)  : f27K0 n (exitK f27e [.ro, .ro] [false] true [.tmp 4] [3] [.d (.sl .event) a0, .d (.i .i64) a1] k) .ret ⟨[(4, .c (.one (.v (.int .i64 (-1 : Int)))))], [], []⟩ =
    (k [.d (.i .i64) (-1 : Int)]) := by kernel_rfl
theorem f27K0_x1 {R : Type} (n : Nat) (k : List Dt → Option R) (a0 : List EventT) (a1 : Int) (vs0 : List EventT) (xvs1 : Int) (xvs5 : Int) (xvs15 : Bool) : f27K0 n (exitK f27e [.ro, .ro] [false] true [.tmp 4] [3] [.d (.sl .event) a0, .d (.i .i64) a1] k) (.exit 0) ⟨[(0, .c (.one (.ro .event vs0))), (1, .c (.one (.v (.int .i64 xvs1)))), (5, .c (.one (.v (.int .i64 xvs5)))), (15, .c (.one (.v (.bool xvs15))))], [], []⟩ =
    (k [.d (.i .i64) xvs1]) := by kernel_rfl

theorem f27_run {R : Type} (n : Nat) (k : List Dt → Option R) (a0 : List EventT) (a1 : Int) : evFn f27e f27k n f27c [.ro, .ro] [false] true [.tmp 4] [3] [.d (.sl .event) a0, .d (.i .i64) a1] k =
    (cond (decide ((IntKind.wrap .i64 (a1 - (a0.length : Int))) < (0 : Int)))
    (k [.d (.i .i64) (-1 : Int)])
    (f27L0 n (k [.d (.i .i64) (-1 : Int)]) (fun (xvs1 : Int) (xvs5 : Int) (xvs15 : Bool) =>
      (k [.d (.i .i64) xvs1])) a0 n (IntKind.wrap .i64 (a1 - (a0.length : Int))) (0 : Int))) := by
  refine Eq.trans (b := (cond (decide ((IntKind.wrap .i64 (a1 - (a0.length : Int))) < (0 : Int)))
    (k [.d (.i .i64) (-1 : Int)])
    (iter (fun st k => ev f27e f27k n (cAt [1,1,1,0,1,0,0] f27c) st k) n ⟨[(0, .c (.one (.ro .event a0))), (1, .c (.one (.v (.int .i64 (IntKind.wrap .i64 (a1 - (a0.length : Int))))))), (5, .c (.one (.v (.int .i64 (0 : Int)))))], [], []⟩ (f27K0 n (exitK f27e [.ro, .ro] [false] true [.tmp 4] [3] [.d (.sl .event) a0, .d (.i .i64) a1] k))))) (by kernel_rfl) ?_
  simp only [f27L0_eq, f27K0_x0, f27K0_x1]
theorem f27_spec (a0 : List EventT) (a1 : Int) (hg : gzL_event a0 a1 = true) : ∃ keep rounds, ∀ {R : Type} (k : List Dt → Option R), evFn f27e keep rounds f27c [.ro, .ro] [false] true [.tmp 4] [3] [.d (.sl .event) a0, .d (.i .i64) a1] k = k [.d (.i .i64) (zL_event a0 a1)] := by
  simp only [gzL_event, okL, Bool.and_eq_true, okN_iff] at hg
  obtain ⟨⟨hl, hs⟩, hn⟩ := hg
  have hl : a0.length ≤ 9223372036854775807 := bleN hl
  refine ⟨f27k, a0.length + 1, fun k => ?_⟩
  rw [f27_run, wrap_id (x := a1 - (a0.length : Int)) (by omega) (by omega)]
  show _ = k [.d (.i .i64) (zL_event a0 a1)]
  unfold zL_event
  have eL : szL szN_event a0 = a0.length + (a0.map szN_event).sum := rfl
  by_cases hc : a1 - (a0.length : Int) < 0
  · simp only [hc, decide_true, cond_true]
    rw [szI_neg (by omega)]
  · simp only [hc, decide_false, cond_false]
    refine Eq.trans (loop_fold (xs := a0) (F := fun m j left => f27L0 (a0.length + 1) _ _ a0 m left (j : Int)) (step := szStep szN_event)
      (out := fun _ => k [.d (.i .i64) (-1 : Int)]) (good := fun left => k [.d (.i .i64) left]) (fun n => 0 ≤ n ∧ n ≤ 1048576)
      (fun x n n' hx hn h => by
        unfold szStep at h
        split at h
        · cases h
        · cases h; omega)
      (fun m j n x hx hn => ?_)
      (fun m n hn => by simp only [f27L0, idxE, cond_false]) a0.length 0 (a0.length + 1) (a1 - (a0.length : Int)) (by omega) (by omega) (by omega)) ?_
    · obtain ⟨h1, h0, hw, ht⟩ := idx (lt_of_get hx) (by omega)
      have hx2 := List.all_eq_true.1 hs x (List.mem_of_getElem? hx)
      have hg2 : gz_event x n = true := by simp only [gz_event, Bool.and_eq_true, okN_iff]; exact ⟨hx2, by omega, by omega⟩
      have hz : z_event x n = szI (szN_event x) n := rfl
      simp only [f27L0, h1, h0, hw, ht, atI_of (t := .event) hx, Bool.and_self, cond_true, hg2, hz]
      unfold szStep
      by_cases h : n - (szN_event x : Int) < 0
      · rw [szI_neg h]; simp only [h, if_true, Sum.elim_inl]; rfl
      · rw [szI_pos h]; simp only [h, decide_false, cond_false, if_false, Sum.elim_inr]
    · rw [List.drop_zero, sz_fold _ _ _ (by omega)]
      by_cases h2 : a1 - (a0.length : Int) - ((a0.map szN_event).sum : Nat) < 0
      · rw [if_pos h2, szI_neg (by omega)]; rfl
      · rw [if_neg h2, szI_pos (by omega)]
        simp only [Sum.elim_inr]
        rw [show a1 - (a0.length : Int) - ((a0.map szN_event).sum : Nat) = a1 - (szL szN_event a0 : Nat) by omega]

noncomputable def q27 : List Dt → Option (Bool × List Dt)
  | [.d (.sl .event) a0, .d (.i .i64) a1] => some ((gzL_event a0 a1), [.d (.i .i64) (zL_event a0 a1)])
  | _ => none
noncomputable def s27 : Gm.Spec := Gm.Spec.of [.ro, .ro] [false] true q27
theorem good27 : Gm.Good Try.prog (27, s27) := by
  have hl : ∀ x ∈ [(70, s70)], Gm.Good Try.prog x := List.forall_mem_cons.2 ⟨good70, List.forall_mem_nil _⟩
  refine ⟨⟨spec_ok (tab_ok.env hl) (tab.natl hl) Try.func27 (by kernel_rfl : Try.f27.body = some f27c) [3] (by kernel_rfl) ?_, _, Try.func27, by kernel_rfl, of_decide_eq_true (by kernel_rfl)⟩, Gm.Spec.of_natl _ _ _ _⟩
  intro ds outs h
  unfold q27 at h
  split at h
  · simp only [Option.some.injEq, Prod.mk.injEq] at h; obtain ⟨hg, h⟩ := h; cases h; exact f27_spec _ _ hg
  · cases h
noncomputable def q10 : List Dt → Option (Bool × List Dt)
  | [.d .hist a0, .d (.i .i64) a1] => some ((gz_hist a0 a1), [.d (.i .i64) (z_hist a0 a1)])
  | _ => none
/-! ### loop.example/g00465/laws.toNote -/
noncomputable def f145c : Code := (Try.f145.body).getD .skip
def f145k : Nat → Kp := kat [⟨[1, 2], [], [], []⟩, ⟨[1, 2, 3], [], [], []⟩, ⟨[1, 2, 3], [], [], []⟩, ⟨[2, 3], [], [], []⟩, ⟨[2], [], [], []⟩]
noncomputable def f145e : Env := tab.env []
theorem f145_run {R : Type} (n : Nat) (k : List Dt → Option R) (a0 : NoteT) : evFn f145e f145k n f145c [.ro] [false] true [.cell 2 137] [137] [.d .note a0] k =
    (k [.d .note a0]) := by kernel_rfl
theorem f145_spec (a0 : NoteT) (hg : sm_note a0 = true) : ∃ keep rounds, ∀ {R : Type} (k : List Dt → Option R), evFn f145e keep rounds f145c [.ro] [false] true [.cell 2 137] [137] [.d .note a0] k = k [.d .note a0] := by
  exact ⟨f145k, 0, fun k => f145_run 0 k a0⟩

noncomputable def q145 : List Dt → Option (Bool × List Dt)
  | [.d .note a0] => some ((sm_note a0), [.d .note a0])
  | _ => none
noncomputable def s145 : Gm.Spec := Gm.Spec.of [.ro] [false] true q145
theorem good145 : Gm.Good Try.prog (145, s145) := by
  have hl : ∀ x ∈ ([] : List (Nat × Gm.Spec)), Gm.Good Try.prog x := fun _ h => by cases h
  refine ⟨⟨spec_ok (tab_ok.env hl) (tab.natl hl) Try.func145 (by kernel_rfl : Try.f145.body = some f145c) [137] (by kernel_rfl) ?_, _, Try.func145, by kernel_rfl, of_decide_eq_true (by kernel_rfl)⟩, Gm.Spec.of_natl _ _ _ _⟩
  intro ds outs h
  unfold q145 at h
  split at h
  · simp only [Option.some.injEq, Prod.mk.injEq] at h; obtain ⟨hg, h⟩ := h; cases h; exact f145_spec _ hg
  · cases h
/-! ### loop.example/g00465/laws.toNoteS -/
noncomputable def f120c : Code := (Try.f120.body).getD .skip
def f120k : Nat → Kp := kat [⟨[0], [], [], []⟩, ⟨[0, 3], [], [], []⟩, ⟨[0, 3, 4], [], [], []⟩, ⟨[0, 3, 4, 11], [], [], []⟩, ⟨[0, 3, 4], [], [], []⟩, ⟨[0, 3, 4], [], [], []⟩, ⟨[2], [], [], []⟩]
noncomputable def f120e : Env := tab.env [(145, s145)]
noncomputable def f120L0 {R : Type} (n : Nat) (x0 : Int → Bool → (List NoteT) → Option R) (vs0 : List NoteT) : Nat → Int → (List NoteT) → Option R
  | 0, _, _ => none
  | m + 1, vs4, vr448 =>
    (cond (decide (vs4 < (vs0.length : Int)))
      (cond ((decide ((0 : Int) ≤ vs4)) && (decide (vs4 < (vs0.length : Int))))
        (cond (sm_note (atI (t := .note) vs0 (Int.toNat vs4)))
          (cond ((decide ((0 : Int) ≤ vs4)) && (decide (vs4 < (vr448.length : Int))))
            (f120L0 n x0 vs0 m (IntKind.wrap .i64 (vs4 + (1 : Int))) (vr448.set (Int.toNat vs4) (atI (t := .note) vs0 (Int.toNat vs4))))
            none)
          none)
        none)
      (x0 vs4 (decide (vs4 < (vs0.length : Int))) vr448))
theorem f120L0_b {R : Type} (n : Nat) (k' : Ex → St → Option R) (vs0 : List NoteT) (vs4 : Int) (vr448 : List NoteT) : ev f120e f120k n (cAt [1,1,0,1,0,0] f120c) ⟨[(0, .c (.one (.ro .note vs0))), (3, .c (.one (.h 448 0 0 []))), (4, .c (.one (.v (.int .i64 vs4))))], [], [(448, .live ⟨.note, .deep, 0, [], vr448⟩)]⟩ k' =
    (cond (decide (vs4 < (vs0.length : Int)))
    (cond ((decide ((0 : Int) ≤ vs4)) && (decide (vs4 < (vs0.length : Int))))
      (cond (sm_note (atI (t := .note) vs0 (Int.toNat vs4)))
        (cond ((decide ((0 : Int) ≤ vs4)) && (decide (vs4 < (vr448.length : Int))))
          (k' .normal ⟨[(0, .c (.one (.ro .note vs0))), (3, .c (.one (.h 448 0 0 []))), (4, .c (.one (.v (.int .i64 (IntKind.wrap .i64 (vs4 + (1 : Int)))))))], [], [(448, .live ⟨.note, .deep, 0, [], (vr448.set (Int.toNat vs4) (atI (t := .note) vs0 (Int.toNat vs4)))⟩)]⟩)
          none)
        none)
      none)
    (k' (.exit 0) ⟨[(0, .c (.one (.ro .note vs0))), (3, .c (.one (.h 448 0 0 []))), (4, .c (.one (.v (.int .i64 vs4)))), (11, .c (.one (.v (.bool (decide (vs4 < (vs0.length : Int)))))))], [], [(448, .live ⟨.note, .deep, 0, [], vr448⟩)]⟩)) := by kernel_rfl
theorem f120L0_eq {R : Type} (n : Nat) (k' : Ex → St → Option R) (vs0 : List NoteT) : ∀ (m : Nat) (vs4 : Int) (vr448 : List NoteT), iter (fun st k => ev f120e f120k n (cAt [1,1,0,1,0,0] f120c) st k) m ⟨[(0, .c (.one (.ro .note vs0))), (3, .c (.one (.h 448 0 0 []))), (4, .c (.one (.v (.int .i64 vs4))))], [], [(448, .live ⟨.note, .deep, 0, [], vr448⟩)]⟩ k' = f120L0 n (fun (xvs4 : Int) (xvs11 : Bool) (xvr448 : List NoteT) => k' (.exit 0) ⟨[(0, .c (.one (.ro .note vs0))), (3, .c (.one (.h 448 0 0 []))), (4, .c (.one (.v (.int .i64 xvs4)))), (11, .c (.one (.v (.bool xvs11))))], [], [(448, .live ⟨.note, .deep, 0, [], xvr448⟩)]⟩) vs0 m vs4 vr448 := by
  intro m; induction m with
  | zero => intros; rfl
  | succ m ih =>
    intro vs4 vr448
    simp only [iter]
    rw [f120L0_b]
    simp only [ih, f120L0]

noncomputable def f120K0 {R : Type} (n : Nat) (k' : Ex → St → Option R) : Ex → St → Option R := (blockK 0 (seqK f120e f120k n (cAt [1,1,1] f120c) k'))
theorem f120K0_x0 {R : Type} (n : Nat) (k : List Dt → Option R) (a0 : List NoteT) (vs0 : List NoteT) (xvs4 : Int) (xvs11 : Bool) (xvr448 : List NoteT) : f120K0 n (exitK f120e [.ro] [false] true [.tmp 2] [43] [.d (.sl .note) a0] k) (.exit 0) ⟨[(0, .c (.one (.ro .note vs0))), (3, .c (.one (.h 448 0 0 []))), (4, .c (.one (.v (.int .i64 xvs4)))), (11, .c (.one (.v (.bool xvs11))))], [], [(448, .live ⟨.note, .deep, 0, [], xvr448⟩)]⟩ =
    (k [.d (.sl .note) xvr448]) := by kernel_rfl

theorem f120_run {R : Type} (n : Nat) (k : List Dt → Option R) (a0 : List NoteT) : evFn f120e f120k n f120c [.ro] [false] true [.tmp 2] [43] [.d (.sl .note) a0] k =
    (cond ((decide ((a0.length : Int) = (a0.length : Int))) && ((decide ((0 : Int) ≤ (a0.length : Int))) && (decide ((a0.length : Int) ≤ (LIM : Int)))))
    (f120L0 n (fun (xvs4 : Int) (xvs11 : Bool) (xvr448 : List NoteT) =>
      (k [.d (.sl .note) xvr448])) a0 n (0 : Int) (List.replicate (Int.toNat (a0.length : Int)) (⟨ByteArray.empty, ByteArray.empty⟩ : NoteT)))
    none) := by
  refine Eq.trans (b := (cond ((decide ((a0.length : Int) = (a0.length : Int))) && ((decide ((0 : Int) ≤ (a0.length : Int))) && (decide ((a0.length : Int) ≤ (LIM : Int)))))
    (iter (fun st k => ev f120e f120k n (cAt [1,1,0,1,0,0] f120c) st k) n ⟨[(0, .c (.one (.ro .note a0))), (3, .c (.one (.h 448 0 0 []))), (4, .c (.one (.v (.int .i64 (0 : Int)))))], [], [(448, .live ⟨.note, .deep, 0, [], (List.replicate (Int.toNat (a0.length : Int)) (⟨ByteArray.empty, ByteArray.empty⟩ : NoteT))⟩)]⟩ (f120K0 n (exitK f120e [.ro] [false] true [.tmp 2] [43] [.d (.sl .note) a0] k)))
    none)) (by kernel_rfl) ?_
  simp only [f120L0_eq, f120K0_x0]
theorem f120_spec (a0 : List NoteT) (hg : smL sm_note a0 = true) : ∃ keep rounds, ∀ {R : Type} (k : List Dt → Option R), evFn f120e keep rounds f120c [.ro] [false] true [.tmp 2] [43] [.d (.sl .note) a0] k = k [.d (.sl .note) a0] := by
  have hl : a0.length ≤ 1048576 := smL_len hg
  have hs := smL_all hg
  refine ⟨f120k, a0.length + 1, fun k => ?_⟩
  rw [f120_run, mkOk hl]
  simp only [cond_true]
  have := loop_copy (xs := a0) (f := fun x => x) (F := fun m j out => f120L0 (a0.length + 1) (fun (xvs4 : Int) (xvs11 : Bool) (xvr448 : List NoteT) => (k [.d (.sl .note) xvr448])) a0 m (j : Int) out) (good := fun out => k [.d (.sl .note) out]) (⟨ByteArray.empty, ByteArray.empty⟩ : NoteT)
    (fun m j out x hx hl' => by
      obtain ⟨h1, h0, hw, ht⟩ := idx (lt_of_get hx) (by omega)
      obtain ⟨h2, _, _, _⟩ := idx (show j < out.length by rw [hl']; exact lt_of_get hx) (by omega)
      have hx2 := List.all_eq_true.1 hs x (List.mem_of_getElem? hx)
      simp only [f120L0, h1, h0, h2, hw, ht, atI_of (t := .note) hx, Bool.and_self, cond_true, hx2])
    (fun m out => by simp only [f120L0, idxE, cond_false]) a0.length 0 (a0.length + 1) (by omega) (by omega)
  simpa using this

noncomputable def q120 : List Dt → Option (Bool × List Dt)
  | [.d (.sl .note) a0] => some ((smL sm_note a0), [.d (.sl .note) a0])
  | _ => none
noncomputable def s120 : Gm.Spec := Gm.Spec.of [.ro] [false] true q120
theorem good120 : Gm.Good Try.prog (120, s120) := by
  have hl : ∀ x ∈ [(145, s145)], Gm.Good Try.prog x := List.forall_mem_cons.2 ⟨good145, List.forall_mem_nil _⟩
  refine ⟨⟨spec_ok (tab_ok.env hl) (tab.natl hl) Try.func120 (by kernel_rfl : Try.f120.body = some f120c) [43] (by kernel_rfl) ?_, _, Try.func120, by kernel_rfl, of_decide_eq_true (by kernel_rfl)⟩, Gm.Spec.of_natl _ _ _ _⟩
  intro ds outs h
  unfold q120 at h
  split at h
  · simp only [Option.some.injEq, Prod.mk.injEq] at h; obtain ⟨hg, h⟩ := h; cases h; exact f120_spec _ hg
  · cases h
/-! ### loop.example/g00465/laws.toMetric -/
noncomputable def f144c : Code := (Try.f144.body).getD .skip
def f144k : Nat → Kp := kat [⟨[1, 2], [], [], []⟩, ⟨[1, 2, 3], [], [], []⟩, ⟨[1, 2, 3], [], [], []⟩, ⟨[1, 2, 3], [], [], []⟩, ⟨[2, 3], [], [], []⟩, ⟨[2], [], [], []⟩]
noncomputable def f144e : Env := tab.env []
theorem f144_run {R : Type} (n : Nat) (k : List Dt → Option R) (a0 : MetricT) : evFn f144e f144k n f144c [.ro] [false] true [.cell 2 132] [132] [.d .metric a0] k =
    (k [.d .metric a0]) := by kernel_rfl
theorem f144_spec (a0 : MetricT) (hg : sm_metric a0 = true) : ∃ keep rounds, ∀ {R : Type} (k : List Dt → Option R), evFn f144e keep rounds f144c [.ro] [false] true [.cell 2 132] [132] [.d .metric a0] k = k [.d .metric a0] := by
  exact ⟨f144k, 0, fun k => f144_run 0 k a0⟩

noncomputable def q144 : List Dt → Option (Bool × List Dt)
  | [.d .metric a0] => some ((sm_metric a0), [.d .metric a0])
  | _ => none
noncomputable def s144 : Gm.Spec := Gm.Spec.of [.ro] [false] true q144
theorem good144 : Gm.Good Try.prog (144, s144) := by
  have hl : ∀ x ∈ ([] : List (Nat × Gm.Spec)), Gm.Good Try.prog x := fun _ h => by cases h
  refine ⟨⟨spec_ok (tab_ok.env hl) (tab.natl hl) Try.func144 (by kernel_rfl : Try.f144.body = some f144c) [132] (by kernel_rfl) ?_, _, Try.func144, by kernel_rfl, of_decide_eq_true (by kernel_rfl)⟩, Gm.Spec.of_natl _ _ _ _⟩
  intro ds outs h
  unfold q144 at h
  split at h
  · simp only [Option.some.injEq, Prod.mk.injEq] at h; obtain ⟨hg, h⟩ := h; cases h; exact f144_spec _ hg
  · cases h
/-! ### loop.example/g00465/laws.toMetricS -/
noncomputable def f118c : Code := (Try.f118.body).getD .skip
def f118k : Nat → Kp := kat [⟨[0], [], [], []⟩, ⟨[0, 3], [], [], []⟩, ⟨[0, 3, 4], [], [], []⟩, ⟨[0, 3, 4, 11], [], [], []⟩, ⟨[0, 3, 4], [], [], []⟩, ⟨[0, 3, 4], [], [], []⟩, ⟨[2], [], [], []⟩]
noncomputable def f118e : Env := tab.env [(144, s144)]
noncomputable def f118L0 {R : Type} (n : Nat) (x0 : Int → Bool → (List MetricT) → Option R) (vs0 : List MetricT) : Nat → Int → (List MetricT) → Option R
  | 0, _, _ => none
  | m + 1, vs4, vr448 =>
    (cond (decide (vs4 < (vs0.length : Int)))
      (cond ((decide ((0 : Int) ≤ vs4)) && (decide (vs4 < (vs0.length : Int))))
        (cond (sm_metric (atI (t := .metric) vs0 (Int.toNat vs4)))
          (cond ((decide ((0 : Int) ≤ vs4)) && (decide (vs4 < (vr448.length : Int))))
            (f118L0 n x0 vs0 m (IntKind.wrap .i64 (vs4 + (1 : Int))) (vr448.set (Int.toNat vs4) (atI (t := .metric) vs0 (Int.toNat vs4))))
            none)
          none)
        none)
      (x0 vs4 (decide (vs4 < (vs0.length : Int))) vr448))
theorem f118L0_b {R : Type} (n : Nat) (k' : Ex → St → Option R) (vs0 : List MetricT) (vs4 : Int) (vr448 : List MetricT) : ev f118e f118k n (cAt [1,1,0,1,0,0] f118c) ⟨[(0, .c (.one (.ro .metric vs0))), (3, .c (.one (.h 448 0 0 []))), (4, .c (.one (.v (.int .i64 vs4))))], [], [(448, .live ⟨.metric, .deep, 0, [], vr448⟩)]⟩ k' =
    (cond (decide (vs4 < (vs0.length : Int)))
    (cond ((decide ((0 : Int) ≤ vs4)) && (decide (vs4 < (vs0.length : Int))))
      (cond (sm_metric (atI (t := .metric) vs0 (Int.toNat vs4)))
        (cond ((decide ((0 : Int) ≤ vs4)) && (decide (vs4 < (vr448.length : Int))))
          (k' .normal ⟨[(0, .c (.one (.ro .metric vs0))), (3, .c (.one (.h 448 0 0 []))), (4, .c (.one (.v (.int .i64 (IntKind.wrap .i64 (vs4 + (1 : Int)))))))], [], [(448, .live ⟨.metric, .deep, 0, [], (vr448.set (Int.toNat vs4) (atI (t := .metric) vs0 (Int.toNat vs4)))⟩)]⟩)
          none)
        none)
      none)
    (k' (.exit 0) ⟨[(0, .c (.one (.ro .metric vs0))), (3, .c (.one (.h 448 0 0 []))), (4, .c (.one (.v (.int .i64 vs4)))), (11, .c (.one (.v (.bool (decide (vs4 < (vs0.length : Int)))))))], [], [(448, .live ⟨.metric, .deep, 0, [], vr448⟩)]⟩)) := by kernel_rfl
theorem f118L0_eq {R : Type} (n : Nat) (k' : Ex → St → Option R) (vs0 : List MetricT) : ∀ (m : Nat) (vs4 : Int) (vr448 : List MetricT), iter (fun st k => ev f118e f118k n (cAt [1,1,0,1,0,0] f118c) st k) m ⟨[(0, .c (.one (.ro .metric vs0))), (3, .c (.one (.h 448 0 0 []))), (4, .c (.one (.v (.int .i64 vs4))))], [], [(448, .live ⟨.metric, .deep, 0, [], vr448⟩)]⟩ k' = f118L0 n (fun (xvs4 : Int) (xvs11 : Bool) (xvr448 : List MetricT) => k' (.exit 0) ⟨[(0, .c (.one (.ro .metric vs0))), (3, .c (.one (.h 448 0 0 []))), (4, .c (.one (.v (.int .i64 xvs4)))), (11, .c (.one (.v (.bool xvs11))))], [], [(448, .live ⟨.metric, .deep, 0, [], xvr448⟩)]⟩) vs0 m vs4 vr448 := by
  intro m; induction m with
  | zero => intros; rfl
  | succ m ih =>
    intro vs4 vr448
    simp only [iter]
    rw [f118L0_b]
    simp only [ih, f118L0]

noncomputable def f118K0 {R : Type} (n : Nat) (k' : Ex → St → Option R) : Ex → St → Option R := (blockK 0 (seqK f118e f118k n (cAt [1,1,1] f118c) k'))
theorem f118K0_x0 {R : Type} (n : Nat) (k : List Dt → Option R) (a0 : List MetricT) (vs0 : List MetricT) (xvs4 : Int) (xvs11 : Bool) (xvr448 : List MetricT) : f118K0 n (exitK f118e [.ro] [false] true [.tmp 2] [40] [.d (.sl .metric) a0] k) (.exit 0) ⟨[(0, .c (.one (.ro .metric vs0))), (3, .c (.one (.h 448 0 0 []))), (4, .c (.one (.v (.int .i64 xvs4)))), (11, .c (.one (.v (.bool xvs11))))], [], [(448, .live ⟨.metric, .deep, 0, [], xvr448⟩)]⟩ =
    (k [.d (.sl .metric) xvr448]) := by kernel_rfl

theorem f118_run {R : Type} (n : Nat) (k : List Dt → Option R) (a0 : List MetricT) : evFn f118e f118k n f118c [.ro] [false] true [.tmp 2] [40] [.d (.sl .metric) a0] k =
    (cond ((decide ((a0.length : Int) = (a0.length : Int))) && ((decide ((0 : Int) ≤ (a0.length : Int))) && (decide ((a0.length : Int) ≤ (LIM : Int)))))
    (f118L0 n (fun (xvs4 : Int) (xvs11 : Bool) (xvr448 : List MetricT) =>
      (k [.d (.sl .metric) xvr448])) a0 n (0 : Int) (List.replicate (Int.toNat (a0.length : Int)) (⟨ByteArray.empty, (0 : Int), (0 : Int)⟩ : MetricT)))
    none) := by
  refine Eq.trans (b := (cond ((decide ((a0.length : Int) = (a0.length : Int))) && ((decide ((0 : Int) ≤ (a0.length : Int))) && (decide ((a0.length : Int) ≤ (LIM : Int)))))
    (iter (fun st k => ev f118e f118k n (cAt [1,1,0,1,0,0] f118c) st k) n ⟨[(0, .c (.one (.ro .metric a0))), (3, .c (.one (.h 448 0 0 []))), (4, .c (.one (.v (.int .i64 (0 : Int)))))], [], [(448, .live ⟨.metric, .deep, 0, [], (List.replicate (Int.toNat (a0.length : Int)) (⟨ByteArray.empty, (0 : Int), (0 : Int)⟩ : MetricT))⟩)]⟩ (f118K0 n (exitK f118e [.ro] [false] true [.tmp 2] [40] [.d (.sl .metric) a0] k)))
    none)) (by kernel_rfl) ?_
  simp only [f118L0_eq, f118K0_x0]
theorem f118_spec (a0 : List MetricT) (hg : smL sm_metric a0 = true) : ∃ keep rounds, ∀ {R : Type} (k : List Dt → Option R), evFn f118e keep rounds f118c [.ro] [false] true [.tmp 2] [40] [.d (.sl .metric) a0] k = k [.d (.sl .metric) a0] := by
  have hl : a0.length ≤ 1048576 := smL_len hg
  have hs := smL_all hg
  refine ⟨f118k, a0.length + 1, fun k => ?_⟩
  rw [f118_run, mkOk hl]
  simp only [cond_true]
  have := loop_copy (xs := a0) (f := fun x => x) (F := fun m j out => f118L0 (a0.length + 1) (fun (xvs4 : Int) (xvs11 : Bool) (xvr448 : List MetricT) => (k [.d (.sl .metric) xvr448])) a0 m (j : Int) out) (good := fun out => k [.d (.sl .metric) out]) (⟨ByteArray.empty, (0 : Int), (0 : Int)⟩ : MetricT)
    (fun m j out x hx hl' => by
      obtain ⟨h1, h0, hw, ht⟩ := idx (lt_of_get hx) (by omega)
      obtain ⟨h2, _, _, _⟩ := idx (show j < out.length by rw [hl']; exact lt_of_get hx) (by omega)
      have hx2 := List.all_eq_true.1 hs x (List.mem_of_getElem? hx)
      simp only [f118L0, h1, h0, h2, hw, ht, atI_of (t := .metric) hx, Bool.and_self, cond_true, hx2])
    (fun m out => by simp only [f118L0, idxE, cond_false]) a0.length 0 (a0.length + 1) (by omega) (by omega)
  simpa using this

noncomputable def q118 : List Dt → Option (Bool × List Dt)
  | [.d (.sl .metric) a0] => some ((smL sm_metric a0), [.d (.sl .metric) a0])
  | _ => none
noncomputable def s118 : Gm.Spec := Gm.Spec.of [.ro] [false] true q118
theorem good118 : Gm.Good Try.prog (118, s118) := by
  have hl : ∀ x ∈ [(144, s144)], Gm.Good Try.prog x := List.forall_mem_cons.2 ⟨good144, List.forall_mem_nil _⟩
  refine ⟨⟨spec_ok (tab_ok.env hl) (tab.natl hl) Try.func118 (by kernel_rfl : Try.f118.body = some f118c) [40] (by kernel_rfl) ?_, _, Try.func118, by kernel_rfl, of_decide_eq_true (by kernel_rfl)⟩, Gm.Spec.of_natl _ _ _ _⟩
  intro ds outs h
  unfold q118 at h
  split at h
  · simp only [Option.some.injEq, Prod.mk.injEq] at h; obtain ⟨hg, h⟩ := h; cases h; exact f118_spec _ hg
  · cases h
/-! ### loop.example/g00465/laws.toPace -/
noncomputable def f119c : Code := (Try.f119.body).getD .skip
def f119k : Nat → Kp := kat [⟨[1, 2], [], [], []⟩, ⟨[1, 2, 3], [], [], []⟩, ⟨[1, 2, 3], [], [], []⟩, ⟨[1, 2, 3], [], [], []⟩, ⟨[1, 2, 3], [], [], []⟩, ⟨[2, 3], [], [], []⟩, ⟨[2], [], [], []⟩]
noncomputable def f119e : Env := tab.env []
theorem f119_run {R : Type} (n : Nat) (k : List Dt → Option R) (a0 : PaceT) : evFn f119e f119k n f119c [.ro] [false] true [.cell 2 42] [42] [.d .pace a0] k =
    (k [.d .pace a0]) := by kernel_rfl
theorem f119_spec (a0 : PaceT) (hg : sm_pace a0 = true) : ∃ keep rounds, ∀ {R : Type} (k : List Dt → Option R), evFn f119e keep rounds f119c [.ro] [false] true [.cell 2 42] [42] [.d .pace a0] k = k [.d .pace a0] := by
  exact ⟨f119k, 0, fun k => f119_run 0 k a0⟩

noncomputable def q119 : List Dt → Option (Bool × List Dt)
  | [.d .pace a0] => some ((sm_pace a0), [.d .pace a0])
  | _ => none
noncomputable def s119 : Gm.Spec := Gm.Spec.of [.ro] [false] true q119
theorem good119 : Gm.Good Try.prog (119, s119) := by
  have hl : ∀ x ∈ ([] : List (Nat × Gm.Spec)), Gm.Good Try.prog x := fun _ h => by cases h
  refine ⟨⟨spec_ok (tab_ok.env hl) (tab.natl hl) Try.func119 (by kernel_rfl : Try.f119.body = some f119c) [42] (by kernel_rfl) ?_, _, Try.func119, by kernel_rfl, of_decide_eq_true (by kernel_rfl)⟩, Gm.Spec.of_natl _ _ _ _⟩
  intro ds outs h
  unfold q119 at h
  split at h
  · simp only [Option.some.injEq, Prod.mk.injEq] at h; obtain ⟨hg, h⟩ := h; cases h; exact f119_spec _ hg
  · cases h
/-! ### loop.example/g00465/laws.toOrder -/
noncomputable def f88c : Code := (Try.f88.body).getD .skip
def f88k : Nat → Kp := kat [⟨[1, 2], [], [], []⟩, ⟨[1, 2, 3], [], [], []⟩, ⟨[1, 2, 3], [], [], []⟩, ⟨[1, 2, 3], [], [], []⟩, ⟨[1, 2, 3], [], [], []⟩, ⟨[1, 2, 3], [], [], []⟩, ⟨[1, 2, 3], [], [], []⟩, ⟨[1, 2, 3], [], [], []⟩, ⟨[2, 3], [], [], []⟩, ⟨[2], [], [], []⟩]
noncomputable def f88e : Env := tab.env [(118, s118), (119, s119), (120, s120)]
theorem f88_run {R : Type} (n : Nat) (k : List Dt → Option R) (a0 : OrderT) : evFn f88e f88k n f88c [.ro] [false] true [.cell 2 45] [45] [.d .order a0] k =
    (cond (smL sm_metric (OrderT.metrics a0))
    (cond (sm_pace (OrderT.pace a0))
      (cond (smL sm_note (OrderT.notes a0))
        (k [.d .order a0])
        none)
      none)
    none) := by kernel_rfl
theorem f88_spec (a0 : OrderT) (hg : sm_order a0 = true) : ∃ keep rounds, ∀ {R : Type} (k : List Dt → Option R), evFn f88e keep rounds f88c [.ro] [false] true [.cell 2 45] [45] [.d .order a0] k = k [.d .order a0] := by
  simp only [sm_order, Bool.and_eq_true] at hg
  refine ⟨f88k, 0, fun k => ?_⟩
  rw [f88_run]
  simp only [hg, cond_true]

noncomputable def q88 : List Dt → Option (Bool × List Dt)
  | [.d .order a0] => some ((sm_order a0), [.d .order a0])
  | _ => none
noncomputable def s88 : Gm.Spec := Gm.Spec.of [.ro] [false] true q88
theorem good88 : Gm.Good Try.prog (88, s88) := by
  have hl : ∀ x ∈ [(118, s118), (119, s119), (120, s120)], Gm.Good Try.prog x := List.forall_mem_cons.2 ⟨good118, List.forall_mem_cons.2 ⟨good119, List.forall_mem_cons.2 ⟨good120, List.forall_mem_nil _⟩⟩⟩
  refine ⟨⟨spec_ok (tab_ok.env hl) (tab.natl hl) Try.func88 (by kernel_rfl : Try.f88.body = some f88c) [45] (by kernel_rfl) ?_, _, Try.func88, by kernel_rfl, of_decide_eq_true (by kernel_rfl)⟩, Gm.Spec.of_natl _ _ _ _⟩
  intro ds outs h
  unfold q88 at h
  split at h
  · simp only [Option.some.injEq, Prod.mk.injEq] at h; obtain ⟨hg, h⟩ := h; cases h; exact f88_spec _ hg
  · cases h
/-! ### loop.example/g00465/laws.toItem -/
noncomputable def f51c : Code := (Try.f51.body).getD .skip
def f51k : Nat → Kp := kat [⟨[1, 2], [], [], []⟩, ⟨[1, 2, 3], [], [], []⟩, ⟨[1, 2, 3], [], [], []⟩, ⟨[2, 3], [], [], []⟩, ⟨[2], [], [], []⟩]
noncomputable def f51e : Env := tab.env [(88, s88)]
theorem f51_run {R : Type} (n : Nat) (k : List Dt → Option R) (a0 : ItemT) : evFn f51e f51k n f51c [.ro] [false] true [.cell 2 50] [50] [.d .item a0] k =
    (cond (sm_order (ItemT.order a0))
    (k [.d .item a0])
    none) := by kernel_rfl
theorem f51_spec (a0 : ItemT) (hg : sm_item a0 = true) : ∃ keep rounds, ∀ {R : Type} (k : List Dt → Option R), evFn f51e keep rounds f51c [.ro] [false] true [.cell 2 50] [50] [.d .item a0] k = k [.d .item a0] := by
  simp only [sm_item, Bool.and_eq_true] at hg
  refine ⟨f51k, 0, fun k => ?_⟩
  rw [f51_run]
  simp only [hg, cond_true]

noncomputable def q51 : List Dt → Option (Bool × List Dt)
  | [.d .item a0] => some ((sm_item a0), [.d .item a0])
  | _ => none
noncomputable def s51 : Gm.Spec := Gm.Spec.of [.ro] [false] true q51
theorem good51 : Gm.Good Try.prog (51, s51) := by
  have hl : ∀ x ∈ [(88, s88)], Gm.Good Try.prog x := List.forall_mem_cons.2 ⟨good88, List.forall_mem_nil _⟩
  refine ⟨⟨spec_ok (tab_ok.env hl) (tab.natl hl) Try.func51 (by kernel_rfl : Try.f51.body = some f51c) [50] (by kernel_rfl) ?_, _, Try.func51, by kernel_rfl, of_decide_eq_true (by kernel_rfl)⟩, Gm.Spec.of_natl _ _ _ _⟩
  intro ds outs h
  unfold q51 at h
  split at h
  · simp only [Option.some.injEq, Prod.mk.injEq] at h; obtain ⟨hg, h⟩ := h; cases h; exact f51_spec _ hg
  · cases h
/-! ### loop.example/g00465/laws.toEvent -/
noncomputable def f72c : Code := (Try.f72.body).getD .skip
def f72k : Nat → Kp := kat [⟨[1, 2], [], [], []⟩, ⟨[1, 2, 3], [], [], []⟩, ⟨[1, 2, 3], [], [], []⟩, ⟨[1, 2, 3], [], [], []⟩, ⟨[2, 3], [], [], []⟩, ⟨[2], [], [], []⟩]
noncomputable def f72e : Env := tab.env [(51, s51)]
theorem f72_run {R : Type} (n : Nat) (k : List Dt → Option R) (a0 : EventT) : evFn f72e f72k n f72c [.ro] [false] true [.cell 2 94] [94] [.d .event a0] k =
    (cond (sm_item (EventT.item a0))
    (k [.d .event a0])
    none) := by kernel_rfl
theorem f72_spec (a0 : EventT) (hg : sm_event a0 = true) : ∃ keep rounds, ∀ {R : Type} (k : List Dt → Option R), evFn f72e keep rounds f72c [.ro] [false] true [.cell 2 94] [94] [.d .event a0] k = k [.d .event a0] := by
  simp only [sm_event, Bool.and_eq_true] at hg
  refine ⟨f72k, 0, fun k => ?_⟩
  rw [f72_run]
  simp only [hg, cond_true]

noncomputable def q72 : List Dt → Option (Bool × List Dt)
  | [.d .event a0] => some ((sm_event a0), [.d .event a0])
  | _ => none
noncomputable def s72 : Gm.Spec := Gm.Spec.of [.ro] [false] true q72
theorem good72 : Gm.Good Try.prog (72, s72) := by
  have hl : ∀ x ∈ [(51, s51)], Gm.Good Try.prog x := List.forall_mem_cons.2 ⟨good51, List.forall_mem_nil _⟩
  refine ⟨⟨spec_ok (tab_ok.env hl) (tab.natl hl) Try.func72 (by kernel_rfl : Try.f72.body = some f72c) [94] (by kernel_rfl) ?_, _, Try.func72, by kernel_rfl, of_decide_eq_true (by kernel_rfl)⟩, Gm.Spec.of_natl _ _ _ _⟩
  intro ds outs h
  unfold q72 at h
  split at h
  · simp only [Option.some.injEq, Prod.mk.injEq] at h; obtain ⟨hg, h⟩ := h; cases h; exact f72_spec _ hg
  · cases h
/-! ### loop.example/g00465/laws.toEventS -/
noncomputable def f30c : Code := (Try.f30.body).getD .skip
def f30k : Nat → Kp := kat [⟨[0], [], [], []⟩, ⟨[0, 3], [], [], []⟩, ⟨[0, 3, 4], [], [], []⟩, ⟨[0, 3, 4, 11], [], [], []⟩, ⟨[0, 3, 4], [], [], []⟩, ⟨[0, 3, 4], [], [], []⟩, ⟨[2], [], [], []⟩]
noncomputable def f30e : Env := tab.env [(72, s72)]
noncomputable def f30L0 {R : Type} (n : Nat) (x0 : Int → Bool → (List EventT) → Option R) (vs0 : List EventT) : Nat → Int → (List EventT) → Option R
  | 0, _, _ => none
  | m + 1, vs4, vr448 =>
    (cond (decide (vs4 < (vs0.length : Int)))
      (cond ((decide ((0 : Int) ≤ vs4)) && (decide (vs4 < (vs0.length : Int))))
        (cond (sm_event (atI (t := .event) vs0 (Int.toNat vs4)))
          (cond ((decide ((0 : Int) ≤ vs4)) && (decide (vs4 < (vr448.length : Int))))
            (f30L0 n x0 vs0 m (IntKind.wrap .i64 (vs4 + (1 : Int))) (vr448.set (Int.toNat vs4) (atI (t := .event) vs0 (Int.toNat vs4))))
            none)
          none)
        none)
      (x0 vs4 (decide (vs4 < (vs0.length : Int))) vr448))
theorem f30L0_b {R : Type} (n : Nat) (k' : Ex → St → Option R) (vs0 : List EventT) (vs4 : Int) (vr448 : List EventT) : ev f30e f30k n (cAt [1,1,0,1,0,0] f30c) ⟨[(0, .c (.one (.ro .event vs0))), (3, .c (.one (.h 448 0 0 []))), (4, .c (.one (.v (.int .i64 vs4))))], [], [(448, .live ⟨.event, .deep, 0, [], vr448⟩)]⟩ k' =
    (cond (decide (vs4 < (vs0.length : Int)))
    (cond ((decide ((0 : Int) ≤ vs4)) && (decide (vs4 < (vs0.length : Int))))
      (cond (sm_event (atI (t := .event) vs0 (Int.toNat vs4)))
        (cond ((decide ((0 : Int) ≤ vs4)) && (decide (vs4 < (vr448.length : Int))))
          (k' .normal ⟨[(0, .c (.one (.ro .event vs0))), (3, .c (.one (.h 448 0 0 []))), (4, .c (.one (.v (.int .i64 (IntKind.wrap .i64 (vs4 + (1 : Int)))))))], [], [(448, .live ⟨.event, .deep, 0, [], (vr448.set (Int.toNat vs4) (atI (t := .event) vs0 (Int.toNat vs4)))⟩)]⟩)
          none)
        none)
      none)
    (k' (.exit 0) ⟨[(0, .c (.one (.ro .event vs0))), (3, .c (.one (.h 448 0 0 []))), (4, .c (.one (.v (.int .i64 vs4)))), (11, .c (.one (.v (.bool (decide (vs4 < (vs0.length : Int)))))))], [], [(448, .live ⟨.event, .deep, 0, [], vr448⟩)]⟩)) := by kernel_rfl
theorem f30L0_eq {R : Type} (n : Nat) (k' : Ex → St → Option R) (vs0 : List EventT) : ∀ (m : Nat) (vs4 : Int) (vr448 : List EventT), iter (fun st k => ev f30e f30k n (cAt [1,1,0,1,0,0] f30c) st k) m ⟨[(0, .c (.one (.ro .event vs0))), (3, .c (.one (.h 448 0 0 []))), (4, .c (.one (.v (.int .i64 vs4))))], [], [(448, .live ⟨.event, .deep, 0, [], vr448⟩)]⟩ k' = f30L0 n (fun (xvs4 : Int) (xvs11 : Bool) (xvr448 : List EventT) => k' (.exit 0) ⟨[(0, .c (.one (.ro .event vs0))), (3, .c (.one (.h 448 0 0 []))), (4, .c (.one (.v (.int .i64 xvs4)))), (11, .c (.one (.v (.bool xvs11))))], [], [(448, .live ⟨.event, .deep, 0, [], xvr448⟩)]⟩) vs0 m vs4 vr448 := by
  intro m; induction m with
  | zero => intros; rfl
  | succ m ih =>
    intro vs4 vr448
    simp only [iter]
    rw [f30L0_b]
    simp only [ih, f30L0]

noncomputable def f30K0 {R : Type} (n : Nat) (k' : Ex → St → Option R) : Ex → St → Option R := (blockK 0 (seqK f30e f30k n (cAt [1,1,1] f30c) k'))
theorem f30K0_x0 {R : Type} (n : Nat) (k : List Dt → Option R) (a0 : List EventT) (vs0 : List EventT) (xvs4 : Int) (xvs11 : Bool) (xvr448 : List EventT) : f30K0 n (exitK f30e [.ro] [false] true [.tmp 2] [27] [.d (.sl .event) a0] k) (.exit 0) ⟨[(0, .c (.one (.ro .event vs0))), (3, .c (.one (.h 448 0 0 []))), (4, .c (.one (.v (.int .i64 xvs4)))), (11, .c (.one (.v (.bool xvs11))))], [], [(448, .live ⟨.event, .deep, 0, [], xvr448⟩)]⟩ =
    (k [.d (.sl .event) xvr448]) := by kernel_rfl

theorem f30_run {R : Type} (n : Nat) (k : List Dt → Option R) (a0 : List EventT) : evFn f30e f30k n f30c [.ro] [false] true [.tmp 2] [27] [.d (.sl .event) a0] k =
    (cond ((decide ((a0.length : Int) = (a0.length : Int))) && ((decide ((0 : Int) ≤ (a0.length : Int))) && (decide ((a0.length : Int) ≤ (LIM : Int)))))
    (f30L0 n (fun (xvs4 : Int) (xvs11 : Bool) (xvr448 : List EventT) =>
      (k [.d (.sl .event) xvr448])) a0 n (0 : Int) (List.replicate (Int.toNat (a0.length : Int)) (⟨(0 : Int), (0 : Int), (⟨(⟨ByteArray.empty, ByteArray.empty, (0 : Int), (0 : Int), ([] : List MetricT), (⟨(0 : Int), (0 : Int), (0 : Int), (0 : Int)⟩ : PaceT), ([] : List NoteT)⟩ : OrderT), (0 : Int)⟩ : ItemT)⟩ : EventT)))
    none) := by
  refine Eq.trans (b := (cond ((decide ((a0.length : Int) = (a0.length : Int))) && ((decide ((0 : Int) ≤ (a0.length : Int))) && (decide ((a0.length : Int) ≤ (LIM : Int)))))
    (iter (fun st k => ev f30e f30k n (cAt [1,1,0,1,0,0] f30c) st k) n ⟨[(0, .c (.one (.ro .event a0))), (3, .c (.one (.h 448 0 0 []))), (4, .c (.one (.v (.int .i64 (0 : Int)))))], [], [(448, .live ⟨.event, .deep, 0, [], (List.replicate (Int.toNat (a0.length : Int)) (⟨(0 : Int), (0 : Int), (⟨(⟨ByteArray.empty, ByteArray.empty, (0 : Int), (0 : Int), ([] : List MetricT), (⟨(0 : Int), (0 : Int), (0 : Int), (0 : Int)⟩ : PaceT), ([] : List NoteT)⟩ : OrderT), (0 : Int)⟩ : ItemT)⟩ : EventT))⟩)]⟩ (f30K0 n (exitK f30e [.ro] [false] true [.tmp 2] [27] [.d (.sl .event) a0] k)))
    none)) (by kernel_rfl) ?_
  simp only [f30L0_eq, f30K0_x0]
theorem f30_spec (a0 : List EventT) (hg : smL sm_event a0 = true) : ∃ keep rounds, ∀ {R : Type} (k : List Dt → Option R), evFn f30e keep rounds f30c [.ro] [false] true [.tmp 2] [27] [.d (.sl .event) a0] k = k [.d (.sl .event) a0] := by
  have hl : a0.length ≤ 1048576 := smL_len hg
  have hs := smL_all hg
  refine ⟨f30k, a0.length + 1, fun k => ?_⟩
  rw [f30_run, mkOk hl]
  simp only [cond_true]
  have := loop_copy (xs := a0) (f := fun x => x) (F := fun m j out => f30L0 (a0.length + 1) (fun (xvs4 : Int) (xvs11 : Bool) (xvr448 : List EventT) => (k [.d (.sl .event) xvr448])) a0 m (j : Int) out) (good := fun out => k [.d (.sl .event) out]) (⟨(0 : Int), (0 : Int), (⟨(⟨ByteArray.empty, ByteArray.empty, (0 : Int), (0 : Int), ([] : List MetricT), (⟨(0 : Int), (0 : Int), (0 : Int), (0 : Int)⟩ : PaceT), ([] : List NoteT)⟩ : OrderT), (0 : Int)⟩ : ItemT)⟩ : EventT)
    (fun m j out x hx hl' => by
      obtain ⟨h1, h0, hw, ht⟩ := idx (lt_of_get hx) (by omega)
      obtain ⟨h2, _, _, _⟩ := idx (show j < out.length by rw [hl']; exact lt_of_get hx) (by omega)
      have hx2 := List.all_eq_true.1 hs x (List.mem_of_getElem? hx)
      simp only [f30L0, h1, h0, h2, hw, ht, atI_of (t := .event) hx, Bool.and_self, cond_true, hx2])
    (fun m out => by simp only [f30L0, idxE, cond_false]) a0.length 0 (a0.length + 1) (by omega) (by omega)
  simpa using this

noncomputable def q30 : List Dt → Option (Bool × List Dt)
  | [.d (.sl .event) a0] => some ((smL sm_event a0), [.d (.sl .event) a0])
  | _ => none
noncomputable def s30 : Gm.Spec := Gm.Spec.of [.ro] [false] true q30
theorem good30 : Gm.Good Try.prog (30, s30) := by
  have hl : ∀ x ∈ [(72, s72)], Gm.Good Try.prog x := List.forall_mem_cons.2 ⟨good72, List.forall_mem_nil _⟩
  refine ⟨⟨spec_ok (tab_ok.env hl) (tab.natl hl) Try.func30 (by kernel_rfl : Try.f30.body = some f30c) [27] (by kernel_rfl) ?_, _, Try.func30, by kernel_rfl, of_decide_eq_true (by kernel_rfl)⟩, Gm.Spec.of_natl _ _ _ _⟩
  intro ds outs h
  unfold q30 at h
  split at h
  · simp only [Option.some.injEq, Prod.mk.injEq] at h; obtain ⟨hg, h⟩ := h; cases h; exact f30_spec _ hg
  · cases h
noncomputable def q12 : List Dt → Option (Bool × List Dt)
  | [.d .hist a0] => some ((sm_hist a0), [.d .hist a0])
  | _ => none
/-! ### loop.example/g00465/laws.eqMetric -/
noncomputable def f146c : Code := (Try.f146.body).getD .skip
def f146k : Nat → Kp := kat [⟨[2, 3], [], [], []⟩, ⟨[2, 3, 9], [], [], []⟩, ⟨[4], [], [], []⟩, ⟨[2, 3, 14], [], [], []⟩, ⟨[4], [], [], []⟩, ⟨[19], [], [], []⟩, ⟨[4], [], [], []⟩, ⟨[4], [], [], []⟩]
noncomputable def f146e : Env := tab.env []
theorem f146_run {R : Type} (n : Nat) (k : List Dt → Option R) (a0 : MetricT) (a1 : MetricT) : evFn f146e f146k n f146c [.ro, .ro] [false] true [.tmp 4] [4] [.d .metric a0, .d .metric a1] k =
    (cond (!(sEq (MetricT.name a0) (MetricT.name a1)))
    (k [.d .bool false])
    (cond ((MetricT.kind a0) != (MetricT.kind a1))
      (k [.d .bool false])
      (cond ((MetricT.goal a0) != (MetricT.goal a1))
        (k [.d .bool false])
        (k [.d .bool true])))) := by kernel_rfl
theorem f146_spec (a0 : MetricT) (a1 : MetricT) (hg : sm2 sm_metric a0 a1 = true) : ∃ keep rounds, ∀ {R : Type} (k : List Dt → Option R), evFn f146e keep rounds f146c [.ro, .ro] [false] true [.tmp 4] [4] [.d .metric a0, .d .metric a1] k = k [.d .bool (eqD a0 a1)] := by
  simp only [sm2, sm_metric, Bool.and_eq_true] at hg
  refine ⟨f146k, 0, fun k => ?_⟩
  rw [f146_run, eqD_metric]
  try simp only [bne]
  cases sEq a0.name a1.name <;> cases (a0.kind == a1.kind) <;> cases (a0.goal == a1.goal) <;> rfl

noncomputable def q146 : List Dt → Option (Bool × List Dt)
  | [.d .metric a0, .d .metric a1] => some ((sm2 sm_metric a0 a1), [.d .bool (eqD a0 a1)])
  | _ => none
noncomputable def s146 : Gm.Spec := Gm.Spec.of [.ro, .ro] [false] true q146
theorem good146 : Gm.Good Try.prog (146, s146) := by
  have hl : ∀ x ∈ ([] : List (Nat × Gm.Spec)), Gm.Good Try.prog x := fun _ h => by cases h
  refine ⟨⟨spec_ok (tab_ok.env hl) (tab.natl hl) Try.func146 (by kernel_rfl : Try.f146.body = some f146c) [4] (by kernel_rfl) ?_, _, Try.func146, by kernel_rfl, of_decide_eq_true (by kernel_rfl)⟩, Gm.Spec.of_natl _ _ _ _⟩
  intro ds outs h
  unfold q146 at h
  split at h
  · simp only [Option.some.injEq, Prod.mk.injEq] at h; obtain ⟨hg, h⟩ := h; cases h; exact f146_spec _ _ hg
  · cases h
/-! ### loop.example/g00465/laws.eqMetricS -/
noncomputable def f121c : Code := (Try.f121.body).getD .skip
def f121k : Nat → Kp := kat [⟨[0, 1], [], [], []⟩, ⟨[0, 1, 10], [], [], []⟩, ⟨[4], [], [], []⟩, ⟨[0, 1, 5], [], [], []⟩, ⟨[0, 1, 5, 14], [], [], []⟩, ⟨[0, 1, 5], [], [], []⟩, ⟨[0, 1, 5, 26], [], [], []⟩, ⟨[4], [], [], []⟩, ⟨[4], [], [], []⟩]
noncomputable def f121e : Env := tab.env [(146, s146)]
noncomputable def f121L0 {R : Type} (n : Nat) (x0 : Option R) (x1 : Int → Bool → Option R) (vs0 : List MetricT) (vs1 : List MetricT) : Nat → Int → Option R
  | 0, _ => none
  | m + 1, vs5 =>
    (cond (decide (vs5 < (vs0.length : Int)))
      (cond ((decide ((0 : Int) ≤ vs5)) && (decide (vs5 < (vs0.length : Int))))
        (cond ((decide ((0 : Int) ≤ vs5)) && (decide (vs5 < (vs1.length : Int))))
          (cond (sm2 sm_metric (atI (t := .metric) vs0 (Int.toNat vs5)) (atI (t := .metric) vs1 (Int.toNat vs5)))
            (cond (!(eqD (atI (t := .metric) vs0 (Int.toNat vs5)) (atI (t := .metric) vs1 (Int.toNat vs5))))
              (x0)
              (f121L0 n x0 x1 vs0 vs1 m (IntKind.wrap .i64 (vs5 + (1 : Int)))))
            none)
          none)
        none)
      (x1 vs5 (decide (vs5 < (vs0.length : Int)))))
theorem f121L0_b {R : Type} (n : Nat) (k' : Ex → St → Option R) (vs0 : List MetricT) (vs1 : List MetricT) (vs5 : Int) : ev f121e f121k n (cAt [1,1,0,1,0,0] f121c) ⟨[(0, .c (.one (.ro .metric vs0))), (1, .c (.one (.ro .metric vs1))), (5, .c (.one (.v (.int .i64 vs5))))], [], []⟩ k' =
    (cond (decide (vs5 < (vs0.length : Int)))
    (cond ((decide ((0 : Int) ≤ vs5)) && (decide (vs5 < (vs0.length : Int))))
      (cond ((decide ((0 : Int) ≤ vs5)) && (decide (vs5 < (vs1.length : Int))))
        (cond (sm2 sm_metric (atI (t := .metric) vs0 (Int.toNat vs5)) (atI (t := .metric) vs1 (Int.toNat vs5)))
          (cond (!(eqD (atI (t := .metric) vs0 (Int.toNat vs5)) (atI (t := .metric) vs1 (Int.toNat vs5))))
            (k' .ret ⟨[(4, .c (.one (.v (.bool false))))], [], []⟩)
            (k' .normal ⟨[(0, .c (.one (.ro .metric vs0))), (1, .c (.one (.ro .metric vs1))), (5, .c (.one (.v (.int .i64 (IntKind.wrap .i64 (vs5 + (1 : Int)))))))], [], []⟩))
          none)
        none)
      none)
    (k' (.exit 0) ⟨[(0, .c (.one (.ro .metric vs0))), (1, .c (.one (.ro .metric vs1))), (5, .c (.one (.v (.int .i64 vs5)))), (14, .c (.one (.v (.bool (decide (vs5 < (vs0.length : Int)))))))], [], []⟩)) := by kernel_rfl
theorem f121L0_eq {R : Type} (n : Nat) (k' : Ex → St → Option R) (vs0 : List MetricT) (vs1 : List MetricT) : ∀ (m : Nat) (vs5 : Int), iter (fun st k => ev f121e f121k n (cAt [1,1,0,1,0,0] f121c) st k) m ⟨[(0, .c (.one (.ro .metric vs0))), (1, .c (.one (.ro .metric vs1))), (5, .c (.one (.v (.int .i64 vs5))))], [], []⟩ k' = f121L0 n (k' .ret ⟨[(4, .c (.one (.v (.bool false))))], [], []⟩) (fun (xvs5 : Int) (xvs14 : Bool) => k' (.exit 0) ⟨[(0, .c (.one (.ro .metric vs0))), (1, .c (.one (.ro .metric vs1))), (5, .c (.one (.v (.int .i64 xvs5)))), (14, .c (.one (.v (.bool xvs14))))], [], []⟩) vs0 vs1 m vs5 := by
  intro m; induction m with
  | zero => intros; rfl
  | succ m ih =>
    intro vs5
    simp only [iter]
    rw [f121L0_b]
    simp only [ih, f121L0]

noncomputable def f121K0 {R : Type} (n : Nat) (k' : Ex → St → Option R) : Ex → St → Option R := (blockK 0 (seqK f121e f121k n (cAt [1,1,1] f121c) k'))
theorem f121K0_x0 {R : Type} (n : Nat) (k : List Dt → Option R) (a0 : List MetricT) (a1 : List MetricT)  : f121K0 n (exitK f121e [.ro, .ro] [false] true [.tmp 4] [4] [.d (.sl .metric) a0, .d (.sl .metric) a1] k) .ret ⟨[(4, .c (.one (.v (.bool false))))], [], []⟩ =
    (k [.d .bool false]) := by kernel_rfl
theorem f121K0_x1 {R : Type} (n : Nat) (k : List Dt → Option R) (a0 : List MetricT) (a1 : List MetricT) (vs0 : List MetricT) (vs1 : List MetricT) (xvs5 : Int) (xvs14 : Bool) : f121K0 n (exitK f121e [.ro, .ro] [false] true [.tmp 4] [4] [.d (.sl .metric) a0, .d (.sl .metric) a1] k) (.exit 0) ⟨[(0, .c (.one (.ro .metric vs0))), (1, .c (.one (.ro .metric vs1))), (5, .c (.one (.v (.int .i64 xvs5)))), (14, .c (.one (.v (.bool xvs14))))], [], []⟩ =
    (k [.d .bool true]) := by kernel_rfl

theorem f121_run {R : Type} (n : Nat) (k : List Dt → Option R) (a0 : List MetricT) (a1 : List MetricT) : evFn f121e f121k n f121c [.ro, .ro] [false] true [.tmp 4] [4] [.d (.sl .metric) a0, .d (.sl .metric) a1] k =
    (cond ((a0.length : Int) != (a1.length : Int))
    (k [.d .bool false])
    (f121L0 n (k [.d .bool false]) (fun (xvs5 : Int) (xvs14 : Bool) =>
      (k [.d .bool true])) a0 a1 n (0 : Int))) := by
  refine Eq.trans (b := (cond ((a0.length : Int) != (a1.length : Int))
    (k [.d .bool false])
    (iter (fun st k => ev f121e f121k n (cAt [1,1,0,1,0,0] f121c) st k) n ⟨[(0, .c (.one (.ro .metric a0))), (1, .c (.one (.ro .metric a1))), (5, .c (.one (.v (.int .i64 (0 : Int)))))], [], []⟩ (f121K0 n (exitK f121e [.ro, .ro] [false] true [.tmp 4] [4] [.d (.sl .metric) a0, .d (.sl .metric) a1] k))))) (by kernel_rfl) ?_
  simp only [f121L0_eq, f121K0_x0, f121K0_x1]
theorem f121_spec (a0 : List MetricT) (a1 : List MetricT) (hg : sm2 (smL sm_metric) a0 a1 = true) : ∃ keep rounds, ∀ {R : Type} (k : List Dt → Option R), evFn f121e keep rounds f121c [.ro, .ro] [false] true [.tmp 4] [4] [.d (.sl .metric) a0, .d (.sl .metric) a1] k = k [.d .bool (eqD a0 a1)] := by
  simp only [sm2, Bool.and_eq_true] at hg
  obtain ⟨hg0, hg1⟩ := hg
  have hl : a0.length ≤ 1048576 := smL_len hg0
  refine ⟨f121k, a0.length + 1, fun k => ?_⟩
  rw [f121_run]
  by_cases hc : a0.length = a1.length
  · have hc' : ((a0.length : Int) != (a1.length : Int)) = false := by simp [hc]
    simp only [hc', cond_false]
    refine Eq.trans (loop_idx (n := a0.length) (F := fun m i => f121L0 (a0.length + 1) _ _ a0 a1 m i) (p := fun j => eqD (atI (t := .metric) a0 j) (atI (t := .metric) a1 j)) (good := k [.d .bool true]) (bad := k [.d .bool false])
      (fun m j hj => ?_) (fun m => by simp only [f121L0, idxE, cond_false]) a0.length 0 (a0.length + 1) (by omega) (by omega)) ?_
    · obtain ⟨h1, h0, hw, ht⟩ := idx hj (by omega)
      obtain ⟨h2, _, _, _⟩ := idx (show j < a1.length by omega) (by omega)
      have ha := smL_at (t := .metric) hg0 hj
      have hb := smL_at (t := .metric) hg1 (show j < a1.length by omega)
      simp only [f121L0, h1, h0, h2, hw, ht, Bool.and_self, cond_true, sm2, ha, hb]
      cases eqD (atI (t := .metric) a0 j) (atI (t := .metric) a1 j) <;> rfl
    · rw [allN_eq hc (fun j x y hx hy => by rw [atI_of (t := .metric) hx, atI_of (t := .metric) hy])]
      cases eqD a0 a1 <;> rfl
  · simp only [bneLen hc, cond_true]
    rw [eqD_ne (fun e => hc (by rw [e]))]

noncomputable def q121 : List Dt → Option (Bool × List Dt)
  | [.d (.sl .metric) a0, .d (.sl .metric) a1] => some ((sm2 (smL sm_metric) a0 a1), [.d .bool (eqD a0 a1)])
  | _ => none
noncomputable def s121 : Gm.Spec := Gm.Spec.of [.ro, .ro] [false] true q121
theorem good121 : Gm.Good Try.prog (121, s121) := by
  have hl : ∀ x ∈ [(146, s146)], Gm.Good Try.prog x := List.forall_mem_cons.2 ⟨good146, List.forall_mem_nil _⟩
  refine ⟨⟨spec_ok (tab_ok.env hl) (tab.natl hl) Try.func121 (by kernel_rfl : Try.f121.body = some f121c) [4] (by kernel_rfl) ?_, _, Try.func121, by kernel_rfl, of_decide_eq_true (by kernel_rfl)⟩, Gm.Spec.of_natl _ _ _ _⟩
  intro ds outs h
  unfold q121 at h
  split at h
  · simp only [Option.some.injEq, Prod.mk.injEq] at h; obtain ⟨hg, h⟩ := h; cases h; exact f121_spec _ _ hg
  · cases h
/-! ### loop.example/g00465/laws.eqPace -/
noncomputable def f122c : Code := (Try.f122.body).getD .skip
def f122k : Nat → Kp := kat [⟨[2, 3], [], [], []⟩, ⟨[2, 3, 9], [], [], []⟩, ⟨[4], [], [], []⟩, ⟨[2, 3, 14], [], [], []⟩, ⟨[4], [], [], []⟩, ⟨[2, 3, 19], [], [], []⟩, ⟨[4], [], [], []⟩, ⟨[24], [], [], []⟩, ⟨[4], [], [], []⟩, ⟨[4], [], [], []⟩]
noncomputable def f122e : Env := tab.env []
theorem f122_run {R : Type} (n : Nat) (k : List Dt → Option R) (a0 : PaceT) (a1 : PaceT) : evFn f122e f122k n f122c [.ro, .ro] [false] true [.tmp 4] [4] [.d .pace a0, .d .pace a1] k =
    (cond ((PaceT.up a0) != (PaceT.up a1))
    (k [.d .bool false])
    (cond ((PaceT.down a0) != (PaceT.down a1))
      (k [.d .bool false])
      (cond ((PaceT.upSpan a0) != (PaceT.upSpan a1))
        (k [.d .bool false])
        (cond ((PaceT.downSpan a0) != (PaceT.downSpan a1))
          (k [.d .bool false])
          (k [.d .bool true]))))) := by kernel_rfl
theorem f122_spec (a0 : PaceT) (a1 : PaceT) (hg : sm2 sm_pace a0 a1 = true) : ∃ keep rounds, ∀ {R : Type} (k : List Dt → Option R), evFn f122e keep rounds f122c [.ro, .ro] [false] true [.tmp 4] [4] [.d .pace a0, .d .pace a1] k = k [.d .bool (eqD a0 a1)] := by
  simp only [sm2, sm_pace, Bool.and_eq_true] at hg
  refine ⟨f122k, 0, fun k => ?_⟩
  rw [f122_run, eqD_pace]
  try simp only [bne]
  cases (a0.up == a1.up) <;> cases (a0.down == a1.down) <;> cases (a0.upSpan == a1.upSpan) <;> cases (a0.downSpan == a1.downSpan) <;> rfl

noncomputable def q122 : List Dt → Option (Bool × List Dt)
  | [.d .pace a0, .d .pace a1] => some ((sm2 sm_pace a0 a1), [.d .bool (eqD a0 a1)])
  | _ => none
noncomputable def s122 : Gm.Spec := Gm.Spec.of [.ro, .ro] [false] true q122
theorem good122 : Gm.Good Try.prog (122, s122) := by
  have hl : ∀ x ∈ ([] : List (Nat × Gm.Spec)), Gm.Good Try.prog x := fun _ h => by cases h
  refine ⟨⟨spec_ok (tab_ok.env hl) (tab.natl hl) Try.func122 (by kernel_rfl : Try.f122.body = some f122c) [4] (by kernel_rfl) ?_, _, Try.func122, by kernel_rfl, of_decide_eq_true (by kernel_rfl)⟩, Gm.Spec.of_natl _ _ _ _⟩
  intro ds outs h
  unfold q122 at h
  split at h
  · simp only [Option.some.injEq, Prod.mk.injEq] at h; obtain ⟨hg, h⟩ := h; cases h; exact f122_spec _ _ hg
  · cases h
/-! ### loop.example/g00465/laws.eqNote -/
noncomputable def f147c : Code := (Try.f147.body).getD .skip
def f147k : Nat → Kp := kat [⟨[2, 3], [], [], []⟩, ⟨[2, 3, 9], [], [], []⟩, ⟨[4], [], [], []⟩, ⟨[14], [], [], []⟩, ⟨[4], [], [], []⟩, ⟨[4], [], [], []⟩]
noncomputable def f147e : Env := tab.env []
theorem f147_run {R : Type} (n : Nat) (k : List Dt → Option R) (a0 : NoteT) (a1 : NoteT) : evFn f147e f147k n f147c [.ro, .ro] [false] true [.tmp 4] [4] [.d .note a0, .d .note a1] k =
    (cond (!(sEq (NoteT.key a0) (NoteT.key a1)))
    (k [.d .bool false])
    (cond (!(sEq (NoteT.text a0) (NoteT.text a1)))
      (k [.d .bool false])
      (k [.d .bool true]))) := by kernel_rfl
theorem f147_spec (a0 : NoteT) (a1 : NoteT) (hg : sm2 sm_note a0 a1 = true) : ∃ keep rounds, ∀ {R : Type} (k : List Dt → Option R), evFn f147e keep rounds f147c [.ro, .ro] [false] true [.tmp 4] [4] [.d .note a0, .d .note a1] k = k [.d .bool (eqD a0 a1)] := by
  simp only [sm2, sm_note, Bool.and_eq_true] at hg
  refine ⟨f147k, 0, fun k => ?_⟩
  rw [f147_run, eqD_note]
  try simp only [bne]
  cases sEq a0.key a1.key <;> cases sEq a0.text a1.text <;> rfl

noncomputable def q147 : List Dt → Option (Bool × List Dt)
  | [.d .note a0, .d .note a1] => some ((sm2 sm_note a0 a1), [.d .bool (eqD a0 a1)])
  | _ => none
noncomputable def s147 : Gm.Spec := Gm.Spec.of [.ro, .ro] [false] true q147
theorem good147 : Gm.Good Try.prog (147, s147) := by
  have hl : ∀ x ∈ ([] : List (Nat × Gm.Spec)), Gm.Good Try.prog x := fun _ h => by cases h
  refine ⟨⟨spec_ok (tab_ok.env hl) (tab.natl hl) Try.func147 (by kernel_rfl : Try.f147.body = some f147c) [4] (by kernel_rfl) ?_, _, Try.func147, by kernel_rfl, of_decide_eq_true (by kernel_rfl)⟩, Gm.Spec.of_natl _ _ _ _⟩
  intro ds outs h
  unfold q147 at h
  split at h
  · simp only [Option.some.injEq, Prod.mk.injEq] at h; obtain ⟨hg, h⟩ := h; cases h; exact f147_spec _ _ hg
  · cases h
/-! ### loop.example/g00465/laws.eqNoteS -/
noncomputable def f123c : Code := (Try.f123.body).getD .skip
def f123k : Nat → Kp := kat [⟨[0, 1], [], [], []⟩, ⟨[0, 1, 10], [], [], []⟩, ⟨[4], [], [], []⟩, ⟨[0, 1, 5], [], [], []⟩, ⟨[0, 1, 5, 14], [], [], []⟩, ⟨[0, 1, 5], [], [], []⟩, ⟨[0, 1, 5, 26], [], [], []⟩, ⟨[4], [], [], []⟩, ⟨[4], [], [], []⟩]
noncomputable def f123e : Env := tab.env [(147, s147)]
noncomputable def f123L0 {R : Type} (n : Nat) (x0 : Option R) (x1 : Int → Bool → Option R) (vs0 : List NoteT) (vs1 : List NoteT) : Nat → Int → Option R
  | 0, _ => none
  | m + 1, vs5 =>
    (cond (decide (vs5 < (vs0.length : Int)))
      (cond ((decide ((0 : Int) ≤ vs5)) && (decide (vs5 < (vs0.length : Int))))
        (cond ((decide ((0 : Int) ≤ vs5)) && (decide (vs5 < (vs1.length : Int))))
          (cond (sm2 sm_note (atI (t := .note) vs0 (Int.toNat vs5)) (atI (t := .note) vs1 (Int.toNat vs5)))
            (cond (!(eqD (atI (t := .note) vs0 (Int.toNat vs5)) (atI (t := .note) vs1 (Int.toNat vs5))))
              (x0)
              (f123L0 n x0 x1 vs0 vs1 m (IntKind.wrap .i64 (vs5 + (1 : Int)))))
            none)
          none)
        none)
      (x1 vs5 (decide (vs5 < (vs0.length : Int)))))
theorem f123L0_b {R : Type} (n : Nat) (k' : Ex → St → Option R) (vs0 : List NoteT) (vs1 : List NoteT) (vs5 : Int) : ev f123e f123k n (cAt [1,1,0,1,0,0] f123c) ⟨[(0, .c (.one (.ro .note vs0))), (1, .c (.one (.ro .note vs1))), (5, .c (.one (.v (.int .i64 vs5))))], [], []⟩ k' =
    (cond (decide (vs5 < (vs0.length : Int)))
    (cond ((decide ((0 : Int) ≤ vs5)) && (decide (vs5 < (vs0.length : Int))))
      (cond ((decide ((0 : Int) ≤ vs5)) && (decide (vs5 < (vs1.length : Int))))
        (cond (sm2 sm_note (atI (t := .note) vs0 (Int.toNat vs5)) (atI (t := .note) vs1 (Int.toNat vs5)))
          (cond (!(eqD (atI (t := .note) vs0 (Int.toNat vs5)) (atI (t := .note) vs1 (Int.toNat vs5))))
            (k' .ret ⟨[(4, .c (.one (.v (.bool false))))], [], []⟩)
            (k' .normal ⟨[(0, .c (.one (.ro .note vs0))), (1, .c (.one (.ro .note vs1))), (5, .c (.one (.v (.int .i64 (IntKind.wrap .i64 (vs5 + (1 : Int)))))))], [], []⟩))
          none)
        none)
      none)
    (k' (.exit 0) ⟨[(0, .c (.one (.ro .note vs0))), (1, .c (.one (.ro .note vs1))), (5, .c (.one (.v (.int .i64 vs5)))), (14, .c (.one (.v (.bool (decide (vs5 < (vs0.length : Int)))))))], [], []⟩)) := by kernel_rfl
theorem f123L0_eq {R : Type} (n : Nat) (k' : Ex → St → Option R) (vs0 : List NoteT) (vs1 : List NoteT) : ∀ (m : Nat) (vs5 : Int), iter (fun st k => ev f123e f123k n (cAt [1,1,0,1,0,0] f123c) st k) m ⟨[(0, .c (.one (.ro .note vs0))), (1, .c (.one (.ro .note vs1))), (5, .c (.one (.v (.int .i64 vs5))))], [], []⟩ k' = f123L0 n (k' .ret ⟨[(4, .c (.one (.v (.bool false))))], [], []⟩) (fun (xvs5 : Int) (xvs14 : Bool) => k' (.exit 0) ⟨[(0, .c (.one (.ro .note vs0))), (1, .c (.one (.ro .note vs1))), (5, .c (.one (.v (.int .i64 xvs5)))), (14, .c (.one (.v (.bool xvs14))))], [], []⟩) vs0 vs1 m vs5 := by
  intro m; induction m with
  | zero => intros; rfl
  | succ m ih =>
    intro vs5
    simp only [iter]
    rw [f123L0_b]
    simp only [ih, f123L0]

noncomputable def f123K0 {R : Type} (n : Nat) (k' : Ex → St → Option R) : Ex → St → Option R := (blockK 0 (seqK f123e f123k n (cAt [1,1,1] f123c) k'))
theorem f123K0_x0 {R : Type} (n : Nat) (k : List Dt → Option R) (a0 : List NoteT) (a1 : List NoteT)  : f123K0 n (exitK f123e [.ro, .ro] [false] true [.tmp 4] [4] [.d (.sl .note) a0, .d (.sl .note) a1] k) .ret ⟨[(4, .c (.one (.v (.bool false))))], [], []⟩ =
    (k [.d .bool false]) := by kernel_rfl
theorem f123K0_x1 {R : Type} (n : Nat) (k : List Dt → Option R) (a0 : List NoteT) (a1 : List NoteT) (vs0 : List NoteT) (vs1 : List NoteT) (xvs5 : Int) (xvs14 : Bool) : f123K0 n (exitK f123e [.ro, .ro] [false] true [.tmp 4] [4] [.d (.sl .note) a0, .d (.sl .note) a1] k) (.exit 0) ⟨[(0, .c (.one (.ro .note vs0))), (1, .c (.one (.ro .note vs1))), (5, .c (.one (.v (.int .i64 xvs5)))), (14, .c (.one (.v (.bool xvs14))))], [], []⟩ =
    (k [.d .bool true]) := by kernel_rfl

theorem f123_run {R : Type} (n : Nat) (k : List Dt → Option R) (a0 : List NoteT) (a1 : List NoteT) : evFn f123e f123k n f123c [.ro, .ro] [false] true [.tmp 4] [4] [.d (.sl .note) a0, .d (.sl .note) a1] k =
    (cond ((a0.length : Int) != (a1.length : Int))
    (k [.d .bool false])
    (f123L0 n (k [.d .bool false]) (fun (xvs5 : Int) (xvs14 : Bool) =>
      (k [.d .bool true])) a0 a1 n (0 : Int))) := by
  refine Eq.trans (b := (cond ((a0.length : Int) != (a1.length : Int))
    (k [.d .bool false])
    (iter (fun st k => ev f123e f123k n (cAt [1,1,0,1,0,0] f123c) st k) n ⟨[(0, .c (.one (.ro .note a0))), (1, .c (.one (.ro .note a1))), (5, .c (.one (.v (.int .i64 (0 : Int)))))], [], []⟩ (f123K0 n (exitK f123e [.ro, .ro] [false] true [.tmp 4] [4] [.d (.sl .note) a0, .d (.sl .note) a1] k))))) (by kernel_rfl) ?_
  simp only [f123L0_eq, f123K0_x0, f123K0_x1]
theorem f123_spec (a0 : List NoteT) (a1 : List NoteT) (hg : sm2 (smL sm_note) a0 a1 = true) : ∃ keep rounds, ∀ {R : Type} (k : List Dt → Option R), evFn f123e keep rounds f123c [.ro, .ro] [false] true [.tmp 4] [4] [.d (.sl .note) a0, .d (.sl .note) a1] k = k [.d .bool (eqD a0 a1)] := by
  simp only [sm2, Bool.and_eq_true] at hg
  obtain ⟨hg0, hg1⟩ := hg
  have hl : a0.length ≤ 1048576 := smL_len hg0
  refine ⟨f123k, a0.length + 1, fun k => ?_⟩
  rw [f123_run]
  by_cases hc : a0.length = a1.length
  · have hc' : ((a0.length : Int) != (a1.length : Int)) = false := by simp [hc]
    simp only [hc', cond_false]
    refine Eq.trans (loop_idx (n := a0.length) (F := fun m i => f123L0 (a0.length + 1) _ _ a0 a1 m i) (p := fun j => eqD (atI (t := .note) a0 j) (atI (t := .note) a1 j)) (good := k [.d .bool true]) (bad := k [.d .bool false])
      (fun m j hj => ?_) (fun m => by simp only [f123L0, idxE, cond_false]) a0.length 0 (a0.length + 1) (by omega) (by omega)) ?_
    · obtain ⟨h1, h0, hw, ht⟩ := idx hj (by omega)
      obtain ⟨h2, _, _, _⟩ := idx (show j < a1.length by omega) (by omega)
      have ha := smL_at (t := .note) hg0 hj
      have hb := smL_at (t := .note) hg1 (show j < a1.length by omega)
      simp only [f123L0, h1, h0, h2, hw, ht, Bool.and_self, cond_true, sm2, ha, hb]
      cases eqD (atI (t := .note) a0 j) (atI (t := .note) a1 j) <;> rfl
    · rw [allN_eq hc (fun j x y hx hy => by rw [atI_of (t := .note) hx, atI_of (t := .note) hy])]
      cases eqD a0 a1 <;> rfl
  · simp only [bneLen hc, cond_true]
    rw [eqD_ne (fun e => hc (by rw [e]))]

noncomputable def q123 : List Dt → Option (Bool × List Dt)
  | [.d (.sl .note) a0, .d (.sl .note) a1] => some ((sm2 (smL sm_note) a0 a1), [.d .bool (eqD a0 a1)])
  | _ => none
noncomputable def s123 : Gm.Spec := Gm.Spec.of [.ro, .ro] [false] true q123
theorem good123 : Gm.Good Try.prog (123, s123) := by
  have hl : ∀ x ∈ [(147, s147)], Gm.Good Try.prog x := List.forall_mem_cons.2 ⟨good147, List.forall_mem_nil _⟩
  refine ⟨⟨spec_ok (tab_ok.env hl) (tab.natl hl) Try.func123 (by kernel_rfl : Try.f123.body = some f123c) [4] (by kernel_rfl) ?_, _, Try.func123, by kernel_rfl, of_decide_eq_true (by kernel_rfl)⟩, Gm.Spec.of_natl _ _ _ _⟩
  intro ds outs h
  unfold q123 at h
  split at h
  · simp only [Option.some.injEq, Prod.mk.injEq] at h; obtain ⟨hg, h⟩ := h; cases h; exact f123_spec _ _ hg
  · cases h
/-! ### loop.example/g00465/laws.eqOrder -/
noncomputable def f89c : Code := (Try.f89.body).getD .skip
def f89k : Nat → Kp := kat [⟨[2, 3], [], [], []⟩, ⟨[2, 3, 9], [], [], []⟩, ⟨[4], [], [], []⟩, ⟨[2, 3, 14], [], [], []⟩, ⟨[4], [], [], []⟩, ⟨[2, 3, 19], [], [], []⟩, ⟨[4], [], [], []⟩, ⟨[2, 3, 24], [], [], []⟩, ⟨[4], [], [], []⟩, ⟨[2, 3, 30], [], [], []⟩, ⟨[4], [], [], []⟩, ⟨[2, 3, 36], [], [], []⟩, ⟨[4], [], [], []⟩, ⟨[42], [], [], []⟩, ⟨[4], [], [], []⟩, ⟨[4], [], [], []⟩]
noncomputable def f89e : Env := tab.env [(121, s121), (122, s122), (123, s123)]
theorem f89_run {R : Type} (n : Nat) (k : List Dt → Option R) (a0 : OrderT) (a1 : OrderT) : evFn f89e f89k n f89c [.ro, .ro] [false] true [.tmp 4] [4] [.d .order a0, .d .order a1] k =
    (cond (!(sEq (OrderT.name a0) (OrderT.name a1)))
    (k [.d .bool false])
    (cond (!(sEq (OrderT.target a0) (OrderT.target a1)))
      (k [.d .bool false])
      (cond ((OrderT.low a0) != (OrderT.low a1))
        (k [.d .bool false])
        (cond ((OrderT.high a0) != (OrderT.high a1))
          (k [.d .bool false])
          (cond (sm2 (smL sm_metric) (OrderT.metrics a0) (OrderT.metrics a1))
            (cond (!(eqD (OrderT.metrics a0) (OrderT.metrics a1)))
              (k [.d .bool false])
              (cond (sm2 sm_pace (OrderT.pace a0) (OrderT.pace a1))
                (cond (!(eqD (OrderT.pace a0) (OrderT.pace a1)))
                  (k [.d .bool false])
                  (cond (sm2 (smL sm_note) (OrderT.notes a0) (OrderT.notes a1))
                    (cond (!(eqD (OrderT.notes a0) (OrderT.notes a1)))
                      (k [.d .bool false])
                      (k [.d .bool true]))
                    none))
                none))
            none))))) := by kernel_rfl
theorem f89_spec (a0 : OrderT) (a1 : OrderT) (hg : sm2 sm_order a0 a1 = true) : ∃ keep rounds, ∀ {R : Type} (k : List Dt → Option R), evFn f89e keep rounds f89c [.ro, .ro] [false] true [.tmp 4] [4] [.d .order a0, .d .order a1] k = k [.d .bool (eqD a0 a1)] := by
  simp only [sm2, sm_order, Bool.and_eq_true] at hg
  refine ⟨f89k, 0, fun k => ?_⟩
  rw [f89_run, eqD_order]
  simp only [bne, sm2, hg, Bool.and_self, Bool.true_and, cond_true]
  cases sEq a0.name a1.name <;> cases sEq a0.target a1.target <;> cases (a0.low == a1.low) <;> cases (a0.high == a1.high) <;> cases eqD a0.metrics a1.metrics <;> cases eqD a0.pace a1.pace <;> cases eqD a0.notes a1.notes <;> rfl

noncomputable def q89 : List Dt → Option (Bool × List Dt)
  | [.d .order a0, .d .order a1] => some ((sm2 sm_order a0 a1), [.d .bool (eqD a0 a1)])
  | _ => none
noncomputable def s89 : Gm.Spec := Gm.Spec.of [.ro, .ro] [false] true q89
theorem good89 : Gm.Good Try.prog (89, s89) := by
  have hl : ∀ x ∈ [(121, s121), (122, s122), (123, s123)], Gm.Good Try.prog x := List.forall_mem_cons.2 ⟨good121, List.forall_mem_cons.2 ⟨good122, List.forall_mem_cons.2 ⟨good123, List.forall_mem_nil _⟩⟩⟩
  refine ⟨⟨spec_ok (tab_ok.env hl) (tab.natl hl) Try.func89 (by kernel_rfl : Try.f89.body = some f89c) [4] (by kernel_rfl) ?_, _, Try.func89, by kernel_rfl, of_decide_eq_true (by kernel_rfl)⟩, Gm.Spec.of_natl _ _ _ _⟩
  intro ds outs h
  unfold q89 at h
  split at h
  · simp only [Option.some.injEq, Prod.mk.injEq] at h; obtain ⟨hg, h⟩ := h; cases h; exact f89_spec _ _ hg
  · cases h
/-! ### loop.example/g00465/laws.eqItem -/
noncomputable def f52c : Code := (Try.f52.body).getD .skip
def f52k : Nat → Kp := kat [⟨[2, 3], [], [], []⟩, ⟨[2, 3, 10], [], [], []⟩, ⟨[4], [], [], []⟩, ⟨[15], [], [], []⟩, ⟨[4], [], [], []⟩, ⟨[4], [], [], []⟩]
noncomputable def f52e : Env := tab.env [(89, s89)]
theorem f52_run {R : Type} (n : Nat) (k : List Dt → Option R) (a0 : ItemT) (a1 : ItemT) : evFn f52e f52k n f52c [.ro, .ro] [false] true [.tmp 4] [4] [.d .item a0, .d .item a1] k =
    (cond (sm2 sm_order (ItemT.order a0) (ItemT.order a1))
    (cond (!(eqD (ItemT.order a0) (ItemT.order a1)))
      (k [.d .bool false])
      (cond ((ItemT.ver a0) != (ItemT.ver a1))
        (k [.d .bool false])
        (k [.d .bool true])))
    none) := by kernel_rfl
theorem f52_spec (a0 : ItemT) (a1 : ItemT) (hg : sm2 sm_item a0 a1 = true) : ∃ keep rounds, ∀ {R : Type} (k : List Dt → Option R), evFn f52e keep rounds f52c [.ro, .ro] [false] true [.tmp 4] [4] [.d .item a0, .d .item a1] k = k [.d .bool (eqD a0 a1)] := by
  simp only [sm2, sm_item, Bool.and_eq_true] at hg
  refine ⟨f52k, 0, fun k => ?_⟩
  rw [f52_run, eqD_item]
  simp only [bne, sm2, hg, Bool.and_self, Bool.true_and, cond_true]
  cases eqD a0.order a1.order <;> cases (a0.ver == a1.ver) <;> rfl

noncomputable def q52 : List Dt → Option (Bool × List Dt)
  | [.d .item a0, .d .item a1] => some ((sm2 sm_item a0 a1), [.d .bool (eqD a0 a1)])
  | _ => none
noncomputable def s52 : Gm.Spec := Gm.Spec.of [.ro, .ro] [false] true q52
theorem good52 : Gm.Good Try.prog (52, s52) := by
  have hl : ∀ x ∈ [(89, s89)], Gm.Good Try.prog x := List.forall_mem_cons.2 ⟨good89, List.forall_mem_nil _⟩
  refine ⟨⟨spec_ok (tab_ok.env hl) (tab.natl hl) Try.func52 (by kernel_rfl : Try.f52.body = some f52c) [4] (by kernel_rfl) ?_, _, Try.func52, by kernel_rfl, of_decide_eq_true (by kernel_rfl)⟩, Gm.Spec.of_natl _ _ _ _⟩
  intro ds outs h
  unfold q52 at h
  split at h
  · simp only [Option.some.injEq, Prod.mk.injEq] at h; obtain ⟨hg, h⟩ := h; cases h; exact f52_spec _ _ hg
  · cases h
/-! ### loop.example/g00465/laws.eqEvent -/
noncomputable def f73c : Code := (Try.f73.body).getD .skip
def f73k : Nat → Kp := kat [⟨[2, 3], [], [], []⟩, ⟨[2, 3, 9], [], [], []⟩, ⟨[4], [], [], []⟩, ⟨[2, 3, 14], [], [], []⟩, ⟨[4], [], [], []⟩, ⟨[20], [], [], []⟩, ⟨[4], [], [], []⟩, ⟨[4], [], [], []⟩]
noncomputable def f73e : Env := tab.env [(52, s52)]
theorem f73_run {R : Type} (n : Nat) (k : List Dt → Option R) (a0 : EventT) (a1 : EventT) : evFn f73e f73k n f73c [.ro, .ro] [false] true [.tmp 4] [4] [.d .event a0, .d .event a1] k =
    (cond ((EventT.seq a0) != (EventT.seq a1))
    (k [.d .bool false])
    (cond ((EventT.kind a0) != (EventT.kind a1))
      (k [.d .bool false])
      (cond (sm2 sm_item (EventT.item a0) (EventT.item a1))
        (cond (!(eqD (EventT.item a0) (EventT.item a1)))
          (k [.d .bool false])
          (k [.d .bool true]))
        none))) := by kernel_rfl
theorem f73_spec (a0 : EventT) (a1 : EventT) (hg : sm2 sm_event a0 a1 = true) : ∃ keep rounds, ∀ {R : Type} (k : List Dt → Option R), evFn f73e keep rounds f73c [.ro, .ro] [false] true [.tmp 4] [4] [.d .event a0, .d .event a1] k = k [.d .bool (eqD a0 a1)] := by
  simp only [sm2, sm_event, Bool.and_eq_true] at hg
  refine ⟨f73k, 0, fun k => ?_⟩
  rw [f73_run, eqD_event]
  simp only [bne, sm2, hg, Bool.and_self, Bool.true_and, cond_true]
  cases (a0.seq == a1.seq) <;> cases (a0.kind == a1.kind) <;> cases eqD a0.item a1.item <;> rfl

noncomputable def q73 : List Dt → Option (Bool × List Dt)
  | [.d .event a0, .d .event a1] => some ((sm2 sm_event a0 a1), [.d .bool (eqD a0 a1)])
  | _ => none
noncomputable def s73 : Gm.Spec := Gm.Spec.of [.ro, .ro] [false] true q73
theorem good73 : Gm.Good Try.prog (73, s73) := by
  have hl : ∀ x ∈ [(52, s52)], Gm.Good Try.prog x := List.forall_mem_cons.2 ⟨good52, List.forall_mem_nil _⟩
  refine ⟨⟨spec_ok (tab_ok.env hl) (tab.natl hl) Try.func73 (by kernel_rfl : Try.f73.body = some f73c) [4] (by kernel_rfl) ?_, _, Try.func73, by kernel_rfl, of_decide_eq_true (by kernel_rfl)⟩, Gm.Spec.of_natl _ _ _ _⟩
  intro ds outs h
  unfold q73 at h
  split at h
  · simp only [Option.some.injEq, Prod.mk.injEq] at h; obtain ⟨hg, h⟩ := h; cases h; exact f73_spec _ _ hg
  · cases h
/-! ### loop.example/g00465/laws.eqEventS -/
noncomputable def f32c : Code := (Try.f32.body).getD .skip
def f32k : Nat → Kp := kat [⟨[0, 1], [], [], []⟩, ⟨[0, 1, 10], [], [], []⟩, ⟨[4], [], [], []⟩, ⟨[0, 1, 5], [], [], []⟩, ⟨[0, 1, 5, 14], [], [], []⟩, ⟨[0, 1, 5], [], [], []⟩, ⟨[0, 1, 5, 26], [], [], []⟩, ⟨[4], [], [], []⟩, ⟨[4], [], [], []⟩]
noncomputable def f32e : Env := tab.env [(73, s73)]
noncomputable def f32L0 {R : Type} (n : Nat) (x0 : Option R) (x1 : Int → Bool → Option R) (vs0 : List EventT) (vs1 : List EventT) : Nat → Int → Option R
  | 0, _ => none
  | m + 1, vs5 =>
    (cond (decide (vs5 < (vs0.length : Int)))
      (cond ((decide ((0 : Int) ≤ vs5)) && (decide (vs5 < (vs0.length : Int))))
        (cond ((decide ((0 : Int) ≤ vs5)) && (decide (vs5 < (vs1.length : Int))))
          (cond (sm2 sm_event (atI (t := .event) vs0 (Int.toNat vs5)) (atI (t := .event) vs1 (Int.toNat vs5)))
            (cond (!(eqD (atI (t := .event) vs0 (Int.toNat vs5)) (atI (t := .event) vs1 (Int.toNat vs5))))
              (x0)
              (f32L0 n x0 x1 vs0 vs1 m (IntKind.wrap .i64 (vs5 + (1 : Int)))))
            none)
          none)
        none)
      (x1 vs5 (decide (vs5 < (vs0.length : Int)))))
theorem f32L0_b {R : Type} (n : Nat) (k' : Ex → St → Option R) (vs0 : List EventT) (vs1 : List EventT) (vs5 : Int) : ev f32e f32k n (cAt [1,1,0,1,0,0] f32c) ⟨[(0, .c (.one (.ro .event vs0))), (1, .c (.one (.ro .event vs1))), (5, .c (.one (.v (.int .i64 vs5))))], [], []⟩ k' =
    (cond (decide (vs5 < (vs0.length : Int)))
    (cond ((decide ((0 : Int) ≤ vs5)) && (decide (vs5 < (vs0.length : Int))))
      (cond ((decide ((0 : Int) ≤ vs5)) && (decide (vs5 < (vs1.length : Int))))
        (cond (sm2 sm_event (atI (t := .event) vs0 (Int.toNat vs5)) (atI (t := .event) vs1 (Int.toNat vs5)))
          (cond (!(eqD (atI (t := .event) vs0 (Int.toNat vs5)) (atI (t := .event) vs1 (Int.toNat vs5))))
            (k' .ret ⟨[(4, .c (.one (.v (.bool false))))], [], []⟩)
            (k' .normal ⟨[(0, .c (.one (.ro .event vs0))), (1, .c (.one (.ro .event vs1))), (5, .c (.one (.v (.int .i64 (IntKind.wrap .i64 (vs5 + (1 : Int)))))))], [], []⟩))
          none)
        none)
      none)
    (k' (.exit 0) ⟨[(0, .c (.one (.ro .event vs0))), (1, .c (.one (.ro .event vs1))), (5, .c (.one (.v (.int .i64 vs5)))), (14, .c (.one (.v (.bool (decide (vs5 < (vs0.length : Int)))))))], [], []⟩)) := by kernel_rfl
theorem f32L0_eq {R : Type} (n : Nat) (k' : Ex → St → Option R) (vs0 : List EventT) (vs1 : List EventT) : ∀ (m : Nat) (vs5 : Int), iter (fun st k => ev f32e f32k n (cAt [1,1,0,1,0,0] f32c) st k) m ⟨[(0, .c (.one (.ro .event vs0))), (1, .c (.one (.ro .event vs1))), (5, .c (.one (.v (.int .i64 vs5))))], [], []⟩ k' = f32L0 n (k' .ret ⟨[(4, .c (.one (.v (.bool false))))], [], []⟩) (fun (xvs5 : Int) (xvs14 : Bool) => k' (.exit 0) ⟨[(0, .c (.one (.ro .event vs0))), (1, .c (.one (.ro .event vs1))), (5, .c (.one (.v (.int .i64 xvs5)))), (14, .c (.one (.v (.bool xvs14))))], [], []⟩) vs0 vs1 m vs5 := by
  intro m; induction m with
  | zero => intros; rfl
  | succ m ih =>
    intro vs5
    simp only [iter]
    rw [f32L0_b]
    simp only [ih, f32L0]

noncomputable def f32K0 {R : Type} (n : Nat) (k' : Ex → St → Option R) : Ex → St → Option R := (blockK 0 (seqK f32e f32k n (cAt [1,1,1] f32c) k'))
theorem f32K0_x0 {R : Type} (n : Nat) (k : List Dt → Option R) (a0 : List EventT) (a1 : List EventT)  : f32K0 n (exitK f32e [.ro, .ro] [false] true [.tmp 4] [4] [.d (.sl .event) a0, .d (.sl .event) a1] k) .ret ⟨[(4, .c (.one (.v (.bool false))))], [], []⟩ =
    (k [.d .bool false]) := by kernel_rfl
theorem f32K0_x1 {R : Type} (n : Nat) (k : List Dt → Option R) (a0 : List EventT) (a1 : List EventT) (vs0 : List EventT) (vs1 : List EventT) (xvs5 : Int) (xvs14 : Bool) : f32K0 n (exitK f32e [.ro, .ro] [false] true [.tmp 4] [4] [.d (.sl .event) a0, .d (.sl .event) a1] k) (.exit 0) ⟨[(0, .c (.one (.ro .event vs0))), (1, .c (.one (.ro .event vs1))), (5, .c (.one (.v (.int .i64 xvs5)))), (14, .c (.one (.v (.bool xvs14))))], [], []⟩ =
    (k [.d .bool true]) := by kernel_rfl

theorem f32_run {R : Type} (n : Nat) (k : List Dt → Option R) (a0 : List EventT) (a1 : List EventT) : evFn f32e f32k n f32c [.ro, .ro] [false] true [.tmp 4] [4] [.d (.sl .event) a0, .d (.sl .event) a1] k =
    (cond ((a0.length : Int) != (a1.length : Int))
    (k [.d .bool false])
    (f32L0 n (k [.d .bool false]) (fun (xvs5 : Int) (xvs14 : Bool) =>
      (k [.d .bool true])) a0 a1 n (0 : Int))) := by
  refine Eq.trans (b := (cond ((a0.length : Int) != (a1.length : Int))
    (k [.d .bool false])
    (iter (fun st k => ev f32e f32k n (cAt [1,1,0,1,0,0] f32c) st k) n ⟨[(0, .c (.one (.ro .event a0))), (1, .c (.one (.ro .event a1))), (5, .c (.one (.v (.int .i64 (0 : Int)))))], [], []⟩ (f32K0 n (exitK f32e [.ro, .ro] [false] true [.tmp 4] [4] [.d (.sl .event) a0, .d (.sl .event) a1] k))))) (by kernel_rfl) ?_
  simp only [f32L0_eq, f32K0_x0, f32K0_x1]
theorem f32_spec (a0 : List EventT) (a1 : List EventT) (hg : sm2 (smL sm_event) a0 a1 = true) : ∃ keep rounds, ∀ {R : Type} (k : List Dt → Option R), evFn f32e keep rounds f32c [.ro, .ro] [false] true [.tmp 4] [4] [.d (.sl .event) a0, .d (.sl .event) a1] k = k [.d .bool (eqD a0 a1)] := by
  simp only [sm2, Bool.and_eq_true] at hg
  obtain ⟨hg0, hg1⟩ := hg
  have hl : a0.length ≤ 1048576 := smL_len hg0
  refine ⟨f32k, a0.length + 1, fun k => ?_⟩
  rw [f32_run]
  by_cases hc : a0.length = a1.length
  · have hc' : ((a0.length : Int) != (a1.length : Int)) = false := by simp [hc]
    simp only [hc', cond_false]
    refine Eq.trans (loop_idx (n := a0.length) (F := fun m i => f32L0 (a0.length + 1) _ _ a0 a1 m i) (p := fun j => eqD (atI (t := .event) a0 j) (atI (t := .event) a1 j)) (good := k [.d .bool true]) (bad := k [.d .bool false])
      (fun m j hj => ?_) (fun m => by simp only [f32L0, idxE, cond_false]) a0.length 0 (a0.length + 1) (by omega) (by omega)) ?_
    · obtain ⟨h1, h0, hw, ht⟩ := idx hj (by omega)
      obtain ⟨h2, _, _, _⟩ := idx (show j < a1.length by omega) (by omega)
      have ha := smL_at (t := .event) hg0 hj
      have hb := smL_at (t := .event) hg1 (show j < a1.length by omega)
      simp only [f32L0, h1, h0, h2, hw, ht, Bool.and_self, cond_true, sm2, ha, hb]
      cases eqD (atI (t := .event) a0 j) (atI (t := .event) a1 j) <;> rfl
    · rw [allN_eq hc (fun j x y hx hy => by rw [atI_of (t := .event) hx, atI_of (t := .event) hy])]
      cases eqD a0 a1 <;> rfl
  · simp only [bneLen hc, cond_true]
    rw [eqD_ne (fun e => hc (by rw [e]))]

noncomputable def q32 : List Dt → Option (Bool × List Dt)
  | [.d (.sl .event) a0, .d (.sl .event) a1] => some ((sm2 (smL sm_event) a0 a1), [.d .bool (eqD a0 a1)])
  | _ => none
noncomputable def s32 : Gm.Spec := Gm.Spec.of [.ro, .ro] [false] true q32
theorem good32 : Gm.Good Try.prog (32, s32) := by
  have hl : ∀ x ∈ [(73, s73)], Gm.Good Try.prog x := List.forall_mem_cons.2 ⟨good73, List.forall_mem_nil _⟩
  refine ⟨⟨spec_ok (tab_ok.env hl) (tab.natl hl) Try.func32 (by kernel_rfl : Try.f32.body = some f32c) [4] (by kernel_rfl) ?_, _, Try.func32, by kernel_rfl, of_decide_eq_true (by kernel_rfl)⟩, Gm.Spec.of_natl _ _ _ _⟩
  intro ds outs h
  unfold q32 at h
  split at h
  · simp only [Option.some.injEq, Prod.mk.injEq] at h; obtain ⟨hg, h⟩ := h; cases h; exact f32_spec _ _ hg
  · cases h
/-! ### loop.example/g00465/laws.szItemS -/
noncomputable def f26c : Code := (Try.f26.body).getD .skip
def f26k : Nat → Kp := kat [⟨[0, 1], [], [], []⟩, ⟨[0, 1], [], [], []⟩, ⟨[0, 1, 11], [], [], []⟩, ⟨[4], [], [], []⟩, ⟨[0, 1, 5], [], [], []⟩, ⟨[0, 1, 5, 15], [], [], []⟩, ⟨[0, 1, 5], [], [], []⟩, ⟨[0, 1, 5], [], [], []⟩, ⟨[0, 1, 5, 25], [], [], []⟩, ⟨[4], [], [], []⟩, ⟨[4], [], [], []⟩]
noncomputable def f26e : Env := tab.env [(50, s50)]
noncomputable def f26L0 {R : Type} (n : Nat) (x0 : Option R) (x1 : Int → Int → Bool → Option R) (vs0 : List ItemT) : Nat → Int → Int → Option R
  | 0, _, _ => none
  | m + 1, vs1, vs5 =>
    (cond (decide (vs5 < (vs0.length : Int)))
      (cond ((decide ((0 : Int) ≤ vs5)) && (decide (vs5 < (vs0.length : Int))))
        (cond (gz_item (atI (t := .item) vs0 (Int.toNat vs5)) vs1)
          (cond (decide ((z_item (atI (t := .item) vs0 (Int.toNat vs5)) vs1) < (0 : Int)))
            (x0)
            (f26L0 n x0 x1 vs0 m (z_item (atI (t := .item) vs0 (Int.toNat vs5)) vs1) (IntKind.wrap .i64 (vs5 + (1 : Int)))))
          none)
        none)
      (x1 vs1 vs5 (decide (vs5 < (vs0.length : Int)))))
theorem f26L0_b {R : Type} (n : Nat) (k' : Ex → St → Option R) (vs0 : List ItemT) (vs1 : Int) (vs5 : Int) : ev f26e f26k n (cAt [1,1,1,0,1,0,0] f26c) ⟨[(0, .c (.one (.ro .item vs0))), (1, .c (.one (.v (.int .i64 vs1)))), (5, .c (.one (.v (.int .i64 vs5))))], [], []⟩ k' =
    (cond (decide (vs5 < (vs0.length : Int)))
    (cond ((decide ((0 : Int) ≤ vs5)) && (decide (vs5 < (vs0.length : Int))))
      (cond (gz_item (atI (t := .item) vs0 (Int.toNat vs5)) vs1)
        (cond (decide ((z_item (atI (t := .item) vs0 (Int.toNat vs5)) vs1) < (0 : Int)))
          (k' .ret ⟨[(4, .c (.one (.v (.int .i64 (-1 : Int)))))], [], []⟩)
          (k' .normal ⟨[(0, .c (.one (.ro .item vs0))), (1, .c (.one (.v (.int .i64 (z_item (atI (t := .item) vs0 (Int.toNat vs5)) vs1))))), (5, .c (.one (.v (.int .i64 (IntKind.wrap .i64 (vs5 + (1 : Int)))))))], [], []⟩))
        none)
      none)
    (k' (.exit 0) ⟨[(0, .c (.one (.ro .item vs0))), (1, .c (.one (.v (.int .i64 vs1)))), (5, .c (.one (.v (.int .i64 vs5)))), (15, .c (.one (.v (.bool (decide (vs5 < (vs0.length : Int)))))))], [], []⟩)) := by kernel_rfl
theorem f26L0_eq {R : Type} (n : Nat) (k' : Ex → St → Option R) (vs0 : List ItemT) : ∀ (m : Nat) (vs1 : Int) (vs5 : Int), iter (fun st k => ev f26e f26k n (cAt [1,1,1,0,1,0,0] f26c) st k) m ⟨[(0, .c (.one (.ro .item vs0))), (1, .c (.one (.v (.int .i64 vs1)))), (5, .c (.one (.v (.int .i64 vs5))))], [], []⟩ k' = f26L0 n (k' .ret ⟨[(4, .c (.one (.v (.int .i64 (-1 : Int)))))], [], []⟩) (fun (xvs1 : Int) (xvs5 : Int) (xvs15 : Bool) => k' (.exit 0) ⟨[(0, .c (.one (.ro .item vs0))), (1, .c (.one (.v (.int .i64 xvs1)))), (5, .c (.one (.v (.int .i64 xvs5)))), (15, .c (.one (.v (.bool xvs15))))], [], []⟩) vs0 m vs1 vs5 := by
  intro m; induction m with
  | zero => intros; rfl
  | succ m ih =>
    intro vs1 vs5
    simp only [iter]
    rw [f26L0_b]
    simp only [ih, f26L0]

noncomputable def f26K0 {R : Type} (n : Nat) (k' : Ex → St → Option R) : Ex → St → Option R := (blockK 0 (seqK f26e f26k n (cAt [1,1,1,1] f26c) k'))
theorem f26K0_x0 {R : Type} (n : Nat) (k : List Dt → Option R) (a0 : List ItemT) (a1 : Int)  : f26K0 n (exitK f26e [.ro, .ro] [false] true [.tmp 4] [3] [.d (.sl .item) a0, .d (.i .i64) a1] k) .ret ⟨[(4, .c (.one (.v (.int .i64 (-1 : Int)))))], [], []⟩ =
    (k [.d (.i .i64) (-1 : Int)]) := by kernel_rfl
theorem f26K0_x1 {R : Type} (n : Nat) (k : List Dt → Option R) (a0 : List ItemT) (a1 : Int) (vs0 : List ItemT) (xvs1 : Int) (xvs5 : Int) (xvs15 : Bool) : f26K0 n (exitK f26e [.ro, .ro] [false] true [.tmp 4] [3] [.d (.sl .item) a0, .d (.i .i64) a1] k) (.exit 0) ⟨[(0, .c (.one (.ro .item vs0))), (1, .c (.one (.v (.int .i64 xvs1)))), (5, .c (.one (.v (.int .i64 xvs5)))), (15, .c (.one (.v (.bool xvs15))))], [], []⟩ =
    (k [.d (.i .i64) xvs1]) := by kernel_rfl

theorem f26_run {R : Type} (n : Nat) (k : List Dt → Option R) (a0 : List ItemT) (a1 : Int) : evFn f26e f26k n f26c [.ro, .ro] [false] true [.tmp 4] [3] [.d (.sl .item) a0, .d (.i .i64) a1] k =
    (cond (decide ((IntKind.wrap .i64 (a1 - (a0.length : Int))) < (0 : Int)))
    (k [.d (.i .i64) (-1 : Int)])
    (f26L0 n (k [.d (.i .i64) (-1 : Int)]) (fun (xvs1 : Int) (xvs5 : Int) (xvs15 : Bool) =>
      (k [.d (.i .i64) xvs1])) a0 n (IntKind.wrap .i64 (a1 - (a0.length : Int))) (0 : Int))) := by
  refine Eq.trans (b := (cond (decide ((IntKind.wrap .i64 (a1 - (a0.length : Int))) < (0 : Int)))
    (k [.d (.i .i64) (-1 : Int)])
    (iter (fun st k => ev f26e f26k n (cAt [1,1,1,0,1,0,0] f26c) st k) n ⟨[(0, .c (.one (.ro .item a0))), (1, .c (.one (.v (.int .i64 (IntKind.wrap .i64 (a1 - (a0.length : Int))))))), (5, .c (.one (.v (.int .i64 (0 : Int)))))], [], []⟩ (f26K0 n (exitK f26e [.ro, .ro] [false] true [.tmp 4] [3] [.d (.sl .item) a0, .d (.i .i64) a1] k))))) (by kernel_rfl) ?_
  simp only [f26L0_eq, f26K0_x0, f26K0_x1]
theorem f26_spec (a0 : List ItemT) (a1 : Int) (hg : gzL_item a0 a1 = true) : ∃ keep rounds, ∀ {R : Type} (k : List Dt → Option R), evFn f26e keep rounds f26c [.ro, .ro] [false] true [.tmp 4] [3] [.d (.sl .item) a0, .d (.i .i64) a1] k = k [.d (.i .i64) (zL_item a0 a1)] := by
  simp only [gzL_item, okL, Bool.and_eq_true, okN_iff] at hg
  obtain ⟨⟨hl, hs⟩, hn⟩ := hg
  have hl : a0.length ≤ 9223372036854775807 := bleN hl
  refine ⟨f26k, a0.length + 1, fun k => ?_⟩
  rw [f26_run, wrap_id (x := a1 - (a0.length : Int)) (by omega) (by omega)]
  show _ = k [.d (.i .i64) (zL_item a0 a1)]
  unfold zL_item
  have eL : szL szN_item a0 = a0.length + (a0.map szN_item).sum := rfl
  by_cases hc : a1 - (a0.length : Int) < 0
  · simp only [hc, decide_true, cond_true]
    rw [szI_neg (by omega)]
  · simp only [hc, decide_false, cond_false]
    refine Eq.trans (loop_fold (xs := a0) (F := fun m j left => f26L0 (a0.length + 1) _ _ a0 m left (j : Int)) (step := szStep szN_item)
      (out := fun _ => k [.d (.i .i64) (-1 : Int)]) (good := fun left => k [.d (.i .i64) left]) (fun n => 0 ≤ n ∧ n ≤ 1048576)
      (fun x n n' hx hn h => by
        unfold szStep at h
        split at h
        · cases h
        · cases h; omega)
      (fun m j n x hx hn => ?_)
      (fun m n hn => by simp only [f26L0, idxE, cond_false]) a0.length 0 (a0.length + 1) (a1 - (a0.length : Int)) (by omega) (by omega) (by omega)) ?_
    · obtain ⟨h1, h0, hw, ht⟩ := idx (lt_of_get hx) (by omega)
      have hx2 := List.all_eq_true.1 hs x (List.mem_of_getElem? hx)
      have hg2 : gz_item x n = true := by simp only [gz_item, Bool.and_eq_true, okN_iff]; exact ⟨hx2, by omega, by omega⟩
      have hz : z_item x n = szI (szN_item x) n := rfl
      simp only [f26L0, h1, h0, hw, ht, atI_of (t := .item) hx, Bool.and_self, cond_true, hg2, hz]
      unfold szStep
      by_cases h : n - (szN_item x : Int) < 0
      · rw [szI_neg h]; simp only [h, if_true, Sum.elim_inl]; rfl
      · rw [szI_pos h]; simp only [h, decide_false, cond_false, if_false, Sum.elim_inr]
    · rw [List.drop_zero, sz_fold _ _ _ (by omega)]
      by_cases h2 : a1 - (a0.length : Int) - ((a0.map szN_item).sum : Nat) < 0
      · rw [if_pos h2, szI_neg (by omega)]; rfl
      · rw [if_neg h2, szI_pos (by omega)]
        simp only [Sum.elim_inr]
        rw [show a1 - (a0.length : Int) - ((a0.map szN_item).sum : Nat) = a1 - (szL szN_item a0 : Nat) by omega]

noncomputable def q26 : List Dt → Option (Bool × List Dt)
  | [.d (.sl .item) a0, .d (.i .i64) a1] => some ((gzL_item a0 a1), [.d (.i .i64) (zL_item a0 a1)])
  | _ => none
noncomputable def s26 : Gm.Spec := Gm.Spec.of [.ro, .ro] [false] true q26
theorem good26 : Gm.Good Try.prog (26, s26) := by
  have hl : ∀ x ∈ [(50, s50)], Gm.Good Try.prog x := List.forall_mem_cons.2 ⟨good50, List.forall_mem_nil _⟩
  refine ⟨⟨spec_ok (tab_ok.env hl) (tab.natl hl) Try.func26 (by kernel_rfl : Try.f26.body = some f26c) [3] (by kernel_rfl) ?_, _, Try.func26, by kernel_rfl, of_decide_eq_true (by kernel_rfl)⟩, Gm.Spec.of_natl _ _ _ _⟩
  intro ds outs h
  unfold q26 at h
  split at h
  · simp only [Option.some.injEq, Prod.mk.injEq] at h; obtain ⟨hg, h⟩ := h; cases h; exact f26_spec _ _ hg
  · cases h
/-! ### loop.example/g00465/laws.toItemS -/
noncomputable def f29c : Code := (Try.f29.body).getD .skip
def f29k : Nat → Kp := kat [⟨[0], [], [], []⟩, ⟨[0, 3], [], [], []⟩, ⟨[0, 3, 4], [], [], []⟩, ⟨[0, 3, 4, 11], [], [], []⟩, ⟨[0, 3, 4], [], [], []⟩, ⟨[0, 3, 4], [], [], []⟩, ⟨[2], [], [], []⟩]
noncomputable def f29e : Env := tab.env [(51, s51)]
noncomputable def f29L0 {R : Type} (n : Nat) (x0 : Int → Bool → (List ItemT) → Option R) (vs0 : List ItemT) : Nat → Int → (List ItemT) → Option R
  | 0, _, _ => none
  | m + 1, vs4, vr448 =>
    (cond (decide (vs4 < (vs0.length : Int)))
      (cond ((decide ((0 : Int) ≤ vs4)) && (decide (vs4 < (vs0.length : Int))))
        (cond (sm_item (atI (t := .item) vs0 (Int.toNat vs4)))
          (cond ((decide ((0 : Int) ≤ vs4)) && (decide (vs4 < (vr448.length : Int))))
            (f29L0 n x0 vs0 m (IntKind.wrap .i64 (vs4 + (1 : Int))) (vr448.set (Int.toNat vs4) (atI (t := .item) vs0 (Int.toNat vs4))))
            none)
          none)
        none)
      (x0 vs4 (decide (vs4 < (vs0.length : Int))) vr448))
theorem f29L0_b {R : Type} (n : Nat) (k' : Ex → St → Option R) (vs0 : List ItemT) (vs4 : Int) (vr448 : List ItemT) : ev f29e f29k n (cAt [1,1,0,1,0,0] f29c) ⟨[(0, .c (.one (.ro .item vs0))), (3, .c (.one (.h 448 0 0 []))), (4, .c (.one (.v (.int .i64 vs4))))], [], [(448, .live ⟨.item, .deep, 0, [], vr448⟩)]⟩ k' =
    (cond (decide (vs4 < (vs0.length : Int)))
    (cond ((decide ((0 : Int) ≤ vs4)) && (decide (vs4 < (vs0.length : Int))))
      (cond (sm_item (atI (t := .item) vs0 (Int.toNat vs4)))
        (cond ((decide ((0 : Int) ≤ vs4)) && (decide (vs4 < (vr448.length : Int))))
          (k' .normal ⟨[(0, .c (.one (.ro .item vs0))), (3, .c (.one (.h 448 0 0 []))), (4, .c (.one (.v (.int .i64 (IntKind.wrap .i64 (vs4 + (1 : Int)))))))], [], [(448, .live ⟨.item, .deep, 0, [], (vr448.set (Int.toNat vs4) (atI (t := .item) vs0 (Int.toNat vs4)))⟩)]⟩)
          none)
        none)
      none)
    (k' (.exit 0) ⟨[(0, .c (.one (.ro .item vs0))), (3, .c (.one (.h 448 0 0 []))), (4, .c (.one (.v (.int .i64 vs4)))), (11, .c (.one (.v (.bool (decide (vs4 < (vs0.length : Int)))))))], [], [(448, .live ⟨.item, .deep, 0, [], vr448⟩)]⟩)) := by kernel_rfl
theorem f29L0_eq {R : Type} (n : Nat) (k' : Ex → St → Option R) (vs0 : List ItemT) : ∀ (m : Nat) (vs4 : Int) (vr448 : List ItemT), iter (fun st k => ev f29e f29k n (cAt [1,1,0,1,0,0] f29c) st k) m ⟨[(0, .c (.one (.ro .item vs0))), (3, .c (.one (.h 448 0 0 []))), (4, .c (.one (.v (.int .i64 vs4))))], [], [(448, .live ⟨.item, .deep, 0, [], vr448⟩)]⟩ k' = f29L0 n (fun (xvs4 : Int) (xvs11 : Bool) (xvr448 : List ItemT) => k' (.exit 0) ⟨[(0, .c (.one (.ro .item vs0))), (3, .c (.one (.h 448 0 0 []))), (4, .c (.one (.v (.int .i64 xvs4)))), (11, .c (.one (.v (.bool xvs11))))], [], [(448, .live ⟨.item, .deep, 0, [], xvr448⟩)]⟩) vs0 m vs4 vr448 := by
  intro m; induction m with
  | zero => intros; rfl
  | succ m ih =>
    intro vs4 vr448
    simp only [iter]
    rw [f29L0_b]
    simp only [ih, f29L0]

noncomputable def f29K0 {R : Type} (n : Nat) (k' : Ex → St → Option R) : Ex → St → Option R := (blockK 0 (seqK f29e f29k n (cAt [1,1,1] f29c) k'))
theorem f29K0_x0 {R : Type} (n : Nat) (k : List Dt → Option R) (a0 : List ItemT) (vs0 : List ItemT) (xvs4 : Int) (xvs11 : Bool) (xvr448 : List ItemT) : f29K0 n (exitK f29e [.ro] [false] true [.tmp 2] [35] [.d (.sl .item) a0] k) (.exit 0) ⟨[(0, .c (.one (.ro .item vs0))), (3, .c (.one (.h 448 0 0 []))), (4, .c (.one (.v (.int .i64 xvs4)))), (11, .c (.one (.v (.bool xvs11))))], [], [(448, .live ⟨.item, .deep, 0, [], xvr448⟩)]⟩ =
    (k [.d (.sl .item) xvr448]) := by kernel_rfl

theorem f29_run {R : Type} (n : Nat) (k : List Dt → Option R) (a0 : List ItemT) : evFn f29e f29k n f29c [.ro] [false] true [.tmp 2] [35] [.d (.sl .item) a0] k =
    (cond ((decide ((a0.length : Int) = (a0.length : Int))) && ((decide ((0 : Int) ≤ (a0.length : Int))) && (decide ((a0.length : Int) ≤ (LIM : Int)))))
    (f29L0 n (fun (xvs4 : Int) (xvs11 : Bool) (xvr448 : List ItemT) =>
      (k [.d (.sl .item) xvr448])) a0 n (0 : Int) (List.replicate (Int.toNat (a0.length : Int)) (⟨(⟨ByteArray.empty, ByteArray.empty, (0 : Int), (0 : Int), ([] : List MetricT), (⟨(0 : Int), (0 : Int), (0 : Int), (0 : Int)⟩ : PaceT), ([] : List NoteT)⟩ : OrderT), (0 : Int)⟩ : ItemT)))
    none) := by
  refine Eq.trans (b := (cond ((decide ((a0.length : Int) = (a0.length : Int))) && ((decide ((0 : Int) ≤ (a0.length : Int))) && (decide ((a0.length : Int) ≤ (LIM : Int)))))
    (iter (fun st k => ev f29e f29k n (cAt [1,1,0,1,0,0] f29c) st k) n ⟨[(0, .c (.one (.ro .item a0))), (3, .c (.one (.h 448 0 0 []))), (4, .c (.one (.v (.int .i64 (0 : Int)))))], [], [(448, .live ⟨.item, .deep, 0, [], (List.replicate (Int.toNat (a0.length : Int)) (⟨(⟨ByteArray.empty, ByteArray.empty, (0 : Int), (0 : Int), ([] : List MetricT), (⟨(0 : Int), (0 : Int), (0 : Int), (0 : Int)⟩ : PaceT), ([] : List NoteT)⟩ : OrderT), (0 : Int)⟩ : ItemT))⟩)]⟩ (f29K0 n (exitK f29e [.ro] [false] true [.tmp 2] [35] [.d (.sl .item) a0] k)))
    none)) (by kernel_rfl) ?_
  simp only [f29L0_eq, f29K0_x0]
theorem f29_spec (a0 : List ItemT) (hg : smL sm_item a0 = true) : ∃ keep rounds, ∀ {R : Type} (k : List Dt → Option R), evFn f29e keep rounds f29c [.ro] [false] true [.tmp 2] [35] [.d (.sl .item) a0] k = k [.d (.sl .item) a0] := by
  have hl : a0.length ≤ 1048576 := smL_len hg
  have hs := smL_all hg
  refine ⟨f29k, a0.length + 1, fun k => ?_⟩
  rw [f29_run, mkOk hl]
  simp only [cond_true]
  have := loop_copy (xs := a0) (f := fun x => x) (F := fun m j out => f29L0 (a0.length + 1) (fun (xvs4 : Int) (xvs11 : Bool) (xvr448 : List ItemT) => (k [.d (.sl .item) xvr448])) a0 m (j : Int) out) (good := fun out => k [.d (.sl .item) out]) (⟨(⟨ByteArray.empty, ByteArray.empty, (0 : Int), (0 : Int), ([] : List MetricT), (⟨(0 : Int), (0 : Int), (0 : Int), (0 : Int)⟩ : PaceT), ([] : List NoteT)⟩ : OrderT), (0 : Int)⟩ : ItemT)
    (fun m j out x hx hl' => by
      obtain ⟨h1, h0, hw, ht⟩ := idx (lt_of_get hx) (by omega)
      obtain ⟨h2, _, _, _⟩ := idx (show j < out.length by rw [hl']; exact lt_of_get hx) (by omega)
      have hx2 := List.all_eq_true.1 hs x (List.mem_of_getElem? hx)
      simp only [f29L0, h1, h0, h2, hw, ht, atI_of (t := .item) hx, Bool.and_self, cond_true, hx2])
    (fun m out => by simp only [f29L0, idxE, cond_false]) a0.length 0 (a0.length + 1) (by omega) (by omega)
  simpa using this

noncomputable def q29 : List Dt → Option (Bool × List Dt)
  | [.d (.sl .item) a0] => some ((smL sm_item a0), [.d (.sl .item) a0])
  | _ => none
noncomputable def s29 : Gm.Spec := Gm.Spec.of [.ro] [false] true q29
theorem good29 : Gm.Good Try.prog (29, s29) := by
  have hl : ∀ x ∈ [(51, s51)], Gm.Good Try.prog x := List.forall_mem_cons.2 ⟨good51, List.forall_mem_nil _⟩
  refine ⟨⟨spec_ok (tab_ok.env hl) (tab.natl hl) Try.func29 (by kernel_rfl : Try.f29.body = some f29c) [35] (by kernel_rfl) ?_, _, Try.func29, by kernel_rfl, of_decide_eq_true (by kernel_rfl)⟩, Gm.Spec.of_natl _ _ _ _⟩
  intro ds outs h
  unfold q29 at h
  split at h
  · simp only [Option.some.injEq, Prod.mk.injEq] at h; obtain ⟨hg, h⟩ := h; cases h; exact f29_spec _ hg
  · cases h
/-! ### loop.example/g00465/laws.eqItemS -/
noncomputable def f31c : Code := (Try.f31.body).getD .skip
def f31k : Nat → Kp := kat [⟨[0, 1], [], [], []⟩, ⟨[0, 1, 10], [], [], []⟩, ⟨[4], [], [], []⟩, ⟨[0, 1, 5], [], [], []⟩, ⟨[0, 1, 5, 14], [], [], []⟩, ⟨[0, 1, 5], [], [], []⟩, ⟨[0, 1, 5, 26], [], [], []⟩, ⟨[4], [], [], []⟩, ⟨[4], [], [], []⟩]
noncomputable def f31e : Env := tab.env [(52, s52)]
noncomputable def f31L0 {R : Type} (n : Nat) (x0 : Option R) (x1 : Int → Bool → Option R) (vs0 : List ItemT) (vs1 : List ItemT) : Nat → Int → Option R
  | 0, _ => none
  | m + 1, vs5 =>
    (cond (decide (vs5 < (vs0.length : Int)))
      (cond ((decide ((0 : Int) ≤ vs5)) && (decide (vs5 < (vs0.length : Int))))
        (cond ((decide ((0 : Int) ≤ vs5)) && (decide (vs5 < (vs1.length : Int))))
          (cond (sm2 sm_item (atI (t := .item) vs0 (Int.toNat vs5)) (atI (t := .item) vs1 (Int.toNat vs5)))
            (cond (!(eqD (atI (t := .item) vs0 (Int.toNat vs5)) (atI (t := .item) vs1 (Int.toNat vs5))))
              (x0)
              (f31L0 n x0 x1 vs0 vs1 m (IntKind.wrap .i64 (vs5 + (1 : Int)))))
            none)
          none)
        none)
      (x1 vs5 (decide (vs5 < (vs0.length : Int)))))
theorem f31L0_b {R : Type} (n : Nat) (k' : Ex → St → Option R) (vs0 : List ItemT) (vs1 : List ItemT) (vs5 : Int) : ev f31e f31k n (cAt [1,1,0,1,0,0] f31c) ⟨[(0, .c (.one (.ro .item vs0))), (1, .c (.one (.ro .item vs1))), (5, .c (.one (.v (.int .i64 vs5))))], [], []⟩ k' =
    (cond (decide (vs5 < (vs0.length : Int)))
    (cond ((decide ((0 : Int) ≤ vs5)) && (decide (vs5 < (vs0.length : Int))))
      (cond ((decide ((0 : Int) ≤ vs5)) && (decide (vs5 < (vs1.length : Int))))
        (cond (sm2 sm_item (atI (t := .item) vs0 (Int.toNat vs5)) (atI (t := .item) vs1 (Int.toNat vs5)))
          (cond (!(eqD (atI (t := .item) vs0 (Int.toNat vs5)) (atI (t := .item) vs1 (Int.toNat vs5))))
            (k' .ret ⟨[(4, .c (.one (.v (.bool false))))], [], []⟩)
            (k' .normal ⟨[(0, .c (.one (.ro .item vs0))), (1, .c (.one (.ro .item vs1))), (5, .c (.one (.v (.int .i64 (IntKind.wrap .i64 (vs5 + (1 : Int)))))))], [], []⟩))
          none)
        none)
      none)
    (k' (.exit 0) ⟨[(0, .c (.one (.ro .item vs0))), (1, .c (.one (.ro .item vs1))), (5, .c (.one (.v (.int .i64 vs5)))), (14, .c (.one (.v (.bool (decide (vs5 < (vs0.length : Int)))))))], [], []⟩)) := by kernel_rfl
theorem f31L0_eq {R : Type} (n : Nat) (k' : Ex → St → Option R) (vs0 : List ItemT) (vs1 : List ItemT) : ∀ (m : Nat) (vs5 : Int), iter (fun st k => ev f31e f31k n (cAt [1,1,0,1,0,0] f31c) st k) m ⟨[(0, .c (.one (.ro .item vs0))), (1, .c (.one (.ro .item vs1))), (5, .c (.one (.v (.int .i64 vs5))))], [], []⟩ k' = f31L0 n (k' .ret ⟨[(4, .c (.one (.v (.bool false))))], [], []⟩) (fun (xvs5 : Int) (xvs14 : Bool) => k' (.exit 0) ⟨[(0, .c (.one (.ro .item vs0))), (1, .c (.one (.ro .item vs1))), (5, .c (.one (.v (.int .i64 xvs5)))), (14, .c (.one (.v (.bool xvs14))))], [], []⟩) vs0 vs1 m vs5 := by
  intro m; induction m with
  | zero => intros; rfl
  | succ m ih =>
    intro vs5
    simp only [iter]
    rw [f31L0_b]
    simp only [ih, f31L0]

noncomputable def f31K0 {R : Type} (n : Nat) (k' : Ex → St → Option R) : Ex → St → Option R := (blockK 0 (seqK f31e f31k n (cAt [1,1,1] f31c) k'))
theorem f31K0_x0 {R : Type} (n : Nat) (k : List Dt → Option R) (a0 : List ItemT) (a1 : List ItemT)  : f31K0 n (exitK f31e [.ro, .ro] [false] true [.tmp 4] [4] [.d (.sl .item) a0, .d (.sl .item) a1] k) .ret ⟨[(4, .c (.one (.v (.bool false))))], [], []⟩ =
    (k [.d .bool false]) := by kernel_rfl
theorem f31K0_x1 {R : Type} (n : Nat) (k : List Dt → Option R) (a0 : List ItemT) (a1 : List ItemT) (vs0 : List ItemT) (vs1 : List ItemT) (xvs5 : Int) (xvs14 : Bool) : f31K0 n (exitK f31e [.ro, .ro] [false] true [.tmp 4] [4] [.d (.sl .item) a0, .d (.sl .item) a1] k) (.exit 0) ⟨[(0, .c (.one (.ro .item vs0))), (1, .c (.one (.ro .item vs1))), (5, .c (.one (.v (.int .i64 xvs5)))), (14, .c (.one (.v (.bool xvs14))))], [], []⟩ =
    (k [.d .bool true]) := by kernel_rfl

theorem f31_run {R : Type} (n : Nat) (k : List Dt → Option R) (a0 : List ItemT) (a1 : List ItemT) : evFn f31e f31k n f31c [.ro, .ro] [false] true [.tmp 4] [4] [.d (.sl .item) a0, .d (.sl .item) a1] k =
    (cond ((a0.length : Int) != (a1.length : Int))
    (k [.d .bool false])
    (f31L0 n (k [.d .bool false]) (fun (xvs5 : Int) (xvs14 : Bool) =>
      (k [.d .bool true])) a0 a1 n (0 : Int))) := by
  refine Eq.trans (b := (cond ((a0.length : Int) != (a1.length : Int))
    (k [.d .bool false])
    (iter (fun st k => ev f31e f31k n (cAt [1,1,0,1,0,0] f31c) st k) n ⟨[(0, .c (.one (.ro .item a0))), (1, .c (.one (.ro .item a1))), (5, .c (.one (.v (.int .i64 (0 : Int)))))], [], []⟩ (f31K0 n (exitK f31e [.ro, .ro] [false] true [.tmp 4] [4] [.d (.sl .item) a0, .d (.sl .item) a1] k))))) (by kernel_rfl) ?_
  simp only [f31L0_eq, f31K0_x0, f31K0_x1]
theorem f31_spec (a0 : List ItemT) (a1 : List ItemT) (hg : sm2 (smL sm_item) a0 a1 = true) : ∃ keep rounds, ∀ {R : Type} (k : List Dt → Option R), evFn f31e keep rounds f31c [.ro, .ro] [false] true [.tmp 4] [4] [.d (.sl .item) a0, .d (.sl .item) a1] k = k [.d .bool (eqD a0 a1)] := by
  simp only [sm2, Bool.and_eq_true] at hg
  obtain ⟨hg0, hg1⟩ := hg
  have hl : a0.length ≤ 1048576 := smL_len hg0
  refine ⟨f31k, a0.length + 1, fun k => ?_⟩
  rw [f31_run]
  by_cases hc : a0.length = a1.length
  · have hc' : ((a0.length : Int) != (a1.length : Int)) = false := by simp [hc]
    simp only [hc', cond_false]
    refine Eq.trans (loop_idx (n := a0.length) (F := fun m i => f31L0 (a0.length + 1) _ _ a0 a1 m i) (p := fun j => eqD (atI (t := .item) a0 j) (atI (t := .item) a1 j)) (good := k [.d .bool true]) (bad := k [.d .bool false])
      (fun m j hj => ?_) (fun m => by simp only [f31L0, idxE, cond_false]) a0.length 0 (a0.length + 1) (by omega) (by omega)) ?_
    · obtain ⟨h1, h0, hw, ht⟩ := idx hj (by omega)
      obtain ⟨h2, _, _, _⟩ := idx (show j < a1.length by omega) (by omega)
      have ha := smL_at (t := .item) hg0 hj
      have hb := smL_at (t := .item) hg1 (show j < a1.length by omega)
      simp only [f31L0, h1, h0, h2, hw, ht, Bool.and_self, cond_true, sm2, ha, hb]
      cases eqD (atI (t := .item) a0 j) (atI (t := .item) a1 j) <;> rfl
    · rw [allN_eq hc (fun j x y hx hy => by rw [atI_of (t := .item) hx, atI_of (t := .item) hy])]
      cases eqD a0 a1 <;> rfl
  · simp only [bneLen hc, cond_true]
    rw [eqD_ne (fun e => hc (by rw [e]))]

noncomputable def q31 : List Dt → Option (Bool × List Dt)
  | [.d (.sl .item) a0, .d (.sl .item) a1] => some ((sm2 (smL sm_item) a0 a1), [.d .bool (eqD a0 a1)])
  | _ => none
noncomputable def s31 : Gm.Spec := Gm.Spec.of [.ro, .ro] [false] true q31
theorem good31 : Gm.Good Try.prog (31, s31) := by
  have hl : ∀ x ∈ [(52, s52)], Gm.Good Try.prog x := List.forall_mem_cons.2 ⟨good52, List.forall_mem_nil _⟩
  refine ⟨⟨spec_ok (tab_ok.env hl) (tab.natl hl) Try.func31 (by kernel_rfl : Try.f31.body = some f31c) [4] (by kernel_rfl) ?_, _, Try.func31, by kernel_rfl, of_decide_eq_true (by kernel_rfl)⟩, Gm.Spec.of_natl _ _ _ _⟩
  intro ds outs h
  unfold q31 at h
  split at h
  · simp only [Option.some.injEq, Prod.mk.injEq] at h; obtain ⟨hg, h⟩ := h; cases h; exact f31_spec _ _ hg
  · cases h
end Go.Proofs.Ytnbehmbjoanfoaa

/- What the functions compute, part 2. No conditions. -/
import Derived.Test.YtklmnopgogcbhaaChosenFn1
/- x -/
namespace Go.Proofs.Ytklmnopgogcbhaa
open Go Go.Gm
/-! ### loop.example/g00465/laws.szStringS -/
noncomputable def f37c : Code := (Try.f37.body).getD .skip
def f37k : Nat → Kp := kat [⟨[0, 1], []⟩, ⟨[0, 1], []⟩, ⟨[0, 1, 11], []⟩, ⟨[4], []⟩, ⟨[0, 1, 5], []⟩, ⟨[0, 1, 5, 15], []⟩, ⟨[0, 1, 5], []⟩, ⟨[0, 1, 5], []⟩, ⟨[0, 1, 5, 26], []⟩, ⟨[4], []⟩, ⟨[4], []⟩]
noncomputable def f37e : Env := tab.env []
noncomputable def f37L0 {R : Type} (n : Nat) (x0 : Option R) (x1 : Int → Int → Bool → Option R) (vs0 : List ByteArray) : Nat → Int → Int → Option R
  | 0, _, _ => none
  | m + 1, vs1, vs5 =>
    (cond (decide (vs5 < (vs0.length : Int)))
      (cond ((decide ((0 : Int) ≤ vs5)) && (decide (vs5 < (vs0.length : Int))))
        (cond (decide ((IntKind.wrap .i64 (vs1 - (ByteArray.size (atI (t := .str) vs0 (Int.toNat vs5)) : Int))) < (0 : Int)))
          (x0)
          (f37L0 n x0 x1 vs0 m (IntKind.wrap .i64 (vs1 - (ByteArray.size (atI (t := .str) vs0 (Int.toNat vs5)) : Int))) (IntKind.wrap .i64 (vs5 + (1 : Int)))))
        none)
      (x1 vs1 vs5 (decide (vs5 < (vs0.length : Int)))))
theorem f37L0_b {R : Type} (n : Nat) (k' : Ex → St → Option R) (vs0 : List ByteArray) (vs1 : Int) (vs5 : Int) : ev f37e f37k n (cAt [1,1,1,0,1,0,0] f37c) ⟨[(0, .c (.one (.ro .str vs0))), (1, .c (.one (.v (.int .i64 vs1)))), (5, .c (.one (.v (.int .i64 vs5))))], [], []⟩ k' =
    (cond (decide (vs5 < (vs0.length : Int)))
    (cond ((decide ((0 : Int) ≤ vs5)) && (decide (vs5 < (vs0.length : Int))))
      (cond (decide ((IntKind.wrap .i64 (vs1 - (ByteArray.size (atI (t := .str) vs0 (Int.toNat vs5)) : Int))) < (0 : Int)))
        (k' .ret ⟨[(4, .c (.one (.v (.int .i64 (-1 : Int)))))], [], []⟩)
        (k' .normal ⟨[(0, .c (.one (.ro .str vs0))), (1, .c (.one (.v (.int .i64 (IntKind.wrap .i64 (vs1 - (ByteArray.size (atI (t := .str) vs0 (Int.toNat vs5)) : Int))))))), (5, .c (.one (.v (.int .i64 (IntKind.wrap .i64 (vs5 + (1 : Int)))))))], [], []⟩))
      none)
    (k' (.exit 0) ⟨[(0, .c (.one (.ro .str vs0))), (1, .c (.one (.v (.int .i64 vs1)))), (5, .c (.one (.v (.int .i64 vs5)))), (15, .c (.one (.v (.bool (decide (vs5 < (vs0.length : Int)))))))], [], []⟩)) := by kernel_rfl
theorem f37L0_eq {R : Type} (n : Nat) (k' : Ex → St → Option R) (vs0 : List ByteArray) : ∀ (m : Nat) (vs1 : Int) (vs5 : Int), iter (fun st k => ev f37e f37k n (cAt [1,1,1,0,1,0,0] f37c) st k) m ⟨[(0, .c (.one (.ro .str vs0))), (1, .c (.one (.v (.int .i64 vs1)))), (5, .c (.one (.v (.int .i64 vs5))))], [], []⟩ k' = f37L0 n (k' .ret ⟨[(4, .c (.one (.v (.int .i64 (-1 : Int)))))], [], []⟩) (fun (xvs1 : Int) (xvs5 : Int) (xvs15 : Bool) => k' (.exit 0) ⟨[(0, .c (.one (.ro .str vs0))), (1, .c (.one (.v (.int .i64 xvs1)))), (5, .c (.one (.v (.int .i64 xvs5)))), (15, .c (.one (.v (.bool xvs15))))], [], []⟩) vs0 m vs1 vs5 := by
  intro m; induction m with
  | zero => intros; rfl
  | succ m ih =>
    intro vs1 vs5
    simp only [iter]
    rw [f37L0_b]
    simp only [ih, f37L0]

noncomputable def f37K0 {R : Type} (n : Nat) (k' : Ex → St → Option R) : Ex → St → Option R := (blockK 0 (seqK f37e f37k n (cAt [1,1,1,1] f37c) k'))
theorem f37K0_x0 {R : Type} (n : Nat) (k : List Dt → Option R) (a0 : List ByteArray) (a1 : Int)  : f37K0 n (exitK f37e [.ro, .ro] [false] true [.tmp 4] [3] [.d (.sl .str) a0, .d (.i .i64) a1] k) .ret ⟨[(4, .c (.one (.v (.int .i64 (-1 : Int)))))], [], []⟩ =
    (k [.d (.i .i64) (-1 : Int)]) := by kernel_rfl
theorem f37K0_x1 {R : Type} (n : Nat) (k : List Dt → Option R) (a0 : List ByteArray) (a1 : Int) (vs0 : List ByteArray) (xvs1 : Int) (xvs5 : Int) (xvs15 : Bool) : f37K0 n (exitK f37e [.ro, .ro] [false] true [.tmp 4] [3] [.d (.sl .str) a0, .d (.i .i64) a1] k) (.exit 0) ⟨[(0, .c (.one (.ro .str vs0))), (1, .c (.one (.v (.int .i64 xvs1)))), (5, .c (.one (.v (.int .i64 xvs5)))), (15, .c (.one (.v (.bool xvs15))))], [], []⟩ =
    (k [.d (.i .i64) xvs1]) := by kernel_rfl

theorem f37_run {R : Type} (n : Nat) (k : List Dt → Option R) (a0 : List ByteArray) (a1 : Int) : evFn f37e f37k n f37c [.ro, .ro] [false] true [.tmp 4] [3] [.d (.sl .str) a0, .d (.i .i64) a1] k =
    (cond (decide ((IntKind.wrap .i64 (a1 - (a0.length : Int))) < (0 : Int)))
    (k [.d (.i .i64) (-1 : Int)])
    (f37L0 n (k [.d (.i .i64) (-1 : Int)]) (fun (xvs1 : Int) (xvs5 : Int) (xvs15 : Bool) =>
      (k [.d (.i .i64) xvs1])) a0 n (IntKind.wrap .i64 (a1 - (a0.length : Int))) (0 : Int))) := by
  refine Eq.trans (b := (cond (decide ((IntKind.wrap .i64 (a1 - (a0.length : Int))) < (0 : Int)))
    (k [.d (.i .i64) (-1 : Int)])
    (iter (fun st k => ev f37e f37k n (cAt [1,1,1,0,1,0,0] f37c) st k) n ⟨[(0, .c (.one (.ro .str a0))), (1, .c (.one (.v (.int .i64 (IntKind.wrap .i64 (a1 - (a0.length : Int))))))), (5, .c (.one (.v (.int .i64 (0 : Int)))))], [], []⟩ (f37K0 n (exitK f37e [.ro, .ro] [false] true [.tmp 4] [3] [.d (.sl .str) a0, .d (.i .i64) a1] k))))) (by kernel_rfl) ?_
  simp only [f37L0_eq, f37K0_x0, f37K0_x1]
theorem f37_spec (a0 : List ByteArray) (a1 : Int) (hg : gzL_str a0 a1 = true) : ∃ keep rounds, ∀ {R : Type} (k : List Dt → Option R), evFn f37e keep rounds f37c [.ro, .ro] [false] true [.tmp 4] [3] [.d (.sl .str) a0, .d (.i .i64) a1] k = k [.d (.i .i64) (zL_str a0 a1)] := by
  simp only [gzL_str, okL, Bool.and_eq_true, okN_iff] at hg
  obtain ⟨⟨hl, hs⟩, hn⟩ := hg
  have hl : a0.length ≤ 9223372036854775807 := bleN hl
  refine ⟨f37k, a0.length + 1, fun k => ?_⟩
  rw [f37_run, wrap_id (x := a1 - (a0.length : Int)) (by omega) (by omega)]
  show _ = k [.d (.i .i64) (zL_str a0 a1)]
  unfold zL_str
  have eL : szL ByteArray.size a0 = a0.length + (a0.map ByteArray.size).sum := rfl
  by_cases hc : a1 - (a0.length : Int) < 0
  · simp only [hc, decide_true, cond_true]
    rw [szI_neg (by omega)]
  · simp only [hc, decide_false, cond_false]
    refine Eq.trans (loop_fold (xs := a0) (F := fun m j left => f37L0 (a0.length + 1) _ _ a0 m left (j : Int)) (step := szStep ByteArray.size)
      (out := fun _ => k [.d (.i .i64) (-1 : Int)]) (good := fun left => k [.d (.i .i64) left]) (fun n => 0 ≤ n ∧ n ≤ 1048576)
      (fun x n n' hx hn h => by
        unfold szStep at h
        split at h
        · cases h
        · cases h; omega)
      (fun m j n x hx hn => ?_)
      (fun m n hn => by simp only [f37L0, idxE, cond_false]) a0.length 0 (a0.length + 1) (a1 - (a0.length : Int)) (by omega) (by omega) (by omega)) ?_
    · obtain ⟨h1, h0, hw, ht⟩ := idx (lt_of_get hx) (by omega)
      have hx2 := List.all_eq_true.1 hs x (List.mem_of_getElem? hx)
      have hx2 : x.size ≤ 9223372036854775807 := bleN hx2
      simp only [f37L0, h1, h0, hw, ht, atI_of (t := .str) hx, Bool.and_self, cond_true]
      rw [wrap_id (x := n - (x.size : Int)) (by omega) (by omega)]
      unfold szStep
      by_cases h : n - (x.size : Int) < 0
      · simp only [h, decide_true, cond_true, if_true, Sum.elim_inl]
      · simp only [h, decide_false, cond_false, if_false, Sum.elim_inr]
    · rw [List.drop_zero, sz_fold _ _ _ (by omega)]
      by_cases h2 : a1 - (a0.length : Int) - ((a0.map ByteArray.size).sum : Nat) < 0
      · rw [if_pos h2, szI_neg (by omega)]; rfl
      · rw [if_neg h2, szI_pos (by omega)]
        simp only [Sum.elim_inr]
        rw [show a1 - (a0.length : Int) - ((a0.map ByteArray.size).sum : Nat) = a1 - (szL ByteArray.size a0 : Nat) by omega]

noncomputable def q37 : List Dt → Option (Bool × List Dt)
  | [.d (.sl .str) a0, .d (.i .i64) a1] => some ((gzL_str a0 a1), [.d (.i .i64) (zL_str a0 a1)])
  | _ => none
noncomputable def s37 : Gm.Spec := Gm.Spec.of [.ro, .ro] [false] true q37
theorem good37 : Gm.Good Try.prog (37, s37) := by
  have hl : ∀ x ∈ ([] : List (Nat × Gm.Spec)), Gm.Good Try.prog x := fun _ h => by cases h
  refine ⟨⟨spec_ok (tab_ok.env hl) (tab.natl hl) Try.func37 (by kernel_rfl : Try.f37.body = some f37c) [3] (by kernel_rfl) ?_, _, Try.func37, by kernel_rfl, of_decide_eq_true (by kernel_rfl)⟩, Gm.Spec.of_natl _ _ _ _⟩
  intro ds outs h
  unfold q37 at h
  split at h
  · simp only [Option.some.injEq, Prod.mk.injEq] at h; obtain ⟨hg, h⟩ := h; cases h; exact f37_spec _ _ hg
  · cases h
/-! ### loop.example/g00465/laws.szPick -/
noncomputable def f8c : Code := (Try.f8.body).getD .skip
def f8k : Nat → Kp := kat [⟨[1, 2], []⟩, ⟨[1, 2], []⟩, ⟨[1, 2, 11], []⟩, ⟨[4], []⟩, ⟨[1], []⟩, ⟨[1, 17], []⟩, ⟨[4], []⟩, ⟨[4], []⟩]
noncomputable def f8e : Env := tab.env [(37, s37)]
theorem f8_run {R : Type} (n : Nat) (k : List Dt → Option R) (a0 : PickT) (a1 : Int) : evFn f8e f8k n f8c [.ro, .ro] [false] true [.tmp 4] [3] [.d .pick a0, .d (.i .i64) a1] k =
    (cond (decide ((IntKind.wrap .i64 (a1 - (ByteArray.size (PickT.key a0) : Int))) < (0 : Int)))
    (k [.d (.i .i64) (-1 : Int)])
    (cond (gzL_str (PickT.vals a0) (IntKind.wrap .i64 (a1 - (ByteArray.size (PickT.key a0) : Int))))
      (cond (decide ((zL_str (PickT.vals a0) (IntKind.wrap .i64 (a1 - (ByteArray.size (PickT.key a0) : Int)))) < (0 : Int)))
        (k [.d (.i .i64) (-1 : Int)])
        (k [.d (.i .i64) (zL_str (PickT.vals a0) (IntKind.wrap .i64 (a1 - (ByteArray.size (PickT.key a0) : Int))))]))
      none)) := by kernel_rfl
theorem f8_spec (a0 : PickT) (a1 : Int) (hg : gz_pick a0 a1 = true) : ∃ keep rounds, ∀ {R : Type} (k : List Dt → Option R), evFn f8e keep rounds f8c [.ro, .ro] [false] true [.tmp 4] [3] [.d .pick a0, .d (.i .i64) a1] k = k [.d (.i .i64) (z_pick a0 a1)] := by
  simp only [gz_pick, ok_pick, Bool.and_eq_true, okN_iff] at hg
  obtain ⟨⟨hf_op, hf_key, hf_vals⟩, hn1, hn2⟩ := hg
  have hf_keyb : a0.key.size ≤ 9223372036854775807 := bleN hf_key
  have eN : szN_pick a0 = a0.key.size + szL ByteArray.size a0.vals := rfl
  refine ⟨f8k, 0, fun k => ?_⟩
  rw [f8_run]
  show _ = k [.d (.i .i64) (z_pick a0 a1)]
  unfold z_pick
  rw [wrap_id (x := a1 - ((a0.key.size : Nat) : Int)) (by omega) (by omega)]
  by_cases h1 : a1 - ((a0.key.size : Nat) : Int) < 0
  · simp only [h1, decide_true, cond_true]; rw [szI_neg (by omega)]
  simp only [h1, decide_false, cond_false]
  have g2 : gzL_str a0.vals (a1 - ((a0.key.size : Nat) : Int)) = true := by simp only [gzL_str, Bool.and_eq_true, okN_iff]; exact ⟨hf_vals, by omega, by omega⟩
  have z3 : zL_str a0.vals (a1 - ((a0.key.size : Nat) : Int)) = szI (szL ByteArray.size a0.vals) (a1 - ((a0.key.size : Nat) : Int)) := rfl
  rw [g2, z3]
  by_cases h3 : (a1 - ((a0.key.size : Nat) : Int)) - ((szL ByteArray.size a0.vals : Nat) : Int) < 0
  · rw [szI_neg h3, szI_neg (by omega)]; rfl
  rw [szI_pos h3]
  simp only [cond_true, h3, decide_false, cond_false]
  rw [szI_pos (by omega)]
  first
    | rfl
    | rw [show ((a1 - ((a0.key.size : Nat) : Int)) - ((szL ByteArray.size a0.vals : Nat) : Int)) = a1 - ((szN_pick a0 : Nat) : Int) by omega]

noncomputable def q8 : List Dt → Option (Bool × List Dt)
  | [.d .pick a0, .d (.i .i64) a1] => some ((gz_pick a0 a1), [.d (.i .i64) (z_pick a0 a1)])
  | _ => none
noncomputable def s8 : Gm.Spec := Gm.Spec.of [.ro, .ro] [false] true q8
theorem good8 : Gm.Good Try.prog (8, s8) := by
  have hl : ∀ x ∈ [(37, s37)], Gm.Good Try.prog x := List.forall_mem_cons.2 ⟨good37, List.forall_mem_nil _⟩
  refine ⟨⟨spec_ok (tab_ok.env hl) (tab.natl hl) Try.func8 (by kernel_rfl : Try.f8.body = some f8c) [3] (by kernel_rfl) ?_, _, Try.func8, by kernel_rfl, of_decide_eq_true (by kernel_rfl)⟩, Gm.Spec.of_natl _ _ _ _⟩
  intro ds outs h
  unfold q8 at h
  split at h
  · simp only [Option.some.injEq, Prod.mk.injEq] at h; obtain ⟨hg, h⟩ := h; cases h; exact f8_spec _ _ hg
  · cases h
/-! ### loop.example/g00465/laws.toStringS -/
noncomputable def f41c : Code := (Try.f41.body).getD .skip
def f41k : Nat → Kp := kat [⟨[0], []⟩, ⟨[0, 3], []⟩, ⟨[0, 3, 4], []⟩, ⟨[0, 3, 4, 11], []⟩, ⟨[0, 3, 4], []⟩, ⟨[0, 3, 4], []⟩, ⟨[2], []⟩]
noncomputable def f41e : Env := tab.env []
noncomputable def f41L0 {R : Type} (n : Nat) (x0 : Int → Bool → (List ByteArray) → Option R) (vs0 : List ByteArray) : Nat → Int → (List ByteArray) → Option R
  | 0, _, _ => none
  | m + 1, vs4, vr448 =>
    (cond (decide (vs4 < (vs0.length : Int)))
      (cond ((decide ((0 : Int) ≤ vs4)) && (decide (vs4 < (vs0.length : Int))))
        (cond ((decide ((0 : Int) ≤ vs4)) && (decide (vs4 < (vr448.length : Int))))
          (f41L0 n x0 vs0 m (IntKind.wrap .i64 (vs4 + (1 : Int))) (vr448.set (Int.toNat vs4) (atI (t := .str) vs0 (Int.toNat vs4))))
          none)
        none)
      (x0 vs4 (decide (vs4 < (vs0.length : Int))) vr448))
theorem f41L0_b {R : Type} (n : Nat) (k' : Ex → St → Option R) (vs0 : List ByteArray) (vs4 : Int) (vr448 : List ByteArray) : ev f41e f41k n (cAt [1,1,0,1,0,0] f41c) ⟨[(0, .c (.one (.ro .str vs0))), (3, .c (.one (.h 448 0 0 []))), (4, .c (.one (.v (.int .i64 vs4))))], [], [(448, .live ⟨.str, .deep, 0, [], vr448⟩)]⟩ k' =
    (cond (decide (vs4 < (vs0.length : Int)))
    (cond ((decide ((0 : Int) ≤ vs4)) && (decide (vs4 < (vs0.length : Int))))
      (cond ((decide ((0 : Int) ≤ vs4)) && (decide (vs4 < (vr448.length : Int))))
        (k' .normal ⟨[(0, .c (.one (.ro .str vs0))), (3, .c (.one (.h 448 0 0 []))), (4, .c (.one (.v (.int .i64 (IntKind.wrap .i64 (vs4 + (1 : Int)))))))], [], [(448, .live ⟨.str, .deep, 0, [], (vr448.set (Int.toNat vs4) (atI (t := .str) vs0 (Int.toNat vs4)))⟩)]⟩)
        none)
      none)
    (k' (.exit 0) ⟨[(0, .c (.one (.ro .str vs0))), (3, .c (.one (.h 448 0 0 []))), (4, .c (.one (.v (.int .i64 vs4)))), (11, .c (.one (.v (.bool (decide (vs4 < (vs0.length : Int)))))))], [], [(448, .live ⟨.str, .deep, 0, [], vr448⟩)]⟩)) := by kernel_rfl
theorem f41L0_eq {R : Type} (n : Nat) (k' : Ex → St → Option R) (vs0 : List ByteArray) : ∀ (m : Nat) (vs4 : Int) (vr448 : List ByteArray), iter (fun st k => ev f41e f41k n (cAt [1,1,0,1,0,0] f41c) st k) m ⟨[(0, .c (.one (.ro .str vs0))), (3, .c (.one (.h 448 0 0 []))), (4, .c (.one (.v (.int .i64 vs4))))], [], [(448, .live ⟨.str, .deep, 0, [], vr448⟩)]⟩ k' = f41L0 n (fun (xvs4 : Int) (xvs11 : Bool) (xvr448 : List ByteArray) => k' (.exit 0) ⟨[(0, .c (.one (.ro .str vs0))), (3, .c (.one (.h 448 0 0 []))), (4, .c (.one (.v (.int .i64 xvs4)))), (11, .c (.one (.v (.bool xvs11))))], [], [(448, .live ⟨.str, .deep, 0, [], xvr448⟩)]⟩) vs0 m vs4 vr448 := by
  intro m; induction m with
  | zero => intros; rfl
  | succ m ih =>
    intro vs4 vr448
    simp only [iter]
    rw [f41L0_b]
    simp only [ih, f41L0]

noncomputable def f41K0 {R : Type} (n : Nat) (k' : Ex → St → Option R) : Ex → St → Option R := (blockK 0 (seqK f41e f41k n (cAt [1,1,1] f41c) k'))
theorem f41K0_x0 {R : Type} (n : Nat) (k : List Dt → Option R) (a0 : List ByteArray) (vs0 : List ByteArray) (xvs4 : Int) (xvs11 : Bool) (xvr448 : List ByteArray) : f41K0 n (exitK f41e [.ro] [false] true [.tmp 2] [22] [.d (.sl .str) a0] k) (.exit 0) ⟨[(0, .c (.one (.ro .str vs0))), (3, .c (.one (.h 448 0 0 []))), (4, .c (.one (.v (.int .i64 xvs4)))), (11, .c (.one (.v (.bool xvs11))))], [], [(448, .live ⟨.str, .deep, 0, [], xvr448⟩)]⟩ =
    (k [.d (.sl .str) xvr448]) := by kernel_rfl

theorem f41_run {R : Type} (n : Nat) (k : List Dt → Option R) (a0 : List ByteArray) : evFn f41e f41k n f41c [.ro] [false] true [.tmp 2] [22] [.d (.sl .str) a0] k =
    (cond ((decide ((a0.length : Int) = (a0.length : Int))) && ((decide ((0 : Int) ≤ (a0.length : Int))) && (decide ((a0.length : Int) ≤ (LIM : Int)))))
    (f41L0 n (fun (xvs4 : Int) (xvs11 : Bool) (xvr448 : List ByteArray) =>
      (k [.d (.sl .str) xvr448])) a0 n (0 : Int) (List.replicate (Int.toNat (a0.length : Int)) ByteArray.empty))
    none) := by
  refine Eq.trans (b := (cond ((decide ((a0.length : Int) = (a0.length : Int))) && ((decide ((0 : Int) ≤ (a0.length : Int))) && (decide ((a0.length : Int) ≤ (LIM : Int)))))
    (iter (fun st k => ev f41e f41k n (cAt [1,1,0,1,0,0] f41c) st k) n ⟨[(0, .c (.one (.ro .str a0))), (3, .c (.one (.h 448 0 0 []))), (4, .c (.one (.v (.int .i64 (0 : Int)))))], [], [(448, .live ⟨.str, .deep, 0, [], (List.replicate (Int.toNat (a0.length : Int)) ByteArray.empty)⟩)]⟩ (f41K0 n (exitK f41e [.ro] [false] true [.tmp 2] [22] [.d (.sl .str) a0] k)))
    none)) (by kernel_rfl) ?_
  simp only [f41L0_eq, f41K0_x0]
theorem f41_spec (a0 : List ByteArray) (hg : smL smStr a0 = true) : ∃ keep rounds, ∀ {R : Type} (k : List Dt → Option R), evFn f41e keep rounds f41c [.ro] [false] true [.tmp 2] [22] [.d (.sl .str) a0] k = k [.d (.sl .str) a0] := by
  have hl : a0.length ≤ 1048576 := smL_len hg
  have hs := smL_all hg
  refine ⟨f41k, a0.length + 1, fun k => ?_⟩
  rw [f41_run, mkOk hl]
  simp only [cond_true]
  have := loop_copy (xs := a0) (f := fun x => x) (F := fun m j out => f41L0 (a0.length + 1) (fun (xvs4 : Int) (xvs11 : Bool) (xvr448 : List ByteArray) => (k [.d (.sl .str) xvr448])) a0 m (j : Int) out) (good := fun out => k [.d (.sl .str) out]) ByteArray.empty
    (fun m j out x hx hl' => by
      obtain ⟨h1, h0, hw, ht⟩ := idx (lt_of_get hx) (by omega)
      obtain ⟨h2, _, _, _⟩ := idx (show j < out.length by rw [hl']; exact lt_of_get hx) (by omega)
      have hx2 := List.all_eq_true.1 hs x (List.mem_of_getElem? hx)
      simp only [f41L0, h1, h0, h2, hw, ht, atI_of (t := .str) hx, Bool.and_self, cond_true])
    (fun m out => by simp only [f41L0, idxE, cond_false]) a0.length 0 (a0.length + 1) (by omega) (by omega)
  simpa using this

noncomputable def q41 : List Dt → Option (Bool × List Dt)
  | [.d (.sl .str) a0] => some ((smL smStr a0), [.d (.sl .str) a0])
  | _ => none
noncomputable def s41 : Gm.Spec := Gm.Spec.of [.ro] [false] true q41
theorem good41 : Gm.Good Try.prog (41, s41) := by
  have hl : ∀ x ∈ ([] : List (Nat × Gm.Spec)), Gm.Good Try.prog x := fun _ h => by cases h
  refine ⟨⟨spec_ok (tab_ok.env hl) (tab.natl hl) Try.func41 (by kernel_rfl : Try.f41.body = some f41c) [22] (by kernel_rfl) ?_, _, Try.func41, by kernel_rfl, of_decide_eq_true (by kernel_rfl)⟩, Gm.Spec.of_natl _ _ _ _⟩
  intro ds outs h
  unfold q41 at h
  split at h
  · simp only [Option.some.injEq, Prod.mk.injEq] at h; obtain ⟨hg, h⟩ := h; cases h; exact f41_spec _ hg
  · cases h
/-! ### loop.example/g00465/laws.toPick -/
noncomputable def f10c : Code := (Try.f10.body).getD .skip
def f10k : Nat → Kp := kat [⟨[1, 2], []⟩, ⟨[1, 2, 3], []⟩, ⟨[1, 2, 3], []⟩, ⟨[1, 2, 3], []⟩, ⟨[2, 3], []⟩, ⟨[2], []⟩]
noncomputable def f10e : Env := tab.env [(41, s41)]
theorem f10_run {R : Type} (n : Nat) (k : List Dt → Option R) (a0 : PickT) : evFn f10e f10k n f10c [.ro] [false] true [.cell 2 27] [27] [.d .pick a0] k =
    (cond (smL smStr (PickT.vals a0))
    (k [.d .pick a0])
    none) := by kernel_rfl
theorem f10_spec (a0 : PickT) (hg : sm_pick a0 = true) : ∃ keep rounds, ∀ {R : Type} (k : List Dt → Option R), evFn f10e keep rounds f10c [.ro] [false] true [.cell 2 27] [27] [.d .pick a0] k = k [.d .pick a0] := by
  simp only [sm_pick, Bool.and_eq_true] at hg
  refine ⟨f10k, 0, fun k => ?_⟩
  rw [f10_run]
  simp only [hg, cond_true]

noncomputable def q10 : List Dt → Option (Bool × List Dt)
  | [.d .pick a0] => some ((sm_pick a0), [.d .pick a0])
  | _ => none
noncomputable def s10 : Gm.Spec := Gm.Spec.of [.ro] [false] true q10
theorem good10 : Gm.Good Try.prog (10, s10) := by
  have hl : ∀ x ∈ [(41, s41)], Gm.Good Try.prog x := List.forall_mem_cons.2 ⟨good41, List.forall_mem_nil _⟩
  refine ⟨⟨spec_ok (tab_ok.env hl) (tab.natl hl) Try.func10 (by kernel_rfl : Try.f10.body = some f10c) [27] (by kernel_rfl) ?_, _, Try.func10, by kernel_rfl, of_decide_eq_true (by kernel_rfl)⟩, Gm.Spec.of_natl _ _ _ _⟩
  intro ds outs h
  unfold q10 at h
  split at h
  · simp only [Option.some.injEq, Prod.mk.injEq] at h; obtain ⟨hg, h⟩ := h; cases h; exact f10_spec _ hg
  · cases h
/-! ### loop.example/g00465/laws.eqStringS -/
noncomputable def f30c : Code := (Try.f30.body).getD .skip
def f30k : Nat → Kp := kat [⟨[0, 1], []⟩, ⟨[0, 1, 10], []⟩, ⟨[4], []⟩, ⟨[0, 1, 5], []⟩, ⟨[0, 1, 5, 14], []⟩, ⟨[0, 1, 5], []⟩, ⟨[0, 1, 5, 25], []⟩, ⟨[4], []⟩, ⟨[4], []⟩]
noncomputable def f30e : Env := tab.env []
noncomputable def f30L0 {R : Type} (n : Nat) (x0 : Option R) (x1 : Int → Bool → Option R) (vs0 : List ByteArray) (vs1 : List ByteArray) : Nat → Int → Option R
  | 0, _ => none
  | m + 1, vs5 =>
    (cond (decide (vs5 < (vs0.length : Int)))
      (cond ((decide ((0 : Int) ≤ vs5)) && (decide (vs5 < (vs0.length : Int))))
        (cond ((decide ((0 : Int) ≤ vs5)) && (decide (vs5 < (vs1.length : Int))))
          (cond (!(sEq (atI (t := .str) vs0 (Int.toNat vs5)) (atI (t := .str) vs1 (Int.toNat vs5))))
            (x0)
            (f30L0 n x0 x1 vs0 vs1 m (IntKind.wrap .i64 (vs5 + (1 : Int)))))
          none)
        none)
      (x1 vs5 (decide (vs5 < (vs0.length : Int)))))
theorem f30L0_b {R : Type} (n : Nat) (k' : Ex → St → Option R) (vs0 : List ByteArray) (vs1 : List ByteArray) (vs5 : Int) : ev f30e f30k n (cAt [1,1,0,1,0,0] f30c) ⟨[(0, .c (.one (.ro .str vs0))), (1, .c (.one (.ro .str vs1))), (5, .c (.one (.v (.int .i64 vs5))))], [], []⟩ k' =
    (cond (decide (vs5 < (vs0.length : Int)))
    (cond ((decide ((0 : Int) ≤ vs5)) && (decide (vs5 < (vs0.length : Int))))
      (cond ((decide ((0 : Int) ≤ vs5)) && (decide (vs5 < (vs1.length : Int))))
        (cond (!(sEq (atI (t := .str) vs0 (Int.toNat vs5)) (atI (t := .str) vs1 (Int.toNat vs5))))
          (k' .ret ⟨[(4, .c (.one (.v (.bool false))))], [], []⟩)
          (k' .normal ⟨[(0, .c (.one (.ro .str vs0))), (1, .c (.one (.ro .str vs1))), (5, .c (.one (.v (.int .i64 (IntKind.wrap .i64 (vs5 + (1 : Int)))))))], [], []⟩))
        none)
      none)
    (k' (.exit 0) ⟨[(0, .c (.one (.ro .str vs0))), (1, .c (.one (.ro .str vs1))), (5, .c (.one (.v (.int .i64 vs5)))), (14, .c (.one (.v (.bool (decide (vs5 < (vs0.length : Int)))))))], [], []⟩)) := by kernel_rfl
theorem f30L0_eq {R : Type} (n : Nat) (k' : Ex → St → Option R) (vs0 : List ByteArray) (vs1 : List ByteArray) : ∀ (m : Nat) (vs5 : Int), iter (fun st k => ev f30e f30k n (cAt [1,1,0,1,0,0] f30c) st k) m ⟨[(0, .c (.one (.ro .str vs0))), (1, .c (.one (.ro .str vs1))), (5, .c (.one (.v (.int .i64 vs5))))], [], []⟩ k' = f30L0 n (k' .ret ⟨[(4, .c (.one (.v (.bool false))))], [], []⟩) (fun (xvs5 : Int) (xvs14 : Bool) => k' (.exit 0) ⟨[(0, .c (.one (.ro .str vs0))), (1, .c (.one (.ro .str vs1))), (5, .c (.one (.v (.int .i64 xvs5)))), (14, .c (.one (.v (.bool xvs14))))], [], []⟩) vs0 vs1 m vs5 := by
  intro m; induction m with
  | zero => intros; rfl
  | succ m ih =>
    intro vs5
    simp only [iter]
    rw [f30L0_b]
    simp only [ih, f30L0]

noncomputable def f30K0 {R : Type} (n : Nat) (k' : Ex → St → Option R) : Ex → St → Option R := (blockK 0 (seqK f30e f30k n (cAt [1,1,1] f30c) k'))
theorem f30K0_x0 {R : Type} (n : Nat) (k : List Dt → Option R) (a0 : List ByteArray) (a1 : List ByteArray)  : f30K0 n (exitK f30e [.ro, .ro] [false] true [.tmp 4] [4] [.d (.sl .str) a0, .d (.sl .str) a1] k) .ret ⟨[(4, .c (.one (.v (.bool false))))], [], []⟩ =
    (k [.d .bool false]) := by kernel_rfl
theorem f30K0_x1 {R : Type} (n : Nat) (k : List Dt → Option R) (a0 : List ByteArray) (a1 : List ByteArray) (vs0 : List ByteArray) (vs1 : List ByteArray) (xvs5 : Int) (xvs14 : Bool) : f30K0 n (exitK f30e [.ro, .ro] [false] true [.tmp 4] [4] [.d (.sl .str) a0, .d (.sl .str) a1] k) (.exit 0) ⟨[(0, .c (.one (.ro .str vs0))), (1, .c (.one (.ro .str vs1))), (5, .c (.one (.v (.int .i64 xvs5)))), (14, .c (.one (.v (.bool xvs14))))], [], []⟩ =
    (k [.d .bool true]) := by kernel_rfl

theorem f30_run {R : Type} (n : Nat) (k : List Dt → Option R) (a0 : List ByteArray) (a1 : List ByteArray) : evFn f30e f30k n f30c [.ro, .ro] [false] true [.tmp 4] [4] [.d (.sl .str) a0, .d (.sl .str) a1] k =
    (cond ((a0.length : Int) != (a1.length : Int))
    (k [.d .bool false])
    (f30L0 n (k [.d .bool false]) (fun (xvs5 : Int) (xvs14 : Bool) =>
      (k [.d .bool true])) a0 a1 n (0 : Int))) := by
  refine Eq.trans (b := (cond ((a0.length : Int) != (a1.length : Int))
    (k [.d .bool false])
    (iter (fun st k => ev f30e f30k n (cAt [1,1,0,1,0,0] f30c) st k) n ⟨[(0, .c (.one (.ro .str a0))), (1, .c (.one (.ro .str a1))), (5, .c (.one (.v (.int .i64 (0 : Int)))))], [], []⟩ (f30K0 n (exitK f30e [.ro, .ro] [false] true [.tmp 4] [4] [.d (.sl .str) a0, .d (.sl .str) a1] k))))) (by kernel_rfl) ?_
  simp only [f30L0_eq, f30K0_x0, f30K0_x1]
theorem f30_spec (a0 : List ByteArray) (a1 : List ByteArray) (hg : sm2 (smL smStr) a0 a1 = true) : ∃ keep rounds, ∀ {R : Type} (k : List Dt → Option R), evFn f30e keep rounds f30c [.ro, .ro] [false] true [.tmp 4] [4] [.d (.sl .str) a0, .d (.sl .str) a1] k = k [.d .bool (eqD a0 a1)] := by
  simp only [sm2, Bool.and_eq_true] at hg
  obtain ⟨hg0, hg1⟩ := hg
  have hl : a0.length ≤ 1048576 := smL_len hg0
  refine ⟨f30k, a0.length + 1, fun k => ?_⟩
  rw [f30_run]
  by_cases hc : a0.length = a1.length
  · have hc' : ((a0.length : Int) != (a1.length : Int)) = false := by simp [hc]
    simp only [hc', cond_false]
    refine Eq.trans (loop_idx (n := a0.length) (F := fun m i => f30L0 (a0.length + 1) _ _ a0 a1 m i) (p := fun j => sEq (atI (t := .str) a0 j) (atI (t := .str) a1 j)) (good := k [.d .bool true]) (bad := k [.d .bool false])
      (fun m j hj => ?_) (fun m => by simp only [f30L0, idxE, cond_false]) a0.length 0 (a0.length + 1) (by omega) (by omega)) ?_
    · obtain ⟨h1, h0, hw, ht⟩ := idx hj (by omega)
      obtain ⟨h2, _, _, _⟩ := idx (show j < a1.length by omega) (by omega)
      simp only [f30L0, h1, h0, h2, hw, ht, Bool.and_self, cond_true]
      cases sEq (atI (t := .str) a0 j) (atI (t := .str) a1 j) <;> rfl
    · rw [allN_eq hc (fun j x y hx hy => by rw [atI_of (t := .str) hx, atI_of (t := .str) hy, ← eqD_str])]
      cases eqD a0 a1 <;> rfl
  · simp only [bneLen hc, cond_true]
    rw [eqD_ne (fun e => hc (by rw [e]))]

noncomputable def q30 : List Dt → Option (Bool × List Dt)
  | [.d (.sl .str) a0, .d (.sl .str) a1] => some ((sm2 (smL smStr) a0 a1), [.d .bool (eqD a0 a1)])
  | _ => none
noncomputable def s30 : Gm.Spec := Gm.Spec.of [.ro, .ro] [false] true q30
theorem good30 : Gm.Good Try.prog (30, s30) := by
  have hl : ∀ x ∈ ([] : List (Nat × Gm.Spec)), Gm.Good Try.prog x := fun _ h => by cases h
  refine ⟨⟨spec_ok (tab_ok.env hl) (tab.natl hl) Try.func30 (by kernel_rfl : Try.f30.body = some f30c) [4] (by kernel_rfl) ?_, _, Try.func30, by kernel_rfl, of_decide_eq_true (by kernel_rfl)⟩, Gm.Spec.of_natl _ _ _ _⟩
  intro ds outs h
  unfold q30 at h
  split at h
  · simp only [Option.some.injEq, Prod.mk.injEq] at h; obtain ⟨hg, h⟩ := h; cases h; exact f30_spec _ _ hg
  · cases h
/-! ### loop.example/g00465/laws.eqPick -/
noncomputable def f12c : Code := (Try.f12.body).getD .skip
def f12k : Nat → Kp := kat [⟨[2, 3], []⟩, ⟨[2, 3, 9], []⟩, ⟨[4], []⟩, ⟨[2, 3, 14], []⟩, ⟨[4], []⟩, ⟨[20], []⟩, ⟨[4], []⟩, ⟨[4], []⟩]
noncomputable def f12e : Env := tab.env [(30, s30)]
theorem f12_run {R : Type} (n : Nat) (k : List Dt → Option R) (a0 : PickT) (a1 : PickT) : evFn f12e f12k n f12c [.ro, .ro] [false] true [.tmp 4] [4] [.d .pick a0, .d .pick a1] k =
    (cond ((PickT.op a0) != (PickT.op a1))
    (k [.d .bool false])
    (cond (!(sEq (PickT.key a0) (PickT.key a1)))
      (k [.d .bool false])
      (cond (sm2 (smL smStr) (PickT.vals a0) (PickT.vals a1))
        (cond (!(eqD (PickT.vals a0) (PickT.vals a1)))
          (k [.d .bool false])
          (k [.d .bool true]))
        none))) := by kernel_rfl
theorem f12_spec (a0 : PickT) (a1 : PickT) (hg : sm2 sm_pick a0 a1 = true) : ∃ keep rounds, ∀ {R : Type} (k : List Dt → Option R), evFn f12e keep rounds f12c [.ro, .ro] [false] true [.tmp 4] [4] [.d .pick a0, .d .pick a1] k = k [.d .bool (eqD a0 a1)] := by
  simp only [sm2, sm_pick, Bool.and_eq_true] at hg
  refine ⟨f12k, 0, fun k => ?_⟩
  rw [f12_run, eqD_pick]
  simp only [bne, sm2, hg, Bool.and_self, Bool.true_and, cond_true]
  cases (a0.op == a1.op) <;> cases sEq a0.key a1.key <;> cases eqD a0.vals a1.vals <;> rfl

noncomputable def q12 : List Dt → Option (Bool × List Dt)
  | [.d .pick a0, .d .pick a1] => some ((sm2 sm_pick a0 a1), [.d .bool (eqD a0 a1)])
  | _ => none
noncomputable def s12 : Gm.Spec := Gm.Spec.of [.ro, .ro] [false] true q12
theorem good12 : Gm.Good Try.prog (12, s12) := by
  have hl : ∀ x ∈ [(30, s30)], Gm.Good Try.prog x := List.forall_mem_cons.2 ⟨good30, List.forall_mem_nil _⟩
  refine ⟨⟨spec_ok (tab_ok.env hl) (tab.natl hl) Try.func12 (by kernel_rfl : Try.f12.body = some f12c) [4] (by kernel_rfl) ?_, _, Try.func12, by kernel_rfl, of_decide_eq_true (by kernel_rfl)⟩, Gm.Spec.of_natl _ _ _ _⟩
  intro ds outs h
  unfold q12 at h
  split at h
  · simp only [Option.some.injEq, Prod.mk.injEq] at h; obtain ⟨hg, h⟩ := h; cases h; exact f12_spec _ _ hg
  · cases h
/-! ### loop.example/g00465/laws.szNote -/
noncomputable def f46c : Code := (Try.f46.body).getD .skip
def f46k : Nat → Kp := kat [⟨[1, 2], []⟩, ⟨[1, 2], []⟩, ⟨[1, 2, 11], []⟩, ⟨[4], []⟩, ⟨[1], []⟩, ⟨[1, 18], []⟩, ⟨[4], []⟩, ⟨[4], []⟩]
noncomputable def f46e : Env := tab.env []
theorem f46_run {R : Type} (n : Nat) (k : List Dt → Option R) (a0 : NoteT) (a1 : Int) : evFn f46e f46k n f46c [.ro, .ro] [false] true [.tmp 4] [3] [.d .note a0, .d (.i .i64) a1] k =
    (cond (decide ((IntKind.wrap .i64 (a1 - (ByteArray.size (NoteT.key a0) : Int))) < (0 : Int)))
    (k [.d (.i .i64) (-1 : Int)])
    (cond (decide ((IntKind.wrap .i64 ((IntKind.wrap .i64 (a1 - (ByteArray.size (NoteT.key a0) : Int))) - (ByteArray.size (NoteT.text a0) : Int))) < (0 : Int)))
      (k [.d (.i .i64) (-1 : Int)])
      (k [.d (.i .i64) (IntKind.wrap .i64 ((IntKind.wrap .i64 (a1 - (ByteArray.size (NoteT.key a0) : Int))) - (ByteArray.size (NoteT.text a0) : Int)))]))) := by kernel_rfl
theorem f46_spec (a0 : NoteT) (a1 : Int) (hg : gz_note a0 a1 = true) : ∃ keep rounds, ∀ {R : Type} (k : List Dt → Option R), evFn f46e keep rounds f46c [.ro, .ro] [false] true [.tmp 4] [3] [.d .note a0, .d (.i .i64) a1] k = k [.d (.i .i64) (z_note a0 a1)] := by
  simp only [gz_note, ok_note, Bool.and_eq_true, okN_iff] at hg
  obtain ⟨⟨hf_key, hf_text⟩, hn1, hn2⟩ := hg
  have hf_keyb : a0.key.size ≤ 9223372036854775807 := bleN hf_key
  have hf_textb : a0.text.size ≤ 9223372036854775807 := bleN hf_text
  have eN : szN_note a0 = a0.key.size + a0.text.size := rfl
  refine ⟨f46k, 0, fun k => ?_⟩
  rw [f46_run]
  show _ = k [.d (.i .i64) (z_note a0 a1)]
  unfold z_note
  rw [wrap_id (x := a1 - ((a0.key.size : Nat) : Int)) (by omega) (by omega)]
  by_cases h1 : a1 - ((a0.key.size : Nat) : Int) < 0
  · simp only [h1, decide_true, cond_true]; rw [szI_neg (by omega)]
  simp only [h1, decide_false, cond_false]
  rw [wrap_id (x := (a1 - ((a0.key.size : Nat) : Int)) - ((a0.text.size : Nat) : Int)) (by omega) (by omega)]
  by_cases h2 : (a1 - ((a0.key.size : Nat) : Int)) - ((a0.text.size : Nat) : Int) < 0
  · simp only [h2, decide_true, cond_true]; rw [szI_neg (by omega)]
  simp only [h2, decide_false, cond_false]
  rw [szI_pos (by omega)]
  first
    | rfl
    | rw [show ((a1 - ((a0.key.size : Nat) : Int)) - ((a0.text.size : Nat) : Int)) = a1 - ((szN_note a0 : Nat) : Int) by omega]

noncomputable def q46 : List Dt → Option (Bool × List Dt)
  | [.d .note a0, .d (.i .i64) a1] => some ((gz_note a0 a1), [.d (.i .i64) (z_note a0 a1)])
  | _ => none
noncomputable def s46 : Gm.Spec := Gm.Spec.of [.ro, .ro] [false] true q46
theorem good46 : Gm.Good Try.prog (46, s46) := by
  have hl : ∀ x ∈ ([] : List (Nat × Gm.Spec)), Gm.Good Try.prog x := fun _ h => by cases h
  refine ⟨⟨spec_ok (tab_ok.env hl) (tab.natl hl) Try.func46 (by kernel_rfl : Try.f46.body = some f46c) [3] (by kernel_rfl) ?_, _, Try.func46, by kernel_rfl, of_decide_eq_true (by kernel_rfl)⟩, Gm.Spec.of_natl _ _ _ _⟩
  intro ds outs h
  unfold q46 at h
  split at h
  · simp only [Option.some.injEq, Prod.mk.injEq] at h; obtain ⟨hg, h⟩ := h; cases h; exact f46_spec _ _ hg
  · cases h
/-! ### loop.example/g00465/laws.szNoteS -/
noncomputable def f15c : Code := (Try.f15.body).getD .skip
def f15k : Nat → Kp := kat [⟨[0, 1], []⟩, ⟨[0, 1], []⟩, ⟨[0, 1, 11], []⟩, ⟨[4], []⟩, ⟨[0, 1, 5], []⟩, ⟨[0, 1, 5, 15], []⟩, ⟨[0, 1, 5], []⟩, ⟨[0, 1, 5], []⟩, ⟨[0, 1, 5, 25], []⟩, ⟨[4], []⟩, ⟨[4], []⟩]
noncomputable def f15e : Env := tab.env [(46, s46)]
noncomputable def f15L0 {R : Type} (n : Nat) (x0 : Option R) (x1 : Int → Int → Bool → Option R) (vs0 : List NoteT) : Nat → Int → Int → Option R
  | 0, _, _ => none
  | m + 1, vs1, vs5 =>
    (cond (decide (vs5 < (vs0.length : Int)))
      (cond ((decide ((0 : Int) ≤ vs5)) && (decide (vs5 < (vs0.length : Int))))
        (cond (gz_note (atI (t := .note) vs0 (Int.toNat vs5)) vs1)
          (cond (decide ((z_note (atI (t := .note) vs0 (Int.toNat vs5)) vs1) < (0 : Int)))
            (x0)
            (f15L0 n x0 x1 vs0 m (z_note (atI (t := .note) vs0 (Int.toNat vs5)) vs1) (IntKind.wrap .i64 (vs5 + (1 : Int)))))
          none)
        none)
      (x1 vs1 vs5 (decide (vs5 < (vs0.length : Int)))))
theorem f15L0_b {R : Type} (n : Nat) (k' : Ex → St → Option R) (vs0 : List NoteT) (vs1 : Int) (vs5 : Int) : ev f15e f15k n (cAt [1,1,1,0,1,0,0] f15c) ⟨[(0, .c (.one (.ro .note vs0))), (1, .c (.one (.v (.int .i64 vs1)))), (5, .c (.one (.v (.int .i64 vs5))))], [], []⟩ k' =
    (cond (decide (vs5 < (vs0.length : Int)))
    (cond ((decide ((0 : Int) ≤ vs5)) && (decide (vs5 < (vs0.length : Int))))
      (cond (gz_note (atI (t := .note) vs0 (Int.toNat vs5)) vs1)
        (cond (decide ((z_note (atI (t := .note) vs0 (Int.toNat vs5)) vs1) < (0 : Int)))
          (k' .ret ⟨[(4, .c (.one (.v (.int .i64 (-1 : Int)))))], [], []⟩)
          (k' .normal ⟨[(0, .c (.one (.ro .note vs0))), (1, .c (.one (.v (.int .i64 (z_note (atI (t := .note) vs0 (Int.toNat vs5)) vs1))))), (5, .c (.one (.v (.int .i64 (IntKind.wrap .i64 (vs5 + (1 : Int)))))))], [], []⟩))
        none)
      none)
    (k' (.exit 0) ⟨[(0, .c (.one (.ro .note vs0))), (1, .c (.one (.v (.int .i64 vs1)))), (5, .c (.one (.v (.int .i64 vs5)))), (15, .c (.one (.v (.bool (decide (vs5 < (vs0.length : Int)))))))], [], []⟩)) := by kernel_rfl
theorem f15L0_eq {R : Type} (n : Nat) (k' : Ex → St → Option R) (vs0 : List NoteT) : ∀ (m : Nat) (vs1 : Int) (vs5 : Int), iter (fun st k => ev f15e f15k n (cAt [1,1,1,0,1,0,0] f15c) st k) m ⟨[(0, .c (.one (.ro .note vs0))), (1, .c (.one (.v (.int .i64 vs1)))), (5, .c (.one (.v (.int .i64 vs5))))], [], []⟩ k' = f15L0 n (k' .ret ⟨[(4, .c (.one (.v (.int .i64 (-1 : Int)))))], [], []⟩) (fun (xvs1 : Int) (xvs5 : Int) (xvs15 : Bool) => k' (.exit 0) ⟨[(0, .c (.one (.ro .note vs0))), (1, .c (.one (.v (.int .i64 xvs1)))), (5, .c (.one (.v (.int .i64 xvs5)))), (15, .c (.one (.v (.bool xvs15))))], [], []⟩) vs0 m vs1 vs5 := by
  intro m; induction m with
  | zero => intros; rfl
  | succ m ih =>
    intro vs1 vs5
    simp only [iter]
    rw [f15L0_b]
    simp only [ih, f15L0]

noncomputable def f15K0 {R : Type} (n : Nat) (k' : Ex → St → Option R) : Ex → St → Option R := (blockK 0 (seqK f15e f15k n (cAt [1,1,1,1] f15c) k'))
theorem f15K0_x0 {R : Type} (n : Nat) (k : List Dt → Option R) (a0 : List NoteT) (a1 : Int)  : f15K0 n (exitK f15e [.ro, .ro] [false] true [.tmp 4] [3] [.d (.sl .note) a0, .d (.i .i64) a1] k) .ret ⟨[(4, .c (.one (.v (.int .i64 (-1 : Int)))))], [], []⟩ =
    (k [.d (.i .i64) (-1 : Int)]) := by kernel_rfl
theorem f15K0_x1 {R : Type} (n : Nat) (k : List Dt → Option R) (a0 : List NoteT) (a1 : Int) (vs0 : List NoteT) (xvs1 : Int) (xvs5 : Int) (xvs15 : Bool) : f15K0 n (exitK f15e [.ro, .ro] [false] true [.tmp 4] [3] [.d (.sl .note) a0, .d (.i .i64) a1] k) (.exit 0) ⟨[(0, .c (.one (.ro .note vs0))), (1, .c (.one (.v (.int .i64 xvs1)))), (5, .c (.one (.v (.int .i64 xvs5)))), (15, .c (.one (.v (.bool xvs15))))], [], []⟩ =
    (k [.d (.i .i64) xvs1]) := by kernel_rfl

theorem f15_run {R : Type} (n : Nat) (k : List Dt → Option R) (a0 : List NoteT) (a1 : Int) : evFn f15e f15k n f15c [.ro, .ro] [false] true [.tmp 4] [3] [.d (.sl .note) a0, .d (.i .i64) a1] k =
    (cond (decide ((IntKind.wrap .i64 (a1 - (a0.length : Int))) < (0 : Int)))
    (k [.d (.i .i64) (-1 : Int)])
    (f15L0 n (k [.d (.i .i64) (-1 : Int)]) (fun (xvs1 : Int) (xvs5 : Int) (xvs15 : Bool) =>
      (k [.d (.i .i64) xvs1])) a0 n (IntKind.wrap .i64 (a1 - (a0.length : Int))) (0 : Int))) := by
  refine Eq.trans (b := (cond (decide ((IntKind.wrap .i64 (a1 - (a0.length : Int))) < (0 : Int)))
    (k [.d (.i .i64) (-1 : Int)])
    (iter (fun st k => ev f15e f15k n (cAt [1,1,1,0,1,0,0] f15c) st k) n ⟨[(0, .c (.one (.ro .note a0))), (1, .c (.one (.v (.int .i64 (IntKind.wrap .i64 (a1 - (a0.length : Int))))))), (5, .c (.one (.v (.int .i64 (0 : Int)))))], [], []⟩ (f15K0 n (exitK f15e [.ro, .ro] [false] true [.tmp 4] [3] [.d (.sl .note) a0, .d (.i .i64) a1] k))))) (by kernel_rfl) ?_
  simp only [f15L0_eq, f15K0_x0, f15K0_x1]
theorem f15_spec (a0 : List NoteT) (a1 : Int) (hg : gzL_note a0 a1 = true) : ∃ keep rounds, ∀ {R : Type} (k : List Dt → Option R), evFn f15e keep rounds f15c [.ro, .ro] [false] true [.tmp 4] [3] [.d (.sl .note) a0, .d (.i .i64) a1] k = k [.d (.i .i64) (zL_note a0 a1)] := by
  simp only [gzL_note, okL, Bool.and_eq_true, okN_iff] at hg
  obtain ⟨⟨hl, hs⟩, hn⟩ := hg
  have hl : a0.length ≤ 9223372036854775807 := bleN hl
  refine ⟨f15k, a0.length + 1, fun k => ?_⟩
  rw [f15_run, wrap_id (x := a1 - (a0.length : Int)) (by omega) (by omega)]
  show _ = k [.d (.i .i64) (zL_note a0 a1)]
  unfold zL_note
  have eL : szL szN_note a0 = a0.length + (a0.map szN_note).sum := rfl
  by_cases hc : a1 - (a0.length : Int) < 0
  · simp only [hc, decide_true, cond_true]
    rw [szI_neg (by omega)]
  · simp only [hc, decide_false, cond_false]
    refine Eq.trans (loop_fold (xs := a0) (F := fun m j left => f15L0 (a0.length + 1) _ _ a0 m left (j : Int)) (step := szStep szN_note)
      (out := fun _ => k [.d (.i .i64) (-1 : Int)]) (good := fun left => k [.d (.i .i64) left]) (fun n => 0 ≤ n ∧ n ≤ 1048576)
      (fun x n n' hx hn h => by
        unfold szStep at h
        split at h
        · cases h
        · cases h; omega)
      (fun m j n x hx hn => ?_)
      (fun m n hn => by simp only [f15L0, idxE, cond_false]) a0.length 0 (a0.length + 1) (a1 - (a0.length : Int)) (by omega) (by omega) (by omega)) ?_
    · obtain ⟨h1, h0, hw, ht⟩ := idx (lt_of_get hx) (by omega)
      have hx2 := List.all_eq_true.1 hs x (List.mem_of_getElem? hx)
      have hg2 : gz_note x n = true := by simp only [gz_note, Bool.and_eq_true, okN_iff]; exact ⟨hx2, by omega, by omega⟩
      have hz : z_note x n = szI (szN_note x) n := rfl
      simp only [f15L0, h1, h0, hw, ht, atI_of (t := .note) hx, Bool.and_self, cond_true, hg2, hz]
      unfold szStep
      by_cases h : n - (szN_note x : Int) < 0
      · rw [szI_neg h]; simp only [h, if_true, Sum.elim_inl]; rfl
      · rw [szI_pos h]; simp only [h, decide_false, cond_false, if_false, Sum.elim_inr]
    · rw [List.drop_zero, sz_fold _ _ _ (by omega)]
      by_cases h2 : a1 - (a0.length : Int) - ((a0.map szN_note).sum : Nat) < 0
      · rw [if_pos h2, szI_neg (by omega)]; rfl
      · rw [if_neg h2, szI_pos (by omega)]
        simp only [Sum.elim_inr]
        rw [show a1 - (a0.length : Int) - ((a0.map szN_note).sum : Nat) = a1 - (szL szN_note a0 : Nat) by omega]

noncomputable def q15 : List Dt → Option (Bool × List Dt)
  | [.d (.sl .note) a0, .d (.i .i64) a1] => some ((gzL_note a0 a1), [.d (.i .i64) (zL_note a0 a1)])
  | _ => none
noncomputable def s15 : Gm.Spec := Gm.Spec.of [.ro, .ro] [false] true q15
theorem good15 : Gm.Good Try.prog (15, s15) := by
  have hl : ∀ x ∈ [(46, s46)], Gm.Good Try.prog x := List.forall_mem_cons.2 ⟨good46, List.forall_mem_nil _⟩
  refine ⟨⟨spec_ok (tab_ok.env hl) (tab.natl hl) Try.func15 (by kernel_rfl : Try.f15.body = some f15c) [3] (by kernel_rfl) ?_, _, Try.func15, by kernel_rfl, of_decide_eq_true (by kernel_rfl)⟩, Gm.Spec.of_natl _ _ _ _⟩
  intro ds outs h
  unfold q15 at h
  split at h
  · simp only [Option.some.injEq, Prod.mk.injEq] at h; obtain ⟨hg, h⟩ := h; cases h; exact f15_spec _ _ hg
  · cases h
/-! ### loop.example/g00465/laws.toNote -/
noncomputable def f48c : Code := (Try.f48.body).getD .skip
def f48k : Nat → Kp := kat [⟨[1, 2], []⟩, ⟨[1, 2, 3], []⟩, ⟨[1, 2, 3], []⟩, ⟨[2, 3], []⟩, ⟨[2], []⟩]
noncomputable def f48e : Env := tab.env []
theorem f48_run {R : Type} (n : Nat) (k : List Dt → Option R) (a0 : NoteT) : evFn f48e f48k n f48c [.ro] [false] true [.cell 2 74] [74] [.d .note a0] k =
    (k [.d .note a0]) := by kernel_rfl
theorem f48_spec (a0 : NoteT) (hg : sm_note a0 = true) : ∃ keep rounds, ∀ {R : Type} (k : List Dt → Option R), evFn f48e keep rounds f48c [.ro] [false] true [.cell 2 74] [74] [.d .note a0] k = k [.d .note a0] := by
  exact ⟨f48k, 0, fun k => f48_run 0 k a0⟩

noncomputable def q48 : List Dt → Option (Bool × List Dt)
  | [.d .note a0] => some ((sm_note a0), [.d .note a0])
  | _ => none
noncomputable def s48 : Gm.Spec := Gm.Spec.of [.ro] [false] true q48
theorem good48 : Gm.Good Try.prog (48, s48) := by
  have hl : ∀ x ∈ ([] : List (Nat × Gm.Spec)), Gm.Good Try.prog x := fun _ h => by cases h
  refine ⟨⟨spec_ok (tab_ok.env hl) (tab.natl hl) Try.func48 (by kernel_rfl : Try.f48.body = some f48c) [74] (by kernel_rfl) ?_, _, Try.func48, by kernel_rfl, of_decide_eq_true (by kernel_rfl)⟩, Gm.Spec.of_natl _ _ _ _⟩
  intro ds outs h
  unfold q48 at h
  split at h
  · simp only [Option.some.injEq, Prod.mk.injEq] at h; obtain ⟨hg, h⟩ := h; cases h; exact f48_spec _ hg
  · cases h
/-! ### loop.example/g00465/laws.toNoteS -/
noncomputable def f17c : Code := (Try.f17.body).getD .skip
def f17k : Nat → Kp := kat [⟨[0], []⟩, ⟨[0, 3], []⟩, ⟨[0, 3, 4], []⟩, ⟨[0, 3, 4, 11], []⟩, ⟨[0, 3, 4], []⟩, ⟨[0, 3, 4], []⟩, ⟨[2], []⟩]
noncomputable def f17e : Env := tab.env [(48, s48)]
noncomputable def f17L0 {R : Type} (n : Nat) (x0 : Int → Bool → (List NoteT) → Option R) (vs0 : List NoteT) : Nat → Int → (List NoteT) → Option R
  | 0, _, _ => none
  | m + 1, vs4, vr448 =>
    (cond (decide (vs4 < (vs0.length : Int)))
      (cond ((decide ((0 : Int) ≤ vs4)) && (decide (vs4 < (vs0.length : Int))))
        (cond (sm_note (atI (t := .note) vs0 (Int.toNat vs4)))
          (cond ((decide ((0 : Int) ≤ vs4)) && (decide (vs4 < (vr448.length : Int))))
            (f17L0 n x0 vs0 m (IntKind.wrap .i64 (vs4 + (1 : Int))) (vr448.set (Int.toNat vs4) (atI (t := .note) vs0 (Int.toNat vs4))))
            none)
          none)
        none)
      (x0 vs4 (decide (vs4 < (vs0.length : Int))) vr448))
theorem f17L0_b {R : Type} (n : Nat) (k' : Ex → St → Option R) (vs0 : List NoteT) (vs4 : Int) (vr448 : List NoteT) : ev f17e f17k n (cAt [1,1,0,1,0,0] f17c) ⟨[(0, .c (.one (.ro .note vs0))), (3, .c (.one (.h 448 0 0 []))), (4, .c (.one (.v (.int .i64 vs4))))], [], [(448, .live ⟨.note, .deep, 0, [], vr448⟩)]⟩ k' =
    (cond (decide (vs4 < (vs0.length : Int)))
    (cond ((decide ((0 : Int) ≤ vs4)) && (decide (vs4 < (vs0.length : Int))))
      (cond (sm_note (atI (t := .note) vs0 (Int.toNat vs4)))
        (cond ((decide ((0 : Int) ≤ vs4)) && (decide (vs4 < (vr448.length : Int))))
          (k' .normal ⟨[(0, .c (.one (.ro .note vs0))), (3, .c (.one (.h 448 0 0 []))), (4, .c (.one (.v (.int .i64 (IntKind.wrap .i64 (vs4 + (1 : Int)))))))], [], [(448, .live ⟨.note, .deep, 0, [], (vr448.set (Int.toNat vs4) (atI (t := .note) vs0 (Int.toNat vs4)))⟩)]⟩)
          none)
        none)
      none)
    (k' (.exit 0) ⟨[(0, .c (.one (.ro .note vs0))), (3, .c (.one (.h 448 0 0 []))), (4, .c (.one (.v (.int .i64 vs4)))), (11, .c (.one (.v (.bool (decide (vs4 < (vs0.length : Int)))))))], [], [(448, .live ⟨.note, .deep, 0, [], vr448⟩)]⟩)) := by kernel_rfl
theorem f17L0_eq {R : Type} (n : Nat) (k' : Ex → St → Option R) (vs0 : List NoteT) : ∀ (m : Nat) (vs4 : Int) (vr448 : List NoteT), iter (fun st k => ev f17e f17k n (cAt [1,1,0,1,0,0] f17c) st k) m ⟨[(0, .c (.one (.ro .note vs0))), (3, .c (.one (.h 448 0 0 []))), (4, .c (.one (.v (.int .i64 vs4))))], [], [(448, .live ⟨.note, .deep, 0, [], vr448⟩)]⟩ k' = f17L0 n (fun (xvs4 : Int) (xvs11 : Bool) (xvr448 : List NoteT) => k' (.exit 0) ⟨[(0, .c (.one (.ro .note vs0))), (3, .c (.one (.h 448 0 0 []))), (4, .c (.one (.v (.int .i64 xvs4)))), (11, .c (.one (.v (.bool xvs11))))], [], [(448, .live ⟨.note, .deep, 0, [], xvr448⟩)]⟩) vs0 m vs4 vr448 := by
  intro m; induction m with
  | zero => intros; rfl
  | succ m ih =>
    intro vs4 vr448
    simp only [iter]
    rw [f17L0_b]
    simp only [ih, f17L0]

noncomputable def f17K0 {R : Type} (n : Nat) (k' : Ex → St → Option R) : Ex → St → Option R := (blockK 0 (seqK f17e f17k n (cAt [1,1,1] f17c) k'))
theorem f17K0_x0 {R : Type} (n : Nat) (k : List Dt → Option R) (a0 : List NoteT) (vs0 : List NoteT) (xvs4 : Int) (xvs11 : Bool) (xvr448 : List NoteT) : f17K0 n (exitK f17e [.ro] [false] true [.tmp 2] [35] [.d (.sl .note) a0] k) (.exit 0) ⟨[(0, .c (.one (.ro .note vs0))), (3, .c (.one (.h 448 0 0 []))), (4, .c (.one (.v (.int .i64 xvs4)))), (11, .c (.one (.v (.bool xvs11))))], [], [(448, .live ⟨.note, .deep, 0, [], xvr448⟩)]⟩ =
    (k [.d (.sl .note) xvr448]) := by kernel_rfl

theorem f17_run {R : Type} (n : Nat) (k : List Dt → Option R) (a0 : List NoteT) : evFn f17e f17k n f17c [.ro] [false] true [.tmp 2] [35] [.d (.sl .note) a0] k =
    (cond ((decide ((a0.length : Int) = (a0.length : Int))) && ((decide ((0 : Int) ≤ (a0.length : Int))) && (decide ((a0.length : Int) ≤ (LIM : Int)))))
    (f17L0 n (fun (xvs4 : Int) (xvs11 : Bool) (xvr448 : List NoteT) =>
      (k [.d (.sl .note) xvr448])) a0 n (0 : Int) (List.replicate (Int.toNat (a0.length : Int)) (⟨ByteArray.empty, ByteArray.empty⟩ : NoteT)))
    none) := by
  refine Eq.trans (b := (cond ((decide ((a0.length : Int) = (a0.length : Int))) && ((decide ((0 : Int) ≤ (a0.length : Int))) && (decide ((a0.length : Int) ≤ (LIM : Int)))))
    (iter (fun st k => ev f17e f17k n (cAt [1,1,0,1,0,0] f17c) st k) n ⟨[(0, .c (.one (.ro .note a0))), (3, .c (.one (.h 448 0 0 []))), (4, .c (.one (.v (.int .i64 (0 : Int)))))], [], [(448, .live ⟨.note, .deep, 0, [], (List.replicate (Int.toNat (a0.length : Int)) (⟨ByteArray.empty, ByteArray.empty⟩ : NoteT))⟩)]⟩ (f17K0 n (exitK f17e [.ro] [false] true [.tmp 2] [35] [.d (.sl .note) a0] k)))
    none)) (by kernel_rfl) ?_
  simp only [f17L0_eq, f17K0_x0]
theorem f17_spec (a0 : List NoteT) (hg : smL sm_note a0 = true) : ∃ keep rounds, ∀ {R : Type} (k : List Dt → Option R), evFn f17e keep rounds f17c [.ro] [false] true [.tmp 2] [35] [.d (.sl .note) a0] k = k [.d (.sl .note) a0] := by
  have hl : a0.length ≤ 1048576 := smL_len hg
  have hs := smL_all hg
  refine ⟨f17k, a0.length + 1, fun k => ?_⟩
  rw [f17_run, mkOk hl]
  simp only [cond_true]
  have := loop_copy (xs := a0) (f := fun x => x) (F := fun m j out => f17L0 (a0.length + 1) (fun (xvs4 : Int) (xvs11 : Bool) (xvr448 : List NoteT) => (k [.d (.sl .note) xvr448])) a0 m (j : Int) out) (good := fun out => k [.d (.sl .note) out]) (⟨ByteArray.empty, ByteArray.empty⟩ : NoteT)
    (fun m j out x hx hl' => by
      obtain ⟨h1, h0, hw, ht⟩ := idx (lt_of_get hx) (by omega)
      obtain ⟨h2, _, _, _⟩ := idx (show j < out.length by rw [hl']; exact lt_of_get hx) (by omega)
      have hx2 := List.all_eq_true.1 hs x (List.mem_of_getElem? hx)
      simp only [f17L0, h1, h0, h2, hw, ht, atI_of (t := .note) hx, Bool.and_self, cond_true, hx2])
    (fun m out => by simp only [f17L0, idxE, cond_false]) a0.length 0 (a0.length + 1) (by omega) (by omega)
  simpa using this

noncomputable def q17 : List Dt → Option (Bool × List Dt)
  | [.d (.sl .note) a0] => some ((smL sm_note a0), [.d (.sl .note) a0])
  | _ => none
noncomputable def s17 : Gm.Spec := Gm.Spec.of [.ro] [false] true q17
theorem good17 : Gm.Good Try.prog (17, s17) := by
  have hl : ∀ x ∈ [(48, s48)], Gm.Good Try.prog x := List.forall_mem_cons.2 ⟨good48, List.forall_mem_nil _⟩
  refine ⟨⟨spec_ok (tab_ok.env hl) (tab.natl hl) Try.func17 (by kernel_rfl : Try.f17.body = some f17c) [35] (by kernel_rfl) ?_, _, Try.func17, by kernel_rfl, of_decide_eq_true (by kernel_rfl)⟩, Gm.Spec.of_natl _ _ _ _⟩
  intro ds outs h
  unfold q17 at h
  split at h
  · simp only [Option.some.injEq, Prod.mk.injEq] at h; obtain ⟨hg, h⟩ := h; cases h; exact f17_spec _ hg
  · cases h
/-! ### loop.example/g00465/laws.eqNote -/
noncomputable def f52c : Code := (Try.f52.body).getD .skip
def f52k : Nat → Kp := kat [⟨[2, 3], []⟩, ⟨[2, 3, 9], []⟩, ⟨[4], []⟩, ⟨[14], []⟩, ⟨[4], []⟩, ⟨[4], []⟩]
noncomputable def f52e : Env := tab.env []
theorem f52_run {R : Type} (n : Nat) (k : List Dt → Option R) (a0 : NoteT) (a1 : NoteT) : evFn f52e f52k n f52c [.ro, .ro] [false] true [.tmp 4] [4] [.d .note a0, .d .note a1] k =
    (cond (!(sEq (NoteT.key a0) (NoteT.key a1)))
    (k [.d .bool false])
    (cond (!(sEq (NoteT.text a0) (NoteT.text a1)))
      (k [.d .bool false])
      (k [.d .bool true]))) := by kernel_rfl
theorem f52_spec (a0 : NoteT) (a1 : NoteT) (hg : sm2 sm_note a0 a1 = true) : ∃ keep rounds, ∀ {R : Type} (k : List Dt → Option R), evFn f52e keep rounds f52c [.ro, .ro] [false] true [.tmp 4] [4] [.d .note a0, .d .note a1] k = k [.d .bool (eqD a0 a1)] := by
  simp only [sm2, sm_note, Bool.and_eq_true] at hg
  refine ⟨f52k, 0, fun k => ?_⟩
  rw [f52_run, eqD_note]
  try simp only [bne]
  cases sEq a0.key a1.key <;> cases sEq a0.text a1.text <;> rfl

noncomputable def q52 : List Dt → Option (Bool × List Dt)
  | [.d .note a0, .d .note a1] => some ((sm2 sm_note a0 a1), [.d .bool (eqD a0 a1)])
  | _ => none
noncomputable def s52 : Gm.Spec := Gm.Spec.of [.ro, .ro] [false] true q52
theorem good52 : Gm.Good Try.prog (52, s52) := by
  have hl : ∀ x ∈ ([] : List (Nat × Gm.Spec)), Gm.Good Try.prog x := fun _ h => by cases h
  refine ⟨⟨spec_ok (tab_ok.env hl) (tab.natl hl) Try.func52 (by kernel_rfl : Try.f52.body = some f52c) [4] (by kernel_rfl) ?_, _, Try.func52, by kernel_rfl, of_decide_eq_true (by kernel_rfl)⟩, Gm.Spec.of_natl _ _ _ _⟩
  intro ds outs h
  unfold q52 at h
  split at h
  · simp only [Option.some.injEq, Prod.mk.injEq] at h; obtain ⟨hg, h⟩ := h; cases h; exact f52_spec _ _ hg
  · cases h
/-! ### loop.example/g00465/laws.eqNoteS -/
noncomputable def f19c : Code := (Try.f19.body).getD .skip
def f19k : Nat → Kp := kat [⟨[0, 1], []⟩, ⟨[0, 1, 10], []⟩, ⟨[4], []⟩, ⟨[0, 1, 5], []⟩, ⟨[0, 1, 5, 14], []⟩, ⟨[0, 1, 5], []⟩, ⟨[0, 1, 5, 26], []⟩, ⟨[4], []⟩, ⟨[4], []⟩]
noncomputable def f19e : Env := tab.env [(52, s52)]
noncomputable def f19L0 {R : Type} (n : Nat) (x0 : Option R) (x1 : Int → Bool → Option R) (vs0 : List NoteT) (vs1 : List NoteT) : Nat → Int → Option R
  | 0, _ => none
  | m + 1, vs5 =>
    (cond (decide (vs5 < (vs0.length : Int)))
      (cond ((decide ((0 : Int) ≤ vs5)) && (decide (vs5 < (vs0.length : Int))))
        (cond ((decide ((0 : Int) ≤ vs5)) && (decide (vs5 < (vs1.length : Int))))
          (cond (sm2 sm_note (atI (t := .note) vs0 (Int.toNat vs5)) (atI (t := .note) vs1 (Int.toNat vs5)))
            (cond (!(eqD (atI (t := .note) vs0 (Int.toNat vs5)) (atI (t := .note) vs1 (Int.toNat vs5))))
              (x0)
              (f19L0 n x0 x1 vs0 vs1 m (IntKind.wrap .i64 (vs5 + (1 : Int)))))
            none)
          none)
        none)
      (x1 vs5 (decide (vs5 < (vs0.length : Int)))))
theorem f19L0_b {R : Type} (n : Nat) (k' : Ex → St → Option R) (vs0 : List NoteT) (vs1 : List NoteT) (vs5 : Int) : ev f19e f19k n (cAt [1,1,0,1,0,0] f19c) ⟨[(0, .c (.one (.ro .note vs0))), (1, .c (.one (.ro .note vs1))), (5, .c (.one (.v (.int .i64 vs5))))], [], []⟩ k' =
    (cond (decide (vs5 < (vs0.length : Int)))
    (cond ((decide ((0 : Int) ≤ vs5)) && (decide (vs5 < (vs0.length : Int))))
      (cond ((decide ((0 : Int) ≤ vs5)) && (decide (vs5 < (vs1.length : Int))))
        (cond (sm2 sm_note (atI (t := .note) vs0 (Int.toNat vs5)) (atI (t := .note) vs1 (Int.toNat vs5)))
          (cond (!(eqD (atI (t := .note) vs0 (Int.toNat vs5)) (atI (t := .note) vs1 (Int.toNat vs5))))
            (k' .ret ⟨[(4, .c (.one (.v (.bool false))))], [], []⟩)
            (k' .normal ⟨[(0, .c (.one (.ro .note vs0))), (1, .c (.one (.ro .note vs1))), (5, .c (.one (.v (.int .i64 (IntKind.wrap .i64 (vs5 + (1 : Int)))))))], [], []⟩))
          none)
        none)
      none)
    (k' (.exit 0) ⟨[(0, .c (.one (.ro .note vs0))), (1, .c (.one (.ro .note vs1))), (5, .c (.one (.v (.int .i64 vs5)))), (14, .c (.one (.v (.bool (decide (vs5 < (vs0.length : Int)))))))], [], []⟩)) := by kernel_rfl
theorem f19L0_eq {R : Type} (n : Nat) (k' : Ex → St → Option R) (vs0 : List NoteT) (vs1 : List NoteT) : ∀ (m : Nat) (vs5 : Int), iter (fun st k => ev f19e f19k n (cAt [1,1,0,1,0,0] f19c) st k) m ⟨[(0, .c (.one (.ro .note vs0))), (1, .c (.one (.ro .note vs1))), (5, .c (.one (.v (.int .i64 vs5))))], [], []⟩ k' = f19L0 n (k' .ret ⟨[(4, .c (.one (.v (.bool false))))], [], []⟩) (fun (xvs5 : Int) (xvs14 : Bool) => k' (.exit 0) ⟨[(0, .c (.one (.ro .note vs0))), (1, .c (.one (.ro .note vs1))), (5, .c (.one (.v (.int .i64 xvs5)))), (14, .c (.one (.v (.bool xvs14))))], [], []⟩) vs0 vs1 m vs5 := by
  intro m; induction m with
  | zero => intros; rfl
  | succ m ih =>
    intro vs5
    simp only [iter]
    rw [f19L0_b]
    simp only [ih, f19L0]

noncomputable def f19K0 {R : Type} (n : Nat) (k' : Ex → St → Option R) : Ex → St → Option R := (blockK 0 (seqK f19e f19k n (cAt [1,1,1] f19c) k'))
theorem f19K0_x0 {R : Type} (n : Nat) (k : List Dt → Option R) (a0 : List NoteT) (a1 : List NoteT)  : f19K0 n (exitK f19e [.ro, .ro] [false] true [.tmp 4] [4] [.d (.sl .note) a0, .d (.sl .note) a1] k) .ret ⟨[(4, .c (.one (.v (.bool false))))], [], []⟩ =
    (k [.d .bool false]) := by kernel_rfl
theorem f19K0_x1 {R : Type} (n : Nat) (k : List Dt → Option R) (a0 : List NoteT) (a1 : List NoteT) (vs0 : List NoteT) (vs1 : List NoteT) (xvs5 : Int) (xvs14 : Bool) : f19K0 n (exitK f19e [.ro, .ro] [false] true [.tmp 4] [4] [.d (.sl .note) a0, .d (.sl .note) a1] k) (.exit 0) ⟨[(0, .c (.one (.ro .note vs0))), (1, .c (.one (.ro .note vs1))), (5, .c (.one (.v (.int .i64 xvs5)))), (14, .c (.one (.v (.bool xvs14))))], [], []⟩ =
    (k [.d .bool true]) := by kernel_rfl

theorem f19_run {R : Type} (n : Nat) (k : List Dt → Option R) (a0 : List NoteT) (a1 : List NoteT) : evFn f19e f19k n f19c [.ro, .ro] [false] true [.tmp 4] [4] [.d (.sl .note) a0, .d (.sl .note) a1] k =
    (cond ((a0.length : Int) != (a1.length : Int))
    (k [.d .bool false])
    (f19L0 n (k [.d .bool false]) (fun (xvs5 : Int) (xvs14 : Bool) =>
      (k [.d .bool true])) a0 a1 n (0 : Int))) := by
  refine Eq.trans (b := (cond ((a0.length : Int) != (a1.length : Int))
    (k [.d .bool false])
    (iter (fun st k => ev f19e f19k n (cAt [1,1,0,1,0,0] f19c) st k) n ⟨[(0, .c (.one (.ro .note a0))), (1, .c (.one (.ro .note a1))), (5, .c (.one (.v (.int .i64 (0 : Int)))))], [], []⟩ (f19K0 n (exitK f19e [.ro, .ro] [false] true [.tmp 4] [4] [.d (.sl .note) a0, .d (.sl .note) a1] k))))) (by kernel_rfl) ?_
  simp only [f19L0_eq, f19K0_x0, f19K0_x1]
theorem f19_spec (a0 : List NoteT) (a1 : List NoteT) (hg : sm2 (smL sm_note) a0 a1 = true) : ∃ keep rounds, ∀ {R : Type} (k : List Dt → Option R), evFn f19e keep rounds f19c [.ro, .ro] [false] true [.tmp 4] [4] [.d (.sl .note) a0, .d (.sl .note) a1] k = k [.d .bool (eqD a0 a1)] := by
  simp only [sm2, Bool.and_eq_true] at hg
  obtain ⟨hg0, hg1⟩ := hg
  have hl : a0.length ≤ 1048576 := smL_len hg0
  refine ⟨f19k, a0.length + 1, fun k => ?_⟩
  rw [f19_run]
  by_cases hc : a0.length = a1.length
  · have hc' : ((a0.length : Int) != (a1.length : Int)) = false := by simp [hc]
    simp only [hc', cond_false]
    refine Eq.trans (loop_idx (n := a0.length) (F := fun m i => f19L0 (a0.length + 1) _ _ a0 a1 m i) (p := fun j => eqD (atI (t := .note) a0 j) (atI (t := .note) a1 j)) (good := k [.d .bool true]) (bad := k [.d .bool false])
      (fun m j hj => ?_) (fun m => by simp only [f19L0, idxE, cond_false]) a0.length 0 (a0.length + 1) (by omega) (by omega)) ?_
    · obtain ⟨h1, h0, hw, ht⟩ := idx hj (by omega)
      obtain ⟨h2, _, _, _⟩ := idx (show j < a1.length by omega) (by omega)
      have ha := smL_at (t := .note) hg0 hj
      have hb := smL_at (t := .note) hg1 (show j < a1.length by omega)
      simp only [f19L0, h1, h0, h2, hw, ht, Bool.and_self, cond_true, sm2, ha, hb]
      cases eqD (atI (t := .note) a0 j) (atI (t := .note) a1 j) <;> rfl
    · rw [allN_eq hc (fun j x y hx hy => by rw [atI_of (t := .note) hx, atI_of (t := .note) hy])]
      cases eqD a0 a1 <;> rfl
  · simp only [bneLen hc, cond_true]
    rw [eqD_ne (fun e => hc (by rw [e]))]

noncomputable def q19 : List Dt → Option (Bool × List Dt)
  | [.d (.sl .note) a0, .d (.sl .note) a1] => some ((sm2 (smL sm_note) a0 a1), [.d .bool (eqD a0 a1)])
  | _ => none
noncomputable def s19 : Gm.Spec := Gm.Spec.of [.ro, .ro] [false] true q19
theorem good19 : Gm.Good Try.prog (19, s19) := by
  have hl : ∀ x ∈ [(52, s52)], Gm.Good Try.prog x := List.forall_mem_cons.2 ⟨good52, List.forall_mem_nil _⟩
  refine ⟨⟨spec_ok (tab_ok.env hl) (tab.natl hl) Try.func19 (by kernel_rfl : Try.f19.body = some f19c) [4] (by kernel_rfl) ?_, _, Try.func19, by kernel_rfl, of_decide_eq_true (by kernel_rfl)⟩, Gm.Spec.of_natl _ _ _ _⟩
  intro ds outs h
  unfold q19 at h
  split at h
  · simp only [Option.some.injEq, Prod.mk.injEq] at h; obtain ⟨hg, h⟩ := h; cases h; exact f19_spec _ _ hg
  · cases h
/-! ### loop.example/g00465/laws.szMetric -/
noncomputable def f113c : Code := (Try.f113.body).getD .skip
def f113k : Nat → Kp := kat [⟨[1, 2], []⟩, ⟨[1], []⟩, ⟨[1, 11], []⟩, ⟨[4], []⟩, ⟨[4], []⟩]
noncomputable def f113e : Env := tab.env []
theorem f113_run {R : Type} (n : Nat) (k : List Dt → Option R) (a0 : MetricT) (a1 : Int) : evFn f113e f113k n f113c [.ro, .ro] [false] true [.tmp 4] [3] [.d .metric a0, .d (.i .i64) a1] k =
    (cond (decide ((IntKind.wrap .i64 (a1 - (ByteArray.size (MetricT.name a0) : Int))) < (0 : Int)))
    (k [.d (.i .i64) (-1 : Int)])
    (k [.d (.i .i64) (IntKind.wrap .i64 (a1 - (ByteArray.size (MetricT.name a0) : Int)))])) := by kernel_rfl
theorem f113_spec (a0 : MetricT) (a1 : Int) (hg : gz_metric a0 a1 = true) : ∃ keep rounds, ∀ {R : Type} (k : List Dt → Option R), evFn f113e keep rounds f113c [.ro, .ro] [false] true [.tmp 4] [3] [.d .metric a0, .d (.i .i64) a1] k = k [.d (.i .i64) (z_metric a0 a1)] := by
  simp only [gz_metric, ok_metric, Bool.and_eq_true, okN_iff] at hg
  obtain ⟨⟨hf_name, hf_kind, hf_goal⟩, hn1, hn2⟩ := hg
  have hf_nameb : a0.name.size ≤ 9223372036854775807 := bleN hf_name
  have eN : szN_metric a0 = a0.name.size := rfl
  refine ⟨f113k, 0, fun k => ?_⟩
  rw [f113_run]
  show _ = k [.d (.i .i64) (z_metric a0 a1)]
  unfold z_metric
  rw [wrap_id (x := a1 - ((a0.name.size : Nat) : Int)) (by omega) (by omega)]
  by_cases h1 : a1 - ((a0.name.size : Nat) : Int) < 0
  · simp only [h1, decide_true, cond_true]; rw [szI_neg (by omega)]
  simp only [h1, decide_false, cond_false]
  rw [szI_pos (by omega)]
  first
    | rfl
    | rw [show (a1 - ((a0.name.size : Nat) : Int)) = a1 - ((szN_metric a0 : Nat) : Int) by omega]

noncomputable def q113 : List Dt → Option (Bool × List Dt)
  | [.d .metric a0, .d (.i .i64) a1] => some ((gz_metric a0 a1), [.d (.i .i64) (z_metric a0 a1)])
  | _ => none
noncomputable def s113 : Gm.Spec := Gm.Spec.of [.ro, .ro] [false] true q113
theorem good113 : Gm.Good Try.prog (113, s113) := by
  have hl : ∀ x ∈ ([] : List (Nat × Gm.Spec)), Gm.Good Try.prog x := fun _ h => by cases h
  refine ⟨⟨spec_ok (tab_ok.env hl) (tab.natl hl) Try.func113 (by kernel_rfl : Try.f113.body = some f113c) [3] (by kernel_rfl) ?_, _, Try.func113, by kernel_rfl, of_decide_eq_true (by kernel_rfl)⟩, Gm.Spec.of_natl _ _ _ _⟩
  intro ds outs h
  unfold q113 at h
  split at h
  · simp only [Option.some.injEq, Prod.mk.injEq] at h; obtain ⟨hg, h⟩ := h; cases h; exact f113_spec _ _ hg
  · cases h
/-! ### loop.example/g00465/laws.szMetricS -/
noncomputable def f106c : Code := (Try.f106.body).getD .skip
def f106k : Nat → Kp := kat [⟨[0, 1], []⟩, ⟨[0, 1], []⟩, ⟨[0, 1, 11], []⟩, ⟨[4], []⟩, ⟨[0, 1, 5], []⟩, ⟨[0, 1, 5, 15], []⟩, ⟨[0, 1, 5], []⟩, ⟨[0, 1, 5], []⟩, ⟨[0, 1, 5, 25], []⟩, ⟨[4], []⟩, ⟨[4], []⟩]
noncomputable def f106e : Env := tab.env [(113, s113)]
noncomputable def f106L0 {R : Type} (n : Nat) (x0 : Option R) (x1 : Int → Int → Bool → Option R) (vs0 : List MetricT) : Nat → Int → Int → Option R
  | 0, _, _ => none
  | m + 1, vs1, vs5 =>
    (cond (decide (vs5 < (vs0.length : Int)))
      (cond ((decide ((0 : Int) ≤ vs5)) && (decide (vs5 < (vs0.length : Int))))
        (cond (gz_metric (atI (t := .metric) vs0 (Int.toNat vs5)) vs1)
          (cond (decide ((z_metric (atI (t := .metric) vs0 (Int.toNat vs5)) vs1) < (0 : Int)))
            (x0)
            (f106L0 n x0 x1 vs0 m (z_metric (atI (t := .metric) vs0 (Int.toNat vs5)) vs1) (IntKind.wrap .i64 (vs5 + (1 : Int)))))
          none)
        none)
      (x1 vs1 vs5 (decide (vs5 < (vs0.length : Int)))))
theorem f106L0_b {R : Type} (n : Nat) (k' : Ex → St → Option R) (vs0 : List MetricT) (vs1 : Int) (vs5 : Int) : ev f106e f106k n (cAt [1,1,1,0,1,0,0] f106c) ⟨[(0, .c (.one (.ro .metric vs0))), (1, .c (.one (.v (.int .i64 vs1)))), (5, .c (.one (.v (.int .i64 vs5))))], [], []⟩ k' =
    (cond (decide (vs5 < (vs0.length : Int)))
    (cond ((decide ((0 : Int) ≤ vs5)) && (decide (vs5 < (vs0.length : Int))))
      (cond (gz_metric (atI (t := .metric) vs0 (Int.toNat vs5)) vs1)
        (cond (decide ((z_metric (atI (t := .metric) vs0 (Int.toNat vs5)) vs1) < (0 : Int)))
          (k' .ret ⟨[(4, .c (.one (.v (.int .i64 (-1 : Int)))))], [], []⟩)
          (k' .normal ⟨[(0, .c (.one (.ro .metric vs0))), (1, .c (.one (.v (.int .i64 (z_metric (atI (t := .metric) vs0 (Int.toNat vs5)) vs1))))), (5, .c (.one (.v (.int .i64 (IntKind.wrap .i64 (vs5 + (1 : Int)))))))], [], []⟩))
        none)
      none)
    (k' (.exit 0) ⟨[(0, .c (.one (.ro .metric vs0))), (1, .c (.one (.v (.int .i64 vs1)))), (5, .c (.one (.v (.int .i64 vs5)))), (15, .c (.one (.v (.bool (decide (vs5 < (vs0.length : Int)))))))], [], []⟩)) := by kernel_rfl
theorem f106L0_eq {R : Type} (n : Nat) (k' : Ex → St → Option R) (vs0 : List MetricT) : ∀ (m : Nat) (vs1 : Int) (vs5 : Int), iter (fun st k => ev f106e f106k n (cAt [1,1,1,0,1,0,0] f106c) st k) m ⟨[(0, .c (.one (.ro .metric vs0))), (1, .c (.one (.v (.int .i64 vs1)))), (5, .c (.one (.v (.int .i64 vs5))))], [], []⟩ k' = f106L0 n (k' .ret ⟨[(4, .c (.one (.v (.int .i64 (-1 : Int)))))], [], []⟩) (fun (xvs1 : Int) (xvs5 : Int) (xvs15 : Bool) => k' (.exit 0) ⟨[(0, .c (.one (.ro .metric vs0))), (1, .c (.one (.v (.int .i64 xvs1)))), (5, .c (.one (.v (.int .i64 xvs5)))), (15, .c (.one (.v (.bool xvs15))))], [], []⟩) vs0 m vs1 vs5 := by
  intro m; induction m with
  | zero => intros; rfl
  | succ m ih =>
    intro vs1 vs5
    simp only [iter]
    rw [f106L0_b]
    simp only [ih, f106L0]

noncomputable def f106K0 {R : Type} (n : Nat) (k' : Ex → St → Option R) : Ex → St → Option R := (blockK 0 (seqK f106e f106k n (cAt [1,1,1,1] f106c) k'))
theorem f106K0_x0 {R : Type} (n : Nat) (k : List Dt → Option R) (a0 : List MetricT) (a1 : Int)  : f106K0 n (exitK f106e [.ro, .ro] [false] true [.tmp 4] [3] [.d (.sl .metric) a0, .d (.i .i64) a1] k) .ret ⟨[(4, .c (.one (.v (.int .i64 (-1 : Int)))))], [], []⟩ =
    (k [.d (.i .i64) (-1 : Int)]) := by kernel_rfl
theorem f106K0_x1 {R : Type} (n : Nat) (k : List Dt → Option R) (a0 : List MetricT) (a1 : Int) (vs0 : List MetricT) (xvs1 : Int) (xvs5 : Int) (xvs15 : Bool) : f106K0 n (exitK f106e [.ro, .ro] [false] true [.tmp 4] [3] [.d (.sl .metric) a0, .d (.i .i64) a1] k) (.exit 0) ⟨[(0, .c (.one (.ro .metric vs0))), (1, .c (.one (.v (.int .i64 xvs1)))), (5, .c (.one (.v (.int .i64 xvs5)))), (15, .c (.one (.v (.bool xvs15))))], [], []⟩ =
    (k [.d (.i .i64) xvs1]) := by kernel_rfl

theorem f106_run {R : Type} (n : Nat) (k : List Dt → Option R) (a0 : List MetricT) (a1 : Int) : evFn f106e f106k n f106c [.ro, .ro] [false] true [.tmp 4] [3] [.d (.sl .metric) a0, .d (.i .i64) a1] k =
    (cond (decide ((IntKind.wrap .i64 (a1 - (a0.length : Int))) < (0 : Int)))
    (k [.d (.i .i64) (-1 : Int)])
    (f106L0 n (k [.d (.i .i64) (-1 : Int)]) (fun (xvs1 : Int) (xvs5 : Int) (xvs15 : Bool) =>
      (k [.d (.i .i64) xvs1])) a0 n (IntKind.wrap .i64 (a1 - (a0.length : Int))) (0 : Int))) := by
  refine Eq.trans (b := (cond (decide ((IntKind.wrap .i64 (a1 - (a0.length : Int))) < (0 : Int)))
    (k [.d (.i .i64) (-1 : Int)])
    (iter (fun st k => ev f106e f106k n (cAt [1,1,1,0,1,0,0] f106c) st k) n ⟨[(0, .c (.one (.ro .metric a0))), (1, .c (.one (.v (.int .i64 (IntKind.wrap .i64 (a1 - (a0.length : Int))))))), (5, .c (.one (.v (.int .i64 (0 : Int)))))], [], []⟩ (f106K0 n (exitK f106e [.ro, .ro] [false] true [.tmp 4] [3] [.d (.sl .metric) a0, .d (.i .i64) a1] k))))) (by kernel_rfl) ?_
  simp only [f106L0_eq, f106K0_x0, f106K0_x1]
theorem f106_spec (a0 : List MetricT) (a1 : Int) (hg : gzL_metric a0 a1 = true) : ∃ keep rounds, ∀ {R : Type} (k : List Dt → Option R), evFn f106e keep rounds f106c [.ro, .ro] [false] true [.tmp 4] [3] [.d (.sl .metric) a0, .d (.i .i64) a1] k = k [.d (.i .i64) (zL_metric a0 a1)] := by
  simp only [gzL_metric, okL, Bool.and_eq_true, okN_iff] at hg
  obtain ⟨⟨hl, hs⟩, hn⟩ := hg
  have hl : a0.length ≤ 9223372036854775807 := bleN hl
  refine ⟨f106k, a0.length + 1, fun k => ?_⟩
  rw [f106_run, wrap_id (x := a1 - (a0.length : Int)) (by omega) (by omega)]
  show _ = k [.d (.i .i64) (zL_metric a0 a1)]
  unfold zL_metric
  have eL : szL szN_metric a0 = a0.length + (a0.map szN_metric).sum := rfl
  by_cases hc : a1 - (a0.length : Int) < 0
  · simp only [hc, decide_true, cond_true]
    rw [szI_neg (by omega)]
  · simp only [hc, decide_false, cond_false]
    refine Eq.trans (loop_fold (xs := a0) (F := fun m j left => f106L0 (a0.length + 1) _ _ a0 m left (j : Int)) (step := szStep szN_metric)
      (out := fun _ => k [.d (.i .i64) (-1 : Int)]) (good := fun left => k [.d (.i .i64) left]) (fun n => 0 ≤ n ∧ n ≤ 1048576)
      (fun x n n' hx hn h => by
        unfold szStep at h
        split at h
        · cases h
        · cases h; omega)
      (fun m j n x hx hn => ?_)
      (fun m n hn => by simp only [f106L0, idxE, cond_false]) a0.length 0 (a0.length + 1) (a1 - (a0.length : Int)) (by omega) (by omega) (by omega)) ?_
    · obtain ⟨h1, h0, hw, ht⟩ := idx (lt_of_get hx) (by omega)
      have hx2 := List.all_eq_true.1 hs x (List.mem_of_getElem? hx)
      have hg2 : gz_metric x n = true := by simp only [gz_metric, Bool.and_eq_true, okN_iff]; exact ⟨hx2, by omega, by omega⟩
      have hz : z_metric x n = szI (szN_metric x) n := rfl
      simp only [f106L0, h1, h0, hw, ht, atI_of (t := .metric) hx, Bool.and_self, cond_true, hg2, hz]
      unfold szStep
      by_cases h : n - (szN_metric x : Int) < 0
      · rw [szI_neg h]; simp only [h, if_true, Sum.elim_inl]; rfl
      · rw [szI_pos h]; simp only [h, decide_false, cond_false, if_false, Sum.elim_inr]
    · rw [List.drop_zero, sz_fold _ _ _ (by omega)]
      by_cases h2 : a1 - (a0.length : Int) - ((a0.map szN_metric).sum : Nat) < 0
      · rw [if_pos h2, szI_neg (by omega)]; rfl
      · rw [if_neg h2, szI_pos (by omega)]
        simp only [Sum.elim_inr]
        rw [show a1 - (a0.length : Int) - ((a0.map szN_metric).sum : Nat) = a1 - (szL szN_metric a0 : Nat) by omega]

noncomputable def q106 : List Dt → Option (Bool × List Dt)
  | [.d (.sl .metric) a0, .d (.i .i64) a1] => some ((gzL_metric a0 a1), [.d (.i .i64) (zL_metric a0 a1)])
  | _ => none
noncomputable def s106 : Gm.Spec := Gm.Spec.of [.ro, .ro] [false] true q106
theorem good106 : Gm.Good Try.prog (106, s106) := by
  have hl : ∀ x ∈ [(113, s113)], Gm.Good Try.prog x := List.forall_mem_cons.2 ⟨good113, List.forall_mem_nil _⟩
  refine ⟨⟨spec_ok (tab_ok.env hl) (tab.natl hl) Try.func106 (by kernel_rfl : Try.f106.body = some f106c) [3] (by kernel_rfl) ?_, _, Try.func106, by kernel_rfl, of_decide_eq_true (by kernel_rfl)⟩, Gm.Spec.of_natl _ _ _ _⟩
  intro ds outs h
  unfold q106 at h
  split at h
  · simp only [Option.some.injEq, Prod.mk.injEq] at h; obtain ⟨hg, h⟩ := h; cases h; exact f106_spec _ _ hg
  · cases h
/-! ### loop.example/g00465/laws.szOrder -/
noncomputable def f94c : Code := (Try.f94.body).getD .skip
def f94k : Nat → Kp := kat [⟨[1, 2], []⟩, ⟨[1, 2], []⟩, ⟨[1, 2, 11], []⟩, ⟨[4], []⟩, ⟨[1, 2], []⟩, ⟨[1, 2, 18], []⟩, ⟨[4], []⟩, ⟨[1, 2], []⟩, ⟨[1, 2, 24], []⟩, ⟨[4], []⟩, ⟨[1], []⟩, ⟨[1, 30], []⟩, ⟨[4], []⟩, ⟨[4], []⟩]
noncomputable def f94e : Env := tab.env [(15, s15), (106, s106)]
theorem f94_run {R : Type} (n : Nat) (k : List Dt → Option R) (a0 : OrderT) (a1 : Int) : evFn f94e f94k n f94c [.ro, .ro] [false] true [.tmp 4] [3] [.d .order a0, .d (.i .i64) a1] k =
    (cond (decide ((IntKind.wrap .i64 (a1 - (ByteArray.size (OrderT.name a0) : Int))) < (0 : Int)))
    (k [.d (.i .i64) (-1 : Int)])
    (cond (decide ((IntKind.wrap .i64 ((IntKind.wrap .i64 (a1 - (ByteArray.size (OrderT.name a0) : Int))) - (ByteArray.size (OrderT.target a0) : Int))) < (0 : Int)))
      (k [.d (.i .i64) (-1 : Int)])
      (cond (gzL_metric (OrderT.metrics a0) (IntKind.wrap .i64 ((IntKind.wrap .i64 (a1 - (ByteArray.size (OrderT.name a0) : Int))) - (ByteArray.size (OrderT.target a0) : Int))))
        (cond (decide ((zL_metric (OrderT.metrics a0) (IntKind.wrap .i64 ((IntKind.wrap .i64 (a1 - (ByteArray.size (OrderT.name a0) : Int))) - (ByteArray.size (OrderT.target a0) : Int)))) < (0 : Int)))
          (k [.d (.i .i64) (-1 : Int)])
          (cond (gzL_note (OrderT.notes a0) (zL_metric (OrderT.metrics a0) (IntKind.wrap .i64 ((IntKind.wrap .i64 (a1 - (ByteArray.size (OrderT.name a0) : Int))) - (ByteArray.size (OrderT.target a0) : Int)))))
            (cond (decide ((zL_note (OrderT.notes a0) (zL_metric (OrderT.metrics a0) (IntKind.wrap .i64 ((IntKind.wrap .i64 (a1 - (ByteArray.size (OrderT.name a0) : Int))) - (ByteArray.size (OrderT.target a0) : Int))))) < (0 : Int)))
              (k [.d (.i .i64) (-1 : Int)])
              (k [.d (.i .i64) (zL_note (OrderT.notes a0) (zL_metric (OrderT.metrics a0) (IntKind.wrap .i64 ((IntKind.wrap .i64 (a1 - (ByteArray.size (OrderT.name a0) : Int))) - (ByteArray.size (OrderT.target a0) : Int)))))]))
            none))
        none))) := by kernel_rfl
theorem f94_spec (a0 : OrderT) (a1 : Int) (hg : gz_order a0 a1 = true) : ∃ keep rounds, ∀ {R : Type} (k : List Dt → Option R), evFn f94e keep rounds f94c [.ro, .ro] [false] true [.tmp 4] [3] [.d .order a0, .d (.i .i64) a1] k = k [.d (.i .i64) (z_order a0 a1)] := by
  simp only [gz_order, ok_order, Bool.and_eq_true, okN_iff] at hg
  obtain ⟨⟨hf_name, hf_target, hf_low, hf_high, hf_metrics, hf_pace, hf_notes⟩, hn1, hn2⟩ := hg
  have hf_nameb : a0.name.size ≤ 9223372036854775807 := bleN hf_name
  have hf_targetb : a0.target.size ≤ 9223372036854775807 := bleN hf_target
  have eN : szN_order a0 = a0.name.size + a0.target.size + szL szN_metric a0.metrics + szN_pace a0.pace + szL szN_note a0.notes := rfl
  refine ⟨f94k, 0, fun k => ?_⟩
  rw [f94_run]
  show _ = k [.d (.i .i64) (z_order a0 a1)]
  unfold z_order
  have e_pace : szN_pace a0.pace = 0 := rfl
  rw [wrap_id (x := a1 - ((a0.name.size : Nat) : Int)) (by omega) (by omega)]
  by_cases h1 : a1 - ((a0.name.size : Nat) : Int) < 0
  · simp only [h1, decide_true, cond_true]; rw [szI_neg (by omega)]
  simp only [h1, decide_false, cond_false]
  rw [wrap_id (x := (a1 - ((a0.name.size : Nat) : Int)) - ((a0.target.size : Nat) : Int)) (by omega) (by omega)]
  by_cases h2 : (a1 - ((a0.name.size : Nat) : Int)) - ((a0.target.size : Nat) : Int) < 0
  · simp only [h2, decide_true, cond_true]; rw [szI_neg (by omega)]
  simp only [h2, decide_false, cond_false]
  have g3 : gzL_metric a0.metrics ((a1 - ((a0.name.size : Nat) : Int)) - ((a0.target.size : Nat) : Int)) = true := by simp only [gzL_metric, Bool.and_eq_true, okN_iff]; exact ⟨hf_metrics, by omega, by omega⟩
  have z4 : zL_metric a0.metrics ((a1 - ((a0.name.size : Nat) : Int)) - ((a0.target.size : Nat) : Int)) = szI (szL szN_metric a0.metrics) ((a1 - ((a0.name.size : Nat) : Int)) - ((a0.target.size : Nat) : Int)) := rfl
  rw [g3, z4]
  by_cases h4 : ((a1 - ((a0.name.size : Nat) : Int)) - ((a0.target.size : Nat) : Int)) - ((szL szN_metric a0.metrics : Nat) : Int) < 0
  · rw [szI_neg h4, szI_neg (by omega)]; rfl
  rw [szI_pos h4]
  simp only [cond_true, h4, decide_false, cond_false]
  have g5 : gzL_note a0.notes (((a1 - ((a0.name.size : Nat) : Int)) - ((a0.target.size : Nat) : Int)) - ((szL szN_metric a0.metrics : Nat) : Int)) = true := by simp only [gzL_note, Bool.and_eq_true, okN_iff]; exact ⟨hf_notes, by omega, by omega⟩
  have z6 : zL_note a0.notes (((a1 - ((a0.name.size : Nat) : Int)) - ((a0.target.size : Nat) : Int)) - ((szL szN_metric a0.metrics : Nat) : Int)) = szI (szL szN_note a0.notes) (((a1 - ((a0.name.size : Nat) : Int)) - ((a0.target.size : Nat) : Int)) - ((szL szN_metric a0.metrics : Nat) : Int)) := rfl
  rw [g5, z6]
  by_cases h6 : (((a1 - ((a0.name.size : Nat) : Int)) - ((a0.target.size : Nat) : Int)) - ((szL szN_metric a0.metrics : Nat) : Int)) - ((szL szN_note a0.notes : Nat) : Int) < 0
  · rw [szI_neg h6, szI_neg (by omega)]; rfl
  rw [szI_pos h6]
  simp only [cond_true, h6, decide_false, cond_false]
  rw [szI_pos (by omega)]
  first
    | rfl
    | rw [show ((((a1 - ((a0.name.size : Nat) : Int)) - ((a0.target.size : Nat) : Int)) - ((szL szN_metric a0.metrics : Nat) : Int)) - ((szL szN_note a0.notes : Nat) : Int)) = a1 - ((szN_order a0 : Nat) : Int) by omega]

noncomputable def q94 : List Dt → Option (Bool × List Dt)
  | [.d .order a0, .d (.i .i64) a1] => some ((gz_order a0 a1), [.d (.i .i64) (z_order a0 a1)])
  | _ => none
noncomputable def s94 : Gm.Spec := Gm.Spec.of [.ro, .ro] [false] true q94
theorem good94 : Gm.Good Try.prog (94, s94) := by
  have hl : ∀ x ∈ [(15, s15), (106, s106)], Gm.Good Try.prog x := List.forall_mem_cons.2 ⟨good15, List.forall_mem_cons.2 ⟨good106, List.forall_mem_nil _⟩⟩
  refine ⟨⟨spec_ok (tab_ok.env hl) (tab.natl hl) Try.func94 (by kernel_rfl : Try.f94.body = some f94c) [3] (by kernel_rfl) ?_, _, Try.func94, by kernel_rfl, of_decide_eq_true (by kernel_rfl)⟩, Gm.Spec.of_natl _ _ _ _⟩
  intro ds outs h
  unfold q94 at h
  split at h
  · simp only [Option.some.injEq, Prod.mk.injEq] at h; obtain ⟨hg, h⟩ := h; cases h; exact f94_spec _ _ hg
  · cases h
/-! ### loop.example/g00465/laws.szItem -/
noncomputable def f81c : Code := (Try.f81.body).getD .skip
def f81k : Nat → Kp := kat [⟨[1, 2], []⟩, ⟨[1], []⟩, ⟨[1, 10], []⟩, ⟨[4], []⟩, ⟨[4], []⟩]
noncomputable def f81e : Env := tab.env [(94, s94)]
theorem f81_run {R : Type} (n : Nat) (k : List Dt → Option R) (a0 : ItemT) (a1 : Int) : evFn f81e f81k n f81c [.ro, .ro] [false] true [.tmp 4] [3] [.d .item a0, .d (.i .i64) a1] k =
    (cond (gz_order (ItemT.order a0) a1)
    (cond (decide ((z_order (ItemT.order a0) a1) < (0 : Int)))
      (k [.d (.i .i64) (-1 : Int)])
      (k [.d (.i .i64) (z_order (ItemT.order a0) a1)]))
    none) := by kernel_rfl
theorem f81_spec (a0 : ItemT) (a1 : Int) (hg : gz_item a0 a1 = true) : ∃ keep rounds, ∀ {R : Type} (k : List Dt → Option R), evFn f81e keep rounds f81c [.ro, .ro] [false] true [.tmp 4] [3] [.d .item a0, .d (.i .i64) a1] k = k [.d (.i .i64) (z_item a0 a1)] := by
  simp only [gz_item, ok_item, Bool.and_eq_true, okN_iff] at hg
  obtain ⟨⟨hf_order, hf_ver⟩, hn1, hn2⟩ := hg
  have eN : szN_item a0 = szN_order a0.order := rfl
  refine ⟨f81k, 0, fun k => ?_⟩
  rw [f81_run]
  show _ = k [.d (.i .i64) (z_item a0 a1)]
  unfold z_item
  have g1 : gz_order a0.order a1 = true := by simp only [gz_order, Bool.and_eq_true, okN_iff]; exact ⟨hf_order, by omega, by omega⟩
  have z2 : z_order a0.order a1 = szI (szN_order a0.order) a1 := rfl
  rw [g1, z2]
  by_cases h2 : a1 - ((szN_order a0.order : Nat) : Int) < 0
  · rw [szI_neg h2, szI_neg (by omega)]; rfl
  rw [szI_pos h2]
  simp only [cond_true, h2, decide_false, cond_false]
  rw [szI_pos (by omega)]
  first
    | rfl
    | rw [show (a1 - ((szN_order a0.order : Nat) : Int)) = a1 - ((szN_item a0 : Nat) : Int) by omega]

noncomputable def q81 : List Dt → Option (Bool × List Dt)
  | [.d .item a0, .d (.i .i64) a1] => some ((gz_item a0 a1), [.d (.i .i64) (z_item a0 a1)])
  | _ => none
noncomputable def s81 : Gm.Spec := Gm.Spec.of [.ro, .ro] [false] true q81
theorem good81 : Gm.Good Try.prog (81, s81) := by
  have hl : ∀ x ∈ [(94, s94)], Gm.Good Try.prog x := List.forall_mem_cons.2 ⟨good94, List.forall_mem_nil _⟩
  refine ⟨⟨spec_ok (tab_ok.env hl) (tab.natl hl) Try.func81 (by kernel_rfl : Try.f81.body = some f81c) [3] (by kernel_rfl) ?_, _, Try.func81, by kernel_rfl, of_decide_eq_true (by kernel_rfl)⟩, Gm.Spec.of_natl _ _ _ _⟩
  intro ds outs h
  unfold q81 at h
  split at h
  · simp only [Option.some.injEq, Prod.mk.injEq] at h; obtain ⟨hg, h⟩ := h; cases h; exact f81_spec _ _ hg
  · cases h
/-! ### loop.example/g00465/laws.szItemS -/
noncomputable def f61c : Code := (Try.f61.body).getD .skip
def f61k : Nat → Kp := kat [⟨[0, 1], []⟩, ⟨[0, 1], []⟩, ⟨[0, 1, 11], []⟩, ⟨[4], []⟩, ⟨[0, 1, 5], []⟩, ⟨[0, 1, 5, 15], []⟩, ⟨[0, 1, 5], []⟩, ⟨[0, 1, 5], []⟩, ⟨[0, 1, 5, 25], []⟩, ⟨[4], []⟩, ⟨[4], []⟩]
noncomputable def f61e : Env := tab.env [(81, s81)]
noncomputable def f61L0 {R : Type} (n : Nat) (x0 : Option R) (x1 : Int → Int → Bool → Option R) (vs0 : List ItemT) : Nat → Int → Int → Option R
  | 0, _, _ => none
  | m + 1, vs1, vs5 =>
    (cond (decide (vs5 < (vs0.length : Int)))
      (cond ((decide ((0 : Int) ≤ vs5)) && (decide (vs5 < (vs0.length : Int))))
        (cond (gz_item (atI (t := .item) vs0 (Int.toNat vs5)) vs1)
          (cond (decide ((z_item (atI (t := .item) vs0 (Int.toNat vs5)) vs1) < (0 : Int)))
            (x0)
            (f61L0 n x0 x1 vs0 m (z_item (atI (t := .item) vs0 (Int.toNat vs5)) vs1) (IntKind.wrap .i64 (vs5 + (1 : Int)))))
          none)
        none)
      (x1 vs1 vs5 (decide (vs5 < (vs0.length : Int)))))
theorem f61L0_b {R : Type} (n : Nat) (k' : Ex → St → Option R) (vs0 : List ItemT) (vs1 : Int) (vs5 : Int) : ev f61e f61k n (cAt [1,1,1,0,1,0,0] f61c) ⟨[(0, .c (.one (.ro .item vs0))), (1, .c (.one (.v (.int .i64 vs1)))), (5, .c (.one (.v (.int .i64 vs5))))], [], []⟩ k' =
    (cond (decide (vs5 < (vs0.length : Int)))
    (cond ((decide ((0 : Int) ≤ vs5)) && (decide (vs5 < (vs0.length : Int))))
      (cond (gz_item (atI (t := .item) vs0 (Int.toNat vs5)) vs1)
        (cond (decide ((z_item (atI (t := .item) vs0 (Int.toNat vs5)) vs1) < (0 : Int)))
          (k' .ret ⟨[(4, .c (.one (.v (.int .i64 (-1 : Int)))))], [], []⟩)
          (k' .normal ⟨[(0, .c (.one (.ro .item vs0))), (1, .c (.one (.v (.int .i64 (z_item (atI (t := .item) vs0 (Int.toNat vs5)) vs1))))), (5, .c (.one (.v (.int .i64 (IntKind.wrap .i64 (vs5 + (1 : Int)))))))], [], []⟩))
        none)
      none)
    (k' (.exit 0) ⟨[(0, .c (.one (.ro .item vs0))), (1, .c (.one (.v (.int .i64 vs1)))), (5, .c (.one (.v (.int .i64 vs5)))), (15, .c (.one (.v (.bool (decide (vs5 < (vs0.length : Int)))))))], [], []⟩)) := by kernel_rfl
theorem f61L0_eq {R : Type} (n : Nat) (k' : Ex → St → Option R) (vs0 : List ItemT) : ∀ (m : Nat) (vs1 : Int) (vs5 : Int), iter (fun st k => ev f61e f61k n (cAt [1,1,1,0,1,0,0] f61c) st k) m ⟨[(0, .c (.one (.ro .item vs0))), (1, .c (.one (.v (.int .i64 vs1)))), (5, .c (.one (.v (.int .i64 vs5))))], [], []⟩ k' = f61L0 n (k' .ret ⟨[(4, .c (.one (.v (.int .i64 (-1 : Int)))))], [], []⟩) (fun (xvs1 : Int) (xvs5 : Int) (xvs15 : Bool) => k' (.exit 0) ⟨[(0, .c (.one (.ro .item vs0))), (1, .c (.one (.v (.int .i64 xvs1)))), (5, .c (.one (.v (.int .i64 xvs5)))), (15, .c (.one (.v (.bool xvs15))))], [], []⟩) vs0 m vs1 vs5 := by
  intro m; induction m with
  | zero => intros; rfl
  | succ m ih =>
    intro vs1 vs5
    simp only [iter]
    rw [f61L0_b]
    simp only [ih, f61L0]

noncomputable def f61K0 {R : Type} (n : Nat) (k' : Ex → St → Option R) : Ex → St → Option R := (blockK 0 (seqK f61e f61k n (cAt [1,1,1,1] f61c) k'))
theorem f61K0_x0 {R : Type} (n : Nat) (k : List Dt → Option R) (a0 : List ItemT) (a1 : Int)  : f61K0 n (exitK f61e [.ro, .ro] [false] true [.tmp 4] [3] [.d (.sl .item) a0, .d (.i .i64) a1] k) .ret ⟨[(4, .c (.one (.v (.int .i64 (-1 : Int)))))], [], []⟩ =
    (k [.d (.i .i64) (-1 : Int)]) := by kernel_rfl
theorem f61K0_x1 {R : Type} (n : Nat) (k : List Dt → Option R) (a0 : List ItemT) (a1 : Int) (vs0 : List ItemT) (xvs1 : Int) (xvs5 : Int) (xvs15 : Bool) : f61K0 n (exitK f61e [.ro, .ro] [false] true [.tmp 4] [3] [.d (.sl .item) a0, .d (.i .i64) a1] k) (.exit 0) ⟨[(0, .c (.one (.ro .item vs0))), (1, .c (.one (.v (.int .i64 xvs1)))), (5, .c (.one (.v (.int .i64 xvs5)))), (15, .c (.one (.v (.bool xvs15))))], [], []⟩ =
    (k [.d (.i .i64) xvs1]) := by kernel_rfl

theorem f61_run {R : Type} (n : Nat) (k : List Dt → Option R) (a0 : List ItemT) (a1 : Int) : evFn f61e f61k n f61c [.ro, .ro] [false] true [.tmp 4] [3] [.d (.sl .item) a0, .d (.i .i64) a1] k =
    (cond (decide ((IntKind.wrap .i64 (a1 - (a0.length : Int))) < (0 : Int)))
    (k [.d (.i .i64) (-1 : Int)])
    (f61L0 n (k [.d (.i .i64) (-1 : Int)]) (fun (xvs1 : Int) (xvs5 : Int) (xvs15 : Bool) =>
      (k [.d (.i .i64) xvs1])) a0 n (IntKind.wrap .i64 (a1 - (a0.length : Int))) (0 : Int))) := by
  refine Eq.trans (b := (cond (decide ((IntKind.wrap .i64 (a1 - (a0.length : Int))) < (0 : Int)))
    (k [.d (.i .i64) (-1 : Int)])
    (iter (fun st k => ev f61e f61k n (cAt [1,1,1,0,1,0,0] f61c) st k) n ⟨[(0, .c (.one (.ro .item a0))), (1, .c (.one (.v (.int .i64 (IntKind.wrap .i64 (a1 - (a0.length : Int))))))), (5, .c (.one (.v (.int .i64 (0 : Int)))))], [], []⟩ (f61K0 n (exitK f61e [.ro, .ro] [false] true [.tmp 4] [3] [.d (.sl .item) a0, .d (.i .i64) a1] k))))) (by kernel_rfl) ?_
  simp only [f61L0_eq, f61K0_x0, f61K0_x1]
theorem f61_spec (a0 : List ItemT) (a1 : Int) (hg : gzL_item a0 a1 = true) : ∃ keep rounds, ∀ {R : Type} (k : List Dt → Option R), evFn f61e keep rounds f61c [.ro, .ro] [false] true [.tmp 4] [3] [.d (.sl .item) a0, .d (.i .i64) a1] k = k [.d (.i .i64) (zL_item a0 a1)] := by
  simp only [gzL_item, okL, Bool.and_eq_true, okN_iff] at hg
  obtain ⟨⟨hl, hs⟩, hn⟩ := hg
  have hl : a0.length ≤ 9223372036854775807 := bleN hl
  refine ⟨f61k, a0.length + 1, fun k => ?_⟩
  rw [f61_run, wrap_id (x := a1 - (a0.length : Int)) (by omega) (by omega)]
  show _ = k [.d (.i .i64) (zL_item a0 a1)]
  unfold zL_item
  have eL : szL szN_item a0 = a0.length + (a0.map szN_item).sum := rfl
  by_cases hc : a1 - (a0.length : Int) < 0
  · simp only [hc, decide_true, cond_true]
    rw [szI_neg (by omega)]
  · simp only [hc, decide_false, cond_false]
    refine Eq.trans (loop_fold (xs := a0) (F := fun m j left => f61L0 (a0.length + 1) _ _ a0 m left (j : Int)) (step := szStep szN_item)
      (out := fun _ => k [.d (.i .i64) (-1 : Int)]) (good := fun left => k [.d (.i .i64) left]) (fun n => 0 ≤ n ∧ n ≤ 1048576)
      (fun x n n' hx hn h => by
        unfold szStep at h
        split at h
        · cases h
        · cases h; omega)
      (fun m j n x hx hn => ?_)
      (fun m n hn => by simp only [f61L0, idxE, cond_false]) a0.length 0 (a0.length + 1) (a1 - (a0.length : Int)) (by omega) (by omega) (by omega)) ?_
    · obtain ⟨h1, h0, hw, ht⟩ := idx (lt_of_get hx) (by omega)
      have hx2 := List.all_eq_true.1 hs x (List.mem_of_getElem? hx)
      have hg2 : gz_item x n = true := by simp only [gz_item, Bool.and_eq_true, okN_iff]; exact ⟨hx2, by omega, by omega⟩
      have hz : z_item x n = szI (szN_item x) n := rfl
      simp only [f61L0, h1, h0, hw, ht, atI_of (t := .item) hx, Bool.and_self, cond_true, hg2, hz]
      unfold szStep
      by_cases h : n - (szN_item x : Int) < 0
      · rw [szI_neg h]; simp only [h, if_true, Sum.elim_inl]; rfl
      · rw [szI_pos h]; simp only [h, decide_false, cond_false, if_false, Sum.elim_inr]
    · rw [List.drop_zero, sz_fold _ _ _ (by omega)]
      by_cases h2 : a1 - (a0.length : Int) - ((a0.map szN_item).sum : Nat) < 0
      · rw [if_pos h2, szI_neg (by omega)]; rfl
      · rw [if_neg h2, szI_pos (by omega)]
        simp only [Sum.elim_inr]
        rw [show a1 - (a0.length : Int) - ((a0.map szN_item).sum : Nat) = a1 - (szL szN_item a0 : Nat) by omega]

noncomputable def q61 : List Dt → Option (Bool × List Dt)
  | [.d (.sl .item) a0, .d (.i .i64) a1] => some ((gzL_item a0 a1), [.d (.i .i64) (zL_item a0 a1)])
  | _ => none
noncomputable def s61 : Gm.Spec := Gm.Spec.of [.ro, .ro] [false] true q61
theorem good61 : Gm.Good Try.prog (61, s61) := by
  have hl : ∀ x ∈ [(81, s81)], Gm.Good Try.prog x := List.forall_mem_cons.2 ⟨good81, List.forall_mem_nil _⟩
  refine ⟨⟨spec_ok (tab_ok.env hl) (tab.natl hl) Try.func61 (by kernel_rfl : Try.f61.body = some f61c) [3] (by kernel_rfl) ?_, _, Try.func61, by kernel_rfl, of_decide_eq_true (by kernel_rfl)⟩, Gm.Spec.of_natl _ _ _ _⟩
  intro ds outs h
  unfold q61 at h
  split at h
  · simp only [Option.some.injEq, Prod.mk.injEq] at h; obtain ⟨hg, h⟩ := h; cases h; exact f61_spec _ _ hg
  · cases h
/-! ### loop.example/g00465/laws.szStore -/
noncomputable def f26c : Code := (Try.f26.body).getD .skip
def f26k : Nat → Kp := kat [⟨[1, 2], []⟩, ⟨[1], []⟩, ⟨[1, 10], []⟩, ⟨[4], []⟩, ⟨[4], []⟩]
noncomputable def f26e : Env := tab.env [(61, s61)]
theorem f26_run {R : Type} (n : Nat) (k : List Dt → Option R) (a0 : StoreT) (a1 : Int) : evFn f26e f26k n f26c [.ro, .ro] [false] true [.tmp 4] [3] [.d .store a0, .d (.i .i64) a1] k =
    (cond (gzL_item (StoreT.items a0) a1)
    (cond (decide ((zL_item (StoreT.items a0) a1) < (0 : Int)))
      (k [.d (.i .i64) (-1 : Int)])
      (k [.d (.i .i64) (zL_item (StoreT.items a0) a1)]))
    none) := by kernel_rfl
theorem f26_spec (a0 : StoreT) (a1 : Int) (hg : gz_store a0 a1 = true) : ∃ keep rounds, ∀ {R : Type} (k : List Dt → Option R), evFn f26e keep rounds f26c [.ro, .ro] [false] true [.tmp 4] [3] [.d .store a0, .d (.i .i64) a1] k = k [.d (.i .i64) (z_store a0 a1)] := by
  simp only [gz_store, ok_store, Bool.and_eq_true, okN_iff] at hg
  obtain ⟨⟨hf_items, hf_next⟩, hn1, hn2⟩ := hg
  have eN : szN_store a0 = szL szN_item a0.items := rfl
  refine ⟨f26k, 0, fun k => ?_⟩
  rw [f26_run]
  show _ = k [.d (.i .i64) (z_store a0 a1)]
  unfold z_store
  have g1 : gzL_item a0.items a1 = true := by simp only [gzL_item, Bool.and_eq_true, okN_iff]; exact ⟨hf_items, by omega, by omega⟩
  have z2 : zL_item a0.items a1 = szI (szL szN_item a0.items) a1 := rfl
  rw [g1, z2]
  by_cases h2 : a1 - ((szL szN_item a0.items : Nat) : Int) < 0
  · rw [szI_neg h2, szI_neg (by omega)]; rfl
  rw [szI_pos h2]
  simp only [cond_true, h2, decide_false, cond_false]
  rw [szI_pos (by omega)]
  first
    | rfl
    | rw [show (a1 - ((szL szN_item a0.items : Nat) : Int)) = a1 - ((szN_store a0 : Nat) : Int) by omega]

noncomputable def q26 : List Dt → Option (Bool × List Dt)
  | [.d .store a0, .d (.i .i64) a1] => some ((gz_store a0 a1), [.d (.i .i64) (z_store a0 a1)])
  | _ => none
noncomputable def s26 : Gm.Spec := Gm.Spec.of [.ro, .ro] [false] true q26
theorem good26 : Gm.Good Try.prog (26, s26) := by
  have hl : ∀ x ∈ [(61, s61)], Gm.Good Try.prog x := List.forall_mem_cons.2 ⟨good61, List.forall_mem_nil _⟩
  refine ⟨⟨spec_ok (tab_ok.env hl) (tab.natl hl) Try.func26 (by kernel_rfl : Try.f26.body = some f26c) [3] (by kernel_rfl) ?_, _, Try.func26, by kernel_rfl, of_decide_eq_true (by kernel_rfl)⟩, Gm.Spec.of_natl _ _ _ _⟩
  intro ds outs h
  unfold q26 at h
  split at h
  · simp only [Option.some.injEq, Prod.mk.injEq] at h; obtain ⟨hg, h⟩ := h; cases h; exact f26_spec _ _ hg
  · cases h
/-! ### loop.example/g00465/laws.szPickS -/
noncomputable def f27c : Code := (Try.f27.body).getD .skip
def f27k : Nat → Kp := kat [⟨[0, 1], []⟩, ⟨[0, 1], []⟩, ⟨[0, 1, 11], []⟩, ⟨[4], []⟩, ⟨[0, 1, 5], []⟩, ⟨[0, 1, 5, 15], []⟩, ⟨[0, 1, 5], []⟩, ⟨[0, 1, 5], []⟩, ⟨[0, 1, 5, 25], []⟩, ⟨[4], []⟩, ⟨[4], []⟩]
noncomputable def f27e : Env := tab.env [(8, s8)]
noncomputable def f27L0 {R : Type} (n : Nat) (x0 : Option R) (x1 : Int → Int → Bool → Option R) (vs0 : List PickT) : Nat → Int → Int → Option R
  | 0, _, _ => none
  | m + 1, vs1, vs5 =>
    (cond (decide (vs5 < (vs0.length : Int)))
      (cond ((decide ((0 : Int) ≤ vs5)) && (decide (vs5 < (vs0.length : Int))))
        (cond (gz_pick (atI (t := .pick) vs0 (Int.toNat vs5)) vs1)
          (cond (decide ((z_pick (atI (t := .pick) vs0 (Int.toNat vs5)) vs1) < (0 : Int)))
            (x0)
            (f27L0 n x0 x1 vs0 m (z_pick (atI (t := .pick) vs0 (Int.toNat vs5)) vs1) (IntKind.wrap .i64 (vs5 + (1 : Int)))))
          none)
        none)
      (x1 vs1 vs5 (decide (vs5 < (vs0.length : Int)))))
theorem f27L0_b {R : Type} (n : Nat) (k' : Ex → St → Option R) (vs0 : List PickT) (vs1 : Int) (vs5 : Int) : ev f27e f27k n (cAt [1,1,1,0,1,0,0] f27c) ⟨[(0, .c (.one (.ro .pick vs0))), (1, .c (.one (.v (.int .i64 vs1)))), (5, .c (.one (.v (.int .i64 vs5))))], [], []⟩ k' =
    (cond (decide (vs5 < (vs0.length : Int)))
    (cond ((decide ((0 : Int) ≤ vs5)) && (decide (vs5 < (vs0.length : Int))))
      (cond (gz_pick (atI (t := .pick) vs0 (Int.toNat vs5)) vs1)
        (cond (decide ((z_pick (atI (t := .pick) vs0 (Int.toNat vs5)) vs1) < (0 : Int)))
          (k' .ret ⟨[(4, .c (.one (.v (.int .i64 (-1 : Int)))))], [], []⟩)
          (k' .normal ⟨[(0, .c (.one (.ro .pick vs0))), (1, .c (.one (.v (.int .i64 (z_pick (atI (t := .pick) vs0 (Int.toNat vs5)) vs1))))), (5, .c (.one (.v (.int .i64 (IntKind.wrap .i64 (vs5 + (1 : Int)))))))], [], []⟩))
        none)
      none)
    (k' (.exit 0) ⟨[(0, .c (.one (.ro .pick vs0))), (1, .c (.one (.v (.int .i64 vs1)))), (5, .c (.one (.v (.int .i64 vs5)))), (15, .c (.one (.v (.bool (decide (vs5 < (vs0.length : Int)))))))], [], []⟩)) := by kernel_rfl
theorem f27L0_eq {R : Type} (n : Nat) (k' : Ex → St → Option R) (vs0 : List PickT) : ∀ (m : Nat) (vs1 : Int) (vs5 : Int), iter (fun st k => ev f27e f27k n (cAt [1,1,1,0,1,0,0] f27c) st k) m ⟨[(0, .c (.one (.ro .pick vs0))), (1, .c (.one (.v (.int .i64 vs1)))), (5, .c (.one (.v (.int .i64 vs5))))], [], []⟩ k' = f27L0 n (k' .ret ⟨[(4, .c (.one (.v (.int .i64 (-1 : Int)))))], [], []⟩) (fun (xvs1 : Int) (xvs5 : Int) (xvs15 : Bool) => k' (.exit 0) ⟨[(0, .c (.one (.ro .pick vs0))), (1, .c (.one (.v (.int .i64 xvs1)))), (5, .c (.one (.v (.int .i64 xvs5)))), (15, .c (.one (.v (.bool xvs15))))], [], []⟩) vs0 m vs1 vs5 := by
  intro m; induction m with
  | zero => intros; rfl
  | succ m ih =>
    intro vs1 vs5
    simp only [iter]
    rw [f27L0_b]
    simp only [ih, f27L0]

noncomputable def f27K0 {R : Type} (n : Nat) (k' : Ex → St → Option R) : Ex → St → Option R := (blockK 0 (seqK f27e f27k n (cAt [1,1,1,1] f27c) k'))
theorem f27K0_x0 {R : Type} (n : Nat) (k : List Dt → Option R) (a0 : List PickT) (a1 : Int)  : f27K0 n (exitK f27e [.ro, .ro] [false] true [.tmp 4] [3] [.d (.sl .pick) a0, .d (.i .i64) a1] k) .ret ⟨[(4, .c (.one (.v (.int .i64 (-1 : Int)))))], [], []⟩ =
    (k [.d (.i .i64) (-1 : Int)]) := by kernel_rfl
theorem f27K0_x1 {R : Type} (n : Nat) (k : List Dt → Option R) (a0 : List PickT) (a1 : Int) (vs0 : List PickT) (xvs1 : Int) (xvs5 : Int) (xvs15 : Bool) : f27K0 n (exitK f27e [.ro, .ro] [false] true [.tmp 4] [3] [.d (.sl .pick) a0, .d (.i .i64) a1] k) (.exit 0) ⟨[(0, .c (.one (.ro .pick vs0))), (1, .c (.one (.v (.int .i64 xvs1)))), (5, .c (.one (.v (.int .i64 xvs5)))), (15, .c (.one (.v (.bool xvs15))))], [], []⟩ =
    (k [.d (.i .i64) xvs1]) := by kernel_rfl

theorem f27_run {R : Type} (n : Nat) (k : List Dt → Option R) (a0 : List PickT) (a1 : Int) : evFn f27e f27k n f27c [.ro, .ro] [false] true [.tmp 4] [3] [.d (.sl .pick) a0, .d (.i .i64) a1] k =
    (cond (decide ((IntKind.wrap .i64 (a1 - (a0.length : Int))) < (0 : Int)))
    (k [.d (.i .i64) (-1 : Int)])
    (f27L0 n (k [.d (.i .i64) (-1 : Int)]) (fun (xvs1 : Int) (xvs5 : Int) (xvs15 : Bool) =>
      (k [.d (.i .i64) xvs1])) a0 n (IntKind.wrap .i64 (a1 - (a0.length : Int))) (0 : Int))) := by
  refine Eq.trans (b := (cond (decide ((IntKind.wrap .i64 (a1 - (a0.length : Int))) < (0 : Int)))
    (k [.d (.i .i64) (-1 : Int)])
    (iter (fun st k => ev f27e f27k n (cAt [1,1,1,0,1,0,0] f27c) st k) n ⟨[(0, .c (.one (.ro .pick a0))), (1, .c (.one (.v (.int .i64 (IntKind.wrap .i64 (a1 - (a0.length : Int))))))), (5, .c (.one (.v (.int .i64 (0 : Int)))))], [], []⟩ (f27K0 n (exitK f27e [.ro, .ro] [false] true [.tmp 4] [3] [.d (.sl .pick) a0, .d (.i .i64) a1] k))))) (by kernel_rfl) ?_
  simp only [f27L0_eq, f27K0_x0, f27K0_x1]
theorem f27_spec (a0 : List PickT) (a1 : Int) (hg : gzL_pick a0 a1 = true) : ∃ keep rounds, ∀ {R : Type} (k : List Dt → Option R), evFn f27e keep rounds f27c [.ro, .ro] [false] true [.tmp 4] [3] [.d (.sl .pick) a0, .d (.i .i64) a1] k = k [.d (.i .i64) (zL_pick a0 a1)] := by
  simp only [gzL_pick, okL, Bool.and_eq_true, okN_iff] at hg
  obtain ⟨⟨hl, hs⟩, hn⟩ := hg
  have hl : a0.length ≤ 9223372036854775807 := bleN hl
  refine ⟨f27k, a0.length + 1, fun k => ?_⟩
  rw [f27_run, wrap_id (x := a1 - (a0.length : Int)) (by omega) (by omega)]
  show _ = k [.d (.i .i64) (zL_pick a0 a1)]
  unfold zL_pick
  have eL : szL szN_pick a0 = a0.length + (a0.map szN_pick).sum := rfl
  by_cases hc : a1 - (a0.length : Int) < 0
  · simp only [hc, decide_true, cond_true]
    rw [szI_neg (by omega)]
  · simp only [hc, decide_false, cond_false]
    refine Eq.trans (loop_fold (xs := a0) (F := fun m j left => f27L0 (a0.length + 1) _ _ a0 m left (j : Int)) (step := szStep szN_pick)
      (out := fun _ => k [.d (.i .i64) (-1 : Int)]) (good := fun left => k [.d (.i .i64) left]) (fun n => 0 ≤ n ∧ n ≤ 1048576)
      (fun x n n' hx hn h => by
        unfold szStep at h
        split at h
        · cases h
        · cases h; omega)
      (fun m j n x hx hn => ?_)
      (fun m n hn => by simp only [f27L0, idxE, cond_false]) a0.length 0 (a0.length + 1) (a1 - (a0.length : Int)) (by omega) (by omega) (by omega)) ?_
    · obtain ⟨h1, h0, hw, ht⟩ := idx (lt_of_get hx) (by omega)
      have hx2 := List.all_eq_true.1 hs x (List.mem_of_getElem? hx)
      have hg2 : gz_pick x n = true := by simp only [gz_pick, Bool.and_eq_true, okN_iff]; exact ⟨hx2, by omega, by omega⟩
      have hz : z_pick x n = szI (szN_pick x) n := rfl
      simp only [f27L0, h1, h0, hw, ht, atI_of (t := .pick) hx, Bool.and_self, cond_true, hg2, hz]
      unfold szStep
      by_cases h : n - (szN_pick x : Int) < 0
      · rw [szI_neg h]; simp only [h, if_true, Sum.elim_inl]; rfl
      · rw [szI_pos h]; simp only [h, decide_false, cond_false, if_false, Sum.elim_inr]
    · rw [List.drop_zero, sz_fold _ _ _ (by omega)]
      by_cases h2 : a1 - (a0.length : Int) - ((a0.map szN_pick).sum : Nat) < 0
      · rw [if_pos h2, szI_neg (by omega)]; rfl
      · rw [if_neg h2, szI_pos (by omega)]
        simp only [Sum.elim_inr]
        rw [show a1 - (a0.length : Int) - ((a0.map szN_pick).sum : Nat) = a1 - (szL szN_pick a0 : Nat) by omega]

noncomputable def q27 : List Dt → Option (Bool × List Dt)
  | [.d (.sl .pick) a0, .d (.i .i64) a1] => some ((gzL_pick a0 a1), [.d (.i .i64) (zL_pick a0 a1)])
  | _ => none
noncomputable def s27 : Gm.Spec := Gm.Spec.of [.ro, .ro] [false] true q27
theorem good27 : Gm.Good Try.prog (27, s27) := by
  have hl : ∀ x ∈ [(8, s8)], Gm.Good Try.prog x := List.forall_mem_cons.2 ⟨good8, List.forall_mem_nil _⟩
  refine ⟨⟨spec_ok (tab_ok.env hl) (tab.natl hl) Try.func27 (by kernel_rfl : Try.f27.body = some f27c) [3] (by kernel_rfl) ?_, _, Try.func27, by kernel_rfl, of_decide_eq_true (by kernel_rfl)⟩, Gm.Spec.of_natl _ _ _ _⟩
  intro ds outs h
  unfold q27 at h
  split at h
  · simp only [Option.some.injEq, Prod.mk.injEq] at h; obtain ⟨hg, h⟩ := h; cases h; exact f27_spec _ _ hg
  · cases h
/-! ### loop.example/g00465/laws.toMetric -/
noncomputable def f114c : Code := (Try.f114.body).getD .skip
def f114k : Nat → Kp := kat [⟨[1, 2], []⟩, ⟨[1, 2, 3], []⟩, ⟨[1, 2, 3], []⟩, ⟨[1, 2, 3], []⟩, ⟨[2, 3], []⟩, ⟨[2], []⟩]
noncomputable def f114e : Env := tab.env []
theorem f114_run {R : Type} (n : Nat) (k : List Dt → Option R) (a0 : MetricT) : evFn f114e f114k n f114c [.ro] [false] true [.cell 2 135] [135] [.d .metric a0] k =
    (k [.d .metric a0]) := by kernel_rfl
theorem f114_spec (a0 : MetricT) (hg : sm_metric a0 = true) : ∃ keep rounds, ∀ {R : Type} (k : List Dt → Option R), evFn f114e keep rounds f114c [.ro] [false] true [.cell 2 135] [135] [.d .metric a0] k = k [.d .metric a0] := by
  exact ⟨f114k, 0, fun k => f114_run 0 k a0⟩

noncomputable def q114 : List Dt → Option (Bool × List Dt)
  | [.d .metric a0] => some ((sm_metric a0), [.d .metric a0])
  | _ => none
noncomputable def s114 : Gm.Spec := Gm.Spec.of [.ro] [false] true q114
theorem good114 : Gm.Good Try.prog (114, s114) := by
  have hl : ∀ x ∈ ([] : List (Nat × Gm.Spec)), Gm.Good Try.prog x := fun _ h => by cases h
  refine ⟨⟨spec_ok (tab_ok.env hl) (tab.natl hl) Try.func114 (by kernel_rfl : Try.f114.body = some f114c) [135] (by kernel_rfl) ?_, _, Try.func114, by kernel_rfl, of_decide_eq_true (by kernel_rfl)⟩, Gm.Spec.of_natl _ _ _ _⟩
  intro ds outs h
  unfold q114 at h
  split at h
  · simp only [Option.some.injEq, Prod.mk.injEq] at h; obtain ⟨hg, h⟩ := h; cases h; exact f114_spec _ hg
  · cases h
/-! ### loop.example/g00465/laws.toMetricS -/
noncomputable def f107c : Code := (Try.f107.body).getD .skip
def f107k : Nat → Kp := kat [⟨[0], []⟩, ⟨[0, 3], []⟩, ⟨[0, 3, 4], []⟩, ⟨[0, 3, 4, 11], []⟩, ⟨[0, 3, 4], []⟩, ⟨[0, 3, 4], []⟩, ⟨[2], []⟩]
noncomputable def f107e : Env := tab.env [(114, s114)]
noncomputable def f107L0 {R : Type} (n : Nat) (x0 : Int → Bool → (List MetricT) → Option R) (vs0 : List MetricT) : Nat → Int → (List MetricT) → Option R
  | 0, _, _ => none
  | m + 1, vs4, vr448 =>
    (cond (decide (vs4 < (vs0.length : Int)))
      (cond ((decide ((0 : Int) ≤ vs4)) && (decide (vs4 < (vs0.length : Int))))
        (cond (sm_metric (atI (t := .metric) vs0 (Int.toNat vs4)))
          (cond ((decide ((0 : Int) ≤ vs4)) && (decide (vs4 < (vr448.length : Int))))
            (f107L0 n x0 vs0 m (IntKind.wrap .i64 (vs4 + (1 : Int))) (vr448.set (Int.toNat vs4) (atI (t := .metric) vs0 (Int.toNat vs4))))
            none)
          none)
        none)
      (x0 vs4 (decide (vs4 < (vs0.length : Int))) vr448))
theorem f107L0_b {R : Type} (n : Nat) (k' : Ex → St → Option R) (vs0 : List MetricT) (vs4 : Int) (vr448 : List MetricT) : ev f107e f107k n (cAt [1,1,0,1,0,0] f107c) ⟨[(0, .c (.one (.ro .metric vs0))), (3, .c (.one (.h 448 0 0 []))), (4, .c (.one (.v (.int .i64 vs4))))], [], [(448, .live ⟨.metric, .deep, 0, [], vr448⟩)]⟩ k' =
    (cond (decide (vs4 < (vs0.length : Int)))
    (cond ((decide ((0 : Int) ≤ vs4)) && (decide (vs4 < (vs0.length : Int))))
      (cond (sm_metric (atI (t := .metric) vs0 (Int.toNat vs4)))
        (cond ((decide ((0 : Int) ≤ vs4)) && (decide (vs4 < (vr448.length : Int))))
          (k' .normal ⟨[(0, .c (.one (.ro .metric vs0))), (3, .c (.one (.h 448 0 0 []))), (4, .c (.one (.v (.int .i64 (IntKind.wrap .i64 (vs4 + (1 : Int)))))))], [], [(448, .live ⟨.metric, .deep, 0, [], (vr448.set (Int.toNat vs4) (atI (t := .metric) vs0 (Int.toNat vs4)))⟩)]⟩)
          none)
        none)
      none)
    (k' (.exit 0) ⟨[(0, .c (.one (.ro .metric vs0))), (3, .c (.one (.h 448 0 0 []))), (4, .c (.one (.v (.int .i64 vs4)))), (11, .c (.one (.v (.bool (decide (vs4 < (vs0.length : Int)))))))], [], [(448, .live ⟨.metric, .deep, 0, [], vr448⟩)]⟩)) := by kernel_rfl
theorem f107L0_eq {R : Type} (n : Nat) (k' : Ex → St → Option R) (vs0 : List MetricT) : ∀ (m : Nat) (vs4 : Int) (vr448 : List MetricT), iter (fun st k => ev f107e f107k n (cAt [1,1,0,1,0,0] f107c) st k) m ⟨[(0, .c (.one (.ro .metric vs0))), (3, .c (.one (.h 448 0 0 []))), (4, .c (.one (.v (.int .i64 vs4))))], [], [(448, .live ⟨.metric, .deep, 0, [], vr448⟩)]⟩ k' = f107L0 n (fun (xvs4 : Int) (xvs11 : Bool) (xvr448 : List MetricT) => k' (.exit 0) ⟨[(0, .c (.one (.ro .metric vs0))), (3, .c (.one (.h 448 0 0 []))), (4, .c (.one (.v (.int .i64 xvs4)))), (11, .c (.one (.v (.bool xvs11))))], [], [(448, .live ⟨.metric, .deep, 0, [], xvr448⟩)]⟩) vs0 m vs4 vr448 := by
  intro m; induction m with
  | zero => intros; rfl
  | succ m ih =>
    intro vs4 vr448
    simp only [iter]
    rw [f107L0_b]
    simp only [ih, f107L0]

noncomputable def f107K0 {R : Type} (n : Nat) (k' : Ex → St → Option R) : Ex → St → Option R := (blockK 0 (seqK f107e f107k n (cAt [1,1,1] f107c) k'))
theorem f107K0_x0 {R : Type} (n : Nat) (k : List Dt → Option R) (a0 : List MetricT) (vs0 : List MetricT) (xvs4 : Int) (xvs11 : Bool) (xvr448 : List MetricT) : f107K0 n (exitK f107e [.ro] [false] true [.tmp 2] [84] [.d (.sl .metric) a0] k) (.exit 0) ⟨[(0, .c (.one (.ro .metric vs0))), (3, .c (.one (.h 448 0 0 []))), (4, .c (.one (.v (.int .i64 xvs4)))), (11, .c (.one (.v (.bool xvs11))))], [], [(448, .live ⟨.metric, .deep, 0, [], xvr448⟩)]⟩ =
    (k [.d (.sl .metric) xvr448]) := by kernel_rfl

theorem f107_run {R : Type} (n : Nat) (k : List Dt → Option R) (a0 : List MetricT) : evFn f107e f107k n f107c [.ro] [false] true [.tmp 2] [84] [.d (.sl .metric) a0] k =
    (cond ((decide ((a0.length : Int) = (a0.length : Int))) && ((decide ((0 : Int) ≤ (a0.length : Int))) && (decide ((a0.length : Int) ≤ (LIM : Int)))))
    (f107L0 n (fun (xvs4 : Int) (xvs11 : Bool) (xvr448 : List MetricT) =>
      (k [.d (.sl .metric) xvr448])) a0 n (0 : Int) (List.replicate (Int.toNat (a0.length : Int)) (⟨ByteArray.empty, (0 : Int), (0 : Int)⟩ : MetricT)))
    none) := by
  refine Eq.trans (b := (cond ((decide ((a0.length : Int) = (a0.length : Int))) && ((decide ((0 : Int) ≤ (a0.length : Int))) && (decide ((a0.length : Int) ≤ (LIM : Int)))))
    (iter (fun st k => ev f107e f107k n (cAt [1,1,0,1,0,0] f107c) st k) n ⟨[(0, .c (.one (.ro .metric a0))), (3, .c (.one (.h 448 0 0 []))), (4, .c (.one (.v (.int .i64 (0 : Int)))))], [], [(448, .live ⟨.metric, .deep, 0, [], (List.replicate (Int.toNat (a0.length : Int)) (⟨ByteArray.empty, (0 : Int), (0 : Int)⟩ : MetricT))⟩)]⟩ (f107K0 n (exitK f107e [.ro] [false] true [.tmp 2] [84] [.d (.sl .metric) a0] k)))
    none)) (by kernel_rfl) ?_
  simp only [f107L0_eq, f107K0_x0]
theorem f107_spec (a0 : List MetricT) (hg : smL sm_metric a0 = true) : ∃ keep rounds, ∀ {R : Type} (k : List Dt → Option R), evFn f107e keep rounds f107c [.ro] [false] true [.tmp 2] [84] [.d (.sl .metric) a0] k = k [.d (.sl .metric) a0] := by
  have hl : a0.length ≤ 1048576 := smL_len hg
  have hs := smL_all hg
  refine ⟨f107k, a0.length + 1, fun k => ?_⟩
  rw [f107_run, mkOk hl]
  simp only [cond_true]
  have := loop_copy (xs := a0) (f := fun x => x) (F := fun m j out => f107L0 (a0.length + 1) (fun (xvs4 : Int) (xvs11 : Bool) (xvr448 : List MetricT) => (k [.d (.sl .metric) xvr448])) a0 m (j : Int) out) (good := fun out => k [.d (.sl .metric) out]) (⟨ByteArray.empty, (0 : Int), (0 : Int)⟩ : MetricT)
    (fun m j out x hx hl' => by
      obtain ⟨h1, h0, hw, ht⟩ := idx (lt_of_get hx) (by omega)
      obtain ⟨h2, _, _, _⟩ := idx (show j < out.length by rw [hl']; exact lt_of_get hx) (by omega)
      have hx2 := List.all_eq_true.1 hs x (List.mem_of_getElem? hx)
      simp only [f107L0, h1, h0, h2, hw, ht, atI_of (t := .metric) hx, Bool.and_self, cond_true, hx2])
    (fun m out => by simp only [f107L0, idxE, cond_false]) a0.length 0 (a0.length + 1) (by omega) (by omega)
  simpa using this

noncomputable def q107 : List Dt → Option (Bool × List Dt)
  | [.d (.sl .metric) a0] => some ((smL sm_metric a0), [.d (.sl .metric) a0])
  | _ => none
noncomputable def s107 : Gm.Spec := Gm.Spec.of [.ro] [false] true q107
theorem good107 : Gm.Good Try.prog (107, s107) := by
  have hl : ∀ x ∈ [(114, s114)], Gm.Good Try.prog x := List.forall_mem_cons.2 ⟨good114, List.forall_mem_nil _⟩
  refine ⟨⟨spec_ok (tab_ok.env hl) (tab.natl hl) Try.func107 (by kernel_rfl : Try.f107.body = some f107c) [84] (by kernel_rfl) ?_, _, Try.func107, by kernel_rfl, of_decide_eq_true (by kernel_rfl)⟩, Gm.Spec.of_natl _ _ _ _⟩
  intro ds outs h
  unfold q107 at h
  split at h
  · simp only [Option.some.injEq, Prod.mk.injEq] at h; obtain ⟨hg, h⟩ := h; cases h; exact f107_spec _ hg
  · cases h
/-! ### loop.example/g00465/laws.toPace -/
noncomputable def f108c : Code := (Try.f108.body).getD .skip
def f108k : Nat → Kp := kat [⟨[1, 2], []⟩, ⟨[1, 2, 3], []⟩, ⟨[1, 2, 3], []⟩, ⟨[1, 2, 3], []⟩, ⟨[1, 2, 3], []⟩, ⟨[2, 3], []⟩, ⟨[2], []⟩]
noncomputable def f108e : Env := tab.env []
theorem f108_run {R : Type} (n : Nat) (k : List Dt → Option R) (a0 : PaceT) : evFn f108e f108k n f108c [.ro] [false] true [.cell 2 86] [86] [.d .pace a0] k =
    (k [.d .pace a0]) := by kernel_rfl
theorem f108_spec (a0 : PaceT) (hg : sm_pace a0 = true) : ∃ keep rounds, ∀ {R : Type} (k : List Dt → Option R), evFn f108e keep rounds f108c [.ro] [false] true [.cell 2 86] [86] [.d .pace a0] k = k [.d .pace a0] := by
  exact ⟨f108k, 0, fun k => f108_run 0 k a0⟩

noncomputable def q108 : List Dt → Option (Bool × List Dt)
  | [.d .pace a0] => some ((sm_pace a0), [.d .pace a0])
  | _ => none
noncomputable def s108 : Gm.Spec := Gm.Spec.of [.ro] [false] true q108
theorem good108 : Gm.Good Try.prog (108, s108) := by
  have hl : ∀ x ∈ ([] : List (Nat × Gm.Spec)), Gm.Good Try.prog x := fun _ h => by cases h
  refine ⟨⟨spec_ok (tab_ok.env hl) (tab.natl hl) Try.func108 (by kernel_rfl : Try.f108.body = some f108c) [86] (by kernel_rfl) ?_, _, Try.func108, by kernel_rfl, of_decide_eq_true (by kernel_rfl)⟩, Gm.Spec.of_natl _ _ _ _⟩
  intro ds outs h
  unfold q108 at h
  split at h
  · simp only [Option.some.injEq, Prod.mk.injEq] at h; obtain ⟨hg, h⟩ := h; cases h; exact f108_spec _ hg
  · cases h
/-! ### loop.example/g00465/laws.toOrder -/
noncomputable def f95c : Code := (Try.f95.body).getD .skip
def f95k : Nat → Kp := kat [⟨[1, 2], []⟩, ⟨[1, 2, 3], []⟩, ⟨[1, 2, 3], []⟩, ⟨[1, 2, 3], []⟩, ⟨[1, 2, 3], []⟩, ⟨[1, 2, 3], []⟩, ⟨[1, 2, 3], []⟩, ⟨[1, 2, 3], []⟩, ⟨[2, 3], []⟩, ⟨[2], []⟩]
noncomputable def f95e : Env := tab.env [(17, s17), (107, s107), (108, s108)]
theorem f95_run {R : Type} (n : Nat) (k : List Dt → Option R) (a0 : OrderT) : evFn f95e f95k n f95c [.ro] [false] true [.cell 2 88] [88] [.d .order a0] k =
    (cond (smL sm_metric (OrderT.metrics a0))
    (cond (sm_pace (OrderT.pace a0))
      (cond (smL sm_note (OrderT.notes a0))
        (k [.d .order a0])
        none)
      none)
    none) := by kernel_rfl
theorem f95_spec (a0 : OrderT) (hg : sm_order a0 = true) : ∃ keep rounds, ∀ {R : Type} (k : List Dt → Option R), evFn f95e keep rounds f95c [.ro] [false] true [.cell 2 88] [88] [.d .order a0] k = k [.d .order a0] := by
  simp only [sm_order, Bool.and_eq_true] at hg
  refine ⟨f95k, 0, fun k => ?_⟩
  rw [f95_run]
  simp only [hg, cond_true]

noncomputable def q95 : List Dt → Option (Bool × List Dt)
  | [.d .order a0] => some ((sm_order a0), [.d .order a0])
  | _ => none
noncomputable def s95 : Gm.Spec := Gm.Spec.of [.ro] [false] true q95
theorem good95 : Gm.Good Try.prog (95, s95) := by
  have hl : ∀ x ∈ [(17, s17), (107, s107), (108, s108)], Gm.Good Try.prog x := List.forall_mem_cons.2 ⟨good17, List.forall_mem_cons.2 ⟨good107, List.forall_mem_cons.2 ⟨good108, List.forall_mem_nil _⟩⟩⟩
  refine ⟨⟨spec_ok (tab_ok.env hl) (tab.natl hl) Try.func95 (by kernel_rfl : Try.f95.body = some f95c) [88] (by kernel_rfl) ?_, _, Try.func95, by kernel_rfl, of_decide_eq_true (by kernel_rfl)⟩, Gm.Spec.of_natl _ _ _ _⟩
  intro ds outs h
  unfold q95 at h
  split at h
  · simp only [Option.some.injEq, Prod.mk.injEq] at h; obtain ⟨hg, h⟩ := h; cases h; exact f95_spec _ hg
  · cases h
/-! ### loop.example/g00465/laws.toItem -/
noncomputable def f82c : Code := (Try.f82.body).getD .skip
def f82k : Nat → Kp := kat [⟨[1, 2], []⟩, ⟨[1, 2, 3], []⟩, ⟨[1, 2, 3], []⟩, ⟨[2, 3], []⟩, ⟨[2], []⟩]
noncomputable def f82e : Env := tab.env [(95, s95)]
theorem f82_run {R : Type} (n : Nat) (k : List Dt → Option R) (a0 : ItemT) : evFn f82e f82k n f82c [.ro] [false] true [.cell 2 90] [90] [.d .item a0] k =
    (cond (sm_order (ItemT.order a0))
    (k [.d .item a0])
    none) := by kernel_rfl
theorem f82_spec (a0 : ItemT) (hg : sm_item a0 = true) : ∃ keep rounds, ∀ {R : Type} (k : List Dt → Option R), evFn f82e keep rounds f82c [.ro] [false] true [.cell 2 90] [90] [.d .item a0] k = k [.d .item a0] := by
  simp only [sm_item, Bool.and_eq_true] at hg
  refine ⟨f82k, 0, fun k => ?_⟩
  rw [f82_run]
  simp only [hg, cond_true]

noncomputable def q82 : List Dt → Option (Bool × List Dt)
  | [.d .item a0] => some ((sm_item a0), [.d .item a0])
  | _ => none
noncomputable def s82 : Gm.Spec := Gm.Spec.of [.ro] [false] true q82
theorem good82 : Gm.Good Try.prog (82, s82) := by
  have hl : ∀ x ∈ [(95, s95)], Gm.Good Try.prog x := List.forall_mem_cons.2 ⟨good95, List.forall_mem_nil _⟩
  refine ⟨⟨spec_ok (tab_ok.env hl) (tab.natl hl) Try.func82 (by kernel_rfl : Try.f82.body = some f82c) [90] (by kernel_rfl) ?_, _, Try.func82, by kernel_rfl, of_decide_eq_true (by kernel_rfl)⟩, Gm.Spec.of_natl _ _ _ _⟩
  intro ds outs h
  unfold q82 at h
  split at h
  · simp only [Option.some.injEq, Prod.mk.injEq] at h; obtain ⟨hg, h⟩ := h; cases h; exact f82_spec _ hg
  · cases h
/-! ### loop.example/g00465/laws.toItemS -/
noncomputable def f62c : Code := (Try.f62.body).getD .skip
def f62k : Nat → Kp := kat [⟨[0], []⟩, ⟨[0, 3], []⟩, ⟨[0, 3, 4], []⟩, ⟨[0, 3, 4, 11], []⟩, ⟨[0, 3, 4], []⟩, ⟨[0, 3, 4], []⟩, ⟨[2], []⟩]
noncomputable def f62e : Env := tab.env [(82, s82)]
noncomputable def f62L0 {R : Type} (n : Nat) (x0 : Int → Bool → (List ItemT) → Option R) (vs0 : List ItemT) : Nat → Int → (List ItemT) → Option R
  | 0, _, _ => none
  | m + 1, vs4, vr448 =>
    (cond (decide (vs4 < (vs0.length : Int)))
      (cond ((decide ((0 : Int) ≤ vs4)) && (decide (vs4 < (vs0.length : Int))))
        (cond (sm_item (atI (t := .item) vs0 (Int.toNat vs4)))
          (cond ((decide ((0 : Int) ≤ vs4)) && (decide (vs4 < (vr448.length : Int))))
            (f62L0 n x0 vs0 m (IntKind.wrap .i64 (vs4 + (1 : Int))) (vr448.set (Int.toNat vs4) (atI (t := .item) vs0 (Int.toNat vs4))))
            none)
          none)
        none)
      (x0 vs4 (decide (vs4 < (vs0.length : Int))) vr448))
theorem f62L0_b {R : Type} (n : Nat) (k' : Ex → St → Option R) (vs0 : List ItemT) (vs4 : Int) (vr448 : List ItemT) : ev f62e f62k n (cAt [1,1,0,1,0,0] f62c) ⟨[(0, .c (.one (.ro .item vs0))), (3, .c (.one (.h 448 0 0 []))), (4, .c (.one (.v (.int .i64 vs4))))], [], [(448, .live ⟨.item, .deep, 0, [], vr448⟩)]⟩ k' =
    (cond (decide (vs4 < (vs0.length : Int)))
    (cond ((decide ((0 : Int) ≤ vs4)) && (decide (vs4 < (vs0.length : Int))))
      (cond (sm_item (atI (t := .item) vs0 (Int.toNat vs4)))
        (cond ((decide ((0 : Int) ≤ vs4)) && (decide (vs4 < (vr448.length : Int))))
          (k' .normal ⟨[(0, .c (.one (.ro .item vs0))), (3, .c (.one (.h 448 0 0 []))), (4, .c (.one (.v (.int .i64 (IntKind.wrap .i64 (vs4 + (1 : Int)))))))], [], [(448, .live ⟨.item, .deep, 0, [], (vr448.set (Int.toNat vs4) (atI (t := .item) vs0 (Int.toNat vs4)))⟩)]⟩)
          none)
        none)
      none)
    (k' (.exit 0) ⟨[(0, .c (.one (.ro .item vs0))), (3, .c (.one (.h 448 0 0 []))), (4, .c (.one (.v (.int .i64 vs4)))), (11, .c (.one (.v (.bool (decide (vs4 < (vs0.length : Int)))))))], [], [(448, .live ⟨.item, .deep, 0, [], vr448⟩)]⟩)) := by kernel_rfl
theorem f62L0_eq {R : Type} (n : Nat) (k' : Ex → St → Option R) (vs0 : List ItemT) : ∀ (m : Nat) (vs4 : Int) (vr448 : List ItemT), iter (fun st k => ev f62e f62k n (cAt [1,1,0,1,0,0] f62c) st k) m ⟨[(0, .c (.one (.ro .item vs0))), (3, .c (.one (.h 448 0 0 []))), (4, .c (.one (.v (.int .i64 vs4))))], [], [(448, .live ⟨.item, .deep, 0, [], vr448⟩)]⟩ k' = f62L0 n (fun (xvs4 : Int) (xvs11 : Bool) (xvr448 : List ItemT) => k' (.exit 0) ⟨[(0, .c (.one (.ro .item vs0))), (3, .c (.one (.h 448 0 0 []))), (4, .c (.one (.v (.int .i64 xvs4)))), (11, .c (.one (.v (.bool xvs11))))], [], [(448, .live ⟨.item, .deep, 0, [], xvr448⟩)]⟩) vs0 m vs4 vr448 := by
  intro m; induction m with
  | zero => intros; rfl
  | succ m ih =>
    intro vs4 vr448
    simp only [iter]
    rw [f62L0_b]
    simp only [ih, f62L0]

noncomputable def f62K0 {R : Type} (n : Nat) (k' : Ex → St → Option R) : Ex → St → Option R := (blockK 0 (seqK f62e f62k n (cAt [1,1,1] f62c) k'))
theorem f62K0_x0 {R : Type} (n : Nat) (k : List Dt → Option R) (a0 : List ItemT) (vs0 : List ItemT) (xvs4 : Int) (xvs11 : Bool) (xvr448 : List ItemT) : f62K0 n (exitK f62e [.ro] [false] true [.tmp 2] [41] [.d (.sl .item) a0] k) (.exit 0) ⟨[(0, .c (.one (.ro .item vs0))), (3, .c (.one (.h 448 0 0 []))), (4, .c (.one (.v (.int .i64 xvs4)))), (11, .c (.one (.v (.bool xvs11))))], [], [(448, .live ⟨.item, .deep, 0, [], xvr448⟩)]⟩ =
    (k [.d (.sl .item) xvr448]) := by kernel_rfl

theorem f62_run {R : Type} (n : Nat) (k : List Dt → Option R) (a0 : List ItemT) : evFn f62e f62k n f62c [.ro] [false] true [.tmp 2] [41] [.d (.sl .item) a0] k =
    (cond ((decide ((a0.length : Int) = (a0.length : Int))) && ((decide ((0 : Int) ≤ (a0.length : Int))) && (decide ((a0.length : Int) ≤ (LIM : Int)))))
    (f62L0 n (fun (xvs4 : Int) (xvs11 : Bool) (xvr448 : List ItemT) =>
      (k [.d (.sl .item) xvr448])) a0 n (0 : Int) (List.replicate (Int.toNat (a0.length : Int)) (⟨(⟨ByteArray.empty, ByteArray.empty, (0 : Int), (0 : Int), ([] : List MetricT), (⟨(0 : Int), (0 : Int), (0 : Int), (0 : Int)⟩ : PaceT), ([] : List NoteT)⟩ : OrderT), (0 : Int)⟩ : ItemT)))
    none) := by
  refine Eq.trans (b := (cond ((decide ((a0.length : Int) = (a0.length : Int))) && ((decide ((0 : Int) ≤ (a0.length : Int))) && (decide ((a0.length : Int) ≤ (LIM : Int)))))
    (iter (fun st k => ev f62e f62k n (cAt [1,1,0,1,0,0] f62c) st k) n ⟨[(0, .c (.one (.ro .item a0))), (3, .c (.one (.h 448 0 0 []))), (4, .c (.one (.v (.int .i64 (0 : Int)))))], [], [(448, .live ⟨.item, .deep, 0, [], (List.replicate (Int.toNat (a0.length : Int)) (⟨(⟨ByteArray.empty, ByteArray.empty, (0 : Int), (0 : Int), ([] : List MetricT), (⟨(0 : Int), (0 : Int), (0 : Int), (0 : Int)⟩ : PaceT), ([] : List NoteT)⟩ : OrderT), (0 : Int)⟩ : ItemT))⟩)]⟩ (f62K0 n (exitK f62e [.ro] [false] true [.tmp 2] [41] [.d (.sl .item) a0] k)))
    none)) (by kernel_rfl) ?_
  simp only [f62L0_eq, f62K0_x0]
theorem f62_spec (a0 : List ItemT) (hg : smL sm_item a0 = true) : ∃ keep rounds, ∀ {R : Type} (k : List Dt → Option R), evFn f62e keep rounds f62c [.ro] [false] true [.tmp 2] [41] [.d (.sl .item) a0] k = k [.d (.sl .item) a0] := by
  have hl : a0.length ≤ 1048576 := smL_len hg
  have hs := smL_all hg
  refine ⟨f62k, a0.length + 1, fun k => ?_⟩
  rw [f62_run, mkOk hl]
  simp only [cond_true]
  have := loop_copy (xs := a0) (f := fun x => x) (F := fun m j out => f62L0 (a0.length + 1) (fun (xvs4 : Int) (xvs11 : Bool) (xvr448 : List ItemT) => (k [.d (.sl .item) xvr448])) a0 m (j : Int) out) (good := fun out => k [.d (.sl .item) out]) (⟨(⟨ByteArray.empty, ByteArray.empty, (0 : Int), (0 : Int), ([] : List MetricT), (⟨(0 : Int), (0 : Int), (0 : Int), (0 : Int)⟩ : PaceT), ([] : List NoteT)⟩ : OrderT), (0 : Int)⟩ : ItemT)
    (fun m j out x hx hl' => by
      obtain ⟨h1, h0, hw, ht⟩ := idx (lt_of_get hx) (by omega)
      obtain ⟨h2, _, _, _⟩ := idx (show j < out.length by rw [hl']; exact lt_of_get hx) (by omega)
      have hx2 := List.all_eq_true.1 hs x (List.mem_of_getElem? hx)
      simp only [f62L0, h1, h0, h2, hw, ht, atI_of (t := .item) hx, Bool.and_self, cond_true, hx2])
    (fun m out => by simp only [f62L0, idxE, cond_false]) a0.length 0 (a0.length + 1) (by omega) (by omega)
  simpa using this

noncomputable def q62 : List Dt → Option (Bool × List Dt)
  | [.d (.sl .item) a0] => some ((smL sm_item a0), [.d (.sl .item) a0])
  | _ => none
noncomputable def s62 : Gm.Spec := Gm.Spec.of [.ro] [false] true q62
theorem good62 : Gm.Good Try.prog (62, s62) := by
  have hl : ∀ x ∈ [(82, s82)], Gm.Good Try.prog x := List.forall_mem_cons.2 ⟨good82, List.forall_mem_nil _⟩
  refine ⟨⟨spec_ok (tab_ok.env hl) (tab.natl hl) Try.func62 (by kernel_rfl : Try.f62.body = some f62c) [41] (by kernel_rfl) ?_, _, Try.func62, by kernel_rfl, of_decide_eq_true (by kernel_rfl)⟩, Gm.Spec.of_natl _ _ _ _⟩
  intro ds outs h
  unfold q62 at h
  split at h
  · simp only [Option.some.injEq, Prod.mk.injEq] at h; obtain ⟨hg, h⟩ := h; cases h; exact f62_spec _ hg
  · cases h
/-! ### loop.example/g00465/laws.toStore -/
noncomputable def f28c : Code := (Try.f28.body).getD .skip
def f28k : Nat → Kp := kat [⟨[1, 2], []⟩, ⟨[1, 2, 3], []⟩, ⟨[1, 2, 3], []⟩, ⟨[2, 3], []⟩, ⟨[2], []⟩]
noncomputable def f28e : Env := tab.env [(62, s62)]
theorem f28_run {R : Type} (n : Nat) (k : List Dt → Option R) (a0 : StoreT) : evFn f28e f28k n f28c [.ro] [false] true [.cell 2 43] [43] [.d .store a0] k =
    (cond (smL sm_item (StoreT.items a0))
    (k [.d .store a0])
    none) := by kernel_rfl
theorem f28_spec (a0 : StoreT) (hg : sm_store a0 = true) : ∃ keep rounds, ∀ {R : Type} (k : List Dt → Option R), evFn f28e keep rounds f28c [.ro] [false] true [.cell 2 43] [43] [.d .store a0] k = k [.d .store a0] := by
  simp only [sm_store, Bool.and_eq_true] at hg
  refine ⟨f28k, 0, fun k => ?_⟩
  rw [f28_run]
  simp only [hg, cond_true]

noncomputable def q28 : List Dt → Option (Bool × List Dt)
  | [.d .store a0] => some ((sm_store a0), [.d .store a0])
  | _ => none
noncomputable def s28 : Gm.Spec := Gm.Spec.of [.ro] [false] true q28
theorem good28 : Gm.Good Try.prog (28, s28) := by
  have hl : ∀ x ∈ [(62, s62)], Gm.Good Try.prog x := List.forall_mem_cons.2 ⟨good62, List.forall_mem_nil _⟩
  refine ⟨⟨spec_ok (tab_ok.env hl) (tab.natl hl) Try.func28 (by kernel_rfl : Try.f28.body = some f28c) [43] (by kernel_rfl) ?_, _, Try.func28, by kernel_rfl, of_decide_eq_true (by kernel_rfl)⟩, Gm.Spec.of_natl _ _ _ _⟩
  intro ds outs h
  unfold q28 at h
  split at h
  · simp only [Option.some.injEq, Prod.mk.injEq] at h; obtain ⟨hg, h⟩ := h; cases h; exact f28_spec _ hg
  · cases h
/-! ### loop.example/g00465/laws.toPickS -/
noncomputable def f29c : Code := (Try.f29.body).getD .skip
def f29k : Nat → Kp := kat [⟨[0], []⟩, ⟨[0, 3], []⟩, ⟨[0, 3, 4], []⟩, ⟨[0, 3, 4, 11], []⟩, ⟨[0, 3, 4], []⟩, ⟨[0, 3, 4], []⟩, ⟨[2], []⟩]
noncomputable def f29e : Env := tab.env [(10, s10)]
noncomputable def f29L0 {R : Type} (n : Nat) (x0 : Int → Bool → (List PickT) → Option R) (vs0 : List PickT) : Nat → Int → (List PickT) → Option R
  | 0, _, _ => none
  | m + 1, vs4, vr448 =>
    (cond (decide (vs4 < (vs0.length : Int)))
      (cond ((decide ((0 : Int) ≤ vs4)) && (decide (vs4 < (vs0.length : Int))))
        (cond (sm_pick (atI (t := .pick) vs0 (Int.toNat vs4)))
          (cond ((decide ((0 : Int) ≤ vs4)) && (decide (vs4 < (vr448.length : Int))))
            (f29L0 n x0 vs0 m (IntKind.wrap .i64 (vs4 + (1 : Int))) (vr448.set (Int.toNat vs4) (atI (t := .pick) vs0 (Int.toNat vs4))))
            none)
          none)
        none)
      (x0 vs4 (decide (vs4 < (vs0.length : Int))) vr448))
theorem f29L0_b {R : Type} (n : Nat) (k' : Ex → St → Option R) (vs0 : List PickT) (vs4 : Int) (vr448 : List PickT) : ev f29e f29k n (cAt [1,1,0,1,0,0] f29c) ⟨[(0, .c (.one (.ro .pick vs0))), (3, .c (.one (.h 448 0 0 []))), (4, .c (.one (.v (.int .i64 vs4))))], [], [(448, .live ⟨.pick, .deep, 0, [], vr448⟩)]⟩ k' =
    (cond (decide (vs4 < (vs0.length : Int)))
    (cond ((decide ((0 : Int) ≤ vs4)) && (decide (vs4 < (vs0.length : Int))))
      (cond (sm_pick (atI (t := .pick) vs0 (Int.toNat vs4)))
        (cond ((decide ((0 : Int) ≤ vs4)) && (decide (vs4 < (vr448.length : Int))))
          (k' .normal ⟨[(0, .c (.one (.ro .pick vs0))), (3, .c (.one (.h 448 0 0 []))), (4, .c (.one (.v (.int .i64 (IntKind.wrap .i64 (vs4 + (1 : Int)))))))], [], [(448, .live ⟨.pick, .deep, 0, [], (vr448.set (Int.toNat vs4) (atI (t := .pick) vs0 (Int.toNat vs4)))⟩)]⟩)
          none)
        none)
      none)
    (k' (.exit 0) ⟨[(0, .c (.one (.ro .pick vs0))), (3, .c (.one (.h 448 0 0 []))), (4, .c (.one (.v (.int .i64 vs4)))), (11, .c (.one (.v (.bool (decide (vs4 < (vs0.length : Int)))))))], [], [(448, .live ⟨.pick, .deep, 0, [], vr448⟩)]⟩)) := by kernel_rfl
theorem f29L0_eq {R : Type} (n : Nat) (k' : Ex → St → Option R) (vs0 : List PickT) : ∀ (m : Nat) (vs4 : Int) (vr448 : List PickT), iter (fun st k => ev f29e f29k n (cAt [1,1,0,1,0,0] f29c) st k) m ⟨[(0, .c (.one (.ro .pick vs0))), (3, .c (.one (.h 448 0 0 []))), (4, .c (.one (.v (.int .i64 vs4))))], [], [(448, .live ⟨.pick, .deep, 0, [], vr448⟩)]⟩ k' = f29L0 n (fun (xvs4 : Int) (xvs11 : Bool) (xvr448 : List PickT) => k' (.exit 0) ⟨[(0, .c (.one (.ro .pick vs0))), (3, .c (.one (.h 448 0 0 []))), (4, .c (.one (.v (.int .i64 xvs4)))), (11, .c (.one (.v (.bool xvs11))))], [], [(448, .live ⟨.pick, .deep, 0, [], xvr448⟩)]⟩) vs0 m vs4 vr448 := by
  intro m; induction m with
  | zero => intros; rfl
  | succ m ih =>
    intro vs4 vr448
    simp only [iter]
    rw [f29L0_b]
    simp only [ih, f29L0]

noncomputable def f29K0 {R : Type} (n : Nat) (k' : Ex → St → Option R) : Ex → St → Option R := (blockK 0 (seqK f29e f29k n (cAt [1,1,1] f29c) k'))
theorem f29K0_x0 {R : Type} (n : Nat) (k : List Dt → Option R) (a0 : List PickT) (vs0 : List PickT) (xvs4 : Int) (xvs11 : Bool) (xvr448 : List PickT) : f29K0 n (exitK f29e [.ro] [false] true [.tmp 2] [44] [.d (.sl .pick) a0] k) (.exit 0) ⟨[(0, .c (.one (.ro .pick vs0))), (3, .c (.one (.h 448 0 0 []))), (4, .c (.one (.v (.int .i64 xvs4)))), (11, .c (.one (.v (.bool xvs11))))], [], [(448, .live ⟨.pick, .deep, 0, [], xvr448⟩)]⟩ =
    (k [.d (.sl .pick) xvr448]) := by kernel_rfl

theorem f29_run {R : Type} (n : Nat) (k : List Dt → Option R) (a0 : List PickT) : evFn f29e f29k n f29c [.ro] [false] true [.tmp 2] [44] [.d (.sl .pick) a0] k =
    (cond ((decide ((a0.length : Int) = (a0.length : Int))) && ((decide ((0 : Int) ≤ (a0.length : Int))) && (decide ((a0.length : Int) ≤ (LIM : Int)))))
    (f29L0 n (fun (xvs4 : Int) (xvs11 : Bool) (xvr448 : List PickT) =>
      (k [.d (.sl .pick) xvr448])) a0 n (0 : Int) (List.replicate (Int.toNat (a0.length : Int)) (⟨(0 : Int), ByteArray.empty, ([] : List ByteArray)⟩ : PickT)))
    none) := by
  refine Eq.trans (b := (cond ((decide ((a0.length : Int) = (a0.length : Int))) && ((decide ((0 : Int) ≤ (a0.length : Int))) && (decide ((a0.length : Int) ≤ (LIM : Int)))))
    (iter (fun st k => ev f29e f29k n (cAt [1,1,0,1,0,0] f29c) st k) n ⟨[(0, .c (.one (.ro .pick a0))), (3, .c (.one (.h 448 0 0 []))), (4, .c (.one (.v (.int .i64 (0 : Int)))))], [], [(448, .live ⟨.pick, .deep, 0, [], (List.replicate (Int.toNat (a0.length : Int)) (⟨(0 : Int), ByteArray.empty, ([] : List ByteArray)⟩ : PickT))⟩)]⟩ (f29K0 n (exitK f29e [.ro] [false] true [.tmp 2] [44] [.d (.sl .pick) a0] k)))
    none)) (by kernel_rfl) ?_
  simp only [f29L0_eq, f29K0_x0]
theorem f29_spec (a0 : List PickT) (hg : smL sm_pick a0 = true) : ∃ keep rounds, ∀ {R : Type} (k : List Dt → Option R), evFn f29e keep rounds f29c [.ro] [false] true [.tmp 2] [44] [.d (.sl .pick) a0] k = k [.d (.sl .pick) a0] := by
  have hl : a0.length ≤ 1048576 := smL_len hg
  have hs := smL_all hg
  refine ⟨f29k, a0.length + 1, fun k => ?_⟩
  rw [f29_run, mkOk hl]
  simp only [cond_true]
  have := loop_copy (xs := a0) (f := fun x => x) (F := fun m j out => f29L0 (a0.length + 1) (fun (xvs4 : Int) (xvs11 : Bool) (xvr448 : List PickT) => (k [.d (.sl .pick) xvr448])) a0 m (j : Int) out) (good := fun out => k [.d (.sl .pick) out]) (⟨(0 : Int), ByteArray.empty, ([] : List ByteArray)⟩ : PickT)
    (fun m j out x hx hl' => by
      obtain ⟨h1, h0, hw, ht⟩ := idx (lt_of_get hx) (by omega)
      obtain ⟨h2, _, _, _⟩ := idx (show j < out.length by rw [hl']; exact lt_of_get hx) (by omega)
      have hx2 := List.all_eq_true.1 hs x (List.mem_of_getElem? hx)
      simp only [f29L0, h1, h0, h2, hw, ht, atI_of (t := .pick) hx, Bool.and_self, cond_true, hx2])
    (fun m out => by simp only [f29L0, idxE, cond_false]) a0.length 0 (a0.length + 1) (by omega) (by omega)
  simpa using this

noncomputable def q29 : List Dt → Option (Bool × List Dt)
  | [.d (.sl .pick) a0] => some ((smL sm_pick a0), [.d (.sl .pick) a0])
  | _ => none
noncomputable def s29 : Gm.Spec := Gm.Spec.of [.ro] [false] true q29
theorem good29 : Gm.Good Try.prog (29, s29) := by
  have hl : ∀ x ∈ [(10, s10)], Gm.Good Try.prog x := List.forall_mem_cons.2 ⟨good10, List.forall_mem_nil _⟩
  refine ⟨⟨spec_ok (tab_ok.env hl) (tab.natl hl) Try.func29 (by kernel_rfl : Try.f29.body = some f29c) [44] (by kernel_rfl) ?_, _, Try.func29, by kernel_rfl, of_decide_eq_true (by kernel_rfl)⟩, Gm.Spec.of_natl _ _ _ _⟩
  intro ds outs h
  unfold q29 at h
  split at h
  · simp only [Option.some.injEq, Prod.mk.injEq] at h; obtain ⟨hg, h⟩ := h; cases h; exact f29_spec _ hg
  · cases h
/-! ### loop.example/g00465/laws.eqMetric -/
noncomputable def f115c : Code := (Try.f115.body).getD .skip
def f115k : Nat → Kp := kat [⟨[2, 3], []⟩, ⟨[2, 3, 9], []⟩, ⟨[4], []⟩, ⟨[2, 3, 14], []⟩, ⟨[4], []⟩, ⟨[19], []⟩, ⟨[4], []⟩, ⟨[4], []⟩]
noncomputable def f115e : Env := tab.env []
theorem f115_run {R : Type} (n : Nat) (k : List Dt → Option R) (a0 : MetricT) (a1 : MetricT) : evFn f115e f115k n f115c [.ro, .ro] [false] true [.tmp 4] [4] [.d .metric a0, .d .metric a1] k =
    (cond (!(sEq (MetricT.name a0) (MetricT.name a1)))
    (k [.d .bool false])
    (cond ((MetricT.kind a0) != (MetricT.kind a1))
      (k [.d .bool false])
      (cond ((MetricT.goal a0) != (MetricT.goal a1))
        (k [.d .bool false])
        (k [.d .bool true])))) := by kernel_rfl
theorem f115_spec (a0 : MetricT) (a1 : MetricT) (hg : sm2 sm_metric a0 a1 = true) : ∃ keep rounds, ∀ {R : Type} (k : List Dt → Option R), evFn f115e keep rounds f115c [.ro, .ro] [false] true [.tmp 4] [4] [.d .metric a0, .d .metric a1] k = k [.d .bool (eqD a0 a1)] := by
  simp only [sm2, sm_metric, Bool.and_eq_true] at hg
  refine ⟨f115k, 0, fun k => ?_⟩
  rw [f115_run, eqD_metric]
  try simp only [bne]
  cases sEq a0.name a1.name <;> cases (a0.kind == a1.kind) <;> cases (a0.goal == a1.goal) <;> rfl

noncomputable def q115 : List Dt → Option (Bool × List Dt)
  | [.d .metric a0, .d .metric a1] => some ((sm2 sm_metric a0 a1), [.d .bool (eqD a0 a1)])
  | _ => none
noncomputable def s115 : Gm.Spec := Gm.Spec.of [.ro, .ro] [false] true q115
theorem good115 : Gm.Good Try.prog (115, s115) := by
  have hl : ∀ x ∈ ([] : List (Nat × Gm.Spec)), Gm.Good Try.prog x := fun _ h => by cases h
  refine ⟨⟨spec_ok (tab_ok.env hl) (tab.natl hl) Try.func115 (by kernel_rfl : Try.f115.body = some f115c) [4] (by kernel_rfl) ?_, _, Try.func115, by kernel_rfl, of_decide_eq_true (by kernel_rfl)⟩, Gm.Spec.of_natl _ _ _ _⟩
  intro ds outs h
  unfold q115 at h
  split at h
  · simp only [Option.some.injEq, Prod.mk.injEq] at h; obtain ⟨hg, h⟩ := h; cases h; exact f115_spec _ _ hg
  · cases h
/-! ### loop.example/g00465/laws.eqMetricS -/
noncomputable def f109c : Code := (Try.f109.body).getD .skip
def f109k : Nat → Kp := kat [⟨[0, 1], []⟩, ⟨[0, 1, 10], []⟩, ⟨[4], []⟩, ⟨[0, 1, 5], []⟩, ⟨[0, 1, 5, 14], []⟩, ⟨[0, 1, 5], []⟩, ⟨[0, 1, 5, 26], []⟩, ⟨[4], []⟩, ⟨[4], []⟩]
noncomputable def f109e : Env := tab.env [(115, s115)]
noncomputable def f109L0 {R : Type} (n : Nat) (x0 : Option R) (x1 : Int → Bool → Option R) (vs0 : List MetricT) (vs1 : List MetricT) : Nat → Int → Option R
  | 0, _ => none
  | m + 1, vs5 =>
    (cond (decide (vs5 < (vs0.length : Int)))
      (cond ((decide ((0 : Int) ≤ vs5)) && (decide (vs5 < (vs0.length : Int))))
        (cond ((decide ((0 : Int) ≤ vs5)) && (decide (vs5 < (vs1.length : Int))))
          (cond (sm2 sm_metric (atI (t := .metric) vs0 (Int.toNat vs5)) (atI (t := .metric) vs1 (Int.toNat vs5)))
            (cond (!(eqD (atI (t := .metric) vs0 (Int.toNat vs5)) (atI (t := .metric) vs1 (Int.toNat vs5))))
              (x0)
              (f109L0 n x0 x1 vs0 vs1 m (IntKind.wrap .i64 (vs5 + (1 : Int)))))
            none)
          none)
        none)
      (x1 vs5 (decide (vs5 < (vs0.length : Int)))))
theorem f109L0_b {R : Type} (n : Nat) (k' : Ex → St → Option R) (vs0 : List MetricT) (vs1 : List MetricT) (vs5 : Int) : ev f109e f109k n (cAt [1,1,0,1,0,0] f109c) ⟨[(0, .c (.one (.ro .metric vs0))), (1, .c (.one (.ro .metric vs1))), (5, .c (.one (.v (.int .i64 vs5))))], [], []⟩ k' =
    (cond (decide (vs5 < (vs0.length : Int)))
    (cond ((decide ((0 : Int) ≤ vs5)) && (decide (vs5 < (vs0.length : Int))))
      (cond ((decide ((0 : Int) ≤ vs5)) && (decide (vs5 < (vs1.length : Int))))
        (cond (sm2 sm_metric (atI (t := .metric) vs0 (Int.toNat vs5)) (atI (t := .metric) vs1 (Int.toNat vs5)))
          (cond (!(eqD (atI (t := .metric) vs0 (Int.toNat vs5)) (atI (t := .metric) vs1 (Int.toNat vs5))))
            (k' .ret ⟨[(4, .c (.one (.v (.bool false))))], [], []⟩)
            (k' .normal ⟨[(0, .c (.one (.ro .metric vs0))), (1, .c (.one (.ro .metric vs1))), (5, .c (.one (.v (.int .i64 (IntKind.wrap .i64 (vs5 + (1 : Int)))))))], [], []⟩))
          none)
        none)
      none)
    (k' (.exit 0) ⟨[(0, .c (.one (.ro .metric vs0))), (1, .c (.one (.ro .metric vs1))), (5, .c (.one (.v (.int .i64 vs5)))), (14, .c (.one (.v (.bool (decide (vs5 < (vs0.length : Int)))))))], [], []⟩)) := by kernel_rfl
theorem f109L0_eq {R : Type} (n : Nat) (k' : Ex → St → Option R) (vs0 : List MetricT) (vs1 : List MetricT) : ∀ (m : Nat) (vs5 : Int), iter (fun st k => ev f109e f109k n (cAt [1,1,0,1,0,0] f109c) st k) m ⟨[(0, .c (.one (.ro .metric vs0))), (1, .c (.one (.ro .metric vs1))), (5, .c (.one (.v (.int .i64 vs5))))], [], []⟩ k' = f109L0 n (k' .ret ⟨[(4, .c (.one (.v (.bool false))))], [], []⟩) (fun (xvs5 : Int) (xvs14 : Bool) => k' (.exit 0) ⟨[(0, .c (.one (.ro .metric vs0))), (1, .c (.one (.ro .metric vs1))), (5, .c (.one (.v (.int .i64 xvs5)))), (14, .c (.one (.v (.bool xvs14))))], [], []⟩) vs0 vs1 m vs5 := by
  intro m; induction m with
  | zero => intros; rfl
  | succ m ih =>
    intro vs5
    simp only [iter]
    rw [f109L0_b]
    simp only [ih, f109L0]

noncomputable def f109K0 {R : Type} (n : Nat) (k' : Ex → St → Option R) : Ex → St → Option R := (blockK 0 (seqK f109e f109k n (cAt [1,1,1] f109c) k'))
theorem f109K0_x0 {R : Type} (n : Nat) (k : List Dt → Option R) (a0 : List MetricT) (a1 : List MetricT)  : f109K0 n (exitK f109e [.ro, .ro] [false] true [.tmp 4] [4] [.d (.sl .metric) a0, .d (.sl .metric) a1] k) .ret ⟨[(4, .c (.one (.v (.bool false))))], [], []⟩ =
    (k [.d .bool false]) := by kernel_rfl
theorem f109K0_x1 {R : Type} (n : Nat) (k : List Dt → Option R) (a0 : List MetricT) (a1 : List MetricT) (vs0 : List MetricT) (vs1 : List MetricT) (xvs5 : Int) (xvs14 : Bool) : f109K0 n (exitK f109e [.ro, .ro] [false] true [.tmp 4] [4] [.d (.sl .metric) a0, .d (.sl .metric) a1] k) (.exit 0) ⟨[(0, .c (.one (.ro .metric vs0))), (1, .c (.one (.ro .metric vs1))), (5, .c (.one (.v (.int .i64 xvs5)))), (14, .c (.one (.v (.bool xvs14))))], [], []⟩ =
    (k [.d .bool true]) := by kernel_rfl

theorem f109_run {R : Type} (n : Nat) (k : List Dt → Option R) (a0 : List MetricT) (a1 : List MetricT) : evFn f109e f109k n f109c [.ro, .ro] [false] true [.tmp 4] [4] [.d (.sl .metric) a0, .d (.sl .metric) a1] k =
    (cond ((a0.length : Int) != (a1.length : Int))
    (k [.d .bool false])
    (f109L0 n (k [.d .bool false]) (fun (xvs5 : Int) (xvs14 : Bool) =>
      (k [.d .bool true])) a0 a1 n (0 : Int))) := by
  refine Eq.trans (b := (cond ((a0.length : Int) != (a1.length : Int))
    (k [.d .bool false])
    (iter (fun st k => ev f109e f109k n (cAt [1,1,0,1,0,0] f109c) st k) n ⟨[(0, .c (.one (.ro .metric a0))), (1, .c (.one (.ro .metric a1))), (5, .c (.one (.v (.int .i64 (0 : Int)))))], [], []⟩ (f109K0 n (exitK f109e [.ro, .ro] [false] true [.tmp 4] [4] [.d (.sl .metric) a0, .d (.sl .metric) a1] k))))) (by kernel_rfl) ?_
  simp only [f109L0_eq, f109K0_x0, f109K0_x1]
theorem f109_spec (a0 : List MetricT) (a1 : List MetricT) (hg : sm2 (smL sm_metric) a0 a1 = true) : ∃ keep rounds, ∀ {R : Type} (k : List Dt → Option R), evFn f109e keep rounds f109c [.ro, .ro] [false] true [.tmp 4] [4] [.d (.sl .metric) a0, .d (.sl .metric) a1] k = k [.d .bool (eqD a0 a1)] := by
  simp only [sm2, Bool.and_eq_true] at hg
  obtain ⟨hg0, hg1⟩ := hg
  have hl : a0.length ≤ 1048576 := smL_len hg0
  refine ⟨f109k, a0.length + 1, fun k => ?_⟩
  rw [f109_run]
  by_cases hc : a0.length = a1.length
  · have hc' : ((a0.length : Int) != (a1.length : Int)) = false := by simp [hc]
    simp only [hc', cond_false]
    refine Eq.trans (loop_idx (n := a0.length) (F := fun m i => f109L0 (a0.length + 1) _ _ a0 a1 m i) (p := fun j => eqD (atI (t := .metric) a0 j) (atI (t := .metric) a1 j)) (good := k [.d .bool true]) (bad := k [.d .bool false])
      (fun m j hj => ?_) (fun m => by simp only [f109L0, idxE, cond_false]) a0.length 0 (a0.length + 1) (by omega) (by omega)) ?_
    · obtain ⟨h1, h0, hw, ht⟩ := idx hj (by omega)
      obtain ⟨h2, _, _, _⟩ := idx (show j < a1.length by omega) (by omega)
      have ha := smL_at (t := .metric) hg0 hj
      have hb := smL_at (t := .metric) hg1 (show j < a1.length by omega)
      simp only [f109L0, h1, h0, h2, hw, ht, Bool.and_self, cond_true, sm2, ha, hb]
      cases eqD (atI (t := .metric) a0 j) (atI (t := .metric) a1 j) <;> rfl
    · rw [allN_eq hc (fun j x y hx hy => by rw [atI_of (t := .metric) hx, atI_of (t := .metric) hy])]
      cases eqD a0 a1 <;> rfl
  · simp only [bneLen hc, cond_true]
    rw [eqD_ne (fun e => hc (by rw [e]))]

noncomputable def q109 : List Dt → Option (Bool × List Dt)
  | [.d (.sl .metric) a0, .d (.sl .metric) a1] => some ((sm2 (smL sm_metric) a0 a1), [.d .bool (eqD a0 a1)])
  | _ => none
noncomputable def s109 : Gm.Spec := Gm.Spec.of [.ro, .ro] [false] true q109
theorem good109 : Gm.Good Try.prog (109, s109) := by
  have hl : ∀ x ∈ [(115, s115)], Gm.Good Try.prog x := List.forall_mem_cons.2 ⟨good115, List.forall_mem_nil _⟩
  refine ⟨⟨spec_ok (tab_ok.env hl) (tab.natl hl) Try.func109 (by kernel_rfl : Try.f109.body = some f109c) [4] (by kernel_rfl) ?_, _, Try.func109, by kernel_rfl, of_decide_eq_true (by kernel_rfl)⟩, Gm.Spec.of_natl _ _ _ _⟩
  intro ds outs h
  unfold q109 at h
  split at h
  · simp only [Option.some.injEq, Prod.mk.injEq] at h; obtain ⟨hg, h⟩ := h; cases h; exact f109_spec _ _ hg
  · cases h
/-! ### loop.example/g00465/laws.eqPace -/
noncomputable def f110c : Code := (Try.f110.body).getD .skip
def f110k : Nat → Kp := kat [⟨[2, 3], []⟩, ⟨[2, 3, 9], []⟩, ⟨[4], []⟩, ⟨[2, 3, 14], []⟩, ⟨[4], []⟩, ⟨[2, 3, 19], []⟩, ⟨[4], []⟩, ⟨[24], []⟩, ⟨[4], []⟩, ⟨[4], []⟩]
noncomputable def f110e : Env := tab.env []
theorem f110_run {R : Type} (n : Nat) (k : List Dt → Option R) (a0 : PaceT) (a1 : PaceT) : evFn f110e f110k n f110c [.ro, .ro] [false] true [.tmp 4] [4] [.d .pace a0, .d .pace a1] k =
    (cond ((PaceT.up a0) != (PaceT.up a1))
    (k [.d .bool false])
    (cond ((PaceT.down a0) != (PaceT.down a1))
      (k [.d .bool false])
      (cond ((PaceT.upSpan a0) != (PaceT.upSpan a1))
        (k [.d .bool false])
        (cond ((PaceT.downSpan a0) != (PaceT.downSpan a1))
          (k [.d .bool false])
          (k [.d .bool true]))))) := by kernel_rfl
theorem f110_spec (a0 : PaceT) (a1 : PaceT) (hg : sm2 sm_pace a0 a1 = true) : ∃ keep rounds, ∀ {R : Type} (k : List Dt → Option R), evFn f110e keep rounds f110c [.ro, .ro] [false] true [.tmp 4] [4] [.d .pace a0, .d .pace a1] k = k [.d .bool (eqD a0 a1)] := by
  simp only [sm2, sm_pace, Bool.and_eq_true] at hg
  refine ⟨f110k, 0, fun k => ?_⟩
  rw [f110_run, eqD_pace]
  try simp only [bne]
  cases (a0.up == a1.up) <;> cases (a0.down == a1.down) <;> cases (a0.upSpan == a1.upSpan) <;> cases (a0.downSpan == a1.downSpan) <;> rfl

noncomputable def q110 : List Dt → Option (Bool × List Dt)
  | [.d .pace a0, .d .pace a1] => some ((sm2 sm_pace a0 a1), [.d .bool (eqD a0 a1)])
  | _ => none
noncomputable def s110 : Gm.Spec := Gm.Spec.of [.ro, .ro] [false] true q110
theorem good110 : Gm.Good Try.prog (110, s110) := by
  have hl : ∀ x ∈ ([] : List (Nat × Gm.Spec)), Gm.Good Try.prog x := fun _ h => by cases h
  refine ⟨⟨spec_ok (tab_ok.env hl) (tab.natl hl) Try.func110 (by kernel_rfl : Try.f110.body = some f110c) [4] (by kernel_rfl) ?_, _, Try.func110, by kernel_rfl, of_decide_eq_true (by kernel_rfl)⟩, Gm.Spec.of_natl _ _ _ _⟩
  intro ds outs h
  unfold q110 at h
  split at h
  · simp only [Option.some.injEq, Prod.mk.injEq] at h; obtain ⟨hg, h⟩ := h; cases h; exact f110_spec _ _ hg
  · cases h
/-! ### loop.example/g00465/laws.eqOrder -/
noncomputable def f96c : Code := (Try.f96.body).getD .skip
def f96k : Nat → Kp := kat [⟨[2, 3], []⟩, ⟨[2, 3, 9], []⟩, ⟨[4], []⟩, ⟨[2, 3, 14], []⟩, ⟨[4], []⟩, ⟨[2, 3, 19], []⟩, ⟨[4], []⟩, ⟨[2, 3, 24], []⟩, ⟨[4], []⟩, ⟨[2, 3, 30], []⟩, ⟨[4], []⟩, ⟨[2, 3, 36], []⟩, ⟨[4], []⟩, ⟨[42], []⟩, ⟨[4], []⟩, ⟨[4], []⟩]
noncomputable def f96e : Env := tab.env [(19, s19), (109, s109), (110, s110)]
theorem f96_run {R : Type} (n : Nat) (k : List Dt → Option R) (a0 : OrderT) (a1 : OrderT) : evFn f96e f96k n f96c [.ro, .ro] [false] true [.tmp 4] [4] [.d .order a0, .d .order a1] k =
    (cond (!(sEq (OrderT.name a0) (OrderT.name a1)))
    (k [.d .bool false])
    (cond (!(sEq (OrderT.target a0) (OrderT.target a1)))
      (k [.d .bool false])
      (cond ((OrderT.low a0) != (OrderT.low a1))
        (k [.d .bool false])
        (cond ((OrderT.high a0) != (OrderT.high a1))
          (k [.d .bool false])
          (cond (sm2 (smL sm_metric) (OrderT.metrics a0) (OrderT.metrics a1))
            (cond (!(eqD (OrderT.metrics a0) (OrderT.metrics a1)))
              (k [.d .bool false])
              (cond (sm2 sm_pace (OrderT.pace a0) (OrderT.pace a1))
                (cond (!(eqD (OrderT.pace a0) (OrderT.pace a1)))
                  (k [.d .bool false])
                  (cond (sm2 (smL sm_note) (OrderT.notes a0) (OrderT.notes a1))
                    (cond (!(eqD (OrderT.notes a0) (OrderT.notes a1)))
                      (k [.d .bool false])
                      (k [.d .bool true]))
                    none))
                none))
            none))))) := by kernel_rfl
theorem f96_spec (a0 : OrderT) (a1 : OrderT) (hg : sm2 sm_order a0 a1 = true) : ∃ keep rounds, ∀ {R : Type} (k : List Dt → Option R), evFn f96e keep rounds f96c [.ro, .ro] [false] true [.tmp 4] [4] [.d .order a0, .d .order a1] k = k [.d .bool (eqD a0 a1)] := by
  simp only [sm2, sm_order, Bool.and_eq_true] at hg
  refine ⟨f96k, 0, fun k => ?_⟩
  rw [f96_run, eqD_order]
  simp only [bne, sm2, hg, Bool.and_self, Bool.true_and, cond_true]
  cases sEq a0.name a1.name <;> cases sEq a0.target a1.target <;> cases (a0.low == a1.low) <;> cases (a0.high == a1.high) <;> cases eqD a0.metrics a1.metrics <;> cases eqD a0.pace a1.pace <;> cases eqD a0.notes a1.notes <;> rfl

noncomputable def q96 : List Dt → Option (Bool × List Dt)
  | [.d .order a0, .d .order a1] => some ((sm2 sm_order a0 a1), [.d .bool (eqD a0 a1)])
  | _ => none
noncomputable def s96 : Gm.Spec := Gm.Spec.of [.ro, .ro] [false] true q96
theorem good96 : Gm.Good Try.prog (96, s96) := by
  have hl : ∀ x ∈ [(19, s19), (109, s109), (110, s110)], Gm.Good Try.prog x := List.forall_mem_cons.2 ⟨good19, List.forall_mem_cons.2 ⟨good109, List.forall_mem_cons.2 ⟨good110, List.forall_mem_nil _⟩⟩⟩
  refine ⟨⟨spec_ok (tab_ok.env hl) (tab.natl hl) Try.func96 (by kernel_rfl : Try.f96.body = some f96c) [4] (by kernel_rfl) ?_, _, Try.func96, by kernel_rfl, of_decide_eq_true (by kernel_rfl)⟩, Gm.Spec.of_natl _ _ _ _⟩
  intro ds outs h
  unfold q96 at h
  split at h
  · simp only [Option.some.injEq, Prod.mk.injEq] at h; obtain ⟨hg, h⟩ := h; cases h; exact f96_spec _ _ hg
  · cases h
/-! ### loop.example/g00465/laws.eqItem -/
noncomputable def f83c : Code := (Try.f83.body).getD .skip
def f83k : Nat → Kp := kat [⟨[2, 3], []⟩, ⟨[2, 3, 10], []⟩, ⟨[4], []⟩, ⟨[15], []⟩, ⟨[4], []⟩, ⟨[4], []⟩]
noncomputable def f83e : Env := tab.env [(96, s96)]
theorem f83_run {R : Type} (n : Nat) (k : List Dt → Option R) (a0 : ItemT) (a1 : ItemT) : evFn f83e f83k n f83c [.ro, .ro] [false] true [.tmp 4] [4] [.d .item a0, .d .item a1] k =
    (cond (sm2 sm_order (ItemT.order a0) (ItemT.order a1))
    (cond (!(eqD (ItemT.order a0) (ItemT.order a1)))
      (k [.d .bool false])
      (cond ((ItemT.ver a0) != (ItemT.ver a1))
        (k [.d .bool false])
        (k [.d .bool true])))
    none) := by kernel_rfl
theorem f83_spec (a0 : ItemT) (a1 : ItemT) (hg : sm2 sm_item a0 a1 = true) : ∃ keep rounds, ∀ {R : Type} (k : List Dt → Option R), evFn f83e keep rounds f83c [.ro, .ro] [false] true [.tmp 4] [4] [.d .item a0, .d .item a1] k = k [.d .bool (eqD a0 a1)] := by
  simp only [sm2, sm_item, Bool.and_eq_true] at hg
  refine ⟨f83k, 0, fun k => ?_⟩
  rw [f83_run, eqD_item]
  simp only [bne, sm2, hg, Bool.and_self, Bool.true_and, cond_true]
  cases eqD a0.order a1.order <;> cases (a0.ver == a1.ver) <;> rfl

noncomputable def q83 : List Dt → Option (Bool × List Dt)
  | [.d .item a0, .d .item a1] => some ((sm2 sm_item a0 a1), [.d .bool (eqD a0 a1)])
  | _ => none
noncomputable def s83 : Gm.Spec := Gm.Spec.of [.ro, .ro] [false] true q83
theorem good83 : Gm.Good Try.prog (83, s83) := by
  have hl : ∀ x ∈ [(96, s96)], Gm.Good Try.prog x := List.forall_mem_cons.2 ⟨good96, List.forall_mem_nil _⟩
  refine ⟨⟨spec_ok (tab_ok.env hl) (tab.natl hl) Try.func83 (by kernel_rfl : Try.f83.body = some f83c) [4] (by kernel_rfl) ?_, _, Try.func83, by kernel_rfl, of_decide_eq_true (by kernel_rfl)⟩, Gm.Spec.of_natl _ _ _ _⟩
  intro ds outs h
  unfold q83 at h
  split at h
  · simp only [Option.some.injEq, Prod.mk.injEq] at h; obtain ⟨hg, h⟩ := h; cases h; exact f83_spec _ _ hg
  · cases h
/-! ### loop.example/g00465/laws.eqItemS -/
noncomputable def f63c : Code := (Try.f63.body).getD .skip
def f63k : Nat → Kp := kat [⟨[0, 1], []⟩, ⟨[0, 1, 10], []⟩, ⟨[4], []⟩, ⟨[0, 1, 5], []⟩, ⟨[0, 1, 5, 14], []⟩, ⟨[0, 1, 5], []⟩, ⟨[0, 1, 5, 26], []⟩, ⟨[4], []⟩, ⟨[4], []⟩]
noncomputable def f63e : Env := tab.env [(83, s83)]
noncomputable def f63L0 {R : Type} (n : Nat) (x0 : Option R) (x1 : Int → Bool → Option R) (vs0 : List ItemT) (vs1 : List ItemT) : Nat → Int → Option R
  | 0, _ => none
  | m + 1, vs5 =>
    (cond (decide (vs5 < (vs0.length : Int)))
      (cond ((decide ((0 : Int) ≤ vs5)) && (decide (vs5 < (vs0.length : Int))))
        (cond ((decide ((0 : Int) ≤ vs5)) && (decide (vs5 < (vs1.length : Int))))
          (cond (sm2 sm_item (atI (t := .item) vs0 (Int.toNat vs5)) (atI (t := .item) vs1 (Int.toNat vs5)))
            (cond (!(eqD (atI (t := .item) vs0 (Int.toNat vs5)) (atI (t := .item) vs1 (Int.toNat vs5))))
              (x0)
              (f63L0 n x0 x1 vs0 vs1 m (IntKind.wrap .i64 (vs5 + (1 : Int)))))
            none)
          none)
        none)
      (x1 vs5 (decide (vs5 < (vs0.length : Int)))))
theorem f63L0_b {R : Type} (n : Nat) (k' : Ex → St → Option R) (vs0 : List ItemT) (vs1 : List ItemT) (vs5 : Int) : ev f63e f63k n (cAt [1,1,0,1,0,0] f63c) ⟨[(0, .c (.one (.ro .item vs0))), (1, .c (.one (.ro .item vs1))), (5, .c (.one (.v (.int .i64 vs5))))], [], []⟩ k' =
    (cond (decide (vs5 < (vs0.length : Int)))
    (cond ((decide ((0 : Int) ≤ vs5)) && (decide (vs5 < (vs0.length : Int))))
      (cond ((decide ((0 : Int) ≤ vs5)) && (decide (vs5 < (vs1.length : Int))))
        (cond (sm2 sm_item (atI (t := .item) vs0 (Int.toNat vs5)) (atI (t := .item) vs1 (Int.toNat vs5)))
          (cond (!(eqD (atI (t := .item) vs0 (Int.toNat vs5)) (atI (t := .item) vs1 (Int.toNat vs5))))
            (k' .ret ⟨[(4, .c (.one (.v (.bool false))))], [], []⟩)
            (k' .normal ⟨[(0, .c (.one (.ro .item vs0))), (1, .c (.one (.ro .item vs1))), (5, .c (.one (.v (.int .i64 (IntKind.wrap .i64 (vs5 + (1 : Int)))))))], [], []⟩))
          none)
        none)
      none)
    (k' (.exit 0) ⟨[(0, .c (.one (.ro .item vs0))), (1, .c (.one (.ro .item vs1))), (5, .c (.one (.v (.int .i64 vs5)))), (14, .c (.one (.v (.bool (decide (vs5 < (vs0.length : Int)))))))], [], []⟩)) := by kernel_rfl
theorem f63L0_eq {R : Type} (n : Nat) (k' : Ex → St → Option R) (vs0 : List ItemT) (vs1 : List ItemT) : ∀ (m : Nat) (vs5 : Int), iter (fun st k => ev f63e f63k n (cAt [1,1,0,1,0,0] f63c) st k) m ⟨[(0, .c (.one (.ro .item vs0))), (1, .c (.one (.ro .item vs1))), (5, .c (.one (.v (.int .i64 vs5))))], [], []⟩ k' = f63L0 n (k' .ret ⟨[(4, .c (.one (.v (.bool false))))], [], []⟩) (fun (xvs5 : Int) (xvs14 : Bool) => k' (.exit 0) ⟨[(0, .c (.one (.ro .item vs0))), (1, .c (.one (.ro .item vs1))), (5, .c (.one (.v (.int .i64 xvs5)))), (14, .c (.one (.v (.bool xvs14))))], [], []⟩) vs0 vs1 m vs5 := by
  intro m; induction m with
  | zero => intros; rfl
  | succ m ih =>
    intro vs5
    simp only [iter]
    rw [f63L0_b]
    simp only [ih, f63L0]

noncomputable def f63K0 {R : Type} (n : Nat) (k' : Ex → St → Option R) : Ex → St → Option R := (blockK 0 (seqK f63e f63k n (cAt [1,1,1] f63c) k'))
theorem f63K0_x0 {R : Type} (n : Nat) (k : List Dt → Option R) (a0 : List ItemT) (a1 : List ItemT)  : f63K0 n (exitK f63e [.ro, .ro] [false] true [.tmp 4] [4] [.d (.sl .item) a0, .d (.sl .item) a1] k) .ret ⟨[(4, .c (.one (.v (.bool false))))], [], []⟩ =
    (k [.d .bool false]) := by kernel_rfl
theorem f63K0_x1 {R : Type} (n : Nat) (k : List Dt → Option R) (a0 : List ItemT) (a1 : List ItemT) (vs0 : List ItemT) (vs1 : List ItemT) (xvs5 : Int) (xvs14 : Bool) : f63K0 n (exitK f63e [.ro, .ro] [false] true [.tmp 4] [4] [.d (.sl .item) a0, .d (.sl .item) a1] k) (.exit 0) ⟨[(0, .c (.one (.ro .item vs0))), (1, .c (.one (.ro .item vs1))), (5, .c (.one (.v (.int .i64 xvs5)))), (14, .c (.one (.v (.bool xvs14))))], [], []⟩ =
    (k [.d .bool true]) := by kernel_rfl

theorem f63_run {R : Type} (n : Nat) (k : List Dt → Option R) (a0 : List ItemT) (a1 : List ItemT) : evFn f63e f63k n f63c [.ro, .ro] [false] true [.tmp 4] [4] [.d (.sl .item) a0, .d (.sl .item) a1] k =
    (cond ((a0.length : Int) != (a1.length : Int))
    (k [.d .bool false])
    (f63L0 n (k [.d .bool false]) (fun (xvs5 : Int) (xvs14 : Bool) =>
      (k [.d .bool true])) a0 a1 n (0 : Int))) := by
  refine Eq.trans (b := (cond ((a0.length : Int) != (a1.length : Int))
    (k [.d .bool false])
    (iter (fun st k => ev f63e f63k n (cAt [1,1,0,1,0,0] f63c) st k) n ⟨[(0, .c (.one (.ro .item a0))), (1, .c (.one (.ro .item a1))), (5, .c (.one (.v (.int .i64 (0 : Int)))))], [], []⟩ (f63K0 n (exitK f63e [.ro, .ro] [false] true [.tmp 4] [4] [.d (.sl .item) a0, .d (.sl .item) a1] k))))) (by kernel_rfl) ?_
  simp only [f63L0_eq, f63K0_x0, f63K0_x1]
theorem f63_spec (a0 : List ItemT) (a1 : List ItemT) (hg : sm2 (smL sm_item) a0 a1 = true) : ∃ keep rounds, ∀ {R : Type} (k : List Dt → Option R), evFn f63e keep rounds f63c [.ro, .ro] [false] true [.tmp 4] [4] [.d (.sl .item) a0, .d (.sl .item) a1] k = k [.d .bool (eqD a0 a1)] := by
  simp only [sm2, Bool.and_eq_true] at hg
  obtain ⟨hg0, hg1⟩ := hg
  have hl : a0.length ≤ 1048576 := smL_len hg0
  refine ⟨f63k, a0.length + 1, fun k => ?_⟩
  rw [f63_run]
  by_cases hc : a0.length = a1.length
  · have hc' : ((a0.length : Int) != (a1.length : Int)) = false := by simp [hc]
    simp only [hc', cond_false]
    refine Eq.trans (loop_idx (n := a0.length) (F := fun m i => f63L0 (a0.length + 1) _ _ a0 a1 m i) (p := fun j => eqD (atI (t := .item) a0 j) (atI (t := .item) a1 j)) (good := k [.d .bool true]) (bad := k [.d .bool false])
      (fun m j hj => ?_) (fun m => by simp only [f63L0, idxE, cond_false]) a0.length 0 (a0.length + 1) (by omega) (by omega)) ?_
    · obtain ⟨h1, h0, hw, ht⟩ := idx hj (by omega)
      obtain ⟨h2, _, _, _⟩ := idx (show j < a1.length by omega) (by omega)
      have ha := smL_at (t := .item) hg0 hj
      have hb := smL_at (t := .item) hg1 (show j < a1.length by omega)
      simp only [f63L0, h1, h0, h2, hw, ht, Bool.and_self, cond_true, sm2, ha, hb]
      cases eqD (atI (t := .item) a0 j) (atI (t := .item) a1 j) <;> rfl
    · rw [allN_eq hc (fun j x y hx hy => by rw [atI_of (t := .item) hx, atI_of (t := .item) hy])]
      cases eqD a0 a1 <;> rfl
  · simp only [bneLen hc, cond_true]
    rw [eqD_ne (fun e => hc (by rw [e]))]

noncomputable def q63 : List Dt → Option (Bool × List Dt)
  | [.d (.sl .item) a0, .d (.sl .item) a1] => some ((sm2 (smL sm_item) a0 a1), [.d .bool (eqD a0 a1)])
  | _ => none
noncomputable def s63 : Gm.Spec := Gm.Spec.of [.ro, .ro] [false] true q63
theorem good63 : Gm.Good Try.prog (63, s63) := by
  have hl : ∀ x ∈ [(83, s83)], Gm.Good Try.prog x := List.forall_mem_cons.2 ⟨good83, List.forall_mem_nil _⟩
  refine ⟨⟨spec_ok (tab_ok.env hl) (tab.natl hl) Try.func63 (by kernel_rfl : Try.f63.body = some f63c) [4] (by kernel_rfl) ?_, _, Try.func63, by kernel_rfl, of_decide_eq_true (by kernel_rfl)⟩, Gm.Spec.of_natl _ _ _ _⟩
  intro ds outs h
  unfold q63 at h
  split at h
  · simp only [Option.some.injEq, Prod.mk.injEq] at h; obtain ⟨hg, h⟩ := h; cases h; exact f63_spec _ _ hg
  · cases h
/-! ### loop.example/g00465/laws.eqStore -/
noncomputable def f31c : Code := (Try.f31.body).getD .skip
def f31k : Nat → Kp := kat [⟨[2, 3], []⟩, ⟨[2, 3, 10], []⟩, ⟨[4], []⟩, ⟨[15], []⟩, ⟨[4], []⟩, ⟨[4], []⟩]
noncomputable def f31e : Env := tab.env [(63, s63)]
theorem f31_run {R : Type} (n : Nat) (k : List Dt → Option R) (a0 : StoreT) (a1 : StoreT) : evFn f31e f31k n f31c [.ro, .ro] [false] true [.tmp 4] [4] [.d .store a0, .d .store a1] k =
    (cond (sm2 (smL sm_item) (StoreT.items a0) (StoreT.items a1))
    (cond (!(eqD (StoreT.items a0) (StoreT.items a1)))
      (k [.d .bool false])
      (cond ((StoreT.next a0) != (StoreT.next a1))
        (k [.d .bool false])
        (k [.d .bool true])))
    none) := by kernel_rfl
theorem f31_spec (a0 : StoreT) (a1 : StoreT) (hg : sm2 sm_store a0 a1 = true) : ∃ keep rounds, ∀ {R : Type} (k : List Dt → Option R), evFn f31e keep rounds f31c [.ro, .ro] [false] true [.tmp 4] [4] [.d .store a0, .d .store a1] k = k [.d .bool (eqD a0 a1)] := by
  simp only [sm2, sm_store, Bool.and_eq_true] at hg
  refine ⟨f31k, 0, fun k => ?_⟩
  rw [f31_run, eqD_store]
  simp only [bne, sm2, hg, Bool.and_self, Bool.true_and, cond_true]
  cases eqD a0.items a1.items <;> cases (a0.next == a1.next) <;> rfl

noncomputable def q31 : List Dt → Option (Bool × List Dt)
  | [.d .store a0, .d .store a1] => some ((sm2 sm_store a0 a1), [.d .bool (eqD a0 a1)])
  | _ => none
noncomputable def s31 : Gm.Spec := Gm.Spec.of [.ro, .ro] [false] true q31
theorem good31 : Gm.Good Try.prog (31, s31) := by
  have hl : ∀ x ∈ [(63, s63)], Gm.Good Try.prog x := List.forall_mem_cons.2 ⟨good63, List.forall_mem_nil _⟩
  refine ⟨⟨spec_ok (tab_ok.env hl) (tab.natl hl) Try.func31 (by kernel_rfl : Try.f31.body = some f31c) [4] (by kernel_rfl) ?_, _, Try.func31, by kernel_rfl, of_decide_eq_true (by kernel_rfl)⟩, Gm.Spec.of_natl _ _ _ _⟩
  intro ds outs h
  unfold q31 at h
  split at h
  · simp only [Option.some.injEq, Prod.mk.injEq] at h; obtain ⟨hg, h⟩ := h; cases h; exact f31_spec _ _ hg
  · cases h
/-! ### loop.example/g00465/laws.eqPickS -/
noncomputable def f32c : Code := (Try.f32.body).getD .skip
def f32k : Nat → Kp := kat [⟨[0, 1], []⟩, ⟨[0, 1, 10], []⟩, ⟨[4], []⟩, ⟨[0, 1, 5], []⟩, ⟨[0, 1, 5, 14], []⟩, ⟨[0, 1, 5], []⟩, ⟨[0, 1, 5, 26], []⟩, ⟨[4], []⟩, ⟨[4], []⟩]
noncomputable def f32e : Env := tab.env [(12, s12)]
noncomputable def f32L0 {R : Type} (n : Nat) (x0 : Option R) (x1 : Int → Bool → Option R) (vs0 : List PickT) (vs1 : List PickT) : Nat → Int → Option R
  | 0, _ => none
  | m + 1, vs5 =>
    (cond (decide (vs5 < (vs0.length : Int)))
      (cond ((decide ((0 : Int) ≤ vs5)) && (decide (vs5 < (vs0.length : Int))))
        (cond ((decide ((0 : Int) ≤ vs5)) && (decide (vs5 < (vs1.length : Int))))
          (cond (sm2 sm_pick (atI (t := .pick) vs0 (Int.toNat vs5)) (atI (t := .pick) vs1 (Int.toNat vs5)))
            (cond (!(eqD (atI (t := .pick) vs0 (Int.toNat vs5)) (atI (t := .pick) vs1 (Int.toNat vs5))))
              (x0)
              (f32L0 n x0 x1 vs0 vs1 m (IntKind.wrap .i64 (vs5 + (1 : Int)))))
            none)
          none)
        none)
      (x1 vs5 (decide (vs5 < (vs0.length : Int)))))
theorem f32L0_b {R : Type} (n : Nat) (k' : Ex → St → Option R) (vs0 : List PickT) (vs1 : List PickT) (vs5 : Int) : ev f32e f32k n (cAt [1,1,0,1,0,0] f32c) ⟨[(0, .c (.one (.ro .pick vs0))), (1, .c (.one (.ro .pick vs1))), (5, .c (.one (.v (.int .i64 vs5))))], [], []⟩ k' =
    (cond (decide (vs5 < (vs0.length : Int)))
    (cond ((decide ((0 : Int) ≤ vs5)) && (decide (vs5 < (vs0.length : Int))))
      (cond ((decide ((0 : Int) ≤ vs5)) && (decide (vs5 < (vs1.length : Int))))
        (cond (sm2 sm_pick (atI (t := .pick) vs0 (Int.toNat vs5)) (atI (t := .pick) vs1 (Int.toNat vs5)))
          (cond (!(eqD (atI (t := .pick) vs0 (Int.toNat vs5)) (atI (t := .pick) vs1 (Int.toNat vs5))))
            (k' .ret ⟨[(4, .c (.one (.v (.bool false))))], [], []⟩)
            (k' .normal ⟨[(0, .c (.one (.ro .pick vs0))), (1, .c (.one (.ro .pick vs1))), (5, .c (.one (.v (.int .i64 (IntKind.wrap .i64 (vs5 + (1 : Int)))))))], [], []⟩))
          none)
        none)
      none)
    (k' (.exit 0) ⟨[(0, .c (.one (.ro .pick vs0))), (1, .c (.one (.ro .pick vs1))), (5, .c (.one (.v (.int .i64 vs5)))), (14, .c (.one (.v (.bool (decide (vs5 < (vs0.length : Int)))))))], [], []⟩)) := by kernel_rfl
theorem f32L0_eq {R : Type} (n : Nat) (k' : Ex → St → Option R) (vs0 : List PickT) (vs1 : List PickT) : ∀ (m : Nat) (vs5 : Int), iter (fun st k => ev f32e f32k n (cAt [1,1,0,1,0,0] f32c) st k) m ⟨[(0, .c (.one (.ro .pick vs0))), (1, .c (.one (.ro .pick vs1))), (5, .c (.one (.v (.int .i64 vs5))))], [], []⟩ k' = f32L0 n (k' .ret ⟨[(4, .c (.one (.v (.bool false))))], [], []⟩) (fun (xvs5 : Int) (xvs14 : Bool) => k' (.exit 0) ⟨[(0, .c (.one (.ro .pick vs0))), (1, .c (.one (.ro .pick vs1))), (5, .c (.one (.v (.int .i64 xvs5)))), (14, .c (.one (.v (.bool xvs14))))], [], []⟩) vs0 vs1 m vs5 := by
  intro m; induction m with
  | zero => intros; rfl
  | succ m ih =>
    intro vs5
    simp only [iter]
    rw [f32L0_b]
    simp only [ih, f32L0]

noncomputable def f32K0 {R : Type} (n : Nat) (k' : Ex → St → Option R) : Ex → St → Option R := (blockK 0 (seqK f32e f32k n (cAt [1,1,1] f32c) k'))
theorem f32K0_x0 {R : Type} (n : Nat) (k : List Dt → Option R) (a0 : List PickT) (a1 : List PickT)  : f32K0 n (exitK f32e [.ro, .ro] [false] true [.tmp 4] [4] [.d (.sl .pick) a0, .d (.sl .pick) a1] k) .ret ⟨[(4, .c (.one (.v (.bool false))))], [], []⟩ =
    (k [.d .bool false]) := by kernel_rfl
theorem f32K0_x1 {R : Type} (n : Nat) (k : List Dt → Option R) (a0 : List PickT) (a1 : List PickT) (vs0 : List PickT) (vs1 : List PickT) (xvs5 : Int) (xvs14 : Bool) : f32K0 n (exitK f32e [.ro, .ro] [false] true [.tmp 4] [4] [.d (.sl .pick) a0, .d (.sl .pick) a1] k) (.exit 0) ⟨[(0, .c (.one (.ro .pick vs0))), (1, .c (.one (.ro .pick vs1))), (5, .c (.one (.v (.int .i64 xvs5)))), (14, .c (.one (.v (.bool xvs14))))], [], []⟩ =
    (k [.d .bool true]) := by kernel_rfl

theorem f32_run {R : Type} (n : Nat) (k : List Dt → Option R) (a0 : List PickT) (a1 : List PickT) : evFn f32e f32k n f32c [.ro, .ro] [false] true [.tmp 4] [4] [.d (.sl .pick) a0, .d (.sl .pick) a1] k =
    (cond ((a0.length : Int) != (a1.length : Int))
    (k [.d .bool false])
    (f32L0 n (k [.d .bool false]) (fun (xvs5 : Int) (xvs14 : Bool) =>
      (k [.d .bool true])) a0 a1 n (0 : Int))) := by
  refine Eq.trans (b := (cond ((a0.length : Int) != (a1.length : Int))
    (k [.d .bool false])
    (iter (fun st k => ev f32e f32k n (cAt [1,1,0,1,0,0] f32c) st k) n ⟨[(0, .c (.one (.ro .pick a0))), (1, .c (.one (.ro .pick a1))), (5, .c (.one (.v (.int .i64 (0 : Int)))))], [], []⟩ (f32K0 n (exitK f32e [.ro, .ro] [false] true [.tmp 4] [4] [.d (.sl .pick) a0, .d (.sl .pick) a1] k))))) (by kernel_rfl) ?_
  simp only [f32L0_eq, f32K0_x0, f32K0_x1]
theorem f32_spec (a0 : List PickT) (a1 : List PickT) (hg : sm2 (smL sm_pick) a0 a1 = true) : ∃ keep rounds, ∀ {R : Type} (k : List Dt → Option R), evFn f32e keep rounds f32c [.ro, .ro] [false] true [.tmp 4] [4] [.d (.sl .pick) a0, .d (.sl .pick) a1] k = k [.d .bool (eqD a0 a1)] := by
  simp only [sm2, Bool.and_eq_true] at hg
  obtain ⟨hg0, hg1⟩ := hg
  have hl : a0.length ≤ 1048576 := smL_len hg0
  refine ⟨f32k, a0.length + 1, fun k => ?_⟩
  rw [f32_run]
  by_cases hc : a0.length = a1.length
  · have hc' : ((a0.length : Int) != (a1.length : Int)) = false := by simp [hc]
    simp only [hc', cond_false]
    refine Eq.trans (loop_idx (n := a0.length) (F := fun m i => f32L0 (a0.length + 1) _ _ a0 a1 m i) (p := fun j => eqD (atI (t := .pick) a0 j) (atI (t := .pick) a1 j)) (good := k [.d .bool true]) (bad := k [.d .bool false])
      (fun m j hj => ?_) (fun m => by simp only [f32L0, idxE, cond_false]) a0.length 0 (a0.length + 1) (by omega) (by omega)) ?_
    · obtain ⟨h1, h0, hw, ht⟩ := idx hj (by omega)
      obtain ⟨h2, _, _, _⟩ := idx (show j < a1.length by omega) (by omega)
      have ha := smL_at (t := .pick) hg0 hj
      have hb := smL_at (t := .pick) hg1 (show j < a1.length by omega)
      simp only [f32L0, h1, h0, h2, hw, ht, Bool.and_self, cond_true, sm2, ha, hb]
      cases eqD (atI (t := .pick) a0 j) (atI (t := .pick) a1 j) <;> rfl
    · rw [allN_eq hc (fun j x y hx hy => by rw [atI_of (t := .pick) hx, atI_of (t := .pick) hy])]
      cases eqD a0 a1 <;> rfl
  · simp only [bneLen hc, cond_true]
    rw [eqD_ne (fun e => hc (by rw [e]))]

noncomputable def q32 : List Dt → Option (Bool × List Dt)
  | [.d (.sl .pick) a0, .d (.sl .pick) a1] => some ((sm2 (smL sm_pick) a0 a1), [.d .bool (eqD a0 a1)])
  | _ => none
noncomputable def s32 : Gm.Spec := Gm.Spec.of [.ro, .ro] [false] true q32
theorem good32 : Gm.Good Try.prog (32, s32) := by
  have hl : ∀ x ∈ [(12, s12)], Gm.Good Try.prog x := List.forall_mem_cons.2 ⟨good12, List.forall_mem_nil _⟩
  refine ⟨⟨spec_ok (tab_ok.env hl) (tab.natl hl) Try.func32 (by kernel_rfl : Try.f32.body = some f32c) [4] (by kernel_rfl) ?_, _, Try.func32, by kernel_rfl, of_decide_eq_true (by kernel_rfl)⟩, Gm.Spec.of_natl _ _ _ _⟩
  intro ds outs h
  unfold q32 at h
  split at h
  · simp only [Option.some.injEq, Prod.mk.injEq] at h; obtain ⟨hg, h⟩ := h; cases h; exact f32_spec _ _ hg
  · cases h
end Go.Proofs.Ytklmnopgogcbhaa

/- x -/
namespace Go.Proofs.Ytklmnopgogcbhaa
open Go Go.Gm
/-! ### loop.example/g00465/laws.markText -/
noncomputable def f65c : Code := (Try.f65.body).getD .skip
def f65k : Nat → Kp := kat [⟨[0], []⟩, ⟨[0, 5], []⟩, ⟨[2], []⟩, ⟨[0, 3], []⟩, ⟨[0, 3, 7], []⟩, ⟨[0, 3], []⟩, ⟨[0, 3], []⟩, ⟨[2], []⟩]
noncomputable def f65e : Env := tab.env []
noncomputable def f65L0 {R : Type} (n : Nat) (x0 : Int → ByteArray → Bool → Option R)  : Nat → Int → ByteArray → Option R
  | 0, _, _ => none
  | m + 1, vs0, vs3 =>
    (cond (decide (vs0 > (0 : Int)))
      (cond (decide (ByteArray.size (bytesOf ([(IntKind.wrap .u8 (IntKind.wrap .i64 ((48 : Int) + (Int.tmod vs0 (10 : Int)))))] : List Int)) + ByteArray.size vs3 ≤ 9223372036854775807))
        (f65L0 n x0 m (IntKind.wrap .i64 (Int.tdiv vs0 (10 : Int))) ((bytesOf ([(IntKind.wrap .u8 (IntKind.wrap .i64 ((48 : Int) + (Int.tmod vs0 (10 : Int)))))] : List Int)) ++ vs3))
        none)
      (x0 vs0 vs3 (decide (vs0 > (0 : Int)))))
theorem f65L0_b {R : Type} (n : Nat) (k' : Ex → St → Option R) (vs0 : Int) (vs3 : ByteArray) : ev f65e f65k n (cAt [1,1,1,0,0,0] f65c) ⟨[(0, .c (.one (.v (.int .i64 vs0)))), (3, .c (.one (.v (.string vs3))))], [], []⟩ k' =
    (cond (decide (vs0 > (0 : Int)))
    (cond (decide (ByteArray.size (bytesOf ([(IntKind.wrap .u8 (IntKind.wrap .i64 ((48 : Int) + (Int.tmod vs0 (10 : Int)))))] : List Int)) + ByteArray.size vs3 ≤ 9223372036854775807))
      (k' .normal ⟨[(0, .c (.one (.v (.int .i64 (IntKind.wrap .i64 (Int.tdiv vs0 (10 : Int))))))), (3, .c (.one (.v (.string ((bytesOf ([(IntKind.wrap .u8 (IntKind.wrap .i64 ((48 : Int) + (Int.tmod vs0 (10 : Int)))))] : List Int)) ++ vs3)))))], [], []⟩)
      none)
    (k' (.exit 0) ⟨[(0, .c (.one (.v (.int .i64 vs0)))), (3, .c (.one (.v (.string vs3)))), (7, .c (.one (.v (.bool (decide (vs0 > (0 : Int)))))))], [], []⟩)) := by kernel_rfl
theorem f65L0_eq {R : Type} (n : Nat) (k' : Ex → St → Option R)  : ∀ (m : Nat) (vs0 : Int) (vs3 : ByteArray), iter (fun st k => ev f65e f65k n (cAt [1,1,1,0,0,0] f65c) st k) m ⟨[(0, .c (.one (.v (.int .i64 vs0)))), (3, .c (.one (.v (.string vs3))))], [], []⟩ k' = f65L0 n (fun (xvs0 : Int) (xvs3 : ByteArray) (xvs7 : Bool) => k' (.exit 0) ⟨[(0, .c (.one (.v (.int .i64 xvs0)))), (3, .c (.one (.v (.string xvs3)))), (7, .c (.one (.v (.bool xvs7))))], [], []⟩) m vs0 vs3 := by
  intro m; induction m with
  | zero => intros; rfl
  | succ m ih =>
    intro vs0 vs3
    simp only [iter]
    rw [f65L0_b]
    simp only [ih, f65L0]

noncomputable def f65K0 {R : Type} (n : Nat) (k' : Ex → St → Option R) : Ex → St → Option R := (blockK 0 (seqK f65e f65k n (cAt [1,1,1,1] f65c) k'))
theorem f65K0_x0 {R : Type} (n : Nat) (k : List Dt → Option R) (a0 : Int) (xvs0 : Int) (xvs3 : ByteArray) (xvs7 : Bool) : f65K0 n (exitK f65e [.ro] [false] true [.tmp 2] [9] [.d (.i .i64) a0] k) (.exit 0) ⟨[(0, .c (.one (.v (.int .i64 xvs0)))), (3, .c (.one (.v (.string xvs3)))), (7, .c (.one (.v (.bool xvs7))))], [], []⟩ =
    (cond (decide (ByteArray.size (bs [109]) + ByteArray.size xvs3 ≤ 9223372036854775807))
    (k [.d .str ((bs [109]) ++ xvs3)])
    none) := by kernel_rfl

theorem f65_run {R : Type} (n : Nat) (k : List Dt → Option R) (a0 : Int) : evFn f65e f65k n f65c [.ro] [false] true [.tmp 2] [9] [.d (.i .i64) a0] k =
    (cond (decide (a0 ≤ (0 : Int)))
    (k [.d .str (bs [109,48])])
    (f65L0 n (fun (xvs0 : Int) (xvs3 : ByteArray) (xvs7 : Bool) =>
      (cond (decide (ByteArray.size (bs [109]) + ByteArray.size xvs3 ≤ 9223372036854775807))
        (k [.d .str ((bs [109]) ++ xvs3)])
        none)) n a0 ByteArray.empty)) := by
  refine Eq.trans (b := (cond (decide (a0 ≤ (0 : Int)))
    (k [.d .str (bs [109,48])])
    (iter (fun st k => ev f65e f65k n (cAt [1,1,1,0,0,0] f65c) st k) n ⟨[(0, .c (.one (.v (.int .i64 a0)))), (3, .c (.one (.v (.string ByteArray.empty))))], [], []⟩ (f65K0 n (exitK f65e [.ro] [false] true [.tmp 2] [9] [.d (.i .i64) a0] k))))) (by kernel_rfl) ?_
  simp only [f65L0_eq, f65K0_x0]
theorem f65_spec (a0 : Int) (hg : okI a0 = true) : ∃ keep rounds, ∀ {R : Type} (k : List Dt → Option R), evFn f65e keep rounds f65c [.ro] [false] true [.tmp 2] [9] [.d (.i .i64) a0] k = k [.d .str (mkT a0)] := by
  rw [okI_iff] at hg
  refine ⟨f65k, 25, fun {R} k => ?_⟩
  rw [f65_run]
  show _ = k [.d .str (mkT a0)]
  unfold mkT
  by_cases hz : a0 ≤ 0
  · simp only [hz, decide_true, cond_true]
  simp only [hz, decide_false, cond_false]
  have key : ∀ (d m : Nat) (n : Int) (out : ByteArray), 0 ≤ n → n.natAbs < 10 ^ d → d ≤ 20 → d < m → n ≤ 9223372036854775807 → out.size + d ≤ 100 → ∀ X : Int → ByteArray → Bool → Option R, f65L0 25 X m n out = X 0 (digR n.natAbs out) false := by
    intro d
    induction d with
    | zero =>
      intro m n out h0 hn hd hm hw hs X
      obtain ⟨m, rfl⟩ : ∃ m', m = m' + 1 := ⟨m - 1, by omega⟩
      have : n = 0 := by omega
      subst this
      simp only [f65L0]
      rfl
    | succ d ih =>
      intro m n out h0 hn hd hm hw hs X
      obtain ⟨m, rfl⟩ : ∃ m', m = m' + 1 := ⟨m - 1, by omega⟩
      by_cases hn0 : n = 0
      · subst hn0
        simp only [f65L0]
        rfl
      have h0' : decide (n > (0 : Int)) = true := decide_eq_true (by omega)
      have hn2 : n.natAbs / 10 < 10 ^ d := by rw [Nat.pow_succ] at hn; omega
      have hb := byte_dig (n.natAbs % 10) (by omega)
      have hsz : ByteArray.size ⟨#[UInt8.ofNat (48 + n.natAbs % 10)]⟩ = 1 := rfl
      simp only [f65L0, h0', cond_true]
      have t1 : IntKind.wrap .i64 (Int.tdiv n 10) = ((n.natAbs / 10 : Nat) : Int) := by rw [tdiv_pos (by omega)]; exact wrap_id (by omega) (by omega)
      have t2 : Int.tmod n 10 = ((n.natAbs % 10 : Nat) : Int) := tmod_pos (by omega)
      rw [t1, t2, hb]
      have fin := ih m (((n.natAbs / 10 : Nat) : Int)) (⟨#[UInt8.ofNat (48 + n.natAbs % 10)]⟩ ++ out) (by omega) (by omega) (by omega) (by omega) (by omega) (by rw [ByteArray.size_append]; omega) X
      rw [show (((n.natAbs / 10 : Nat) : Int)).natAbs = n.natAbs / 10 by omega, digR_step (by omega)] at fin
      rw [← fin]
      have hle := app_le (a := ⟨#[UInt8.ofNat (48 + n.natAbs % 10)]⟩) (b := out) (by omega)
      simp only [cond_true, hle]
  refine Eq.trans (key 20 25 a0 ByteArray.empty (by omega) (by have : (10 : Nat) ^ 20 = 100000000000000000000 := rfl; omega) (by omega) (by omega) (by omega) (by show 0 + 20 ≤ 100; omega) _) ?_
  have e : digR a0.natAbs ByteArray.empty = ⟨(natDig a0.natAbs).toArray⟩ := by
    unfold digR; rw [if_neg (by omega)]; apply ba_ext; simp
  have hs := digS_size (n := a0) (okI_iff.2 hg)
  have ed : digS a0 = ⟨(natDig a0.natAbs).toArray⟩ := by
    unfold digS; rw [if_neg (by omega)]; simp
  rw [e, ← ed, app_le (by rw [bs_size, List.length_cons, List.length_nil]; omega)]
  rfl

noncomputable def q65 : List Dt → Option (Bool × List Dt)
  | [.d (.i .i64) a0] => some ((okI a0), [.d .str (mkT a0)])
  | _ => none
noncomputable def s65 : Gm.Spec := Gm.Spec.of [.ro] [false] true q65
theorem good65 : Gm.Good Try.prog (65, s65) := by
  have hl : ∀ x ∈ ([] : List (Nat × Gm.Spec)), Gm.Good Try.prog x := fun _ h => by cases h
  refine ⟨⟨spec_ok (tab_ok.env hl) (tab.natl hl) Try.func65 (by kernel_rfl : Try.f65.body = some f65c) [9] (by kernel_rfl) ?_, _, Try.func65, by kernel_rfl, of_decide_eq_true (by kernel_rfl)⟩, Gm.Spec.of_natl _ _ _ _⟩
  intro ds outs h
  unfold q65 at h
  split at h
  · simp only [Option.some.injEq, Prod.mk.injEq] at h; obtain ⟨hg, h⟩ := h; cases h; exact f65_spec _ hg
  · cases h
/-! ### loop.example/g00465/laws.markMetricS -/
noncomputable def f84c : Code := (Try.f84.body).getD .skip
def f84k : Nat → Kp := kat [⟨[0, 1], []⟩, ⟨[0, 1, 5], []⟩, ⟨[0, 1, 5, 9], []⟩, ⟨[0, 1, 5], []⟩, ⟨[0, 1, 5], []⟩, ⟨[0, 1, 5], []⟩, ⟨[0, 1, 5], []⟩, ⟨[0, 1, 5], []⟩, ⟨[0, 1, 5], []⟩, ⟨[0, 1, 5], []⟩, ⟨[0, 4], []⟩]
noncomputable def f84e : Env := tab.env [(65, s65)]
noncomputable def f84v0 (vr0 : List MetricT) (vs5 : Int) (vs1 : Int) : List MetricT :=
  (vr0.set (Int.toNat vs5) (⟨(mkT vs1), (MetricT.kind (atI (t := .metric) vr0 (Int.toNat vs5))), (MetricT.goal (atI (t := .metric) vr0 (Int.toNat vs5)))⟩ : MetricT))
noncomputable def f84v1 (vr0 : List MetricT) (vs5 : Int) (vs1 : Int) : List MetricT :=
  ((f84v0 vr0 vs5 vs1).set (Int.toNat vs5) (⟨(MetricT.name (atI (t := .metric) (f84v0 vr0 vs5 vs1) (Int.toNat vs5))), (IntKind.wrap .i64 (vs1 + (1 : Int))), (MetricT.goal (atI (t := .metric) (f84v0 vr0 vs5 vs1) (Int.toNat vs5)))⟩ : MetricT))
noncomputable def f84v2 (vr0 : List MetricT) (vs5 : Int) (vs1 : Int) : List MetricT :=
  ((f84v1 vr0 vs5 vs1).set (Int.toNat vs5) (⟨(MetricT.name (atI (t := .metric) (f84v1 vr0 vs5 vs1) (Int.toNat vs5))), (MetricT.kind (atI (t := .metric) (f84v1 vr0 vs5 vs1) (Int.toNat vs5))), (IntKind.wrap .i64 ((IntKind.wrap .i64 (vs1 + (1 : Int))) + (1 : Int)))⟩ : MetricT))
noncomputable def f84L0 {R : Type} (n : Nat) (x0 : Int → Int → Bool → (List MetricT) → Option R)  : Nat → Int → Int → (List MetricT) → Option R
  | 0, _, _, _ => none
  | m + 1, vs1, vs5, vr0 =>
    (cond (decide (vs5 < (vr0.length : Int)))
      (cond (okI vs1)
        (cond ((decide ((0 : Int) ≤ vs5)) && (decide (vs5 < (vr0.length : Int))))
          (cond ((decide ((0 : Int) ≤ vs5)) && (decide (vs5 < ((f84v0 vr0 vs5 vs1).length : Int))))
            (cond ((decide ((0 : Int) ≤ vs5)) && (decide (vs5 < ((f84v1 vr0 vs5 vs1).length : Int))))
              (f84L0 n x0 m (IntKind.wrap .i64 ((IntKind.wrap .i64 ((IntKind.wrap .i64 (vs1 + (1 : Int))) + (1 : Int))) + (1 : Int))) (IntKind.wrap .i64 (vs5 + (1 : Int))) (f84v2 vr0 vs5 vs1))
              none)
            none)
          none)
        none)
      (x0 vs1 vs5 (decide (vs5 < (vr0.length : Int))) vr0))
theorem f84L0_b {R : Type} (n : Nat) (k' : Ex → St → Option R) (vs1 : Int) (vs5 : Int) (vr0 : List MetricT) : ev f84e f84k n (cAt [1,0,1,0,0] f84c) ⟨[(0, .c (.one (.h 0 0 0 []))), (1, .c (.one (.v (.int .i64 vs1)))), (5, .c (.one (.v (.int .i64 vs5))))], [], [(0, .live ⟨.metric, .deep, 0, [], vr0⟩)]⟩ k' =
    (cond (decide (vs5 < (vr0.length : Int)))
    (cond (okI vs1)
      (cond ((decide ((0 : Int) ≤ vs5)) && (decide (vs5 < (vr0.length : Int))))
        (cond ((decide ((0 : Int) ≤ vs5)) && (decide (vs5 < ((f84v0 vr0 vs5 vs1).length : Int))))
          (cond ((decide ((0 : Int) ≤ vs5)) && (decide (vs5 < ((f84v1 vr0 vs5 vs1).length : Int))))
            (k' .normal ⟨[(0, .c (.one (.h 0 0 0 []))), (1, .c (.one (.v (.int .i64 (IntKind.wrap .i64 ((IntKind.wrap .i64 ((IntKind.wrap .i64 (vs1 + (1 : Int))) + (1 : Int))) + (1 : Int))))))), (5, .c (.one (.v (.int .i64 (IntKind.wrap .i64 (vs5 + (1 : Int)))))))], [], [(0, .live ⟨.metric, .deep, 0, [], (f84v2 vr0 vs5 vs1)⟩)]⟩)
            none)
          none)
        none)
      none)
    (k' (.exit 0) ⟨[(0, .c (.one (.h 0 0 0 []))), (1, .c (.one (.v (.int .i64 vs1)))), (5, .c (.one (.v (.int .i64 vs5)))), (9, .c (.one (.v (.bool (decide (vs5 < (vr0.length : Int)))))))], [], [(0, .live ⟨.metric, .deep, 0, [], vr0⟩)]⟩)) := by kernel_rfl
theorem f84L0_eq {R : Type} (n : Nat) (k' : Ex → St → Option R)  : ∀ (m : Nat) (vs1 : Int) (vs5 : Int) (vr0 : List MetricT), iter (fun st k => ev f84e f84k n (cAt [1,0,1,0,0] f84c) st k) m ⟨[(0, .c (.one (.h 0 0 0 []))), (1, .c (.one (.v (.int .i64 vs1)))), (5, .c (.one (.v (.int .i64 vs5))))], [], [(0, .live ⟨.metric, .deep, 0, [], vr0⟩)]⟩ k' = f84L0 n (fun (xvs1 : Int) (xvs5 : Int) (xvs9 : Bool) (xvr0 : List MetricT) => k' (.exit 0) ⟨[(0, .c (.one (.h 0 0 0 []))), (1, .c (.one (.v (.int .i64 xvs1)))), (5, .c (.one (.v (.int .i64 xvs5)))), (9, .c (.one (.v (.bool xvs9))))], [], [(0, .live ⟨.metric, .deep, 0, [], xvr0⟩)]⟩) m vs1 vs5 vr0 := by
  intro m; induction m with
  | zero => intros; rfl
  | succ m ih =>
    intro vs1 vs5 vr0
    simp only [iter]
    rw [f84L0_b]
    simp only [ih, f84L0]

noncomputable def f84K0 {R : Type} (n : Nat) (k' : Ex → St → Option R) : Ex → St → Option R := (blockK 0 (seqK f84e f84k n (cAt [1,1] f84c) k'))
theorem f84K0_x0 {R : Type} (n : Nat) (k : List Dt → Option R) (a0 : List MetricT) (a1 : Int) (xvs1 : Int) (xvs5 : Int) (xvs9 : Bool) (xvr0 : List MetricT) : f84K0 n (exitK f84e [.«mut», .ro] [false] true [.tmp 4] [3] [.d (.sl .metric) a0, .d (.i .i64) a1] k) (.exit 0) ⟨[(0, .c (.one (.h 0 0 0 []))), (1, .c (.one (.v (.int .i64 xvs1)))), (5, .c (.one (.v (.int .i64 xvs5)))), (9, .c (.one (.v (.bool xvs9))))], [], [(0, .live ⟨.metric, .deep, 0, [], xvr0⟩)]⟩ =
    (k [.d (.i .i64) xvs1, .d (.sl .metric) xvr0]) := by kernel_rfl

theorem f84_run {R : Type} (n : Nat) (k : List Dt → Option R) (a0 : List MetricT) (a1 : Int) : evFn f84e f84k n f84c [.«mut», .ro] [false] true [.tmp 4] [3] [.d (.sl .metric) a0, .d (.i .i64) a1] k =
    (f84L0 n (fun (xvs1 : Int) (xvs5 : Int) (xvs9 : Bool) (xvr0 : List MetricT) =>
    (k [.d (.i .i64) xvs1, .d (.sl .metric) xvr0])) n a1 (0 : Int) a0) := by
  refine Eq.trans (b := (iter (fun st k => ev f84e f84k n (cAt [1,0,1,0,0] f84c) st k) n ⟨[(0, .c (.one (.h 0 0 0 []))), (1, .c (.one (.v (.int .i64 a1)))), (5, .c (.one (.v (.int .i64 (0 : Int)))))], [], [(0, .live ⟨.metric, .deep, 0, [], a0⟩)]⟩ (f84K0 n (exitK f84e [.«mut», .ro] [false] true [.tmp 4] [3] [.d (.sl .metric) a0, .d (.i .i64) a1] k)))) (by kernel_rfl) ?_
  simp only [f84L0_eq, f84K0_x0]
theorem f84_spec (a0 : List MetricT) (a1 : Int) (hg : gmk a1 (ctL ct_metric a0) = true) : ∃ keep rounds, ∀ {R : Type} (k : List Dt → Option R), evFn f84e keep rounds f84c [.«mut», .ro] [false] true [.tmp 4] [3] [.d (.sl .metric) a0, .d (.i .i64) a1] k = k [.d (.i .i64) (mkL mk_metric a1 a0).2, .d (.sl .metric) (mkL mk_metric a1 a0).1] := by
  rw [gmk_iff] at hg
  have hl := ctL_len ct_metric_pos a0
  refine ⟨f84k, a0.length + 1, fun {R} k => ?_⟩
  rw [f84_run]
  refine Eq.trans (loop_mark (F := fun m kk i l => f84L0 (a0.length + 1) _ m kk i l) (f := mk_metric) (c := ct_metric) (good := fun kk l => k [.d (.i .i64) kk, .d (.sl .metric) l]) (n := a0.length) mk_metric_ct
    (fun m kk j l x hx hln h0 hB => ?_) (fun m kk l hln => by simp only [f84L0, hln, idxE, cond_false]) a0 (a0.length + 1) a1 [] (by simp) (by omega) hg.1 hg.2) rfl
  obtain ⟨h1, h2, _, ht⟩ := idx (lt_of_get hx) (by omega)
  have hA : ∀ a, atI (t := .metric) (l.set j a) j = a := fun a => atI_set (t := .metric) (lt_of_get hx) a
  have hj := lt_of_get hx
  simp only [ct_metric] at hB
  simp (disch := omega) only [f84L0, f84v0, f84v1, f84v2, h1, h2, ht, hA, atI_of (t := .metric) hx, List.set_set, List.length_set, wrap_id, gmk_of, okI_of, mk_metric, Bool.and_self, cond_true]

noncomputable def q84 : List Dt → Option (Bool × List Dt)
  | [.d (.sl .metric) a0, .d (.i .i64) a1] => some (((fun (x : List MetricT) (k : Int) => gmk k (ctL ct_metric x)) a0 a1), [.d (.i .i64) (mkL mk_metric a1 a0).2, .d (.sl .metric) (mkL mk_metric a1 a0).1])
  | _ => none
noncomputable def s84 : Gm.Spec := Gm.Spec.of [.«mut», .ro] [false] true q84
theorem good84 : Gm.Good Try.prog (84, s84) := by
  have hl : ∀ x ∈ [(65, s65)], Gm.Good Try.prog x := List.forall_mem_cons.2 ⟨good65, List.forall_mem_nil _⟩
  refine ⟨⟨spec_ok (tab_ok.env hl) (tab.natl hl) Try.func84 (by kernel_rfl : Try.f84.body = some f84c) [3] (by kernel_rfl) ?_, _, Try.func84, by kernel_rfl, of_decide_eq_true (by kernel_rfl)⟩, Gm.Spec.of_natl _ _ _ _⟩
  intro ds outs h
  unfold q84 at h
  split at h
  · simp only [Option.some.injEq, Prod.mk.injEq] at h; obtain ⟨hg, h⟩ := h; cases h; exact f84_spec _ _ hg
  · cases h
/-! ### loop.example/g00465/laws.markNoteS -/
noncomputable def f85c : Code := (Try.f85.body).getD .skip
def f85k : Nat → Kp := kat [⟨[0, 1], []⟩, ⟨[0, 1, 5], []⟩, ⟨[0, 1, 5, 9], []⟩, ⟨[0, 1, 5], []⟩, ⟨[0, 1, 5], []⟩, ⟨[0, 1, 5], []⟩, ⟨[0, 1, 5], []⟩, ⟨[0, 1, 5], []⟩, ⟨[0, 4], []⟩]
noncomputable def f85e : Env := tab.env [(65, s65)]
noncomputable def f85v0 (vr0 : List NoteT) (vs5 : Int) (vs1 : Int) : List NoteT :=
  ((vr0.set (Int.toNat vs5) (⟨(mkT vs1), (NoteT.text (atI (t := .note) vr0 (Int.toNat vs5)))⟩ : NoteT)).set (Int.toNat vs5) (⟨(NoteT.key (atI (t := .note) (vr0.set (Int.toNat vs5) (⟨(mkT vs1), (NoteT.text (atI (t := .note) vr0 (Int.toNat vs5)))⟩ : NoteT)) (Int.toNat vs5))), (mkT (IntKind.wrap .i64 (vs1 + (1 : Int))))⟩ : NoteT))
noncomputable def f85L0 {R : Type} (n : Nat) (x0 : Int → Int → Bool → (List NoteT) → Option R)  : Nat → Int → Int → (List NoteT) → Option R
  | 0, _, _, _ => none
  | m + 1, vs1, vs5, vr0 =>
    (cond (decide (vs5 < (vr0.length : Int)))
      (cond (okI vs1)
        (cond ((decide ((0 : Int) ≤ vs5)) && (decide (vs5 < (vr0.length : Int))))
          (cond (okI (IntKind.wrap .i64 (vs1 + (1 : Int))))
            (cond ((decide ((0 : Int) ≤ vs5)) && (decide (vs5 < ((vr0.set (Int.toNat vs5) (⟨(mkT vs1), (NoteT.text (atI (t := .note) vr0 (Int.toNat vs5)))⟩ : NoteT)).length : Int))))
              (f85L0 n x0 m (IntKind.wrap .i64 ((IntKind.wrap .i64 (vs1 + (1 : Int))) + (1 : Int))) (IntKind.wrap .i64 (vs5 + (1 : Int))) (f85v0 vr0 vs5 vs1))
              none)
            none)
          none)
        none)
      (x0 vs1 vs5 (decide (vs5 < (vr0.length : Int))) vr0))
theorem f85L0_b {R : Type} (n : Nat) (k' : Ex → St → Option R) (vs1 : Int) (vs5 : Int) (vr0 : List NoteT) : ev f85e f85k n (cAt [1,0,1,0,0] f85c) ⟨[(0, .c (.one (.h 0 0 0 []))), (1, .c (.one (.v (.int .i64 vs1)))), (5, .c (.one (.v (.int .i64 vs5))))], [], [(0, .live ⟨.note, .deep, 0, [], vr0⟩)]⟩ k' =
    (cond (decide (vs5 < (vr0.length : Int)))
    (cond (okI vs1)
      (cond ((decide ((0 : Int) ≤ vs5)) && (decide (vs5 < (vr0.length : Int))))
        (cond (okI (IntKind.wrap .i64 (vs1 + (1 : Int))))
          (cond ((decide ((0 : Int) ≤ vs5)) && (decide (vs5 < ((vr0.set (Int.toNat vs5) (⟨(mkT vs1), (NoteT.text (atI (t := .note) vr0 (Int.toNat vs5)))⟩ : NoteT)).length : Int))))
            (k' .normal ⟨[(0, .c (.one (.h 0 0 0 []))), (1, .c (.one (.v (.int .i64 (IntKind.wrap .i64 ((IntKind.wrap .i64 (vs1 + (1 : Int))) + (1 : Int))))))), (5, .c (.one (.v (.int .i64 (IntKind.wrap .i64 (vs5 + (1 : Int)))))))], [], [(0, .live ⟨.note, .deep, 0, [], (f85v0 vr0 vs5 vs1)⟩)]⟩)
            none)
          none)
        none)
      none)
    (k' (.exit 0) ⟨[(0, .c (.one (.h 0 0 0 []))), (1, .c (.one (.v (.int .i64 vs1)))), (5, .c (.one (.v (.int .i64 vs5)))), (9, .c (.one (.v (.bool (decide (vs5 < (vr0.length : Int)))))))], [], [(0, .live ⟨.note, .deep, 0, [], vr0⟩)]⟩)) := by kernel_rfl
theorem f85L0_eq {R : Type} (n : Nat) (k' : Ex → St → Option R)  : ∀ (m : Nat) (vs1 : Int) (vs5 : Int) (vr0 : List NoteT), iter (fun st k => ev f85e f85k n (cAt [1,0,1,0,0] f85c) st k) m ⟨[(0, .c (.one (.h 0 0 0 []))), (1, .c (.one (.v (.int .i64 vs1)))), (5, .c (.one (.v (.int .i64 vs5))))], [], [(0, .live ⟨.note, .deep, 0, [], vr0⟩)]⟩ k' = f85L0 n (fun (xvs1 : Int) (xvs5 : Int) (xvs9 : Bool) (xvr0 : List NoteT) => k' (.exit 0) ⟨[(0, .c (.one (.h 0 0 0 []))), (1, .c (.one (.v (.int .i64 xvs1)))), (5, .c (.one (.v (.int .i64 xvs5)))), (9, .c (.one (.v (.bool xvs9))))], [], [(0, .live ⟨.note, .deep, 0, [], xvr0⟩)]⟩) m vs1 vs5 vr0 := by
  intro m; induction m with
  | zero => intros; rfl
  | succ m ih =>
    intro vs1 vs5 vr0
    simp only [iter]
    rw [f85L0_b]
    simp only [ih, f85L0]

noncomputable def f85K0 {R : Type} (n : Nat) (k' : Ex → St → Option R) : Ex → St → Option R := (blockK 0 (seqK f85e f85k n (cAt [1,1] f85c) k'))
theorem f85K0_x0 {R : Type} (n : Nat) (k : List Dt → Option R) (a0 : List NoteT) (a1 : Int) (xvs1 : Int) (xvs5 : Int) (xvs9 : Bool) (xvr0 : List NoteT) : f85K0 n (exitK f85e [.«mut», .ro] [false] true [.tmp 4] [3] [.d (.sl .note) a0, .d (.i .i64) a1] k) (.exit 0) ⟨[(0, .c (.one (.h 0 0 0 []))), (1, .c (.one (.v (.int .i64 xvs1)))), (5, .c (.one (.v (.int .i64 xvs5)))), (9, .c (.one (.v (.bool xvs9))))], [], [(0, .live ⟨.note, .deep, 0, [], xvr0⟩)]⟩ =
    (k [.d (.i .i64) xvs1, .d (.sl .note) xvr0]) := by kernel_rfl

theorem f85_run {R : Type} (n : Nat) (k : List Dt → Option R) (a0 : List NoteT) (a1 : Int) : evFn f85e f85k n f85c [.«mut», .ro] [false] true [.tmp 4] [3] [.d (.sl .note) a0, .d (.i .i64) a1] k =
    (f85L0 n (fun (xvs1 : Int) (xvs5 : Int) (xvs9 : Bool) (xvr0 : List NoteT) =>
    (k [.d (.i .i64) xvs1, .d (.sl .note) xvr0])) n a1 (0 : Int) a0) := by
  refine Eq.trans (b := (iter (fun st k => ev f85e f85k n (cAt [1,0,1,0,0] f85c) st k) n ⟨[(0, .c (.one (.h 0 0 0 []))), (1, .c (.one (.v (.int .i64 a1)))), (5, .c (.one (.v (.int .i64 (0 : Int)))))], [], [(0, .live ⟨.note, .deep, 0, [], a0⟩)]⟩ (f85K0 n (exitK f85e [.«mut», .ro] [false] true [.tmp 4] [3] [.d (.sl .note) a0, .d (.i .i64) a1] k)))) (by kernel_rfl) ?_
  simp only [f85L0_eq, f85K0_x0]
theorem f85_spec (a0 : List NoteT) (a1 : Int) (hg : gmk a1 (ctL ct_note a0) = true) : ∃ keep rounds, ∀ {R : Type} (k : List Dt → Option R), evFn f85e keep rounds f85c [.«mut», .ro] [false] true [.tmp 4] [3] [.d (.sl .note) a0, .d (.i .i64) a1] k = k [.d (.i .i64) (mkL mk_note a1 a0).2, .d (.sl .note) (mkL mk_note a1 a0).1] := by
  rw [gmk_iff] at hg
  have hl := ctL_len ct_note_pos a0
  refine ⟨f85k, a0.length + 1, fun {R} k => ?_⟩
  rw [f85_run]
  refine Eq.trans (loop_mark (F := fun m kk i l => f85L0 (a0.length + 1) _ m kk i l) (f := mk_note) (c := ct_note) (good := fun kk l => k [.d (.i .i64) kk, .d (.sl .note) l]) (n := a0.length) mk_note_ct
    (fun m kk j l x hx hln h0 hB => ?_) (fun m kk l hln => by simp only [f85L0, hln, idxE, cond_false]) a0 (a0.length + 1) a1 [] (by simp) (by omega) hg.1 hg.2) rfl
  obtain ⟨h1, h2, _, ht⟩ := idx (lt_of_get hx) (by omega)
  have hA : ∀ a, atI (t := .note) (l.set j a) j = a := fun a => atI_set (t := .note) (lt_of_get hx) a
  have hj := lt_of_get hx
  simp only [ct_note] at hB
  simp (disch := omega) only [f85L0, f85v0, h1, h2, ht, hA, atI_of (t := .note) hx, List.set_set, List.length_set, wrap_id, gmk_of, okI_of, mk_note, Bool.and_self, cond_true]

noncomputable def q85 : List Dt → Option (Bool × List Dt)
  | [.d (.sl .note) a0, .d (.i .i64) a1] => some (((fun (x : List NoteT) (k : Int) => gmk k (ctL ct_note x)) a0 a1), [.d (.i .i64) (mkL mk_note a1 a0).2, .d (.sl .note) (mkL mk_note a1 a0).1])
  | _ => none
noncomputable def s85 : Gm.Spec := Gm.Spec.of [.«mut», .ro] [false] true q85
theorem good85 : Gm.Good Try.prog (85, s85) := by
  have hl : ∀ x ∈ [(65, s65)], Gm.Good Try.prog x := List.forall_mem_cons.2 ⟨good65, List.forall_mem_nil _⟩
  refine ⟨⟨spec_ok (tab_ok.env hl) (tab.natl hl) Try.func85 (by kernel_rfl : Try.f85.body = some f85c) [3] (by kernel_rfl) ?_, _, Try.func85, by kernel_rfl, of_decide_eq_true (by kernel_rfl)⟩, Gm.Spec.of_natl _ _ _ _⟩
  intro ds outs h
  unfold q85 at h
  split at h
  · simp only [Option.some.injEq, Prod.mk.injEq] at h; obtain ⟨hg, h⟩ := h; cases h; exact f85_spec _ _ hg
  · cases h
/-! ### loop.example/g00465/laws.markItemS -/
noncomputable def f64c : Code := (Try.f64.body).getD .skip
def f64k : Nat → Kp := kat [⟨[0, 1], []⟩, ⟨[0, 1, 5], []⟩, ⟨[0, 1, 5, 9], []⟩, ⟨[0, 1, 5], []⟩, ⟨[0, 1, 5], []⟩, ⟨[0, 1, 5], []⟩, ⟨[0, 1, 5], []⟩, ⟨[0, 1, 5], []⟩, ⟨[0, 1, 5], []⟩, ⟨[0, 1, 5], []⟩, ⟨[0, 1, 5], []⟩, ⟨[0, 1, 5], []⟩, ⟨[0, 1, 5], []⟩, ⟨[0, 1, 5], []⟩, ⟨[0, 1, 5], []⟩, ⟨[0, 1, 5], []⟩, ⟨[0, 1, 5], []⟩, ⟨[0, 1, 5], []⟩, ⟨[0, 1, 5], []⟩, ⟨[0, 1, 5], []⟩, ⟨[0, 1, 5], []⟩, ⟨[0, 1, 5], []⟩, ⟨[0, 1, 5], []⟩, ⟨[0, 1, 5], []⟩, ⟨[0, 4], []⟩]
noncomputable def f64e : Env := tab.env [(65, s65), (84, s84), (85, s85)]
noncomputable def f64v0 (vr0 : List ItemT) (vs5 : Int) (vs1 : Int) : List ItemT :=
  (vr0.set (Int.toNat vs5) (⟨(⟨(mkT vs1), (OrderT.target (ItemT.order (atI (t := .item) vr0 (Int.toNat vs5)))), (OrderT.low (ItemT.order (atI (t := .item) vr0 (Int.toNat vs5)))), (OrderT.high (ItemT.order (atI (t := .item) vr0 (Int.toNat vs5)))), (OrderT.metrics (ItemT.order (atI (t := .item) vr0 (Int.toNat vs5)))), (OrderT.pace (ItemT.order (atI (t := .item) vr0 (Int.toNat vs5)))), (OrderT.notes (ItemT.order (atI (t := .item) vr0 (Int.toNat vs5))))⟩ : OrderT), (ItemT.ver (atI (t := .item) vr0 (Int.toNat vs5)))⟩ : ItemT))
noncomputable def f64v1 (vr0 : List ItemT) (vs5 : Int) (vs1 : Int) : List ItemT :=
  ((f64v0 vr0 vs5 vs1).set (Int.toNat vs5) (⟨(⟨(OrderT.name (ItemT.order (atI (t := .item) (f64v0 vr0 vs5 vs1) (Int.toNat vs5)))), (mkT (IntKind.wrap .i64 (vs1 + (1 : Int)))), (OrderT.low (ItemT.order (atI (t := .item) (f64v0 vr0 vs5 vs1) (Int.toNat vs5)))), (OrderT.high (ItemT.order (atI (t := .item) (f64v0 vr0 vs5 vs1) (Int.toNat vs5)))), (OrderT.metrics (ItemT.order (atI (t := .item) (f64v0 vr0 vs5 vs1) (Int.toNat vs5)))), (OrderT.pace (ItemT.order (atI (t := .item) (f64v0 vr0 vs5 vs1) (Int.toNat vs5)))), (OrderT.notes (ItemT.order (atI (t := .item) (f64v0 vr0 vs5 vs1) (Int.toNat vs5))))⟩ : OrderT), (ItemT.ver (atI (t := .item) (f64v0 vr0 vs5 vs1) (Int.toNat vs5)))⟩ : ItemT))
noncomputable def f64v2 (vr0 : List ItemT) (vs5 : Int) (vs1 : Int) : List ItemT :=
  ((f64v1 vr0 vs5 vs1).set (Int.toNat vs5) (⟨(⟨(OrderT.name (ItemT.order (atI (t := .item) (f64v1 vr0 vs5 vs1) (Int.toNat vs5)))), (OrderT.target (ItemT.order (atI (t := .item) (f64v1 vr0 vs5 vs1) (Int.toNat vs5)))), (IntKind.wrap .i64 ((IntKind.wrap .i64 (vs1 + (1 : Int))) + (1 : Int))), (OrderT.high (ItemT.order (atI (t := .item) (f64v1 vr0 vs5 vs1) (Int.toNat vs5)))), (OrderT.metrics (ItemT.order (atI (t := .item) (f64v1 vr0 vs5 vs1) (Int.toNat vs5)))), (OrderT.pace (ItemT.order (atI (t := .item) (f64v1 vr0 vs5 vs1) (Int.toNat vs5)))), (OrderT.notes (ItemT.order (atI (t := .item) (f64v1 vr0 vs5 vs1) (Int.toNat vs5))))⟩ : OrderT), (ItemT.ver (atI (t := .item) (f64v1 vr0 vs5 vs1) (Int.toNat vs5)))⟩ : ItemT))
noncomputable def f64v3 (vr0 : List ItemT) (vs5 : Int) (vs1 : Int) : List ItemT :=
  ((f64v2 vr0 vs5 vs1).set (Int.toNat vs5) (⟨(⟨(OrderT.name (ItemT.order (atI (t := .item) (f64v2 vr0 vs5 vs1) (Int.toNat vs5)))), (OrderT.target (ItemT.order (atI (t := .item) (f64v2 vr0 vs5 vs1) (Int.toNat vs5)))), (OrderT.low (ItemT.order (atI (t := .item) (f64v2 vr0 vs5 vs1) (Int.toNat vs5)))), (IntKind.wrap .i64 ((IntKind.wrap .i64 ((IntKind.wrap .i64 (vs1 + (1 : Int))) + (1 : Int))) + (1 : Int))), (OrderT.metrics (ItemT.order (atI (t := .item) (f64v2 vr0 vs5 vs1) (Int.toNat vs5)))), (OrderT.pace (ItemT.order (atI (t := .item) (f64v2 vr0 vs5 vs1) (Int.toNat vs5)))), (OrderT.notes (ItemT.order (atI (t := .item) (f64v2 vr0 vs5 vs1) (Int.toNat vs5))))⟩ : OrderT), (ItemT.ver (atI (t := .item) (f64v2 vr0 vs5 vs1) (Int.toNat vs5)))⟩ : ItemT))
noncomputable def f64v4 (vr0 : List ItemT) (vs5 : Int) (vs1 : Int) : List ItemT :=
  ((f64v3 vr0 vs5 vs1).set (Int.toNat vs5) (⟨(⟨(OrderT.name (ItemT.order (atI (t := .item) (f64v3 vr0 vs5 vs1) (Int.toNat vs5)))), (OrderT.target (ItemT.order (atI (t := .item) (f64v3 vr0 vs5 vs1) (Int.toNat vs5)))), (OrderT.low (ItemT.order (atI (t := .item) (f64v3 vr0 vs5 vs1) (Int.toNat vs5)))), (OrderT.high (ItemT.order (atI (t := .item) (f64v3 vr0 vs5 vs1) (Int.toNat vs5)))), (mkL mk_metric (IntKind.wrap .i64 ((IntKind.wrap .i64 ((IntKind.wrap .i64 ((IntKind.wrap .i64 (vs1 + (1 : Int))) + (1 : Int))) + (1 : Int))) + (1 : Int))) (OrderT.metrics (ItemT.order (atI (t := .item) (f64v3 vr0 vs5 vs1) (Int.toNat vs5))))).1, (OrderT.pace (ItemT.order (atI (t := .item) (f64v3 vr0 vs5 vs1) (Int.toNat vs5)))), (OrderT.notes (ItemT.order (atI (t := .item) (f64v3 vr0 vs5 vs1) (Int.toNat vs5))))⟩ : OrderT), (ItemT.ver (atI (t := .item) (f64v3 vr0 vs5 vs1) (Int.toNat vs5)))⟩ : ItemT))
noncomputable def f64v5 (vr0 : List ItemT) (vs5 : Int) (vs1 : Int) : List ItemT :=
  ((f64v4 vr0 vs5 vs1).set (Int.toNat vs5) (⟨(⟨(OrderT.name (ItemT.order (atI (t := .item) (f64v4 vr0 vs5 vs1) (Int.toNat vs5)))), (OrderT.target (ItemT.order (atI (t := .item) (f64v4 vr0 vs5 vs1) (Int.toNat vs5)))), (OrderT.low (ItemT.order (atI (t := .item) (f64v4 vr0 vs5 vs1) (Int.toNat vs5)))), (OrderT.high (ItemT.order (atI (t := .item) (f64v4 vr0 vs5 vs1) (Int.toNat vs5)))), (OrderT.metrics (ItemT.order (atI (t := .item) (f64v4 vr0 vs5 vs1) (Int.toNat vs5)))), (⟨(mkL mk_metric (IntKind.wrap .i64 ((IntKind.wrap .i64 ((IntKind.wrap .i64 ((IntKind.wrap .i64 (vs1 + (1 : Int))) + (1 : Int))) + (1 : Int))) + (1 : Int))) (OrderT.metrics (ItemT.order (atI (t := .item) (f64v3 vr0 vs5 vs1) (Int.toNat vs5))))).2, (PaceT.down (OrderT.pace (ItemT.order (atI (t := .item) (f64v4 vr0 vs5 vs1) (Int.toNat vs5))))), (PaceT.upSpan (OrderT.pace (ItemT.order (atI (t := .item) (f64v4 vr0 vs5 vs1) (Int.toNat vs5))))), (PaceT.downSpan (OrderT.pace (ItemT.order (atI (t := .item) (f64v4 vr0 vs5 vs1) (Int.toNat vs5)))))⟩ : PaceT), (OrderT.notes (ItemT.order (atI (t := .item) (f64v4 vr0 vs5 vs1) (Int.toNat vs5))))⟩ : OrderT), (ItemT.ver (atI (t := .item) (f64v4 vr0 vs5 vs1) (Int.toNat vs5)))⟩ : ItemT))
noncomputable def f64v6 (vr0 : List ItemT) (vs5 : Int) (vs1 : Int) : List ItemT :=
  ((f64v5 vr0 vs5 vs1).set (Int.toNat vs5) (⟨(⟨(OrderT.name (ItemT.order (atI (t := .item) (f64v5 vr0 vs5 vs1) (Int.toNat vs5)))), (OrderT.target (ItemT.order (atI (t := .item) (f64v5 vr0 vs5 vs1) (Int.toNat vs5)))), (OrderT.low (ItemT.order (atI (t := .item) (f64v5 vr0 vs5 vs1) (Int.toNat vs5)))), (OrderT.high (ItemT.order (atI (t := .item) (f64v5 vr0 vs5 vs1) (Int.toNat vs5)))), (OrderT.metrics (ItemT.order (atI (t := .item) (f64v5 vr0 vs5 vs1) (Int.toNat vs5)))), (⟨(PaceT.up (OrderT.pace (ItemT.order (atI (t := .item) (f64v5 vr0 vs5 vs1) (Int.toNat vs5))))), (IntKind.wrap .i64 ((mkL mk_metric (IntKind.wrap .i64 ((IntKind.wrap .i64 ((IntKind.wrap .i64 ((IntKind.wrap .i64 (vs1 + (1 : Int))) + (1 : Int))) + (1 : Int))) + (1 : Int))) (OrderT.metrics (ItemT.order (atI (t := .item) (f64v3 vr0 vs5 vs1) (Int.toNat vs5))))).2 + (1 : Int))), (PaceT.upSpan (OrderT.pace (ItemT.order (atI (t := .item) (f64v5 vr0 vs5 vs1) (Int.toNat vs5))))), (PaceT.downSpan (OrderT.pace (ItemT.order (atI (t := .item) (f64v5 vr0 vs5 vs1) (Int.toNat vs5)))))⟩ : PaceT), (OrderT.notes (ItemT.order (atI (t := .item) (f64v5 vr0 vs5 vs1) (Int.toNat vs5))))⟩ : OrderT), (ItemT.ver (atI (t := .item) (f64v5 vr0 vs5 vs1) (Int.toNat vs5)))⟩ : ItemT))
noncomputable def f64v7 (vr0 : List ItemT) (vs5 : Int) (vs1 : Int) : List ItemT :=
  ((f64v6 vr0 vs5 vs1).set (Int.toNat vs5) (⟨(⟨(OrderT.name (ItemT.order (atI (t := .item) (f64v6 vr0 vs5 vs1) (Int.toNat vs5)))), (OrderT.target (ItemT.order (atI (t := .item) (f64v6 vr0 vs5 vs1) (Int.toNat vs5)))), (OrderT.low (ItemT.order (atI (t := .item) (f64v6 vr0 vs5 vs1) (Int.toNat vs5)))), (OrderT.high (ItemT.order (atI (t := .item) (f64v6 vr0 vs5 vs1) (Int.toNat vs5)))), (OrderT.metrics (ItemT.order (atI (t := .item) (f64v6 vr0 vs5 vs1) (Int.toNat vs5)))), (⟨(PaceT.up (OrderT.pace (ItemT.order (atI (t := .item) (f64v6 vr0 vs5 vs1) (Int.toNat vs5))))), (PaceT.down (OrderT.pace (ItemT.order (atI (t := .item) (f64v6 vr0 vs5 vs1) (Int.toNat vs5))))), (IntKind.wrap .i64 ((IntKind.wrap .i64 ((mkL mk_metric (IntKind.wrap .i64 ((IntKind.wrap .i64 ((IntKind.wrap .i64 ((IntKind.wrap .i64 (vs1 + (1 : Int))) + (1 : Int))) + (1 : Int))) + (1 : Int))) (OrderT.metrics (ItemT.order (atI (t := .item) (f64v3 vr0 vs5 vs1) (Int.toNat vs5))))).2 + (1 : Int))) + (1 : Int))), (PaceT.downSpan (OrderT.pace (ItemT.order (atI (t := .item) (f64v6 vr0 vs5 vs1) (Int.toNat vs5)))))⟩ : PaceT), (OrderT.notes (ItemT.order (atI (t := .item) (f64v6 vr0 vs5 vs1) (Int.toNat vs5))))⟩ : OrderT), (ItemT.ver (atI (t := .item) (f64v6 vr0 vs5 vs1) (Int.toNat vs5)))⟩ : ItemT))
noncomputable def f64v8 (vr0 : List ItemT) (vs5 : Int) (vs1 : Int) : List ItemT :=
  ((f64v7 vr0 vs5 vs1).set (Int.toNat vs5) (⟨(⟨(OrderT.name (ItemT.order (atI (t := .item) (f64v7 vr0 vs5 vs1) (Int.toNat vs5)))), (OrderT.target (ItemT.order (atI (t := .item) (f64v7 vr0 vs5 vs1) (Int.toNat vs5)))), (OrderT.low (ItemT.order (atI (t := .item) (f64v7 vr0 vs5 vs1) (Int.toNat vs5)))), (OrderT.high (ItemT.order (atI (t := .item) (f64v7 vr0 vs5 vs1) (Int.toNat vs5)))), (OrderT.metrics (ItemT.order (atI (t := .item) (f64v7 vr0 vs5 vs1) (Int.toNat vs5)))), (⟨(PaceT.up (OrderT.pace (ItemT.order (atI (t := .item) (f64v7 vr0 vs5 vs1) (Int.toNat vs5))))), (PaceT.down (OrderT.pace (ItemT.order (atI (t := .item) (f64v7 vr0 vs5 vs1) (Int.toNat vs5))))), (PaceT.upSpan (OrderT.pace (ItemT.order (atI (t := .item) (f64v7 vr0 vs5 vs1) (Int.toNat vs5))))), (IntKind.wrap .i64 ((IntKind.wrap .i64 ((IntKind.wrap .i64 ((mkL mk_metric (IntKind.wrap .i64 ((IntKind.wrap .i64 ((IntKind.wrap .i64 ((IntKind.wrap .i64 (vs1 + (1 : Int))) + (1 : Int))) + (1 : Int))) + (1 : Int))) (OrderT.metrics (ItemT.order (atI (t := .item) (f64v3 vr0 vs5 vs1) (Int.toNat vs5))))).2 + (1 : Int))) + (1 : Int))) + (1 : Int)))⟩ : PaceT), (OrderT.notes (ItemT.order (atI (t := .item) (f64v7 vr0 vs5 vs1) (Int.toNat vs5))))⟩ : OrderT), (ItemT.ver (atI (t := .item) (f64v7 vr0 vs5 vs1) (Int.toNat vs5)))⟩ : ItemT))
noncomputable def f64v9 (vr0 : List ItemT) (vs5 : Int) (vs1 : Int) : List ItemT :=
  ((f64v8 vr0 vs5 vs1).set (Int.toNat vs5) (⟨(⟨(OrderT.name (ItemT.order (atI (t := .item) (f64v8 vr0 vs5 vs1) (Int.toNat vs5)))), (OrderT.target (ItemT.order (atI (t := .item) (f64v8 vr0 vs5 vs1) (Int.toNat vs5)))), (OrderT.low (ItemT.order (atI (t := .item) (f64v8 vr0 vs5 vs1) (Int.toNat vs5)))), (OrderT.high (ItemT.order (atI (t := .item) (f64v8 vr0 vs5 vs1) (Int.toNat vs5)))), (OrderT.metrics (ItemT.order (atI (t := .item) (f64v8 vr0 vs5 vs1) (Int.toNat vs5)))), (OrderT.pace (ItemT.order (atI (t := .item) (f64v8 vr0 vs5 vs1) (Int.toNat vs5)))), (mkL mk_note (IntKind.wrap .i64 ((IntKind.wrap .i64 ((IntKind.wrap .i64 ((IntKind.wrap .i64 ((mkL mk_metric (IntKind.wrap .i64 ((IntKind.wrap .i64 ((IntKind.wrap .i64 ((IntKind.wrap .i64 (vs1 + (1 : Int))) + (1 : Int))) + (1 : Int))) + (1 : Int))) (OrderT.metrics (ItemT.order (atI (t := .item) (f64v3 vr0 vs5 vs1) (Int.toNat vs5))))).2 + (1 : Int))) + (1 : Int))) + (1 : Int))) + (1 : Int))) (OrderT.notes (ItemT.order (atI (t := .item) (f64v8 vr0 vs5 vs1) (Int.toNat vs5))))).1⟩ : OrderT), (ItemT.ver (atI (t := .item) (f64v8 vr0 vs5 vs1) (Int.toNat vs5)))⟩ : ItemT))
noncomputable def f64v10 (vr0 : List ItemT) (vs5 : Int) (vs1 : Int) : List ItemT :=
  ((f64v9 vr0 vs5 vs1).set (Int.toNat vs5) (⟨(ItemT.order (atI (t := .item) (f64v9 vr0 vs5 vs1) (Int.toNat vs5))), (mkL mk_note (IntKind.wrap .i64 ((IntKind.wrap .i64 ((IntKind.wrap .i64 ((IntKind.wrap .i64 ((mkL mk_metric (IntKind.wrap .i64 ((IntKind.wrap .i64 ((IntKind.wrap .i64 ((IntKind.wrap .i64 (vs1 + (1 : Int))) + (1 : Int))) + (1 : Int))) + (1 : Int))) (OrderT.metrics (ItemT.order (atI (t := .item) (f64v3 vr0 vs5 vs1) (Int.toNat vs5))))).2 + (1 : Int))) + (1 : Int))) + (1 : Int))) + (1 : Int))) (OrderT.notes (ItemT.order (atI (t := .item) (f64v8 vr0 vs5 vs1) (Int.toNat vs5))))).2⟩ : ItemT))
noncomputable def f64L0 {R : Type} (n : Nat) (x0 : Int → Int → Bool → (List ItemT) → Option R)  : Nat → Int → Int → (List ItemT) → Option R
  | 0, _, _, _ => none
  | m + 1, vs1, vs5, vr0 =>
    (cond (decide (vs5 < (vr0.length : Int)))
      (cond (okI vs1)
        (cond ((decide ((0 : Int) ≤ vs5)) && (decide (vs5 < (vr0.length : Int))))
          (cond (okI (IntKind.wrap .i64 (vs1 + (1 : Int))))
            (cond ((decide ((0 : Int) ≤ vs5)) && (decide (vs5 < ((f64v0 vr0 vs5 vs1).length : Int))))
              (cond ((decide ((0 : Int) ≤ vs5)) && (decide (vs5 < ((f64v1 vr0 vs5 vs1).length : Int))))
                (cond ((decide ((0 : Int) ≤ vs5)) && (decide (vs5 < ((f64v2 vr0 vs5 vs1).length : Int))))
                  (cond ((decide ((0 : Int) ≤ vs5)) && (decide (vs5 < ((f64v3 vr0 vs5 vs1).length : Int))))
                    (cond ((fun (x : List MetricT) (k : Int) => gmk k (ctL ct_metric x)) (OrderT.metrics (ItemT.order (atI (t := .item) (f64v3 vr0 vs5 vs1) (Int.toNat vs5)))) (IntKind.wrap .i64 ((IntKind.wrap .i64 ((IntKind.wrap .i64 ((IntKind.wrap .i64 (vs1 + (1 : Int))) + (1 : Int))) + (1 : Int))) + (1 : Int))))
                      (cond ((decide ((0 : Int) ≤ vs5)) && (decide (vs5 < ((f64v4 vr0 vs5 vs1).length : Int))))
                        (cond ((decide ((0 : Int) ≤ vs5)) && (decide (vs5 < ((f64v5 vr0 vs5 vs1).length : Int))))
                          (cond ((decide ((0 : Int) ≤ vs5)) && (decide (vs5 < ((f64v6 vr0 vs5 vs1).length : Int))))
                            (cond ((decide ((0 : Int) ≤ vs5)) && (decide (vs5 < ((f64v7 vr0 vs5 vs1).length : Int))))
                              (cond ((decide ((0 : Int) ≤ vs5)) && (decide (vs5 < ((f64v8 vr0 vs5 vs1).length : Int))))
                                (cond ((fun (x : List NoteT) (k : Int) => gmk k (ctL ct_note x)) (OrderT.notes (ItemT.order (atI (t := .item) (f64v8 vr0 vs5 vs1) (Int.toNat vs5)))) (IntKind.wrap .i64 ((IntKind.wrap .i64 ((IntKind.wrap .i64 ((IntKind.wrap .i64 ((mkL mk_metric (IntKind.wrap .i64 ((IntKind.wrap .i64 ((IntKind.wrap .i64 ((IntKind.wrap .i64 (vs1 + (1 : Int))) + (1 : Int))) + (1 : Int))) + (1 : Int))) (OrderT.metrics (ItemT.order (atI (t := .item) (f64v3 vr0 vs5 vs1) (Int.toNat vs5))))).2 + (1 : Int))) + (1 : Int))) + (1 : Int))) + (1 : Int))))
                                  (cond ((decide ((0 : Int) ≤ vs5)) && (decide (vs5 < ((f64v9 vr0 vs5 vs1).length : Int))))
                                    (f64L0 n x0 m (IntKind.wrap .i64 ((mkL mk_note (IntKind.wrap .i64 ((IntKind.wrap .i64 ((IntKind.wrap .i64 ((IntKind.wrap .i64 ((mkL mk_metric (IntKind.wrap .i64 ((IntKind.wrap .i64 ((IntKind.wrap .i64 ((IntKind.wrap .i64 (vs1 + (1 : Int))) + (1 : Int))) + (1 : Int))) + (1 : Int))) (OrderT.metrics (ItemT.order (atI (t := .item) (f64v3 vr0 vs5 vs1) (Int.toNat vs5))))).2 + (1 : Int))) + (1 : Int))) + (1 : Int))) + (1 : Int))) (OrderT.notes (ItemT.order (atI (t := .item) (f64v8 vr0 vs5 vs1) (Int.toNat vs5))))).2 + (1 : Int))) (IntKind.wrap .i64 (vs5 + (1 : Int))) (f64v10 vr0 vs5 vs1))
                                    none)
                                  none)
                                none)
                              none)
                            none)
                          none)
                        none)
                      none)
                    none)
                  none)
                none)
              none)
            none)
          none)
        none)
      (x0 vs1 vs5 (decide (vs5 < (vr0.length : Int))) vr0))
theorem f64L0_b {R : Type} (n : Nat) (k' : Ex → St → Option R) (vs1 : Int) (vs5 : Int) (vr0 : List ItemT) : ev f64e f64k n (cAt [1,0,1,0,0] f64c) ⟨[(0, .c (.one (.h 0 0 0 []))), (1, .c (.one (.v (.int .i64 vs1)))), (5, .c (.one (.v (.int .i64 vs5))))], [], [(0, .live ⟨.item, .deep, 0, [], vr0⟩)]⟩ k' =
    (cond (decide (vs5 < (vr0.length : Int)))
    (cond (okI vs1)
      (cond ((decide ((0 : Int) ≤ vs5)) && (decide (vs5 < (vr0.length : Int))))
        (cond (okI (IntKind.wrap .i64 (vs1 + (1 : Int))))
          (cond ((decide ((0 : Int) ≤ vs5)) && (decide (vs5 < ((f64v0 vr0 vs5 vs1).length : Int))))
            (cond ((decide ((0 : Int) ≤ vs5)) && (decide (vs5 < ((f64v1 vr0 vs5 vs1).length : Int))))
              (cond ((decide ((0 : Int) ≤ vs5)) && (decide (vs5 < ((f64v2 vr0 vs5 vs1).length : Int))))
                (cond ((decide ((0 : Int) ≤ vs5)) && (decide (vs5 < ((f64v3 vr0 vs5 vs1).length : Int))))
                  (cond ((fun (x : List MetricT) (k : Int) => gmk k (ctL ct_metric x)) (OrderT.metrics (ItemT.order (atI (t := .item) (f64v3 vr0 vs5 vs1) (Int.toNat vs5)))) (IntKind.wrap .i64 ((IntKind.wrap .i64 ((IntKind.wrap .i64 ((IntKind.wrap .i64 (vs1 + (1 : Int))) + (1 : Int))) + (1 : Int))) + (1 : Int))))
                    (cond ((decide ((0 : Int) ≤ vs5)) && (decide (vs5 < ((f64v4 vr0 vs5 vs1).length : Int))))
                      (cond ((decide ((0 : Int) ≤ vs5)) && (decide (vs5 < ((f64v5 vr0 vs5 vs1).length : Int))))
                        (cond ((decide ((0 : Int) ≤ vs5)) && (decide (vs5 < ((f64v6 vr0 vs5 vs1).length : Int))))
                          (cond ((decide ((0 : Int) ≤ vs5)) && (decide (vs5 < ((f64v7 vr0 vs5 vs1).length : Int))))
                            (cond ((decide ((0 : Int) ≤ vs5)) && (decide (vs5 < ((f64v8 vr0 vs5 vs1).length : Int))))
                              (cond ((fun (x : List NoteT) (k : Int) => gmk k (ctL ct_note x)) (OrderT.notes (ItemT.order (atI (t := .item) (f64v8 vr0 vs5 vs1) (Int.toNat vs5)))) (IntKind.wrap .i64 ((IntKind.wrap .i64 ((IntKind.wrap .i64 ((IntKind.wrap .i64 ((mkL mk_metric (IntKind.wrap .i64 ((IntKind.wrap .i64 ((IntKind.wrap .i64 ((IntKind.wrap .i64 (vs1 + (1 : Int))) + (1 : Int))) + (1 : Int))) + (1 : Int))) (OrderT.metrics (ItemT.order (atI (t := .item) (f64v3 vr0 vs5 vs1) (Int.toNat vs5))))).2 + (1 : Int))) + (1 : Int))) + (1 : Int))) + (1 : Int))))
                                (cond ((decide ((0 : Int) ≤ vs5)) && (decide (vs5 < ((f64v9 vr0 vs5 vs1).length : Int))))
                                  (k' .normal ⟨[(0, .c (.one (.h 0 0 0 []))), (1, .c (.one (.v (.int .i64 (IntKind.wrap .i64 ((mkL mk_note (IntKind.wrap .i64 ((IntKind.wrap .i64 ((IntKind.wrap .i64 ((IntKind.wrap .i64 ((mkL mk_metric (IntKind.wrap .i64 ((IntKind.wrap .i64 ((IntKind.wrap .i64 ((IntKind.wrap .i64 (vs1 + (1 : Int))) + (1 : Int))) + (1 : Int))) + (1 : Int))) (OrderT.metrics (ItemT.order (atI (t := .item) (f64v3 vr0 vs5 vs1) (Int.toNat vs5))))).2 + (1 : Int))) + (1 : Int))) + (1 : Int))) + (1 : Int))) (OrderT.notes (ItemT.order (atI (t := .item) (f64v8 vr0 vs5 vs1) (Int.toNat vs5))))).2 + (1 : Int))))))), (5, .c (.one (.v (.int .i64 (IntKind.wrap .i64 (vs5 + (1 : Int)))))))], [], [(0, .live ⟨.item, .deep, 0, [], (f64v10 vr0 vs5 vs1)⟩)]⟩)
                                  none)
                                none)
                              none)
                            none)
                          none)
                        none)
                      none)
                    none)
                  none)
                none)
              none)
            none)
          none)
        none)
      none)
    (k' (.exit 0) ⟨[(0, .c (.one (.h 0 0 0 []))), (1, .c (.one (.v (.int .i64 vs1)))), (5, .c (.one (.v (.int .i64 vs5)))), (9, .c (.one (.v (.bool (decide (vs5 < (vr0.length : Int)))))))], [], [(0, .live ⟨.item, .deep, 0, [], vr0⟩)]⟩)) := by kernel_rfl
theorem f64L0_eq {R : Type} (n : Nat) (k' : Ex → St → Option R)  : ∀ (m : Nat) (vs1 : Int) (vs5 : Int) (vr0 : List ItemT), iter (fun st k => ev f64e f64k n (cAt [1,0,1,0,0] f64c) st k) m ⟨[(0, .c (.one (.h 0 0 0 []))), (1, .c (.one (.v (.int .i64 vs1)))), (5, .c (.one (.v (.int .i64 vs5))))], [], [(0, .live ⟨.item, .deep, 0, [], vr0⟩)]⟩ k' = f64L0 n (fun (xvs1 : Int) (xvs5 : Int) (xvs9 : Bool) (xvr0 : List ItemT) => k' (.exit 0) ⟨[(0, .c (.one (.h 0 0 0 []))), (1, .c (.one (.v (.int .i64 xvs1)))), (5, .c (.one (.v (.int .i64 xvs5)))), (9, .c (.one (.v (.bool xvs9))))], [], [(0, .live ⟨.item, .deep, 0, [], xvr0⟩)]⟩) m vs1 vs5 vr0 := by
  intro m; induction m with
  | zero => intros; rfl
  | succ m ih =>
    intro vs1 vs5 vr0
    simp only [iter]
    rw [f64L0_b]
    simp only [ih, f64L0]

noncomputable def f64K0 {R : Type} (n : Nat) (k' : Ex → St → Option R) : Ex → St → Option R := (blockK 0 (seqK f64e f64k n (cAt [1,1] f64c) k'))
theorem f64K0_x0 {R : Type} (n : Nat) (k : List Dt → Option R) (a0 : List ItemT) (a1 : Int) (xvs1 : Int) (xvs5 : Int) (xvs9 : Bool) (xvr0 : List ItemT) : f64K0 n (exitK f64e [.«mut», .ro] [false] true [.tmp 4] [3] [.d (.sl .item) a0, .d (.i .i64) a1] k) (.exit 0) ⟨[(0, .c (.one (.h 0 0 0 []))), (1, .c (.one (.v (.int .i64 xvs1)))), (5, .c (.one (.v (.int .i64 xvs5)))), (9, .c (.one (.v (.bool xvs9))))], [], [(0, .live ⟨.item, .deep, 0, [], xvr0⟩)]⟩ =
    (k [.d (.i .i64) xvs1, .d (.sl .item) xvr0]) := by kernel_rfl

theorem f64_run {R : Type} (n : Nat) (k : List Dt → Option R) (a0 : List ItemT) (a1 : Int) : evFn f64e f64k n f64c [.«mut», .ro] [false] true [.tmp 4] [3] [.d (.sl .item) a0, .d (.i .i64) a1] k =
    (f64L0 n (fun (xvs1 : Int) (xvs5 : Int) (xvs9 : Bool) (xvr0 : List ItemT) =>
    (k [.d (.i .i64) xvs1, .d (.sl .item) xvr0])) n a1 (0 : Int) a0) := by
  refine Eq.trans (b := (iter (fun st k => ev f64e f64k n (cAt [1,0,1,0,0] f64c) st k) n ⟨[(0, .c (.one (.h 0 0 0 []))), (1, .c (.one (.v (.int .i64 a1)))), (5, .c (.one (.v (.int .i64 (0 : Int)))))], [], [(0, .live ⟨.item, .deep, 0, [], a0⟩)]⟩ (f64K0 n (exitK f64e [.«mut», .ro] [false] true [.tmp 4] [3] [.d (.sl .item) a0, .d (.i .i64) a1] k)))) (by kernel_rfl) ?_
  simp only [f64L0_eq, f64K0_x0]
theorem f64_spec (a0 : List ItemT) (a1 : Int) (hg : gmk a1 (ctL ct_item a0) = true) : ∃ keep rounds, ∀ {R : Type} (k : List Dt → Option R), evFn f64e keep rounds f64c [.«mut», .ro] [false] true [.tmp 4] [3] [.d (.sl .item) a0, .d (.i .i64) a1] k = k [.d (.i .i64) (mkL mk_item a1 a0).2, .d (.sl .item) (mkL mk_item a1 a0).1] := by
  rw [gmk_iff] at hg
  have hl := ctL_len ct_item_pos a0
  refine ⟨f64k, a0.length + 1, fun {R} k => ?_⟩
  rw [f64_run]
  refine Eq.trans (loop_mark (F := fun m kk i l => f64L0 (a0.length + 1) _ m kk i l) (f := mk_item) (c := ct_item) (good := fun kk l => k [.d (.i .i64) kk, .d (.sl .item) l]) (n := a0.length) mk_item_ct
    (fun m kk j l x hx hln h0 hB => ?_) (fun m kk l hln => by simp only [f64L0, hln, idxE, cond_false]) a0 (a0.length + 1) a1 [] (by simp) (by omega) hg.1 hg.2) rfl
  obtain ⟨h1, h2, _, ht⟩ := idx (lt_of_get hx) (by omega)
  have hA : ∀ a, atI (t := .item) (l.set j a) j = a := fun a => atI_set (t := .item) (lt_of_get hx) a
  have hj := lt_of_get hx
  simp only [ct_item] at hB
  simp (disch := omega) only [f64L0, f64v0, f64v1, f64v2, f64v3, f64v4, f64v5, f64v6, f64v7, f64v8, f64v9, f64v10, h1, h2, ht, hA, atI_of (t := .item) hx, List.set_set, List.length_set, wrap_id, gmk_of, okI_of, mk_item, mkL_metric_ct, mkL_note_ct, Bool.and_self, cond_true]

noncomputable def q64 : List Dt → Option (Bool × List Dt)
  | [.d (.sl .item) a0, .d (.i .i64) a1] => some (((fun (x : List ItemT) (k : Int) => gmk k (ctL ct_item x)) a0 a1), [.d (.i .i64) (mkL mk_item a1 a0).2, .d (.sl .item) (mkL mk_item a1 a0).1])
  | _ => none
noncomputable def s64 : Gm.Spec := Gm.Spec.of [.«mut», .ro] [false] true q64
theorem good64 : Gm.Good Try.prog (64, s64) := by
  have hl : ∀ x ∈ [(65, s65), (84, s84), (85, s85)], Gm.Good Try.prog x := List.forall_mem_cons.2 ⟨good65, List.forall_mem_cons.2 ⟨good84, List.forall_mem_cons.2 ⟨good85, List.forall_mem_nil _⟩⟩⟩
  refine ⟨⟨spec_ok (tab_ok.env hl) (tab.natl hl) Try.func64 (by kernel_rfl : Try.f64.body = some f64c) [3] (by kernel_rfl) ?_, _, Try.func64, by kernel_rfl, of_decide_eq_true (by kernel_rfl)⟩, Gm.Spec.of_natl _ _ _ _⟩
  intro ds outs h
  unfold q64 at h
  split at h
  · simp only [Option.some.injEq, Prod.mk.injEq] at h; obtain ⟨hg, h⟩ := h; cases h; exact f64_spec _ _ hg
  · cases h
/-! ### loop.example/g00465/laws.markStore -/
noncomputable def f33c : Code := (Try.f33.body).getD .skip
def f33k : Nat → Kp := kat [⟨[1, 2], []⟩, ⟨[1], []⟩, ⟨[4], []⟩]
noncomputable def f33e : Env := tab.env [(64, s64)]
theorem f33_run {R : Type} (n : Nat) (k : List Dt → Option R) (a0 : StoreT) (a1 : Int) : evFn f33e f33k n f33c [.mov, .ro] [false] true [.tmp 4] [3] [.d .store a0, .d (.i .i64) a1] k =
    (cond ((fun (x : List ItemT) (k : Int) => gmk k (ctL ct_item x)) (StoreT.items a0) a1)
    (k [.d (.i .i64) (mkL mk_item a1 (StoreT.items a0)).2])
    none) := by kernel_rfl
theorem f33_spec (a0 : StoreT) (a1 : Int) (hg : gmk a1 (cts_store a0) = true) : ∃ keep rounds, ∀ {R : Type} (k : List Dt → Option R), evFn f33e keep rounds f33c [.mov, .ro] [false] true [.tmp 4] [3] [.d .store a0, .d (.i .i64) a1] k = k [.d (.i .i64) (mks_store a1 a0).2] := by
  rw [gmk_iff] at hg
  simp only [cts_store] at hg
  refine ⟨f33k, 0, fun {R} k => ?_⟩
  rw [f33_run]
  simp (disch := omega) only [gmk_of, mks_store, mkL_item_ct, cond_true]

noncomputable def q33 : List Dt → Option (Bool × List Dt)
  | [.d .store a0, .d (.i .i64) a1] => some (((fun (x : StoreT) (k : Int) => gmk k (cts_store x)) a0 a1), [.d (.i .i64) (mks_store a1 a0).2])
  | _ => none
noncomputable def s33 : Gm.Spec := Gm.Spec.of [.mov, .ro] [false] true q33
theorem good33 : Gm.Good Try.prog (33, s33) := by
  have hl : ∀ x ∈ [(64, s64)], Gm.Good Try.prog x := List.forall_mem_cons.2 ⟨good64, List.forall_mem_nil _⟩
  refine ⟨⟨spec_ok (tab_ok.env hl) (tab.natl hl) Try.func33 (by kernel_rfl : Try.f33.body = some f33c) [3] (by kernel_rfl) ?_, _, Try.func33, by kernel_rfl, of_decide_eq_true (by kernel_rfl)⟩, Gm.Spec.of_natl _ _ _ _⟩
  intro ds outs h
  unfold q33 at h
  split at h
  · simp only [Option.some.injEq, Prod.mk.injEq] at h; obtain ⟨hg, h⟩ := h; cases h; exact f33_spec _ _ hg
  · cases h
/-! ### loop.example/g00465/laws.markStringS -/
noncomputable def f35c : Code := (Try.f35.body).getD .skip
def f35k : Nat → Kp := kat [⟨[0, 1], []⟩, ⟨[0, 1, 5], []⟩, ⟨[0, 1, 5, 9], []⟩, ⟨[0, 1, 5], []⟩, ⟨[0, 1, 5], []⟩, ⟨[0, 1, 5], []⟩, ⟨[0, 4], []⟩]
noncomputable def f35e : Env := tab.env [(65, s65)]
noncomputable def f35L0 {R : Type} (n : Nat) (x0 : Int → Int → Bool → (List ByteArray) → Option R)  : Nat → Int → Int → (List ByteArray) → Option R
  | 0, _, _, _ => none
  | m + 1, vs1, vs5, vr0 =>
    (cond (decide (vs5 < (vr0.length : Int)))
      (cond (okI vs1)
        (cond ((decide ((0 : Int) ≤ vs5)) && (decide (vs5 < (vr0.length : Int))))
          (f35L0 n x0 m (IntKind.wrap .i64 (vs1 + (1 : Int))) (IntKind.wrap .i64 (vs5 + (1 : Int))) (vr0.set (Int.toNat vs5) (mkT vs1)))
          none)
        none)
      (x0 vs1 vs5 (decide (vs5 < (vr0.length : Int))) vr0))
theorem f35L0_b {R : Type} (n : Nat) (k' : Ex → St → Option R) (vs1 : Int) (vs5 : Int) (vr0 : List ByteArray) : ev f35e f35k n (cAt [1,0,1,0,0] f35c) ⟨[(0, .c (.one (.h 0 0 0 []))), (1, .c (.one (.v (.int .i64 vs1)))), (5, .c (.one (.v (.int .i64 vs5))))], [], [(0, .live ⟨.str, .deep, 0, [], vr0⟩)]⟩ k' =
    (cond (decide (vs5 < (vr0.length : Int)))
    (cond (okI vs1)
      (cond ((decide ((0 : Int) ≤ vs5)) && (decide (vs5 < (vr0.length : Int))))
        (k' .normal ⟨[(0, .c (.one (.h 0 0 0 []))), (1, .c (.one (.v (.int .i64 (IntKind.wrap .i64 (vs1 + (1 : Int))))))), (5, .c (.one (.v (.int .i64 (IntKind.wrap .i64 (vs5 + (1 : Int)))))))], [], [(0, .live ⟨.str, .deep, 0, [], (vr0.set (Int.toNat vs5) (mkT vs1))⟩)]⟩)
        none)
      none)
    (k' (.exit 0) ⟨[(0, .c (.one (.h 0 0 0 []))), (1, .c (.one (.v (.int .i64 vs1)))), (5, .c (.one (.v (.int .i64 vs5)))), (9, .c (.one (.v (.bool (decide (vs5 < (vr0.length : Int)))))))], [], [(0, .live ⟨.str, .deep, 0, [], vr0⟩)]⟩)) := by kernel_rfl
theorem f35L0_eq {R : Type} (n : Nat) (k' : Ex → St → Option R)  : ∀ (m : Nat) (vs1 : Int) (vs5 : Int) (vr0 : List ByteArray), iter (fun st k => ev f35e f35k n (cAt [1,0,1,0,0] f35c) st k) m ⟨[(0, .c (.one (.h 0 0 0 []))), (1, .c (.one (.v (.int .i64 vs1)))), (5, .c (.one (.v (.int .i64 vs5))))], [], [(0, .live ⟨.str, .deep, 0, [], vr0⟩)]⟩ k' = f35L0 n (fun (xvs1 : Int) (xvs5 : Int) (xvs9 : Bool) (xvr0 : List ByteArray) => k' (.exit 0) ⟨[(0, .c (.one (.h 0 0 0 []))), (1, .c (.one (.v (.int .i64 xvs1)))), (5, .c (.one (.v (.int .i64 xvs5)))), (9, .c (.one (.v (.bool xvs9))))], [], [(0, .live ⟨.str, .deep, 0, [], xvr0⟩)]⟩) m vs1 vs5 vr0 := by
  intro m; induction m with
  | zero => intros; rfl
  | succ m ih =>
    intro vs1 vs5 vr0
    simp only [iter]
    rw [f35L0_b]
    simp only [ih, f35L0]

noncomputable def f35K0 {R : Type} (n : Nat) (k' : Ex → St → Option R) : Ex → St → Option R := (blockK 0 (seqK f35e f35k n (cAt [1,1] f35c) k'))
theorem f35K0_x0 {R : Type} (n : Nat) (k : List Dt → Option R) (a0 : List ByteArray) (a1 : Int) (xvs1 : Int) (xvs5 : Int) (xvs9 : Bool) (xvr0 : List ByteArray) : f35K0 n (exitK f35e [.«mut», .ro] [false] true [.tmp 4] [3] [.d (.sl .str) a0, .d (.i .i64) a1] k) (.exit 0) ⟨[(0, .c (.one (.h 0 0 0 []))), (1, .c (.one (.v (.int .i64 xvs1)))), (5, .c (.one (.v (.int .i64 xvs5)))), (9, .c (.one (.v (.bool xvs9))))], [], [(0, .live ⟨.str, .deep, 0, [], xvr0⟩)]⟩ =
    (k [.d (.i .i64) xvs1, .d (.sl .str) xvr0]) := by kernel_rfl

theorem f35_run {R : Type} (n : Nat) (k : List Dt → Option R) (a0 : List ByteArray) (a1 : Int) : evFn f35e f35k n f35c [.«mut», .ro] [false] true [.tmp 4] [3] [.d (.sl .str) a0, .d (.i .i64) a1] k =
    (f35L0 n (fun (xvs1 : Int) (xvs5 : Int) (xvs9 : Bool) (xvr0 : List ByteArray) =>
    (k [.d (.i .i64) xvs1, .d (.sl .str) xvr0])) n a1 (0 : Int) a0) := by
  refine Eq.trans (b := (iter (fun st k => ev f35e f35k n (cAt [1,0,1,0,0] f35c) st k) n ⟨[(0, .c (.one (.h 0 0 0 []))), (1, .c (.one (.v (.int .i64 a1)))), (5, .c (.one (.v (.int .i64 (0 : Int)))))], [], [(0, .live ⟨.str, .deep, 0, [], a0⟩)]⟩ (f35K0 n (exitK f35e [.«mut», .ro] [false] true [.tmp 4] [3] [.d (.sl .str) a0, .d (.i .i64) a1] k)))) (by kernel_rfl) ?_
  simp only [f35L0_eq, f35K0_x0]
theorem f35_spec (a0 : List ByteArray) (a1 : Int) (hg : gmk a1 (ctL ct_str a0) = true) : ∃ keep rounds, ∀ {R : Type} (k : List Dt → Option R), evFn f35e keep rounds f35c [.«mut», .ro] [false] true [.tmp 4] [3] [.d (.sl .str) a0, .d (.i .i64) a1] k = k [.d (.i .i64) (mkL mk_str a1 a0).2, .d (.sl .str) (mkL mk_str a1 a0).1] := by
  rw [gmk_iff] at hg
  have hl := ctL_len ct_str_pos a0
  refine ⟨f35k, a0.length + 1, fun {R} k => ?_⟩
  rw [f35_run]
  refine Eq.trans (loop_mark (F := fun m kk i l => f35L0 (a0.length + 1) _ m kk i l) (f := mk_str) (c := ct_str) (good := fun kk l => k [.d (.i .i64) kk, .d (.sl .str) l]) (n := a0.length) mk_str_ct
    (fun m kk j l x hx hln h0 hB => ?_) (fun m kk l hln => by simp only [f35L0, hln, idxE, cond_false]) a0 (a0.length + 1) a1 [] (by simp) (by omega) hg.1 hg.2) rfl
  obtain ⟨h1, h2, _, ht⟩ := idx (lt_of_get hx) (by omega)
  have hA : ∀ a, atI (t := .str) (l.set j a) j = a := fun a => atI_set (t := .str) (lt_of_get hx) a
  have hj := lt_of_get hx
  simp only [ct_str] at hB
  simp (disch := omega) only [f35L0, h1, h2, ht, hA, atI_of (t := .str) hx, List.set_set, List.length_set, wrap_id, gmk_of, okI_of, mk_str, Bool.and_self, cond_true]

noncomputable def q35 : List Dt → Option (Bool × List Dt)
  | [.d (.sl .str) a0, .d (.i .i64) a1] => some (((fun (x : List ByteArray) (k : Int) => gmk k (ctL ct_str x)) a0 a1), [.d (.i .i64) (mkL mk_str a1 a0).2, .d (.sl .str) (mkL mk_str a1 a0).1])
  | _ => none
noncomputable def s35 : Gm.Spec := Gm.Spec.of [.«mut», .ro] [false] true q35
theorem good35 : Gm.Good Try.prog (35, s35) := by
  have hl : ∀ x ∈ [(65, s65)], Gm.Good Try.prog x := List.forall_mem_cons.2 ⟨good65, List.forall_mem_nil _⟩
  refine ⟨⟨spec_ok (tab_ok.env hl) (tab.natl hl) Try.func35 (by kernel_rfl : Try.f35.body = some f35c) [3] (by kernel_rfl) ?_, _, Try.func35, by kernel_rfl, of_decide_eq_true (by kernel_rfl)⟩, Gm.Spec.of_natl _ _ _ _⟩
  intro ds outs h
  unfold q35 at h
  split at h
  · simp only [Option.some.injEq, Prod.mk.injEq] at h; obtain ⟨hg, h⟩ := h; cases h; exact f35_spec _ _ hg
  · cases h
/-! ### loop.example/g00465/laws.markPickS -/
noncomputable def f34c : Code := (Try.f34.body).getD .skip
def f34k : Nat → Kp := kat [⟨[0, 1], []⟩, ⟨[0, 1, 5], []⟩, ⟨[0, 1, 5, 9], []⟩, ⟨[0, 1, 5], []⟩, ⟨[0, 1, 5], []⟩, ⟨[0, 1, 5], []⟩, ⟨[0, 1, 5], []⟩, ⟨[0, 1, 5], []⟩, ⟨[0, 1, 5], []⟩, ⟨[0, 4], []⟩]
noncomputable def f34e : Env := tab.env [(35, s35), (65, s65)]
noncomputable def f34v0 (vr0 : List PickT) (vs5 : Int) (vs1 : Int) : List PickT :=
  (vr0.set (Int.toNat vs5) (⟨vs1, (PickT.key (atI (t := .pick) vr0 (Int.toNat vs5))), (PickT.vals (atI (t := .pick) vr0 (Int.toNat vs5)))⟩ : PickT))
noncomputable def f34v1 (vr0 : List PickT) (vs5 : Int) (vs1 : Int) : List PickT :=
  ((f34v0 vr0 vs5 vs1).set (Int.toNat vs5) (⟨(PickT.op (atI (t := .pick) (f34v0 vr0 vs5 vs1) (Int.toNat vs5))), (mkT (IntKind.wrap .i64 (vs1 + (1 : Int)))), (PickT.vals (atI (t := .pick) (f34v0 vr0 vs5 vs1) (Int.toNat vs5)))⟩ : PickT))
noncomputable def f34v2 (vr0 : List PickT) (vs5 : Int) (vs1 : Int) : List PickT :=
  ((f34v1 vr0 vs5 vs1).set (Int.toNat vs5) (⟨(PickT.op (atI (t := .pick) (f34v1 vr0 vs5 vs1) (Int.toNat vs5))), (PickT.key (atI (t := .pick) (f34v1 vr0 vs5 vs1) (Int.toNat vs5))), (mkL mk_str (IntKind.wrap .i64 ((IntKind.wrap .i64 (vs1 + (1 : Int))) + (1 : Int))) (PickT.vals (atI (t := .pick) (f34v1 vr0 vs5 vs1) (Int.toNat vs5)))).1⟩ : PickT))
noncomputable def f34L0 {R : Type} (n : Nat) (x0 : Int → Int → Bool → (List PickT) → Option R)  : Nat → Int → Int → (List PickT) → Option R
  | 0, _, _, _ => none
  | m + 1, vs1, vs5, vr0 =>
    (cond (decide (vs5 < (vr0.length : Int)))
      (cond ((decide ((0 : Int) ≤ vs5)) && (decide (vs5 < (vr0.length : Int))))
        (cond (okI (IntKind.wrap .i64 (vs1 + (1 : Int))))
          (cond ((decide ((0 : Int) ≤ vs5)) && (decide (vs5 < ((f34v0 vr0 vs5 vs1).length : Int))))
            (cond ((decide ((0 : Int) ≤ vs5)) && (decide (vs5 < ((f34v1 vr0 vs5 vs1).length : Int))))
              (cond ((fun (x : List ByteArray) (k : Int) => gmk k (ctL ct_str x)) (PickT.vals (atI (t := .pick) (f34v1 vr0 vs5 vs1) (Int.toNat vs5))) (IntKind.wrap .i64 ((IntKind.wrap .i64 (vs1 + (1 : Int))) + (1 : Int))))
                (f34L0 n x0 m (mkL mk_str (IntKind.wrap .i64 ((IntKind.wrap .i64 (vs1 + (1 : Int))) + (1 : Int))) (PickT.vals (atI (t := .pick) (f34v1 vr0 vs5 vs1) (Int.toNat vs5)))).2 (IntKind.wrap .i64 (vs5 + (1 : Int))) (f34v2 vr0 vs5 vs1))
                none)
              none)
            none)
          none)
        none)
      (x0 vs1 vs5 (decide (vs5 < (vr0.length : Int))) vr0))
theorem f34L0_b {R : Type} (n : Nat) (k' : Ex → St → Option R) (vs1 : Int) (vs5 : Int) (vr0 : List PickT) : ev f34e f34k n (cAt [1,0,1,0,0] f34c) ⟨[(0, .c (.one (.h 0 0 0 []))), (1, .c (.one (.v (.int .i64 vs1)))), (5, .c (.one (.v (.int .i64 vs5))))], [], [(0, .live ⟨.pick, .deep, 0, [], vr0⟩)]⟩ k' =
    (cond (decide (vs5 < (vr0.length : Int)))
    (cond ((decide ((0 : Int) ≤ vs5)) && (decide (vs5 < (vr0.length : Int))))
      (cond (okI (IntKind.wrap .i64 (vs1 + (1 : Int))))
        (cond ((decide ((0 : Int) ≤ vs5)) && (decide (vs5 < ((f34v0 vr0 vs5 vs1).length : Int))))
          (cond ((decide ((0 : Int) ≤ vs5)) && (decide (vs5 < ((f34v1 vr0 vs5 vs1).length : Int))))
            (cond ((fun (x : List ByteArray) (k : Int) => gmk k (ctL ct_str x)) (PickT.vals (atI (t := .pick) (f34v1 vr0 vs5 vs1) (Int.toNat vs5))) (IntKind.wrap .i64 ((IntKind.wrap .i64 (vs1 + (1 : Int))) + (1 : Int))))
              (k' .normal ⟨[(0, .c (.one (.h 0 0 0 []))), (1, .c (.one (.v (.int .i64 (mkL mk_str (IntKind.wrap .i64 ((IntKind.wrap .i64 (vs1 + (1 : Int))) + (1 : Int))) (PickT.vals (atI (t := .pick) (f34v1 vr0 vs5 vs1) (Int.toNat vs5)))).2)))), (5, .c (.one (.v (.int .i64 (IntKind.wrap .i64 (vs5 + (1 : Int)))))))], [], [(0, .live ⟨.pick, .deep, 0, [], (f34v2 vr0 vs5 vs1)⟩)]⟩)
              none)
            none)
          none)
        none)
      none)
    (k' (.exit 0) ⟨[(0, .c (.one (.h 0 0 0 []))), (1, .c (.one (.v (.int .i64 vs1)))), (5, .c (.one (.v (.int .i64 vs5)))), (9, .c (.one (.v (.bool (decide (vs5 < (vr0.length : Int)))))))], [], [(0, .live ⟨.pick, .deep, 0, [], vr0⟩)]⟩)) := by kernel_rfl
theorem f34L0_eq {R : Type} (n : Nat) (k' : Ex → St → Option R)  : ∀ (m : Nat) (vs1 : Int) (vs5 : Int) (vr0 : List PickT), iter (fun st k => ev f34e f34k n (cAt [1,0,1,0,0] f34c) st k) m ⟨[(0, .c (.one (.h 0 0 0 []))), (1, .c (.one (.v (.int .i64 vs1)))), (5, .c (.one (.v (.int .i64 vs5))))], [], [(0, .live ⟨.pick, .deep, 0, [], vr0⟩)]⟩ k' = f34L0 n (fun (xvs1 : Int) (xvs5 : Int) (xvs9 : Bool) (xvr0 : List PickT) => k' (.exit 0) ⟨[(0, .c (.one (.h 0 0 0 []))), (1, .c (.one (.v (.int .i64 xvs1)))), (5, .c (.one (.v (.int .i64 xvs5)))), (9, .c (.one (.v (.bool xvs9))))], [], [(0, .live ⟨.pick, .deep, 0, [], xvr0⟩)]⟩) m vs1 vs5 vr0 := by
  intro m; induction m with
  | zero => intros; rfl
  | succ m ih =>
    intro vs1 vs5 vr0
    simp only [iter]
    rw [f34L0_b]
    simp only [ih, f34L0]

noncomputable def f34K0 {R : Type} (n : Nat) (k' : Ex → St → Option R) : Ex → St → Option R := (blockK 0 (seqK f34e f34k n (cAt [1,1] f34c) k'))
theorem f34K0_x0 {R : Type} (n : Nat) (k : List Dt → Option R) (a0 : List PickT) (a1 : Int) (xvs1 : Int) (xvs5 : Int) (xvs9 : Bool) (xvr0 : List PickT) : f34K0 n (exitK f34e [.«mut», .ro] [false] true [.tmp 4] [3] [.d (.sl .pick) a0, .d (.i .i64) a1] k) (.exit 0) ⟨[(0, .c (.one (.h 0 0 0 []))), (1, .c (.one (.v (.int .i64 xvs1)))), (5, .c (.one (.v (.int .i64 xvs5)))), (9, .c (.one (.v (.bool xvs9))))], [], [(0, .live ⟨.pick, .deep, 0, [], xvr0⟩)]⟩ =
    (k [.d (.i .i64) xvs1, .d (.sl .pick) xvr0]) := by kernel_rfl

theorem f34_run {R : Type} (n : Nat) (k : List Dt → Option R) (a0 : List PickT) (a1 : Int) : evFn f34e f34k n f34c [.«mut», .ro] [false] true [.tmp 4] [3] [.d (.sl .pick) a0, .d (.i .i64) a1] k =
    (f34L0 n (fun (xvs1 : Int) (xvs5 : Int) (xvs9 : Bool) (xvr0 : List PickT) =>
    (k [.d (.i .i64) xvs1, .d (.sl .pick) xvr0])) n a1 (0 : Int) a0) := by
  refine Eq.trans (b := (iter (fun st k => ev f34e f34k n (cAt [1,0,1,0,0] f34c) st k) n ⟨[(0, .c (.one (.h 0 0 0 []))), (1, .c (.one (.v (.int .i64 a1)))), (5, .c (.one (.v (.int .i64 (0 : Int)))))], [], [(0, .live ⟨.pick, .deep, 0, [], a0⟩)]⟩ (f34K0 n (exitK f34e [.«mut», .ro] [false] true [.tmp 4] [3] [.d (.sl .pick) a0, .d (.i .i64) a1] k)))) (by kernel_rfl) ?_
  simp only [f34L0_eq, f34K0_x0]
theorem f34_spec (a0 : List PickT) (a1 : Int) (hg : gmk a1 (ctL ct_pick a0) = true) : ∃ keep rounds, ∀ {R : Type} (k : List Dt → Option R), evFn f34e keep rounds f34c [.«mut», .ro] [false] true [.tmp 4] [3] [.d (.sl .pick) a0, .d (.i .i64) a1] k = k [.d (.i .i64) (mkL mk_pick a1 a0).2, .d (.sl .pick) (mkL mk_pick a1 a0).1] := by
  rw [gmk_iff] at hg
  have hl := ctL_len ct_pick_pos a0
  refine ⟨f34k, a0.length + 1, fun {R} k => ?_⟩
  rw [f34_run]
  refine Eq.trans (loop_mark (F := fun m kk i l => f34L0 (a0.length + 1) _ m kk i l) (f := mk_pick) (c := ct_pick) (good := fun kk l => k [.d (.i .i64) kk, .d (.sl .pick) l]) (n := a0.length) mk_pick_ct
    (fun m kk j l x hx hln h0 hB => ?_) (fun m kk l hln => by simp only [f34L0, hln, idxE, cond_false]) a0 (a0.length + 1) a1 [] (by simp) (by omega) hg.1 hg.2) rfl
  obtain ⟨h1, h2, _, ht⟩ := idx (lt_of_get hx) (by omega)
  have hA : ∀ a, atI (t := .pick) (l.set j a) j = a := fun a => atI_set (t := .pick) (lt_of_get hx) a
  have hj := lt_of_get hx
  simp only [ct_pick] at hB
  simp (disch := omega) only [f34L0, f34v0, f34v1, f34v2, h1, h2, ht, hA, atI_of (t := .pick) hx, List.set_set, List.length_set, wrap_id, gmk_of, okI_of, mk_pick, mkL_str_ct, Bool.and_self, cond_true]

noncomputable def q34 : List Dt → Option (Bool × List Dt)
  | [.d (.sl .pick) a0, .d (.i .i64) a1] => some (((fun (x : List PickT) (k : Int) => gmk k (ctL ct_pick x)) a0 a1), [.d (.i .i64) (mkL mk_pick a1 a0).2, .d (.sl .pick) (mkL mk_pick a1 a0).1])
  | _ => none
noncomputable def s34 : Gm.Spec := Gm.Spec.of [.«mut», .ro] [false] true q34
theorem good34 : Gm.Good Try.prog (34, s34) := by
  have hl : ∀ x ∈ [(35, s35), (65, s65)], Gm.Good Try.prog x := List.forall_mem_cons.2 ⟨good35, List.forall_mem_cons.2 ⟨good65, List.forall_mem_nil _⟩⟩
  refine ⟨⟨spec_ok (tab_ok.env hl) (tab.natl hl) Try.func34 (by kernel_rfl : Try.f34.body = some f34c) [3] (by kernel_rfl) ?_, _, Try.func34, by kernel_rfl, of_decide_eq_true (by kernel_rfl)⟩, Gm.Spec.of_natl _ _ _ _⟩
  intro ds outs h
  unfold q34 at h
  split at h
  · simp only [Option.some.injEq, Prod.mk.injEq] at h; obtain ⟨hg, h⟩ := h; cases h; exact f34_spec _ _ hg
  · cases h
/-! ### loop.example/g00465/laws.heldStringS -/
noncomputable def f36c : Code := (Try.f36.body).getD .skip
def f36k : Nat → Kp := kat [⟨[0, 1], []⟩, ⟨[0, 1, 5], []⟩, ⟨[0, 1, 5, 9], []⟩, ⟨[0, 1, 5], []⟩, ⟨[0, 1, 5, 18], []⟩, ⟨[4], []⟩, ⟨[0, 1, 5], []⟩, ⟨[4], []⟩]
noncomputable def f36e : Env := tab.env [(65, s65)]
noncomputable def f36L0 {R : Type} (n : Nat) (x0 : Option R) (x1 : Int → Int → Bool → Option R) (vs0 : List ByteArray) : Nat → Int → Int → Option R
  | 0, _, _ => none
  | m + 1, vs1, vs5 =>
    (cond (decide (vs5 < (vs0.length : Int)))
      (cond ((decide ((0 : Int) ≤ vs5)) && (decide (vs5 < (vs0.length : Int))))
        (cond (okI vs1)
          (cond (!(sEq (atI (t := .str) vs0 (Int.toNat vs5)) (mkT vs1)))
            (x0)
            (f36L0 n x0 x1 vs0 m (IntKind.wrap .i64 (vs1 + (1 : Int))) (IntKind.wrap .i64 (vs5 + (1 : Int)))))
          none)
        none)
      (x1 vs1 vs5 (decide (vs5 < (vs0.length : Int)))))
theorem f36L0_b {R : Type} (n : Nat) (k' : Ex → St → Option R) (vs0 : List ByteArray) (vs1 : Int) (vs5 : Int) : ev f36e f36k n (cAt [1,0,1,0,0] f36c) ⟨[(0, .c (.one (.ro .str vs0))), (1, .c (.one (.v (.int .i64 vs1)))), (5, .c (.one (.v (.int .i64 vs5))))], [], []⟩ k' =
    (cond (decide (vs5 < (vs0.length : Int)))
    (cond ((decide ((0 : Int) ≤ vs5)) && (decide (vs5 < (vs0.length : Int))))
      (cond (okI vs1)
        (cond (!(sEq (atI (t := .str) vs0 (Int.toNat vs5)) (mkT vs1)))
          (k' .ret ⟨[(4, .c (.one (.v (.int .i64 (-1 : Int)))))], [], []⟩)
          (k' .normal ⟨[(0, .c (.one (.ro .str vs0))), (1, .c (.one (.v (.int .i64 (IntKind.wrap .i64 (vs1 + (1 : Int))))))), (5, .c (.one (.v (.int .i64 (IntKind.wrap .i64 (vs5 + (1 : Int)))))))], [], []⟩))
        none)
      none)
    (k' (.exit 0) ⟨[(0, .c (.one (.ro .str vs0))), (1, .c (.one (.v (.int .i64 vs1)))), (5, .c (.one (.v (.int .i64 vs5)))), (9, .c (.one (.v (.bool (decide (vs5 < (vs0.length : Int)))))))], [], []⟩)) := by kernel_rfl
theorem f36L0_eq {R : Type} (n : Nat) (k' : Ex → St → Option R) (vs0 : List ByteArray) : ∀ (m : Nat) (vs1 : Int) (vs5 : Int), iter (fun st k => ev f36e f36k n (cAt [1,0,1,0,0] f36c) st k) m ⟨[(0, .c (.one (.ro .str vs0))), (1, .c (.one (.v (.int .i64 vs1)))), (5, .c (.one (.v (.int .i64 vs5))))], [], []⟩ k' = f36L0 n (k' .ret ⟨[(4, .c (.one (.v (.int .i64 (-1 : Int)))))], [], []⟩) (fun (xvs1 : Int) (xvs5 : Int) (xvs9 : Bool) => k' (.exit 0) ⟨[(0, .c (.one (.ro .str vs0))), (1, .c (.one (.v (.int .i64 xvs1)))), (5, .c (.one (.v (.int .i64 xvs5)))), (9, .c (.one (.v (.bool xvs9))))], [], []⟩) vs0 m vs1 vs5 := by
  intro m; induction m with
  | zero => intros; rfl
  | succ m ih =>
    intro vs1 vs5
    simp only [iter]
    rw [f36L0_b]
    simp only [ih, f36L0]

noncomputable def f36K0 {R : Type} (n : Nat) (k' : Ex → St → Option R) : Ex → St → Option R := (blockK 0 (seqK f36e f36k n (cAt [1,1] f36c) k'))
theorem f36K0_x0 {R : Type} (n : Nat) (k : List Dt → Option R) (a0 : List ByteArray) (a1 : Int)  : f36K0 n (exitK f36e [.ro, .ro] [false] true [.tmp 4] [3] [.d (.sl .str) a0, .d (.i .i64) a1] k) .ret ⟨[(4, .c (.one (.v (.int .i64 (-1 : Int)))))], [], []⟩ =
    (k [.d (.i .i64) (-1 : Int)]) := by kernel_rfl
theorem f36K0_x1 {R : Type} (n : Nat) (k : List Dt → Option R) (a0 : List ByteArray) (a1 : Int) (vs0 : List ByteArray) (xvs1 : Int) (xvs5 : Int) (xvs9 : Bool) : f36K0 n (exitK f36e [.ro, .ro] [false] true [.tmp 4] [3] [.d (.sl .str) a0, .d (.i .i64) a1] k) (.exit 0) ⟨[(0, .c (.one (.ro .str vs0))), (1, .c (.one (.v (.int .i64 xvs1)))), (5, .c (.one (.v (.int .i64 xvs5)))), (9, .c (.one (.v (.bool xvs9))))], [], []⟩ =
    (k [.d (.i .i64) xvs1]) := by kernel_rfl

theorem f36_run {R : Type} (n : Nat) (k : List Dt → Option R) (a0 : List ByteArray) (a1 : Int) : evFn f36e f36k n f36c [.ro, .ro] [false] true [.tmp 4] [3] [.d (.sl .str) a0, .d (.i .i64) a1] k =
    (f36L0 n (k [.d (.i .i64) (-1 : Int)]) (fun (xvs1 : Int) (xvs5 : Int) (xvs9 : Bool) =>
    (k [.d (.i .i64) xvs1])) a0 n a1 (0 : Int)) := by
  refine Eq.trans (b := (iter (fun st k => ev f36e f36k n (cAt [1,0,1,0,0] f36c) st k) n ⟨[(0, .c (.one (.ro .str a0))), (1, .c (.one (.v (.int .i64 a1)))), (5, .c (.one (.v (.int .i64 (0 : Int)))))], [], []⟩ (f36K0 n (exitK f36e [.ro, .ro] [false] true [.tmp 4] [3] [.d (.sl .str) a0, .d (.i .i64) a1] k)))) (by kernel_rfl) ?_
  simp only [f36L0_eq, f36K0_x0, f36K0_x1]
theorem f36_spec (a0 : List ByteArray) (a1 : Int) (hg : gmk a1 (ctL ct_str a0) = true) : ∃ keep rounds, ∀ {R : Type} (k : List Dt → Option R), evFn f36e keep rounds f36c [.ro, .ro] [false] true [.tmp 4] [3] [.d (.sl .str) a0, .d (.i .i64) a1] k = k [.d (.i .i64) (hdL mk_str a1 a0)] := by
  rw [gmk_iff] at hg
  have hl := ctL_len ct_str_pos a0
  refine ⟨f36k, a0.length + 1, fun {R} k => ?_⟩
  rw [f36_run]
  refine Eq.trans (loop_held (xs := a0) (F := fun m kk i => f36L0 (a0.length + 1) _ _ a0 m kk i) (f := mk_str) (c := ct_str) (good := fun kk => k [.d (.i .i64) kk]) (bad := k [.d (.i .i64) (-1 : Int)]) mk_str_ct
    (fun m kk j x hx h0 hB => ?_) (fun m kk => by simp only [f36L0, idxE, cond_false]) a0.length 0 (a0.length + 1) a1 (by omega) (by omega) hg.1 (by rw [List.drop_zero]; exact hg.2)) ?_
  · obtain ⟨h1, h2, _, ht⟩ := idx (lt_of_get hx) (by omega)
    have hj := lt_of_get hx
    simp only [ct_str] at hB
    simp (disch := omega) only [f36L0, h1, h2, ht, atI_of (t := .str) hx, wrap_id, gmk_of, okI_of, mk_str, eqD_str, Bool.cond_not, cond_and, bne, decide_ge0, decide_m1, cond_true, cond_false, Bool.cond_self, Bool.and_self]
  · rw [List.drop_zero]
    show _ = k [.d (.i .i64) (hdL mk_str a1 a0)]
    unfold hdL
    cases eqD a0 (mkL mk_str a1 a0).1 <;> rfl

noncomputable def q36 : List Dt → Option (Bool × List Dt)
  | [.d (.sl .str) a0, .d (.i .i64) a1] => some (((fun (x : List ByteArray) (k : Int) => gmk k (ctL ct_str x)) a0 a1), [.d (.i .i64) (hdL mk_str a1 a0)])
  | _ => none
noncomputable def s36 : Gm.Spec := Gm.Spec.of [.ro, .ro] [false] true q36
theorem good36 : Gm.Good Try.prog (36, s36) := by
  have hl : ∀ x ∈ [(65, s65)], Gm.Good Try.prog x := List.forall_mem_cons.2 ⟨good65, List.forall_mem_nil _⟩
  refine ⟨⟨spec_ok (tab_ok.env hl) (tab.natl hl) Try.func36 (by kernel_rfl : Try.f36.body = some f36c) [3] (by kernel_rfl) ?_, _, Try.func36, by kernel_rfl, of_decide_eq_true (by kernel_rfl)⟩, Gm.Spec.of_natl _ _ _ _⟩
  intro ds outs h
  unfold q36 at h
  split at h
  · simp only [Option.some.injEq, Prod.mk.injEq] at h; obtain ⟨hg, h⟩ := h; cases h; exact f36_spec _ _ hg
  · cases h
end Go.Proofs.Ytklmnopgogcbhaa

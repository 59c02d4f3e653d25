/- What the functions compute, part 2. No conditions. -/
import Derived.Test.YtglijihijmkpaaaPruneFn1
/- x -/
namespace Go.Proofs.Ytglijihijmkpaaa
open Go Go.Gm
noncomputable def q21 : List Dt → Option (Bool × List Dt)
  | [.d .rule a0, .d (.i .i64) a1] => some ((gRule a0 a1), [.d .bool (ruleRight a0 a1)])
  | _ => none
noncomputable def mu21 : List Dt → Nat
  | [.d .rule a0, .d (.i .i64) a1] => (fun (r : RuleT) (_ : Int) => nd_rule r) a0 a1
  | _ => 0
noncomputable def s21r (N : Nat) : Gm.Spec := Gm.Spec.of [.ro, .ro] [false] true (qlt mu21 N q21)
/-! ### loop.example/g00465/spec.l24Right -/
noncomputable def f21c : Code := (Try.f21.body).getD .skip
def f21k : Nat → Kp := kat [⟨[1, 2], [], [], []⟩, ⟨[1, 2, 20], [], [], []⟩, ⟨[4], [], [], []⟩, ⟨[1, 2, 5], [], [], []⟩, ⟨[1, 2, 5, 25], [], [], []⟩, ⟨[1, 2, 5], [], [], []⟩, ⟨[1, 2, 5, 36], [], [], []⟩, ⟨[4], [], [], []⟩, ⟨[2, 59], [], [], []⟩, ⟨[4], [], [], []⟩, ⟨[2, 62], [], [], []⟩, ⟨[4], [], [], []⟩, ⟨[4], [], [], []⟩]
noncomputable def f21e (N : Nat) : Env := tab.env [(21, s21r N), (42, s42), (43, s43), (44, s44)]
noncomputable def f21L0 {R : Type} (N : Nat) (n : Nat) (x0 : Option R) (x1 : Int → Bool → Option R) (vs1 : Int) (vb2_0 : Int) (vb2_1 : List ByteArray) (vb2_2 : List RuleT) (vb2_3 : List Bool) (vb2_4 : Int) (vb2_5 : Int) : Nat → Int → Option R
  | 0, _ => none
  | m + 1, vs5 =>
    (cond (decide (vs5 < (vb2_2.length : Int)))
      (cond ((decide ((0 : Int) ≤ vs5)) && (decide (vs5 < (vb2_2.length : Int))))
        (cond ((gRule (⟨(RuleT.kind (atI (t := .rule) vb2_2 (Int.toNat vs5))), (RuleT.keys (atI (t := .rule) vb2_2 (Int.toNat vs5))), (RuleT.kids (atI (t := .rule) vb2_2 (Int.toNat vs5))), (RuleT.need (atI (t := .rule) vb2_2 (Int.toNat vs5))), (RuleT.low (atI (t := .rule) vb2_2 (Int.toNat vs5))), (RuleT.high (atI (t := .rule) vb2_2 (Int.toNat vs5)))⟩ : RuleT) (IntKind.wrap .i64 (vs1 - (1 : Int)))) && (Nat.blt ((fun (r : RuleT) (_ : Int) => nd_rule r) (⟨(RuleT.kind (atI (t := .rule) vb2_2 (Int.toNat vs5))), (RuleT.keys (atI (t := .rule) vb2_2 (Int.toNat vs5))), (RuleT.kids (atI (t := .rule) vb2_2 (Int.toNat vs5))), (RuleT.need (atI (t := .rule) vb2_2 (Int.toNat vs5))), (RuleT.low (atI (t := .rule) vb2_2 (Int.toNat vs5))), (RuleT.high (atI (t := .rule) vb2_2 (Int.toNat vs5)))⟩ : RuleT) (IntKind.wrap .i64 (vs1 - (1 : Int)))) N))
          (cond (!(ruleRight (⟨(RuleT.kind (atI (t := .rule) vb2_2 (Int.toNat vs5))), (RuleT.keys (atI (t := .rule) vb2_2 (Int.toNat vs5))), (RuleT.kids (atI (t := .rule) vb2_2 (Int.toNat vs5))), (RuleT.need (atI (t := .rule) vb2_2 (Int.toNat vs5))), (RuleT.low (atI (t := .rule) vb2_2 (Int.toNat vs5))), (RuleT.high (atI (t := .rule) vb2_2 (Int.toNat vs5)))⟩ : RuleT) (IntKind.wrap .i64 (vs1 - (1 : Int)))))
            (x0)
            (f21L0 N n x0 x1 vs1 vb2_0 vb2_1 vb2_2 vb2_3 vb2_4 vb2_5 m (IntKind.wrap .i64 (vs5 + (1 : Int)))))
          none)
        none)
      (x1 vs5 (decide (vs5 < (vb2_2.length : Int)))))
theorem f21L0_b {R : Type} (N : Nat) (n : Nat) (k' : Ex → St → Option R) (vs1 : Int) (vs5 : Int) (vb2_0 : Int) (vb2_1 : List ByteArray) (vb2_2 : List RuleT) (vb2_3 : List Bool) (vb2_4 : Int) (vb2_5 : Int) : ev (f21e N) f21k n (cAt [1,1,0,1,0,0] f21c) ⟨[(1, .c (.one (.v (.int .i64 vs1)))), (2, .c (.one (.pt 2 0))), (5, .c (.one (.v (.int .i64 vs5))))], [(2, ⟨.rule, [.v (.int .i64 vb2_0), .ro .str vb2_1, .ro .rule vb2_2, .ro .bool vb2_3, .v (.int .i64 vb2_4), .v (.int .i64 vb2_5)]⟩)], []⟩ k' =
    (cond (decide (vs5 < (vb2_2.length : Int)))
    (cond ((decide ((0 : Int) ≤ vs5)) && (decide (vs5 < (vb2_2.length : Int))))
      (cond ((gRule (⟨(RuleT.kind (atI (t := .rule) vb2_2 (Int.toNat vs5))), (RuleT.keys (atI (t := .rule) vb2_2 (Int.toNat vs5))), (RuleT.kids (atI (t := .rule) vb2_2 (Int.toNat vs5))), (RuleT.need (atI (t := .rule) vb2_2 (Int.toNat vs5))), (RuleT.low (atI (t := .rule) vb2_2 (Int.toNat vs5))), (RuleT.high (atI (t := .rule) vb2_2 (Int.toNat vs5)))⟩ : RuleT) (IntKind.wrap .i64 (vs1 - (1 : Int)))) && (Nat.blt ((fun (r : RuleT) (_ : Int) => nd_rule r) (⟨(RuleT.kind (atI (t := .rule) vb2_2 (Int.toNat vs5))), (RuleT.keys (atI (t := .rule) vb2_2 (Int.toNat vs5))), (RuleT.kids (atI (t := .rule) vb2_2 (Int.toNat vs5))), (RuleT.need (atI (t := .rule) vb2_2 (Int.toNat vs5))), (RuleT.low (atI (t := .rule) vb2_2 (Int.toNat vs5))), (RuleT.high (atI (t := .rule) vb2_2 (Int.toNat vs5)))⟩ : RuleT) (IntKind.wrap .i64 (vs1 - (1 : Int)))) N))
        (cond (!(ruleRight (⟨(RuleT.kind (atI (t := .rule) vb2_2 (Int.toNat vs5))), (RuleT.keys (atI (t := .rule) vb2_2 (Int.toNat vs5))), (RuleT.kids (atI (t := .rule) vb2_2 (Int.toNat vs5))), (RuleT.need (atI (t := .rule) vb2_2 (Int.toNat vs5))), (RuleT.low (atI (t := .rule) vb2_2 (Int.toNat vs5))), (RuleT.high (atI (t := .rule) vb2_2 (Int.toNat vs5)))⟩ : RuleT) (IntKind.wrap .i64 (vs1 - (1 : Int)))))
          (k' .ret ⟨[(4, .c (.one (.v (.bool false))))], [], []⟩)
          (k' .normal ⟨[(1, .c (.one (.v (.int .i64 vs1)))), (2, .c (.one (.pt 2 0))), (5, .c (.one (.v (.int .i64 (IntKind.wrap .i64 (vs5 + (1 : Int)))))))], [(2, ⟨.rule, [.v (.int .i64 vb2_0), .ro .str vb2_1, .ro .rule vb2_2, .ro .bool vb2_3, .v (.int .i64 vb2_4), .v (.int .i64 vb2_5)]⟩)], []⟩))
        none)
      none)
    (k' (.exit 0) ⟨[(1, .c (.one (.v (.int .i64 vs1)))), (2, .c (.one (.pt 2 0))), (5, .c (.one (.v (.int .i64 vs5)))), (25, .c (.one (.v (.bool (decide (vs5 < (vb2_2.length : Int)))))))], [(2, ⟨.rule, [.v (.int .i64 vb2_0), .ro .str vb2_1, .ro .rule vb2_2, .ro .bool vb2_3, .v (.int .i64 vb2_4), .v (.int .i64 vb2_5)]⟩)], []⟩)) := by kernel_rfl
theorem f21L0_eq {R : Type} (N : Nat) (n : Nat) (k' : Ex → St → Option R) (vs1 : Int) (vb2_0 : Int) (vb2_1 : List ByteArray) (vb2_2 : List RuleT) (vb2_3 : List Bool) (vb2_4 : Int) (vb2_5 : Int) : ∀ (m : Nat) (vs5 : Int), iter (fun st k => ev (f21e N) f21k n (cAt [1,1,0,1,0,0] f21c) st k) m ⟨[(1, .c (.one (.v (.int .i64 vs1)))), (2, .c (.one (.pt 2 0))), (5, .c (.one (.v (.int .i64 vs5))))], [(2, ⟨.rule, [.v (.int .i64 vb2_0), .ro .str vb2_1, .ro .rule vb2_2, .ro .bool vb2_3, .v (.int .i64 vb2_4), .v (.int .i64 vb2_5)]⟩)], []⟩ k' = f21L0 N n (k' .ret ⟨[(4, .c (.one (.v (.bool false))))], [], []⟩) (fun (xvs5 : Int) (xvs25 : Bool) => k' (.exit 0) ⟨[(1, .c (.one (.v (.int .i64 vs1)))), (2, .c (.one (.pt 2 0))), (5, .c (.one (.v (.int .i64 xvs5)))), (25, .c (.one (.v (.bool xvs25))))], [(2, ⟨.rule, [.v (.int .i64 vb2_0), .ro .str vb2_1, .ro .rule vb2_2, .ro .bool vb2_3, .v (.int .i64 vb2_4), .v (.int .i64 vb2_5)]⟩)], []⟩) vs1 vb2_0 vb2_1 vb2_2 vb2_3 vb2_4 vb2_5 m vs5 := by
  intro m; induction m with
  | zero => intros; rfl
  | succ m ih =>
    intro vs5
    simp only [iter]
    rw [f21L0_b]
    simp only [ih, f21L0]

noncomputable def f21K0 {R : Type} (N : Nat) (n : Nat) (k' : Ex → St → Option R) : Ex → St → Option R := (blockK 0 (seqK (f21e N) f21k n (cAt [1,1,1] f21c) k'))
theorem f21K0_x0 {R : Type} (N : Nat) (n : Nat) (k : List Dt → Option R) (a0 : RuleT) (a1 : Int)  : f21K0 N n (exitK (f21e N) [.ro, .ro] [false] true [.tmp 4] [4] [.d .rule a0, .d (.i .i64) a1] k) .ret ⟨[(4, .c (.one (.v (.bool false))))], [], []⟩ =
    (k [.d .bool false]) := by kernel_rfl
theorem f21K0_x1 {R : Type} (N : Nat) (n : Nat) (k : List Dt → Option R) (a0 : RuleT) (a1 : Int) (vs1 : Int) (vb2_0 : Int) (vb2_1 : List ByteArray) (vb2_2 : List RuleT) (vb2_3 : List Bool) (vb2_4 : Int) (vb2_5 : Int) (xvs5 : Int) (xvs25 : Bool) : f21K0 N n (exitK (f21e N) [.ro, .ro] [false] true [.tmp 4] [4] [.d .rule a0, .d (.i .i64) a1] k) (.exit 0) ⟨[(1, .c (.one (.v (.int .i64 vs1)))), (2, .c (.one (.pt 2 0))), (5, .c (.one (.v (.int .i64 xvs5)))), (25, .c (.one (.v (.bool xvs25))))], [(2, ⟨.rule, [.v (.int .i64 vb2_0), .ro .str vb2_1, .ro .rule vb2_2, .ro .bool vb2_3, .v (.int .i64 vb2_4), .v (.int .i64 vb2_5)]⟩)], []⟩ =
    (cond (vb2_0 != (2 : Int))
    (cond (vb2_0 != (3 : Int))
      (cond (vb2_0 != (4 : Int))
        (cond (vb2_4 != (0 : Int))
          (k [.d .bool false])
          (cond (vb2_5 != (0 : Int))
            (k [.d .bool false])
            (cond (vb2_0 == (5 : Int))
              (cond ((vb2_1.length : Int) == (vb2_2.length : Int))
                (cond ((vb2_3.length : Int) == (vb2_2.length : Int))
                  (cond (gNames vb2_1)
                    (k [.d .bool (keysOk vb2_1)])
                    none)
                  (k [.d .bool false]))
                (k [.d .bool false]))
              (cond ((vb2_1.length : Int) == (0 : Int))
                (cond ((vb2_3.length : Int) == (0 : Int))
                  (k [.d .bool ((vb2_2.length : Int) == (bitI (vb2_0 == (4 : Int))))])
                  (k [.d .bool false]))
                (k [.d .bool false])))))
        (cond (vb2_0 == (5 : Int))
          (cond ((vb2_1.length : Int) == (vb2_2.length : Int))
            (cond ((vb2_3.length : Int) == (vb2_2.length : Int))
              (cond (gNames vb2_1)
                (k [.d .bool (keysOk vb2_1)])
                none)
              (k [.d .bool false]))
            (k [.d .bool false]))
          (cond ((vb2_1.length : Int) == (0 : Int))
            (cond ((vb2_3.length : Int) == (0 : Int))
              (k [.d .bool ((vb2_2.length : Int) == (bitI (vb2_0 == (4 : Int))))])
              (k [.d .bool false]))
            (k [.d .bool false]))))
      (cond (vb2_0 == (5 : Int))
        (cond ((vb2_1.length : Int) == (vb2_2.length : Int))
          (cond ((vb2_3.length : Int) == (vb2_2.length : Int))
            (cond (gNames vb2_1)
              (k [.d .bool (keysOk vb2_1)])
              none)
            (k [.d .bool false]))
          (k [.d .bool false]))
        (cond ((vb2_1.length : Int) == (0 : Int))
          (cond ((vb2_3.length : Int) == (0 : Int))
            (k [.d .bool ((vb2_2.length : Int) == (bitI (vb2_0 == (4 : Int))))])
            (k [.d .bool false]))
          (k [.d .bool false]))))
    (cond (vb2_0 == (5 : Int))
      (cond ((vb2_1.length : Int) == (vb2_2.length : Int))
        (cond ((vb2_3.length : Int) == (vb2_2.length : Int))
          (cond (gNames vb2_1)
            (k [.d .bool (keysOk vb2_1)])
            none)
          (k [.d .bool false]))
        (k [.d .bool false]))
      (cond ((vb2_1.length : Int) == (0 : Int))
        (cond ((vb2_3.length : Int) == (0 : Int))
          (k [.d .bool ((vb2_2.length : Int) == (bitI (vb2_0 == (4 : Int))))])
          (k [.d .bool false]))
        (k [.d .bool false])))) := by kernel_rfl

theorem f21_run {R : Type} (N : Nat) (n : Nat) (k : List Dt → Option R) (a0 : RuleT) (a1 : Int) : evFn (f21e N) f21k n f21c [.ro, .ro] [false] true [.tmp 4] [4] [.d .rule a0, .d (.i .i64) a1] k =
    (cond (!(inR (RuleT.kind a0) (-1 : Int) (5 : Int)))
    (k [.d .bool false])
    (cond (decide ((RuleT.low a0) > (RuleT.high a0)))
      (k [.d .bool false])
      (cond (decide (a1 ≤ (0 : Int)))
        (k [.d .bool false])
        (f21L0 N n (k [.d .bool false]) (fun (xvs5 : Int) (xvs25 : Bool) =>
          (cond ((RuleT.kind a0) != (2 : Int))
            (cond ((RuleT.kind a0) != (3 : Int))
              (cond ((RuleT.kind a0) != (4 : Int))
                (cond ((RuleT.low a0) != (0 : Int))
                  (k [.d .bool false])
                  (cond ((RuleT.high a0) != (0 : Int))
                    (k [.d .bool false])
                    (cond ((RuleT.kind a0) == (5 : Int))
                      (cond (((RuleT.keys a0).length : Int) == ((RuleT.kids a0).length : Int))
                        (cond (((RuleT.need a0).length : Int) == ((RuleT.kids a0).length : Int))
                          (cond (gNames (RuleT.keys a0))
                            (k [.d .bool (keysOk (RuleT.keys a0))])
                            none)
                          (k [.d .bool false]))
                        (k [.d .bool false]))
                      (cond (((RuleT.keys a0).length : Int) == (0 : Int))
                        (cond (((RuleT.need a0).length : Int) == (0 : Int))
                          (k [.d .bool (((RuleT.kids a0).length : Int) == (bitI ((RuleT.kind a0) == (4 : Int))))])
                          (k [.d .bool false]))
                        (k [.d .bool false])))))
                (cond ((RuleT.kind a0) == (5 : Int))
                  (cond (((RuleT.keys a0).length : Int) == ((RuleT.kids a0).length : Int))
                    (cond (((RuleT.need a0).length : Int) == ((RuleT.kids a0).length : Int))
                      (cond (gNames (RuleT.keys a0))
                        (k [.d .bool (keysOk (RuleT.keys a0))])
                        none)
                      (k [.d .bool false]))
                    (k [.d .bool false]))
                  (cond (((RuleT.keys a0).length : Int) == (0 : Int))
                    (cond (((RuleT.need a0).length : Int) == (0 : Int))
                      (k [.d .bool (((RuleT.kids a0).length : Int) == (bitI ((RuleT.kind a0) == (4 : Int))))])
                      (k [.d .bool false]))
                    (k [.d .bool false]))))
              (cond ((RuleT.kind a0) == (5 : Int))
                (cond (((RuleT.keys a0).length : Int) == ((RuleT.kids a0).length : Int))
                  (cond (((RuleT.need a0).length : Int) == ((RuleT.kids a0).length : Int))
                    (cond (gNames (RuleT.keys a0))
                      (k [.d .bool (keysOk (RuleT.keys a0))])
                      none)
                    (k [.d .bool false]))
                  (k [.d .bool false]))
                (cond (((RuleT.keys a0).length : Int) == (0 : Int))
                  (cond (((RuleT.need a0).length : Int) == (0 : Int))
                    (k [.d .bool (((RuleT.kids a0).length : Int) == (bitI ((RuleT.kind a0) == (4 : Int))))])
                    (k [.d .bool false]))
                  (k [.d .bool false]))))
            (cond ((RuleT.kind a0) == (5 : Int))
              (cond (((RuleT.keys a0).length : Int) == ((RuleT.kids a0).length : Int))
                (cond (((RuleT.need a0).length : Int) == ((RuleT.kids a0).length : Int))
                  (cond (gNames (RuleT.keys a0))
                    (k [.d .bool (keysOk (RuleT.keys a0))])
                    none)
                  (k [.d .bool false]))
                (k [.d .bool false]))
              (cond (((RuleT.keys a0).length : Int) == (0 : Int))
                (cond (((RuleT.need a0).length : Int) == (0 : Int))
                  (k [.d .bool (((RuleT.kids a0).length : Int) == (bitI ((RuleT.kind a0) == (4 : Int))))])
                  (k [.d .bool false]))
                (k [.d .bool false]))))) a1 (RuleT.kind a0) (RuleT.keys a0) (RuleT.kids a0) (RuleT.need a0) (RuleT.low a0) (RuleT.high a0) n (0 : Int))))) := by
  refine Eq.trans (b := (cond (!(inR (RuleT.kind a0) (-1 : Int) (5 : Int)))
    (k [.d .bool false])
    (cond (decide ((RuleT.low a0) > (RuleT.high a0)))
      (k [.d .bool false])
      (cond (decide (a1 ≤ (0 : Int)))
        (k [.d .bool false])
        (iter (fun st k => ev (f21e N) f21k n (cAt [1,1,0,1,0,0] f21c) st k) n ⟨[(1, .c (.one (.v (.int .i64 a1)))), (2, .c (.one (.pt 2 0))), (5, .c (.one (.v (.int .i64 (0 : Int)))))], [(2, ⟨.rule, [.v (.int .i64 (RuleT.kind a0)), .ro .str (RuleT.keys a0), .ro .rule (RuleT.kids a0), .ro .bool (RuleT.need a0), .v (.int .i64 (RuleT.low a0)), .v (.int .i64 (RuleT.high a0))]⟩)], []⟩ (f21K0 N n (exitK (f21e N) [.ro, .ro] [false] true [.tmp 4] [4] [.d .rule a0, .d (.i .i64) a1] k))))))) (by kernel_rfl) ?_
  simp only [f21L0_eq, f21K0_x0, f21K0_x1]
theorem f21_spec (N : Nat) (a0 : RuleT) (a1 : Int) (hg : gRule a0 a1 = true) (hm : mu21 [.d .rule a0, .d (.i .i64) a1] = N) : ∃ keep rounds, ∀ {R : Type} (k : List Dt → Option R), evFn (f21e N) keep rounds f21c [.ro, .ro] [false] true [.tmp 4] [4] [.d .rule a0, .d (.i .i64) a1] k = k [.d .bool (ruleRight a0 a1)] := by
  have hm : nd_rule a0 = N := hm
  subst hm
  simp only [gRule, sm_rule_def, Bool.and_eq_true, decide_eq_true_eq] at hg
  obtain ⟨⟨_, hke, hki, _, _, _⟩, hd0, hd1⟩ := hg
  have gk : gNames a0.keys = true := okL_sms hke
  have lk := smL_len hke
  have li := smL_len hki
  refine ⟨f21k, a0.kids.length + 1, fun {R} k => ?_⟩
  rw [f21_run]
  show _ = k [.d .bool (ruleRight a0 a1)]
  rw [ruleRight_def]
  unfold ruleHead
  cases inR a0.kind (-1) 5
  · rfl
  cases decide (a0.low > a0.high)
  rotate_left
  · rfl
  by_cases hd : a1 ≤ 0
  · simp only [hd, decide_true, Bool.not_true, Bool.not_false, Bool.and_false, Bool.false_and, cond_true, cond_false]
  simp only [hd, decide_false, Bool.not_true, Bool.not_false, Bool.true_and, cond_false]
  generalize hX : (fun (xvs5 : Int) (xvs25 : Bool) => _) = X
  refine Eq.trans (loop_idx (n := a0.kids.length) (F := fun m i => f21L0 (nd_rule a0) (a0.kids.length + 1) _ X a1 a0.kind a0.keys a0.kids a0.need a0.low a0.high m i) (p := fun j => ruleRight (atI (t := .rule) a0.kids j) (a1 - 1)) (good := X (a0.kids.length : Int) false) (bad := k [.d .bool false])
    (fun m j hj => ?_) (fun m => by simp only [f21L0, idxE, cond_false]) a0.kids.length 0 (a0.kids.length + 1) (by omega) (by omega)) ?_
  · obtain ⟨h1, h0, hw, ht⟩ := idx hj (by omega)
    have hs := smL_at (t := .rule) hki hj
    have hg2 : gRule (atI (t := .rule) a0.kids j) (a1 - 1) = true := by
      unfold gRule; rw [hs, decide_eq_true (show 0 ≤ a1 - 1 by omega), decide_eq_true (show a1 - 1 ≤ 100 by omega)]; rfl
    have hb : Nat.blt (nd_rule (atI (t := .rule) a0.kids j)) (nd_rule a0) = true := by
      obtain ⟨x, hx, _⟩ := drop_get hj
      have := nd_rule_kid (x := a0) (List.mem_of_getElem? hx)
      rw [atI_of (t := .rule) hx, Nat.blt_eq]; exact this
    simp only [f21L0, h1, h0, hw, ht, eta_rule, wrap_id (x := a1 - 1) (by omega) (by omega), hg2, hb, Bool.and_self, cond_true]
    cases ruleRight (atI (t := .rule) a0.kids j) (a1 - 1) <;> rfl
  · rw [allN_all (q := fun x => ruleRight x (a1 - 1)) (fun j x hx => by rw [atI_of (t := .rule) hx]), ← hX]
    cases a0.kids.all fun x => ruleRight x (a1 - 1)
    · rfl
    simp only [cond_true, Bool.true_and, gk]
    unfold ruleShape
    simp only [bne]
    cases a0.kind == (2 : Int) <;> cases a0.kind == (3 : Int) <;> cases a0.kind == (4 : Int) <;> cases a0.low == (0 : Int) <;> cases a0.high == (0 : Int) <;> cases a0.kind == (5 : Int) <;> simp only [cond_true, cond_false, Bool.not_true, Bool.not_false, Bool.true_or, Bool.or_true, Bool.false_or, Bool.true_and, Bool.false_and, Bool.and_true, Bool.and_false] <;>
      first
        | rfl
        | (cases ((a0.keys.length : Int) == (a0.kids.length : Int)) <;> cases ((a0.need.length : Int) == (a0.kids.length : Int)) <;> rfl)
        | (cases ((a0.keys.length : Int) == (0 : Int)) <;> cases ((a0.need.length : Int) == (0 : Int)) <;> rfl)

noncomputable def s21 : Gm.Spec := Gm.Spec.of [.ro, .ro] [false] true q21
theorem good21 : Gm.Good Try.prog (21, s21) := by
  refine ⟨⟨spec_rec mu21 fun N hr => ?_, _, Try.func21, by kernel_rfl, of_decide_eq_true (by kernel_rfl)⟩, Gm.Spec.of_natl _ _ _ _⟩
  have hl : ∀ x ∈ [(21, s21r N), (42, s42), (43, s43), (44, s44)], Gm.Good Try.prog x := List.forall_mem_cons.2 ⟨⟨⟨hr, _, Try.func21, by kernel_rfl, of_decide_eq_true (by kernel_rfl)⟩, Gm.Spec.of_natl _ _ _ _⟩, List.forall_mem_cons.2 ⟨good42, List.forall_mem_cons.2 ⟨good43, List.forall_mem_cons.2 ⟨good44, List.forall_mem_nil _⟩⟩⟩⟩
  intro R
  refine spec_ok (E := f21e N) (tab_ok.env hl) (tab.natl hl) Try.func21 (by kernel_rfl : Try.f21.body = some f21c) [4] (by kernel_rfl) ?_
  intro ds outs h
  obtain ⟨h, hm⟩ := qeq_some h
  unfold q21 at h
  split at h
  · simp only [Option.some.injEq, Prod.mk.injEq] at h; obtain ⟨hg, h⟩ := h; cases h; exact f21_spec N _ _ hg hm
  · cases h
noncomputable def q25 : List Dt → Option (Bool × List Dt)
  | [.d .rule a0, .d (.i .i64) a1] => some ((gRule a0 a1), [.d .bool (ruleRight a0 a1)])
  | _ => none
noncomputable def mu25 : List Dt → Nat
  | [.d .rule a0, .d (.i .i64) a1] => mr0 a0 a1
  | _ => 0
noncomputable def s25r (N : Nat) : Gm.Spec := Gm.Spec.of [.ro, .ro] [false] true (qlt mu25 N q25)
noncomputable def s25 : Gm.Spec := Gm.Spec.of [.ro, .ro] [false] true q25
noncomputable def q48 : List Dt → Option (Bool × List Dt)
  | [.d .rule a0, .d (.i .i64) a1] => some ((gRule1 a0 a1), [.d .bool (ruleNot a0 a1)])
  | _ => none
noncomputable def mu48 : List Dt → Nat
  | [.d .rule a0, .d (.i .i64) a1] => mr1 a0 a1
  | _ => 0
noncomputable def s48r (N : Nat) : Gm.Spec := Gm.Spec.of [.ro, .pro] [false] true (qlt mu48 N q48)
noncomputable def q47 : List Dt → Option (Bool × List Dt)
  | [.d (.sl .rule) a0, .clo 48 [⟨(.i .i64), a1⟩]] => some ((gRules a0 a1), [.d .bool (ruleNotAny a0 a1)])
  | _ => none
noncomputable def mu47 : List Dt → Nat
  | [.d (.sl .rule) a0, .clo 48 [⟨(.i .i64), a1⟩]] => mr3 a0 a1
  | _ => 0
noncomputable def s47r (N : Nat) : Gm.Spec := Gm.Spec.of [.ro, .fn] [false] true (qlt mu47 N q47)
noncomputable def q56 : List Dt → Option (Bool × List Dt)
  | [.d (.sl .rule) a0, .clo 48 [⟨(.i .i64), a1⟩]] => some ((gRules a0 a1), [.d (.i .i64) (ruleNotAt a0 a1)])
  | _ => none
noncomputable def mu56 : List Dt → Nat
  | [.d (.sl .rule) a0, .clo 48 [⟨(.i .i64), a1⟩]] => mr2 a0 a1
  | _ => 0
noncomputable def s56r (N : Nat) : Gm.Spec := Gm.Spec.of [.ro, .fn] [false] true (qlt mu56 N q56)
/-! ### loop.example/g00465/impl.ruleOk -/
noncomputable def f25c : Code := (Try.f25.body).getD .skip
def f25k : Nat → Kp := kat [⟨[2, 3], [], [], []⟩, ⟨[2, 3, 5], [], [], []⟩, ⟨[2, 3, 51], [], [], []⟩, ⟨[4], [], [], []⟩, ⟨[2, 3, 6, 7], [], [], []⟩, ⟨[2, 3, 6, 7, 53], [], [], []⟩, ⟨[2, 3, 6, 7, 53, 54], [], [], []⟩, ⟨[2, 3, 6, 7], [], [], []⟩, ⟨[2, 3, 6, 7, 62], [], [], []⟩, ⟨[2, 3, 6, 7], [], [], []⟩, ⟨[2, 3, 82], [], [], []⟩, ⟨[4], [], [], []⟩, ⟨[2, 3, 84, 85, 86], [], [], []⟩, ⟨[2, 3, 84, 85, 86, 87], [], [], []⟩, ⟨[2, 3, 8, 9, 84, 85, 86], [], [], []⟩, ⟨[2, 3, 84, 85, 86, 107], [], [], []⟩, ⟨[4], [], [], []⟩, ⟨[2, 3, 84, 85, 86], [], [], []⟩, ⟨[4], [], [], []⟩]
noncomputable def f25e (N : Nat) : Env := tab.env [(45, s45), (46, s46), (47, s47r N), (48, s48r N)]
noncomputable def f25L0 {R : Type} (N : Nat) (n : Nat) (x0 : Option R) (x1 : Int → Bool → Option R) (vs84 : List ByteArray) (vs85 : Int) (vb2_0 : Int) (vb2_1 : List ByteArray) (vb2_2 : List RuleT) (vb2_3 : List Bool) (vb2_4 : Int) (vb2_5 : Int) (vb3_0 : Int) : Nat → Int → Option R
  | 0, _ => none
  | m + 1, vs86 =>
    (cond (decide (vs86 < vs85))
      (cond ((decide ((0 : Int) ≤ vs86)) && (decide (vs86 < (vs84.length : Int))))
        (cond (okStr (atI (t := .str) vs84 (Int.toNat vs86)))
          (cond (!(textOk (atI (t := .str) vs84 (Int.toNat vs86))))
            (x0)
            (cond (decide (vs86 > (0 : Int)))
              (cond ((decide ((0 : Int) ≤ (IntKind.wrap .i64 (vs86 - (1 : Int))))) && (decide ((IntKind.wrap .i64 (vs86 - (1 : Int))) < (vb2_1.length : Int))))
                (cond (!(sLt (atI (t := .str) vb2_1 (Int.toNat (IntKind.wrap .i64 (vs86 - (1 : Int))))) (atI (t := .str) vs84 (Int.toNat vs86))))
                  (x0)
                  (f25L0 N n x0 x1 vs84 vs85 vb2_0 vb2_1 vb2_2 vb2_3 vb2_4 vb2_5 vb3_0 m (IntKind.wrap .i64 (vs86 + (1 : Int)))))
                none)
              (f25L0 N n x0 x1 vs84 vs85 vb2_0 vb2_1 vb2_2 vb2_3 vb2_4 vb2_5 vb3_0 m (IntKind.wrap .i64 (vs86 + (1 : Int))))))
          none)
        none)
      (x1 vs86 (decide (vs86 < vs85))))
theorem f25L0_b {R : Type} (N : Nat) (n : Nat) (k' : Ex → St → Option R) (vs84 : List ByteArray) (vs85 : Int) (vs86 : Int) (vb2_0 : Int) (vb2_1 : List ByteArray) (vb2_2 : List RuleT) (vb2_3 : List Bool) (vb2_4 : Int) (vb2_5 : Int) (vb3_0 : Int) : ev (f25e N) f25k n (cAt [1,1,1,1,1,1,0,1,0,0] f25c) ⟨[(2, .c (.one (.pt 2 0))), (3, .c (.one (.pt 3 0))), (84, .c (.one (.ro .str vs84))), (85, .c (.one (.v (.int .i64 vs85)))), (86, .c (.one (.v (.int .i64 vs86))))], [(2, ⟨.rule, [.v (.int .i64 vb2_0), .ro .str vb2_1, .ro .rule vb2_2, .ro .bool vb2_3, .v (.int .i64 vb2_4), .v (.int .i64 vb2_5)]⟩), (3, ⟨(.i .i64), [.v (.int .i64 vb3_0)]⟩)], []⟩ k' =
    (cond (decide (vs86 < vs85))
    (cond ((decide ((0 : Int) ≤ vs86)) && (decide (vs86 < (vs84.length : Int))))
      (cond (okStr (atI (t := .str) vs84 (Int.toNat vs86)))
        (cond (!(textOk (atI (t := .str) vs84 (Int.toNat vs86))))
          (k' .ret ⟨[(4, .c (.one (.v (.bool false))))], [], []⟩)
          (cond (decide (vs86 > (0 : Int)))
            (cond ((decide ((0 : Int) ≤ (IntKind.wrap .i64 (vs86 - (1 : Int))))) && (decide ((IntKind.wrap .i64 (vs86 - (1 : Int))) < (vb2_1.length : Int))))
              (cond (!(sLt (atI (t := .str) vb2_1 (Int.toNat (IntKind.wrap .i64 (vs86 - (1 : Int))))) (atI (t := .str) vs84 (Int.toNat vs86))))
                (k' .ret ⟨[(4, .c (.one (.v (.bool false))))], [], []⟩)
                (k' .normal ⟨[(2, .c (.one (.pt 2 0))), (3, .c (.one (.pt 3 0))), (84, .c (.one (.ro .str vs84))), (85, .c (.one (.v (.int .i64 vs85)))), (86, .c (.one (.v (.int .i64 (IntKind.wrap .i64 (vs86 + (1 : Int)))))))], [(2, ⟨.rule, [.v (.int .i64 vb2_0), .ro .str vb2_1, .ro .rule vb2_2, .ro .bool vb2_3, .v (.int .i64 vb2_4), .v (.int .i64 vb2_5)]⟩), (3, ⟨(.i .i64), [.v (.int .i64 vb3_0)]⟩)], []⟩))
              none)
            (k' .normal ⟨[(2, .c (.one (.pt 2 0))), (3, .c (.one (.pt 3 0))), (84, .c (.one (.ro .str vs84))), (85, .c (.one (.v (.int .i64 vs85)))), (86, .c (.one (.v (.int .i64 (IntKind.wrap .i64 (vs86 + (1 : Int)))))))], [(2, ⟨.rule, [.v (.int .i64 vb2_0), .ro .str vb2_1, .ro .rule vb2_2, .ro .bool vb2_3, .v (.int .i64 vb2_4), .v (.int .i64 vb2_5)]⟩), (3, ⟨(.i .i64), [.v (.int .i64 vb3_0)]⟩)], []⟩)))
        none)
      none)
    (k' (.exit 1) ⟨[(2, .c (.one (.pt 2 0))), (3, .c (.one (.pt 3 0))), (84, .c (.one (.ro .str vs84))), (85, .c (.one (.v (.int .i64 vs85)))), (86, .c (.one (.v (.int .i64 vs86)))), (87, .c (.one (.v (.bool (decide (vs86 < vs85))))))], [(2, ⟨.rule, [.v (.int .i64 vb2_0), .ro .str vb2_1, .ro .rule vb2_2, .ro .bool vb2_3, .v (.int .i64 vb2_4), .v (.int .i64 vb2_5)]⟩), (3, ⟨(.i .i64), [.v (.int .i64 vb3_0)]⟩)], []⟩)) := by kernel_rfl
theorem f25L0_eq {R : Type} (N : Nat) (n : Nat) (k' : Ex → St → Option R) (vs84 : List ByteArray) (vs85 : Int) (vb2_0 : Int) (vb2_1 : List ByteArray) (vb2_2 : List RuleT) (vb2_3 : List Bool) (vb2_4 : Int) (vb2_5 : Int) (vb3_0 : Int) : ∀ (m : Nat) (vs86 : Int), iter (fun st k => ev (f25e N) f25k n (cAt [1,1,1,1,1,1,0,1,0,0] f25c) st k) m ⟨[(2, .c (.one (.pt 2 0))), (3, .c (.one (.pt 3 0))), (84, .c (.one (.ro .str vs84))), (85, .c (.one (.v (.int .i64 vs85)))), (86, .c (.one (.v (.int .i64 vs86))))], [(2, ⟨.rule, [.v (.int .i64 vb2_0), .ro .str vb2_1, .ro .rule vb2_2, .ro .bool vb2_3, .v (.int .i64 vb2_4), .v (.int .i64 vb2_5)]⟩), (3, ⟨(.i .i64), [.v (.int .i64 vb3_0)]⟩)], []⟩ k' = f25L0 N n (k' .ret ⟨[(4, .c (.one (.v (.bool false))))], [], []⟩) (fun (xvs86 : Int) (xvs87 : Bool) => k' (.exit 1) ⟨[(2, .c (.one (.pt 2 0))), (3, .c (.one (.pt 3 0))), (84, .c (.one (.ro .str vs84))), (85, .c (.one (.v (.int .i64 vs85)))), (86, .c (.one (.v (.int .i64 xvs86)))), (87, .c (.one (.v (.bool xvs87))))], [(2, ⟨.rule, [.v (.int .i64 vb2_0), .ro .str vb2_1, .ro .rule vb2_2, .ro .bool vb2_3, .v (.int .i64 vb2_4), .v (.int .i64 vb2_5)]⟩), (3, ⟨(.i .i64), [.v (.int .i64 vb3_0)]⟩)], []⟩) vs84 vs85 vb2_0 vb2_1 vb2_2 vb2_3 vb2_4 vb2_5 vb3_0 m vs86 := by
  intro m; induction m with
  | zero => intros; rfl
  | succ m ih =>
    intro vs86
    simp only [iter]
    rw [f25L0_b]
    simp only [ih, f25L0]

noncomputable def f25K0 {R : Type} (N : Nat) (n : Nat) (k' : Ex → St → Option R) : Ex → St → Option R := (blockK 1 (seqK (f25e N) f25k n (cAt [1,1,1,1,1,1,1] f25c) k'))
theorem f25K0_x0 {R : Type} (N : Nat) (n : Nat) (k : List Dt → Option R) (a0 : RuleT) (a1 : Int)  : f25K0 N n (exitK (f25e N) [.ro, .ro] [false] true [.tmp 4] [4] [.d .rule a0, .d (.i .i64) a1] k) .ret ⟨[(4, .c (.one (.v (.bool false))))], [], []⟩ =
    (k [.d .bool false]) := by kernel_rfl
theorem f25K0_x1 {R : Type} (N : Nat) (n : Nat) (k : List Dt → Option R) (a0 : RuleT) (a1 : Int) (vs84 : List ByteArray) (vs85 : Int) (vb2_0 : Int) (vb2_1 : List ByteArray) (vb2_2 : List RuleT) (vb2_3 : List Bool) (vb2_4 : Int) (vb2_5 : Int) (vb3_0 : Int) (xvs86 : Int) (xvs87 : Bool) : f25K0 N n (exitK (f25e N) [.ro, .ro] [false] true [.tmp 4] [4] [.d .rule a0, .d (.i .i64) a1] k) (.exit 1) ⟨[(2, .c (.one (.pt 2 0))), (3, .c (.one (.pt 3 0))), (84, .c (.one (.ro .str vs84))), (85, .c (.one (.v (.int .i64 vs85)))), (86, .c (.one (.v (.int .i64 xvs86)))), (87, .c (.one (.v (.bool xvs87))))], [(2, ⟨.rule, [.v (.int .i64 vb2_0), .ro .str vb2_1, .ro .rule vb2_2, .ro .bool vb2_3, .v (.int .i64 vb2_4), .v (.int .i64 vb2_5)]⟩), (3, ⟨(.i .i64), [.v (.int .i64 vb3_0)]⟩)], []⟩ =
    (cond ((gRules vb2_2 vb3_0) && (Nat.blt (mr3 vb2_2 vb3_0) N))
    (k [.d .bool (!(ruleNotAny vb2_2 vb3_0))])
    none) := by kernel_rfl

theorem f25_run {R : Type} (N : Nat) (n : Nat) (k : List Dt → Option R) (a0 : RuleT) (a1 : Int) : evFn (f25e N) f25k n f25c [.ro, .ro] [false] true [.tmp 4] [4] [.d .rule a0, .d (.i .i64) a1] k =
    (cond ((RuleT.kind a0) == (2 : Int))
    (cond (a1 == (0 : Int))
      (k [.d .bool false])
      (cond (!(inR (RuleT.kind a0) (-1 : Int) (5 : Int)))
        (k [.d .bool false])
        (cond (decide ((RuleT.low a0) > (RuleT.high a0)))
          (k [.d .bool false])
          (cond ((RuleT.kind a0) == (5 : Int))
            (cond (((RuleT.kids a0).length : Int) != ((RuleT.keys a0).length : Int))
              (k [.d .bool false])
              (cond (((RuleT.keys a0).length : Int) != ((RuleT.keys a0).length : Int))
                (k [.d .bool false])
                (cond (((RuleT.need a0).length : Int) != ((RuleT.keys a0).length : Int))
                  (k [.d .bool false])
                  (f25L0 N n (k [.d .bool false]) (fun (xvs86 : Int) (xvs87 : Bool) =>
                    (cond ((gRules (RuleT.kids a0) a1) && (Nat.blt (mr3 (RuleT.kids a0) a1) N))
                      (k [.d .bool (!(ruleNotAny (RuleT.kids a0) a1))])
                      none)) (RuleT.keys a0) ((RuleT.keys a0).length : Int) (RuleT.kind a0) (RuleT.keys a0) (RuleT.kids a0) (RuleT.need a0) (RuleT.low a0) (RuleT.high a0) a1 n (0 : Int)))))
            (cond ((RuleT.kind a0) == (4 : Int))
              (cond (((RuleT.kids a0).length : Int) != (1 : Int))
                (k [.d .bool false])
                (cond (((RuleT.keys a0).length : Int) != (0 : Int))
                  (k [.d .bool false])
                  (cond (((RuleT.need a0).length : Int) != (0 : Int))
                    (k [.d .bool false])
                    (f25L0 N n (k [.d .bool false]) (fun (xvs86 : Int) (xvs87 : Bool) =>
                      (cond ((gRules (RuleT.kids a0) a1) && (Nat.blt (mr3 (RuleT.kids a0) a1) N))
                        (k [.d .bool (!(ruleNotAny (RuleT.kids a0) a1))])
                        none)) (RuleT.keys a0) ((RuleT.keys a0).length : Int) (RuleT.kind a0) (RuleT.keys a0) (RuleT.kids a0) (RuleT.need a0) (RuleT.low a0) (RuleT.high a0) a1 n (0 : Int)))))
              (cond (((RuleT.kids a0).length : Int) != (0 : Int))
                (k [.d .bool false])
                (cond (((RuleT.keys a0).length : Int) != (0 : Int))
                  (k [.d .bool false])
                  (cond (((RuleT.need a0).length : Int) != (0 : Int))
                    (k [.d .bool false])
                    (f25L0 N n (k [.d .bool false]) (fun (xvs86 : Int) (xvs87 : Bool) =>
                      (cond ((gRules (RuleT.kids a0) a1) && (Nat.blt (mr3 (RuleT.kids a0) a1) N))
                        (k [.d .bool (!(ruleNotAny (RuleT.kids a0) a1))])
                        none)) (RuleT.keys a0) ((RuleT.keys a0).length : Int) (RuleT.kind a0) (RuleT.keys a0) (RuleT.kids a0) (RuleT.need a0) (RuleT.low a0) (RuleT.high a0) a1 n (0 : Int))))))))))
    (cond ((RuleT.kind a0) == (3 : Int))
      (cond (a1 == (0 : Int))
        (k [.d .bool false])
        (cond (!(inR (RuleT.kind a0) (-1 : Int) (5 : Int)))
          (k [.d .bool false])
          (cond (decide ((RuleT.low a0) > (RuleT.high a0)))
            (k [.d .bool false])
            (cond ((RuleT.kind a0) == (5 : Int))
              (cond (((RuleT.kids a0).length : Int) != ((RuleT.keys a0).length : Int))
                (k [.d .bool false])
                (cond (((RuleT.keys a0).length : Int) != ((RuleT.keys a0).length : Int))
                  (k [.d .bool false])
                  (cond (((RuleT.need a0).length : Int) != ((RuleT.keys a0).length : Int))
                    (k [.d .bool false])
                    (f25L0 N n (k [.d .bool false]) (fun (xvs86 : Int) (xvs87 : Bool) =>
                      (cond ((gRules (RuleT.kids a0) a1) && (Nat.blt (mr3 (RuleT.kids a0) a1) N))
                        (k [.d .bool (!(ruleNotAny (RuleT.kids a0) a1))])
                        none)) (RuleT.keys a0) ((RuleT.keys a0).length : Int) (RuleT.kind a0) (RuleT.keys a0) (RuleT.kids a0) (RuleT.need a0) (RuleT.low a0) (RuleT.high a0) a1 n (0 : Int)))))
              (cond ((RuleT.kind a0) == (4 : Int))
                (cond (((RuleT.kids a0).length : Int) != (1 : Int))
                  (k [.d .bool false])
                  (cond (((RuleT.keys a0).length : Int) != (0 : Int))
                    (k [.d .bool false])
                    (cond (((RuleT.need a0).length : Int) != (0 : Int))
                      (k [.d .bool false])
                      (f25L0 N n (k [.d .bool false]) (fun (xvs86 : Int) (xvs87 : Bool) =>
                        (cond ((gRules (RuleT.kids a0) a1) && (Nat.blt (mr3 (RuleT.kids a0) a1) N))
                          (k [.d .bool (!(ruleNotAny (RuleT.kids a0) a1))])
                          none)) (RuleT.keys a0) ((RuleT.keys a0).length : Int) (RuleT.kind a0) (RuleT.keys a0) (RuleT.kids a0) (RuleT.need a0) (RuleT.low a0) (RuleT.high a0) a1 n (0 : Int)))))
                (cond (((RuleT.kids a0).length : Int) != (0 : Int))
                  (k [.d .bool false])
                  (cond (((RuleT.keys a0).length : Int) != (0 : Int))
                    (k [.d .bool false])
                    (cond (((RuleT.need a0).length : Int) != (0 : Int))
                      (k [.d .bool false])
                      (f25L0 N n (k [.d .bool false]) (fun (xvs86 : Int) (xvs87 : Bool) =>
                        (cond ((gRules (RuleT.kids a0) a1) && (Nat.blt (mr3 (RuleT.kids a0) a1) N))
                          (k [.d .bool (!(ruleNotAny (RuleT.kids a0) a1))])
                          none)) (RuleT.keys a0) ((RuleT.keys a0).length : Int) (RuleT.kind a0) (RuleT.keys a0) (RuleT.kids a0) (RuleT.need a0) (RuleT.low a0) (RuleT.high a0) a1 n (0 : Int))))))))))
      (cond (a1 == (0 : Int))
        (k [.d .bool false])
        (cond (!(inR (RuleT.kind a0) (-1 : Int) (5 : Int)))
          (k [.d .bool false])
          (cond (decide ((RuleT.low a0) > (RuleT.high a0)))
            (k [.d .bool false])
            (cond (!((RuleT.kind a0) == (4 : Int)))
              (cond ((RuleT.low a0) != (0 : Int))
                (k [.d .bool false])
                (cond ((RuleT.high a0) != (0 : Int))
                  (k [.d .bool false])
                  (cond ((RuleT.kind a0) == (5 : Int))
                    (cond (((RuleT.kids a0).length : Int) != ((RuleT.keys a0).length : Int))
                      (k [.d .bool false])
                      (cond (((RuleT.keys a0).length : Int) != ((RuleT.keys a0).length : Int))
                        (k [.d .bool false])
                        (cond (((RuleT.need a0).length : Int) != ((RuleT.keys a0).length : Int))
                          (k [.d .bool false])
                          (f25L0 N n (k [.d .bool false]) (fun (xvs86 : Int) (xvs87 : Bool) =>
                            (cond ((gRules (RuleT.kids a0) a1) && (Nat.blt (mr3 (RuleT.kids a0) a1) N))
                              (k [.d .bool (!(ruleNotAny (RuleT.kids a0) a1))])
                              none)) (RuleT.keys a0) ((RuleT.keys a0).length : Int) (RuleT.kind a0) (RuleT.keys a0) (RuleT.kids a0) (RuleT.need a0) (RuleT.low a0) (RuleT.high a0) a1 n (0 : Int)))))
                    (cond ((RuleT.kind a0) == (4 : Int))
                      (cond (((RuleT.kids a0).length : Int) != (1 : Int))
                        (k [.d .bool false])
                        (cond (((RuleT.keys a0).length : Int) != (0 : Int))
                          (k [.d .bool false])
                          (cond (((RuleT.need a0).length : Int) != (0 : Int))
                            (k [.d .bool false])
                            (f25L0 N n (k [.d .bool false]) (fun (xvs86 : Int) (xvs87 : Bool) =>
                              (cond ((gRules (RuleT.kids a0) a1) && (Nat.blt (mr3 (RuleT.kids a0) a1) N))
                                (k [.d .bool (!(ruleNotAny (RuleT.kids a0) a1))])
                                none)) (RuleT.keys a0) ((RuleT.keys a0).length : Int) (RuleT.kind a0) (RuleT.keys a0) (RuleT.kids a0) (RuleT.need a0) (RuleT.low a0) (RuleT.high a0) a1 n (0 : Int)))))
                      (cond (((RuleT.kids a0).length : Int) != (0 : Int))
                        (k [.d .bool false])
                        (cond (((RuleT.keys a0).length : Int) != (0 : Int))
                          (k [.d .bool false])
                          (cond (((RuleT.need a0).length : Int) != (0 : Int))
                            (k [.d .bool false])
                            (f25L0 N n (k [.d .bool false]) (fun (xvs86 : Int) (xvs87 : Bool) =>
                              (cond ((gRules (RuleT.kids a0) a1) && (Nat.blt (mr3 (RuleT.kids a0) a1) N))
                                (k [.d .bool (!(ruleNotAny (RuleT.kids a0) a1))])
                                none)) (RuleT.keys a0) ((RuleT.keys a0).length : Int) (RuleT.kind a0) (RuleT.keys a0) (RuleT.kids a0) (RuleT.need a0) (RuleT.low a0) (RuleT.high a0) a1 n (0 : Int)))))))))
              (cond ((RuleT.kind a0) == (5 : Int))
                (cond (((RuleT.kids a0).length : Int) != ((RuleT.keys a0).length : Int))
                  (k [.d .bool false])
                  (cond (((RuleT.keys a0).length : Int) != ((RuleT.keys a0).length : Int))
                    (k [.d .bool false])
                    (cond (((RuleT.need a0).length : Int) != ((RuleT.keys a0).length : Int))
                      (k [.d .bool false])
                      (f25L0 N n (k [.d .bool false]) (fun (xvs86 : Int) (xvs87 : Bool) =>
                        (cond ((gRules (RuleT.kids a0) a1) && (Nat.blt (mr3 (RuleT.kids a0) a1) N))
                          (k [.d .bool (!(ruleNotAny (RuleT.kids a0) a1))])
                          none)) (RuleT.keys a0) ((RuleT.keys a0).length : Int) (RuleT.kind a0) (RuleT.keys a0) (RuleT.kids a0) (RuleT.need a0) (RuleT.low a0) (RuleT.high a0) a1 n (0 : Int)))))
                (cond ((RuleT.kind a0) == (4 : Int))
                  (cond (((RuleT.kids a0).length : Int) != (1 : Int))
                    (k [.d .bool false])
                    (cond (((RuleT.keys a0).length : Int) != (0 : Int))
                      (k [.d .bool false])
                      (cond (((RuleT.need a0).length : Int) != (0 : Int))
                        (k [.d .bool false])
                        (f25L0 N n (k [.d .bool false]) (fun (xvs86 : Int) (xvs87 : Bool) =>
                          (cond ((gRules (RuleT.kids a0) a1) && (Nat.blt (mr3 (RuleT.kids a0) a1) N))
                            (k [.d .bool (!(ruleNotAny (RuleT.kids a0) a1))])
                            none)) (RuleT.keys a0) ((RuleT.keys a0).length : Int) (RuleT.kind a0) (RuleT.keys a0) (RuleT.kids a0) (RuleT.need a0) (RuleT.low a0) (RuleT.high a0) a1 n (0 : Int)))))
                  (cond (((RuleT.kids a0).length : Int) != (0 : Int))
                    (k [.d .bool false])
                    (cond (((RuleT.keys a0).length : Int) != (0 : Int))
                      (k [.d .bool false])
                      (cond (((RuleT.need a0).length : Int) != (0 : Int))
                        (k [.d .bool false])
                        (f25L0 N n (k [.d .bool false]) (fun (xvs86 : Int) (xvs87 : Bool) =>
                          (cond ((gRules (RuleT.kids a0) a1) && (Nat.blt (mr3 (RuleT.kids a0) a1) N))
                            (k [.d .bool (!(ruleNotAny (RuleT.kids a0) a1))])
                            none)) (RuleT.keys a0) ((RuleT.keys a0).length : Int) (RuleT.kind a0) (RuleT.keys a0) (RuleT.kids a0) (RuleT.need a0) (RuleT.low a0) (RuleT.high a0) a1 n (0 : Int))))))))))))) := by
  refine Eq.trans (b := (cond ((RuleT.kind a0) == (2 : Int))
    (cond (a1 == (0 : Int))
      (k [.d .bool false])
      (cond (!(inR (RuleT.kind a0) (-1 : Int) (5 : Int)))
        (k [.d .bool false])
        (cond (decide ((RuleT.low a0) > (RuleT.high a0)))
          (k [.d .bool false])
          (cond ((RuleT.kind a0) == (5 : Int))
            (cond (((RuleT.kids a0).length : Int) != ((RuleT.keys a0).length : Int))
              (k [.d .bool false])
              (cond (((RuleT.keys a0).length : Int) != ((RuleT.keys a0).length : Int))
                (k [.d .bool false])
                (cond (((RuleT.need a0).length : Int) != ((RuleT.keys a0).length : Int))
                  (k [.d .bool false])
                  (iter (fun st k => ev (f25e N) f25k n (cAt [1,1,1,1,1,1,0,1,0,0] f25c) st k) n ⟨[(2, .c (.one (.pt 2 0))), (3, .c (.one (.pt 3 0))), (84, .c (.one (.ro .str (RuleT.keys a0)))), (85, .c (.one (.v (.int .i64 ((RuleT.keys a0).length : Int))))), (86, .c (.one (.v (.int .i64 (0 : Int)))))], [(2, ⟨.rule, [.v (.int .i64 (RuleT.kind a0)), .ro .str (RuleT.keys a0), .ro .rule (RuleT.kids a0), .ro .bool (RuleT.need a0), .v (.int .i64 (RuleT.low a0)), .v (.int .i64 (RuleT.high a0))]⟩), (3, ⟨(.i .i64), [.v (.int .i64 a1)]⟩)], []⟩ (f25K0 N n (exitK (f25e N) [.ro, .ro] [false] true [.tmp 4] [4] [.d .rule a0, .d (.i .i64) a1] k))))))
            (cond ((RuleT.kind a0) == (4 : Int))
              (cond (((RuleT.kids a0).length : Int) != (1 : Int))
                (k [.d .bool false])
                (cond (((RuleT.keys a0).length : Int) != (0 : Int))
                  (k [.d .bool false])
                  (cond (((RuleT.need a0).length : Int) != (0 : Int))
                    (k [.d .bool false])
                    (iter (fun st k => ev (f25e N) f25k n (cAt [1,1,1,1,1,1,0,1,0,0] f25c) st k) n ⟨[(2, .c (.one (.pt 2 0))), (3, .c (.one (.pt 3 0))), (84, .c (.one (.ro .str (RuleT.keys a0)))), (85, .c (.one (.v (.int .i64 ((RuleT.keys a0).length : Int))))), (86, .c (.one (.v (.int .i64 (0 : Int)))))], [(2, ⟨.rule, [.v (.int .i64 (RuleT.kind a0)), .ro .str (RuleT.keys a0), .ro .rule (RuleT.kids a0), .ro .bool (RuleT.need a0), .v (.int .i64 (RuleT.low a0)), .v (.int .i64 (RuleT.high a0))]⟩), (3, ⟨(.i .i64), [.v (.int .i64 a1)]⟩)], []⟩ (f25K0 N n (exitK (f25e N) [.ro, .ro] [false] true [.tmp 4] [4] [.d .rule a0, .d (.i .i64) a1] k))))))
              (cond (((RuleT.kids a0).length : Int) != (0 : Int))
                (k [.d .bool false])
                (cond (((RuleT.keys a0).length : Int) != (0 : Int))
                  (k [.d .bool false])
                  (cond (((RuleT.need a0).length : Int) != (0 : Int))
                    (k [.d .bool false])
                    (iter (fun st k => ev (f25e N) f25k n (cAt [1,1,1,1,1,1,0,1,0,0] f25c) st k) n ⟨[(2, .c (.one (.pt 2 0))), (3, .c (.one (.pt 3 0))), (84, .c (.one (.ro .str (RuleT.keys a0)))), (85, .c (.one (.v (.int .i64 ((RuleT.keys a0).length : Int))))), (86, .c (.one (.v (.int .i64 (0 : Int)))))], [(2, ⟨.rule, [.v (.int .i64 (RuleT.kind a0)), .ro .str (RuleT.keys a0), .ro .rule (RuleT.kids a0), .ro .bool (RuleT.need a0), .v (.int .i64 (RuleT.low a0)), .v (.int .i64 (RuleT.high a0))]⟩), (3, ⟨(.i .i64), [.v (.int .i64 a1)]⟩)], []⟩ (f25K0 N n (exitK (f25e N) [.ro, .ro] [false] true [.tmp 4] [4] [.d .rule a0, .d (.i .i64) a1] k)))))))))))
    (cond ((RuleT.kind a0) == (3 : Int))
      (cond (a1 == (0 : Int))
        (k [.d .bool false])
        (cond (!(inR (RuleT.kind a0) (-1 : Int) (5 : Int)))
          (k [.d .bool false])
          (cond (decide ((RuleT.low a0) > (RuleT.high a0)))
            (k [.d .bool false])
            (cond ((RuleT.kind a0) == (5 : Int))
              (cond (((RuleT.kids a0).length : Int) != ((RuleT.keys a0).length : Int))
                (k [.d .bool false])
                (cond (((RuleT.keys a0).length : Int) != ((RuleT.keys a0).length : Int))
                  (k [.d .bool false])
                  (cond (((RuleT.need a0).length : Int) != ((RuleT.keys a0).length : Int))
                    (k [.d .bool false])
                    (iter (fun st k => ev (f25e N) f25k n (cAt [1,1,1,1,1,1,0,1,0,0] f25c) st k) n ⟨[(2, .c (.one (.pt 2 0))), (3, .c (.one (.pt 3 0))), (84, .c (.one (.ro .str (RuleT.keys a0)))), (85, .c (.one (.v (.int .i64 ((RuleT.keys a0).length : Int))))), (86, .c (.one (.v (.int .i64 (0 : Int)))))], [(2, ⟨.rule, [.v (.int .i64 (RuleT.kind a0)), .ro .str (RuleT.keys a0), .ro .rule (RuleT.kids a0), .ro .bool (RuleT.need a0), .v (.int .i64 (RuleT.low a0)), .v (.int .i64 (RuleT.high a0))]⟩), (3, ⟨(.i .i64), [.v (.int .i64 a1)]⟩)], []⟩ (f25K0 N n (exitK (f25e N) [.ro, .ro] [false] true [.tmp 4] [4] [.d .rule a0, .d (.i .i64) a1] k))))))
              (cond ((RuleT.kind a0) == (4 : Int))
                (cond (((RuleT.kids a0).length : Int) != (1 : Int))
                  (k [.d .bool false])
                  (cond (((RuleT.keys a0).length : Int) != (0 : Int))
                    (k [.d .bool false])
                    (cond (((RuleT.need a0).length : Int) != (0 : Int))
                      (k [.d .bool false])
                      (iter (fun st k => ev (f25e N) f25k n (cAt [1,1,1,1,1,1,0,1,0,0] f25c) st k) n ⟨[(2, .c (.one (.pt 2 0))), (3, .c (.one (.pt 3 0))), (84, .c (.one (.ro .str (RuleT.keys a0)))), (85, .c (.one (.v (.int .i64 ((RuleT.keys a0).length : Int))))), (86, .c (.one (.v (.int .i64 (0 : Int)))))], [(2, ⟨.rule, [.v (.int .i64 (RuleT.kind a0)), .ro .str (RuleT.keys a0), .ro .rule (RuleT.kids a0), .ro .bool (RuleT.need a0), .v (.int .i64 (RuleT.low a0)), .v (.int .i64 (RuleT.high a0))]⟩), (3, ⟨(.i .i64), [.v (.int .i64 a1)]⟩)], []⟩ (f25K0 N n (exitK (f25e N) [.ro, .ro] [false] true [.tmp 4] [4] [.d .rule a0, .d (.i .i64) a1] k))))))
                (cond (((RuleT.kids a0).length : Int) != (0 : Int))
                  (k [.d .bool false])
                  (cond (((RuleT.keys a0).length : Int) != (0 : Int))
                    (k [.d .bool false])
                    (cond (((RuleT.need a0).length : Int) != (0 : Int))
                      (k [.d .bool false])
                      (iter (fun st k => ev (f25e N) f25k n (cAt [1,1,1,1,1,1,0,1,0,0] f25c) st k) n ⟨[(2, .c (.one (.pt 2 0))), (3, .c (.one (.pt 3 0))), (84, .c (.one (.ro .str (RuleT.keys a0)))), (85, .c (.one (.v (.int .i64 ((RuleT.keys a0).length : Int))))), (86, .c (.one (.v (.int .i64 (0 : Int)))))], [(2, ⟨.rule, [.v (.int .i64 (RuleT.kind a0)), .ro .str (RuleT.keys a0), .ro .rule (RuleT.kids a0), .ro .bool (RuleT.need a0), .v (.int .i64 (RuleT.low a0)), .v (.int .i64 (RuleT.high a0))]⟩), (3, ⟨(.i .i64), [.v (.int .i64 a1)]⟩)], []⟩ (f25K0 N n (exitK (f25e N) [.ro, .ro] [false] true [.tmp 4] [4] [.d .rule a0, .d (.i .i64) a1] k)))))))))))
      (cond (a1 == (0 : Int))
        (k [.d .bool false])
        (cond (!(inR (RuleT.kind a0) (-1 : Int) (5 : Int)))
          (k [.d .bool false])
          (cond (decide ((RuleT.low a0) > (RuleT.high a0)))
            (k [.d .bool false])
            (cond (!((RuleT.kind a0) == (4 : Int)))
              (cond ((RuleT.low a0) != (0 : Int))
                (k [.d .bool false])
                (cond ((RuleT.high a0) != (0 : Int))
                  (k [.d .bool false])
                  (cond ((RuleT.kind a0) == (5 : Int))
                    (cond (((RuleT.kids a0).length : Int) != ((RuleT.keys a0).length : Int))
                      (k [.d .bool false])
                      (cond (((RuleT.keys a0).length : Int) != ((RuleT.keys a0).length : Int))
                        (k [.d .bool false])
                        (cond (((RuleT.need a0).length : Int) != ((RuleT.keys a0).length : Int))
                          (k [.d .bool false])
                          (iter (fun st k => ev (f25e N) f25k n (cAt [1,1,1,1,1,1,0,1,0,0] f25c) st k) n ⟨[(2, .c (.one (.pt 2 0))), (3, .c (.one (.pt 3 0))), (84, .c (.one (.ro .str (RuleT.keys a0)))), (85, .c (.one (.v (.int .i64 ((RuleT.keys a0).length : Int))))), (86, .c (.one (.v (.int .i64 (0 : Int)))))], [(2, ⟨.rule, [.v (.int .i64 (RuleT.kind a0)), .ro .str (RuleT.keys a0), .ro .rule (RuleT.kids a0), .ro .bool (RuleT.need a0), .v (.int .i64 (RuleT.low a0)), .v (.int .i64 (RuleT.high a0))]⟩), (3, ⟨(.i .i64), [.v (.int .i64 a1)]⟩)], []⟩ (f25K0 N n (exitK (f25e N) [.ro, .ro] [false] true [.tmp 4] [4] [.d .rule a0, .d (.i .i64) a1] k))))))
                    (cond ((RuleT.kind a0) == (4 : Int))
                      (cond (((RuleT.kids a0).length : Int) != (1 : Int))
                        (k [.d .bool false])
                        (cond (((RuleT.keys a0).length : Int) != (0 : Int))
                          (k [.d .bool false])
                          (cond (((RuleT.need a0).length : Int) != (0 : Int))
                            (k [.d .bool false])
                            (iter (fun st k => ev (f25e N) f25k n (cAt [1,1,1,1,1,1,0,1,0,0] f25c) st k) n ⟨[(2, .c (.one (.pt 2 0))), (3, .c (.one (.pt 3 0))), (84, .c (.one (.ro .str (RuleT.keys a0)))), (85, .c (.one (.v (.int .i64 ((RuleT.keys a0).length : Int))))), (86, .c (.one (.v (.int .i64 (0 : Int)))))], [(2, ⟨.rule, [.v (.int .i64 (RuleT.kind a0)), .ro .str (RuleT.keys a0), .ro .rule (RuleT.kids a0), .ro .bool (RuleT.need a0), .v (.int .i64 (RuleT.low a0)), .v (.int .i64 (RuleT.high a0))]⟩), (3, ⟨(.i .i64), [.v (.int .i64 a1)]⟩)], []⟩ (f25K0 N n (exitK (f25e N) [.ro, .ro] [false] true [.tmp 4] [4] [.d .rule a0, .d (.i .i64) a1] k))))))
                      (cond (((RuleT.kids a0).length : Int) != (0 : Int))
                        (k [.d .bool false])
                        (cond (((RuleT.keys a0).length : Int) != (0 : Int))
                          (k [.d .bool false])
                          (cond (((RuleT.need a0).length : Int) != (0 : Int))
                            (k [.d .bool false])
                            (iter (fun st k => ev (f25e N) f25k n (cAt [1,1,1,1,1,1,0,1,0,0] f25c) st k) n ⟨[(2, .c (.one (.pt 2 0))), (3, .c (.one (.pt 3 0))), (84, .c (.one (.ro .str (RuleT.keys a0)))), (85, .c (.one (.v (.int .i64 ((RuleT.keys a0).length : Int))))), (86, .c (.one (.v (.int .i64 (0 : Int)))))], [(2, ⟨.rule, [.v (.int .i64 (RuleT.kind a0)), .ro .str (RuleT.keys a0), .ro .rule (RuleT.kids a0), .ro .bool (RuleT.need a0), .v (.int .i64 (RuleT.low a0)), .v (.int .i64 (RuleT.high a0))]⟩), (3, ⟨(.i .i64), [.v (.int .i64 a1)]⟩)], []⟩ (f25K0 N n (exitK (f25e N) [.ro, .ro] [false] true [.tmp 4] [4] [.d .rule a0, .d (.i .i64) a1] k))))))))))
              (cond ((RuleT.kind a0) == (5 : Int))
                (cond (((RuleT.kids a0).length : Int) != ((RuleT.keys a0).length : Int))
                  (k [.d .bool false])
                  (cond (((RuleT.keys a0).length : Int) != ((RuleT.keys a0).length : Int))
                    (k [.d .bool false])
                    (cond (((RuleT.need a0).length : Int) != ((RuleT.keys a0).length : Int))
                      (k [.d .bool false])
                      (iter (fun st k => ev (f25e N) f25k n (cAt [1,1,1,1,1,1,0,1,0,0] f25c) st k) n ⟨[(2, .c (.one (.pt 2 0))), (3, .c (.one (.pt 3 0))), (84, .c (.one (.ro .str (RuleT.keys a0)))), (85, .c (.one (.v (.int .i64 ((RuleT.keys a0).length : Int))))), (86, .c (.one (.v (.int .i64 (0 : Int)))))], [(2, ⟨.rule, [.v (.int .i64 (RuleT.kind a0)), .ro .str (RuleT.keys a0), .ro .rule (RuleT.kids a0), .ro .bool (RuleT.need a0), .v (.int .i64 (RuleT.low a0)), .v (.int .i64 (RuleT.high a0))]⟩), (3, ⟨(.i .i64), [.v (.int .i64 a1)]⟩)], []⟩ (f25K0 N n (exitK (f25e N) [.ro, .ro] [false] true [.tmp 4] [4] [.d .rule a0, .d (.i .i64) a1] k))))))
                (cond ((RuleT.kind a0) == (4 : Int))
                  (cond (((RuleT.kids a0).length : Int) != (1 : Int))
                    (k [.d .bool false])
                    (cond (((RuleT.keys a0).length : Int) != (0 : Int))
                      (k [.d .bool false])
                      (cond (((RuleT.need a0).length : Int) != (0 : Int))
                        (k [.d .bool false])
                        (iter (fun st k => ev (f25e N) f25k n (cAt [1,1,1,1,1,1,0,1,0,0] f25c) st k) n ⟨[(2, .c (.one (.pt 2 0))), (3, .c (.one (.pt 3 0))), (84, .c (.one (.ro .str (RuleT.keys a0)))), (85, .c (.one (.v (.int .i64 ((RuleT.keys a0).length : Int))))), (86, .c (.one (.v (.int .i64 (0 : Int)))))], [(2, ⟨.rule, [.v (.int .i64 (RuleT.kind a0)), .ro .str (RuleT.keys a0), .ro .rule (RuleT.kids a0), .ro .bool (RuleT.need a0), .v (.int .i64 (RuleT.low a0)), .v (.int .i64 (RuleT.high a0))]⟩), (3, ⟨(.i .i64), [.v (.int .i64 a1)]⟩)], []⟩ (f25K0 N n (exitK (f25e N) [.ro, .ro] [false] true [.tmp 4] [4] [.d .rule a0, .d (.i .i64) a1] k))))))
                  (cond (((RuleT.kids a0).length : Int) != (0 : Int))
                    (k [.d .bool false])
                    (cond (((RuleT.keys a0).length : Int) != (0 : Int))
                      (k [.d .bool false])
                      (cond (((RuleT.need a0).length : Int) != (0 : Int))
                        (k [.d .bool false])
                        (iter (fun st k => ev (f25e N) f25k n (cAt [1,1,1,1,1,1,0,1,0,0] f25c) st k) n ⟨[(2, .c (.one (.pt 2 0))), (3, .c (.one (.pt 3 0))), (84, .c (.one (.ro .str (RuleT.keys a0)))), (85, .c (.one (.v (.int .i64 ((RuleT.keys a0).length : Int))))), (86, .c (.one (.v (.int .i64 (0 : Int)))))], [(2, ⟨.rule, [.v (.int .i64 (RuleT.kind a0)), .ro .str (RuleT.keys a0), .ro .rule (RuleT.kids a0), .ro .bool (RuleT.need a0), .v (.int .i64 (RuleT.low a0)), .v (.int .i64 (RuleT.high a0))]⟩), (3, ⟨(.i .i64), [.v (.int .i64 a1)]⟩)], []⟩ (f25K0 N n (exitK (f25e N) [.ro, .ro] [false] true [.tmp 4] [4] [.d .rule a0, .d (.i .i64) a1] k))))))))))))))) (by kernel_rfl) ?_
  simp only [f25L0_eq, f25K0_x0, f25K0_x1]
theorem f25_spec (N : Nat) (a0 : RuleT) (a1 : Int) (hg : gRule a0 a1 = true) (hm : mu25 [.d .rule a0, .d (.i .i64) a1] = N) : ∃ keep rounds, ∀ {R : Type} (k : List Dt → Option R), evFn (f25e N) keep rounds f25c [.ro, .ro] [false] true [.tmp 4] [4] [.d .rule a0, .d (.i .i64) a1] k = k [.d .bool (ruleRight a0 a1)] := by
  have hm : mr0 a0 a1 = N := hm
  subst hm
  simp only [gRule, sm_rule_def, Bool.and_eq_true, decide_eq_true_eq] at hg
  obtain ⟨⟨_, hke, hki, _, _, _⟩, hd0, hd1⟩ := hg
  have gk : gNames a0.keys = true := okL_sms hke
  have lk := smL_len hke
  have li := smL_len hki
  have hs : a0.keys.all okStr = true := by have := okL_sms hke; simp only [okL, Bool.and_eq_true] at this; exact this.2
  refine ⟨f25k, a0.keys.length + 1, fun {R} k => ?_⟩
  rw [f25_run]
  show _ = k [.d .bool (ruleRight a0 a1)]
  rw [ruleRight_def]
  by_cases hd : a1 = 0
  · subst hd
    unfold ruleHead
    simp only [beq_self_eq_true, cond_true]
    cases inR a0.kind (-1) 5 <;> cases decide (a0.low > a0.high) <;> cases a0.kind == (2 : Int) <;> cases a0.kind == (3 : Int) <;> rfl
  have hd1 : (a1 == (0 : Int)) = false := beq_eq_false_iff_ne.2 hd
  have hd2 : decide (a1 ≤ 0) = false := decide_eq_false (by omega)
  have hb : Nat.blt (mr3 a0.kids a1) (mr0 a0 a1) = true := by rw [Nat.blt_eq]; simp only [mr3, mr0, nd_rule_def]; omega
  have hgr : gRules a0.kids a1 = true := by unfold gRules; rw [hki, decide_eq_true (show 1 ≤ a1 by omega), decide_eq_true (show a1 ≤ 100 by omega)]; rfl
  have hL : f25L0 (mr0 a0 a1) (a0.keys.length + 1) (k [.d .bool false]) (fun (_ : Int) (_ : Bool) => cond (gRules a0.kids a1 && Nat.blt (mr3 a0.kids a1) (mr0 a0 a1)) (k [.d .bool (!(ruleNotAny a0.kids a1))]) none) a0.keys (a0.keys.length : Int) a0.kind a0.keys a0.kids a0.need a0.low a0.high a1 (a0.keys.length + 1) (0 : Int)
      = k [.d .bool (keysOk a0.keys && (a0.kids.all fun x => ruleRight x (a1 - 1)))] := by
    refine Eq.trans (loop_idx (n := a0.keys.length) (F := fun m i => f25L0 (mr0 a0 a1) (a0.keys.length + 1) _ _ a0.keys (a0.keys.length : Int) a0.kind a0.keys a0.kids a0.need a0.low a0.high a1 m i) (p := keyC a0.keys) (good := k [.d .bool (!(ruleNotAny a0.kids a1))]) (bad := k [.d .bool false])
      (fun m j hj => ?_) (fun m => by simp only [f25L0, idxE, cond_false, hgr, hb, Bool.and_self, cond_true]) a0.keys.length 0 (a0.keys.length + 1) (by omega) (by omega)) ?_
    · obtain ⟨h1, h0, hw, ht⟩ := idx hj (by omega)
      simp only [f25L0, h1, h0, hw, ht, okStr_at hs hj, Bool.and_self, cond_true]
      unfold keyC
      cases textOk (atI (t := .str) a0.keys j)
      · rfl
      · by_cases hz : (j : Int) > 0
        · obtain ⟨h2, h3, _, h5⟩ := idx (show j - 1 < a0.keys.length by omega) (by omega)
          simp only [hz, decide_true, cond_true, idxM hj (by omega) (by omega), h2, h3, h5, Bool.and_self]
          cases sLt (atI (t := .str) a0.keys (j - 1)) (atI (t := .str) a0.keys j) <;> rfl
        · simp only [hz, decide_false, cond_false]; rfl
    · rw [ruleNotAny_eq]
      unfold keysOk
      cases allN (keyC a0.keys) 0 a0.keys.length <;> rfl
  simp only [hd1, hL, cond_false]
  unfold ruleHead ruleShape
  rw [hd2]
  cases inR a0.kind (-1) 5
  · cases a0.kind == (2 : Int) <;> cases a0.kind == (3 : Int) <;> rfl
  cases decide (a0.low > a0.high)
  rotate_left
  · cases a0.kind == (2 : Int) <;> cases a0.kind == (3 : Int) <;> rfl
  generalize (a0.kids.all fun x => ruleRight x (a1 - 1)) = kk
  have e1 : ((a0.kids.length : Int) == (a0.keys.length : Int)) = ((a0.keys.length : Int) == (a0.kids.length : Int)) := beq_comm' _ _
  simp only [bne, beq_self_eq_true, e1, Bool.not_true, Bool.not_false, cond_true, cond_false, Bool.true_and]
  cases h2 : (a0.kind == (2 : Int)) <;> cases h3 : (a0.kind == (3 : Int)) <;> cases h4 : (a0.kind == (4 : Int)) <;> cases h5 : (a0.kind == (5 : Int)) <;>
    first
      | (exfalso; simp only [beq_iff_eq] at h2 h3 h4 h5; omega)
      | skip
  all_goals simp only [cond_true, cond_false, Bool.not_true, Bool.not_false, Bool.true_or, Bool.or_true, Bool.false_or, Bool.true_and, Bool.false_and, Bool.and_true, Bool.and_false, bitI]
  all_goals
    first
      | (cases hkk : ((a0.keys.length : Int) == (a0.kids.length : Int))
         · (cases a0.low == (0 : Int) <;> cases a0.high == (0 : Int) <;> cases kk <;> rfl)
         · have e2 : (a0.keys.length : Int) = (a0.kids.length : Int) := beq_iff_eq.1 hkk
           rw [← e2]
           cases a0.low == (0 : Int) <;> cases a0.high == (0 : Int) <;> cases ((a0.need.length : Int) == (a0.keys.length : Int)) <;> cases keysOk a0.keys <;> cases kk <;> rfl)
      | (cases hk0 : ((a0.keys.length : Int) == (0 : Int))
         · (cases a0.low == (0 : Int) <;> cases a0.high == (0 : Int) <;> cases ((a0.kids.length : Int) == (1 : Int)) <;> cases ((a0.kids.length : Int) == (0 : Int)) <;> cases kk <;> rfl)
         · rw [keysOk_nil (beq_iff_eq.1 hk0)]
           cases a0.low == (0 : Int) <;> cases a0.high == (0 : Int) <;> cases ((a0.kids.length : Int) == (1 : Int)) <;> cases ((a0.kids.length : Int) == (0 : Int)) <;> cases ((a0.need.length : Int) == (0 : Int)) <;> cases kk <;> rfl)


/-! ### loop.example/g00465/impl.ruleOk$1 -/
noncomputable def f48c : Code := (Try.f48.body).getD .skip
def f48k : Nat → Kp := kat [⟨[1, 2], [], [], []⟩, ⟨[3], [], [], []⟩]
noncomputable def f48e (N : Nat) : Env := tab.env [(25, s25r N)]
theorem f48_run {R : Type} (N : Nat) (n : Nat) (k : List Dt → Option R) (a0 : RuleT) (a1 : Int) : evFn (f48e N) f48k n f48c [.ro, .pro] [false] true [.tmp 3] [4] [.d .rule a0, .d (.i .i64) a1] k =
    (cond ((gRule (⟨(RuleT.kind a0), (RuleT.keys a0), (RuleT.kids a0), (RuleT.need a0), (RuleT.low a0), (RuleT.high a0)⟩ : RuleT) (IntKind.wrap .i64 (a1 - (1 : Int)))) && (Nat.blt (mr0 (⟨(RuleT.kind a0), (RuleT.keys a0), (RuleT.kids a0), (RuleT.need a0), (RuleT.low a0), (RuleT.high a0)⟩ : RuleT) (IntKind.wrap .i64 (a1 - (1 : Int)))) N))
    (k [.d .bool (!(ruleRight (⟨(RuleT.kind a0), (RuleT.keys a0), (RuleT.kids a0), (RuleT.need a0), (RuleT.low a0), (RuleT.high a0)⟩ : RuleT) (IntKind.wrap .i64 (a1 - (1 : Int)))))])
    none) := by kernel_rfl
theorem f48_spec (N : Nat) (a0 : RuleT) (a1 : Int) (hg : gRule1 a0 a1 = true) (hm : mu48 [.d .rule a0, .d (.i .i64) a1] = N) : ∃ keep rounds, ∀ {R : Type} (k : List Dt → Option R), evFn (f48e N) keep rounds f48c [.ro, .pro] [false] true [.tmp 3] [4] [.d .rule a0, .d (.i .i64) a1] k = k [.d .bool (ruleNot a0 a1)] := by
  have hm : mr1 a0 a1 = N := hm
  subst hm
  simp only [gRule1, Bool.and_eq_true, decide_eq_true_eq] at hg
  obtain ⟨hs, hd0, hd1⟩ := hg
  have hb : Nat.blt (mr0 a0 (a1 - 1)) (mr1 a0 a1) = true := by rw [Nat.blt_eq]; simp only [mr0, mr1]; omega
  have hg2 : gRule a0 (a1 - 1) = true := by
    unfold gRule; rw [hs, decide_eq_true (show 0 ≤ a1 - 1 by omega), decide_eq_true (show a1 - 1 ≤ 100 by omega)]; rfl
  refine ⟨f48k, 0, fun {R} k => ?_⟩
  rw [f48_run]
  simp only [eta_rule, wrap_id (x := a1 - 1) (by omega) (by omega), hg2, hb, Bool.and_self, cond_true]
  rfl


/-! ### slices.ContainsFunc[[]loop.example/g00465/impl.Rule,loop.example/g00465/impl.Rule] -/
noncomputable def f47c : Code := (Try.f47.body).getD .skip
def f47k : Nat → Kp := kat [⟨[0, 1], [], [], []⟩, ⟨[4], [], [], []⟩]
noncomputable def f47e (N : Nat) : Env := tab.env [(48, s48r N), (56, s56r N)]
theorem f47_run {R : Type} (N : Nat) (n : Nat) (k : List Dt → Option R) (a0 : List RuleT) (a1 : Int) : evFn (f47e N) f47k n f47c [.ro, .fn] [false] true [.tmp 4] [4] [.d (.sl .rule) a0, .clo 48 [⟨(.i .i64), a1⟩]] k =
    (cond ((gRules a0 a1) && (Nat.blt (mr2 a0 a1) N))
    (k [.d .bool (decide ((ruleNotAt a0 a1) ≥ (0 : Int)))])
    none) := by kernel_rfl
theorem f47_spec (N : Nat) (a0 : List RuleT) (a1 : Int) (hg : gRules a0 a1 = true) (hm : mu47 [.d (.sl .rule) a0, .clo 48 [⟨(.i .i64), a1⟩]] = N) : ∃ keep rounds, ∀ {R : Type} (k : List Dt → Option R), evFn (f47e N) keep rounds f47c [.ro, .fn] [false] true [.tmp 4] [4] [.d (.sl .rule) a0, .clo 48 [⟨(.i .i64), a1⟩]] k = k [.d .bool (ruleNotAny a0 a1)] := by
  have hm : mr3 a0 a1 = N := hm
  subst hm
  have hb : Nat.blt (mr2 a0 a1) (mr3 a0 a1) = true := by rw [Nat.blt_eq]; simp only [mr2, mr3]; omega
  refine ⟨f47k, 0, fun {R} k => ?_⟩
  rw [f47_run]
  simp only [hg, hb, Bool.and_self, cond_true]
  unfold ruleNotAt
  rw [findI_ge]; rfl


/-! ### slices.IndexFunc[[]loop.example/g00465/impl.Rule,loop.example/g00465/impl.Rule] -/
noncomputable def f56c : Code := (Try.f56.body).getD .skip
def f56k : Nat → Kp := kat [⟨[0, 1], [], [], []⟩, ⟨[0, 1, 7, 8], [], [], []⟩, ⟨[0, 1, 7, 8, 9], [], [], []⟩, ⟨[0, 1, 5, 7, 8], [], [], []⟩, ⟨[0, 1, 5, 7, 8, 16], [], [], []⟩, ⟨[4], [], [], []⟩, ⟨[0, 1, 7, 8], [], [], []⟩, ⟨[4], [], [], []⟩]
noncomputable def f56e (N : Nat) : Env := tab.env [(48, s48r N)]
noncomputable def f56L0 {R : Type} (N : Nat) (n : Nat) (x0 : Int → Option R) (x1 : Int → Bool → Option R) (vs0 : List RuleT) (vs1c0 : Int) (vs7 : Int) : Nat → Int → Option R
  | 0, _ => none
  | m + 1, vs8 =>
    (cond (decide (vs8 < vs7))
      (cond ((decide ((0 : Int) ≤ vs8)) && (decide (vs8 < (vs0.length : Int))))
        (cond ((gRule1 (⟨(RuleT.kind (atI (t := .rule) vs0 (Int.toNat vs8))), (RuleT.keys (atI (t := .rule) vs0 (Int.toNat vs8))), (RuleT.kids (atI (t := .rule) vs0 (Int.toNat vs8))), (RuleT.need (atI (t := .rule) vs0 (Int.toNat vs8))), (RuleT.low (atI (t := .rule) vs0 (Int.toNat vs8))), (RuleT.high (atI (t := .rule) vs0 (Int.toNat vs8)))⟩ : RuleT) vs1c0) && (Nat.blt (mr1 (⟨(RuleT.kind (atI (t := .rule) vs0 (Int.toNat vs8))), (RuleT.keys (atI (t := .rule) vs0 (Int.toNat vs8))), (RuleT.kids (atI (t := .rule) vs0 (Int.toNat vs8))), (RuleT.need (atI (t := .rule) vs0 (Int.toNat vs8))), (RuleT.low (atI (t := .rule) vs0 (Int.toNat vs8))), (RuleT.high (atI (t := .rule) vs0 (Int.toNat vs8)))⟩ : RuleT) vs1c0) N))
          (cond (ruleNot (⟨(RuleT.kind (atI (t := .rule) vs0 (Int.toNat vs8))), (RuleT.keys (atI (t := .rule) vs0 (Int.toNat vs8))), (RuleT.kids (atI (t := .rule) vs0 (Int.toNat vs8))), (RuleT.need (atI (t := .rule) vs0 (Int.toNat vs8))), (RuleT.low (atI (t := .rule) vs0 (Int.toNat vs8))), (RuleT.high (atI (t := .rule) vs0 (Int.toNat vs8)))⟩ : RuleT) vs1c0)
            (x0 vs8)
            (f56L0 N n x0 x1 vs0 vs1c0 vs7 m (IntKind.wrap .i64 (vs8 + (1 : Int)))))
          none)
        none)
      (x1 vs8 (decide (vs8 < vs7))))
theorem f56L0_b {R : Type} (N : Nat) (n : Nat) (k' : Ex → St → Option R) (vs0 : List RuleT) (vs1c0 : Int) (vs7 : Int) (vs8 : Int) : ev (f56e N) f56k n (cAt [1,0,1,0,0] f56c) ⟨[(0, .c (.one (.ro .rule vs0))), (1, .c (.one (.cloR 48 [⟨(.i .i64), vs1c0⟩]))), (7, .c (.one (.v (.int .i64 vs7)))), (8, .c (.one (.v (.int .i64 vs8))))], [], []⟩ k' =
    (cond (decide (vs8 < vs7))
    (cond ((decide ((0 : Int) ≤ vs8)) && (decide (vs8 < (vs0.length : Int))))
      (cond ((gRule1 (⟨(RuleT.kind (atI (t := .rule) vs0 (Int.toNat vs8))), (RuleT.keys (atI (t := .rule) vs0 (Int.toNat vs8))), (RuleT.kids (atI (t := .rule) vs0 (Int.toNat vs8))), (RuleT.need (atI (t := .rule) vs0 (Int.toNat vs8))), (RuleT.low (atI (t := .rule) vs0 (Int.toNat vs8))), (RuleT.high (atI (t := .rule) vs0 (Int.toNat vs8)))⟩ : RuleT) vs1c0) && (Nat.blt (mr1 (⟨(RuleT.kind (atI (t := .rule) vs0 (Int.toNat vs8))), (RuleT.keys (atI (t := .rule) vs0 (Int.toNat vs8))), (RuleT.kids (atI (t := .rule) vs0 (Int.toNat vs8))), (RuleT.need (atI (t := .rule) vs0 (Int.toNat vs8))), (RuleT.low (atI (t := .rule) vs0 (Int.toNat vs8))), (RuleT.high (atI (t := .rule) vs0 (Int.toNat vs8)))⟩ : RuleT) vs1c0) N))
        (cond (ruleNot (⟨(RuleT.kind (atI (t := .rule) vs0 (Int.toNat vs8))), (RuleT.keys (atI (t := .rule) vs0 (Int.toNat vs8))), (RuleT.kids (atI (t := .rule) vs0 (Int.toNat vs8))), (RuleT.need (atI (t := .rule) vs0 (Int.toNat vs8))), (RuleT.low (atI (t := .rule) vs0 (Int.toNat vs8))), (RuleT.high (atI (t := .rule) vs0 (Int.toNat vs8)))⟩ : RuleT) vs1c0)
          (k' .ret ⟨[(4, .c (.one (.v (.int .i64 vs8))))], [], []⟩)
          (k' .normal ⟨[(0, .c (.one (.ro .rule vs0))), (1, .c (.one (.cloR 48 [⟨(.i .i64), vs1c0⟩]))), (7, .c (.one (.v (.int .i64 vs7)))), (8, .c (.one (.v (.int .i64 (IntKind.wrap .i64 (vs8 + (1 : Int)))))))], [], []⟩))
        none)
      none)
    (k' (.exit 0) ⟨[(0, .c (.one (.ro .rule vs0))), (1, .c (.one (.cloR 48 [⟨(.i .i64), vs1c0⟩]))), (7, .c (.one (.v (.int .i64 vs7)))), (8, .c (.one (.v (.int .i64 vs8)))), (9, .c (.one (.v (.bool (decide (vs8 < vs7))))))], [], []⟩)) := by kernel_rfl
theorem f56L0_eq {R : Type} (N : Nat) (n : Nat) (k' : Ex → St → Option R) (vs0 : List RuleT) (vs1c0 : Int) (vs7 : Int) : ∀ (m : Nat) (vs8 : Int), iter (fun st k => ev (f56e N) f56k n (cAt [1,0,1,0,0] f56c) st k) m ⟨[(0, .c (.one (.ro .rule vs0))), (1, .c (.one (.cloR 48 [⟨(.i .i64), vs1c0⟩]))), (7, .c (.one (.v (.int .i64 vs7)))), (8, .c (.one (.v (.int .i64 vs8))))], [], []⟩ k' = f56L0 N n (fun (xvs4 : Int) => k' .ret ⟨[(4, .c (.one (.v (.int .i64 xvs4))))], [], []⟩) (fun (xvs8 : Int) (xvs9 : Bool) => k' (.exit 0) ⟨[(0, .c (.one (.ro .rule vs0))), (1, .c (.one (.cloR 48 [⟨(.i .i64), vs1c0⟩]))), (7, .c (.one (.v (.int .i64 vs7)))), (8, .c (.one (.v (.int .i64 xvs8)))), (9, .c (.one (.v (.bool xvs9))))], [], []⟩) vs0 vs1c0 vs7 m vs8 := by
  intro m; induction m with
  | zero => intros; rfl
  | succ m ih =>
    intro vs8
    simp only [iter]
    rw [f56L0_b]
    simp only [ih, f56L0]

noncomputable def f56K0 {R : Type} (N : Nat) (n : Nat) (k' : Ex → St → Option R) : Ex → St → Option R := (blockK 0 (seqK (f56e N) f56k n (cAt [1,1] f56c) k'))
theorem f56K0_x0 {R : Type} (N : Nat) (n : Nat) (k : List Dt → Option R) (a0 : List RuleT) (a1 : Int) (xvs4 : Int) : f56K0 N n (exitK (f56e N) [.ro, .fn] [false] true [.tmp 4] [3] [.d (.sl .rule) a0, .clo 48 [⟨(.i .i64), a1⟩]] k) .ret ⟨[(4, .c (.one (.v (.int .i64 xvs4))))], [], []⟩ =
    (k [.d (.i .i64) xvs4]) := by kernel_rfl
theorem f56K0_x1 {R : Type} (N : Nat) (n : Nat) (k : List Dt → Option R) (a0 : List RuleT) (a1 : Int) (vs0 : List RuleT) (vs1c0 : Int) (vs7 : Int) (xvs8 : Int) (xvs9 : Bool) : f56K0 N n (exitK (f56e N) [.ro, .fn] [false] true [.tmp 4] [3] [.d (.sl .rule) a0, .clo 48 [⟨(.i .i64), a1⟩]] k) (.exit 0) ⟨[(0, .c (.one (.ro .rule vs0))), (1, .c (.one (.cloR 48 [⟨(.i .i64), vs1c0⟩]))), (7, .c (.one (.v (.int .i64 vs7)))), (8, .c (.one (.v (.int .i64 xvs8)))), (9, .c (.one (.v (.bool xvs9))))], [], []⟩ =
    (k [.d (.i .i64) (-1 : Int)]) := by kernel_rfl

theorem f56_run {R : Type} (N : Nat) (n : Nat) (k : List Dt → Option R) (a0 : List RuleT) (a1 : Int) : evFn (f56e N) f56k n f56c [.ro, .fn] [false] true [.tmp 4] [3] [.d (.sl .rule) a0, .clo 48 [⟨(.i .i64), a1⟩]] k =
    (f56L0 N n (fun (xvs4 : Int) =>
    (k [.d (.i .i64) xvs4])) (fun (xvs8 : Int) (xvs9 : Bool) =>
    (k [.d (.i .i64) (-1 : Int)])) a0 a1 (a0.length : Int) n (0 : Int)) := by
  refine Eq.trans (b := (iter (fun st k => ev (f56e N) f56k n (cAt [1,0,1,0,0] f56c) st k) n ⟨[(0, .c (.one (.ro .rule a0))), (1, .c (.one (.cloR 48 [⟨(.i .i64), a1⟩]))), (7, .c (.one (.v (.int .i64 (a0.length : Int))))), (8, .c (.one (.v (.int .i64 (0 : Int)))))], [], []⟩ (f56K0 N n (exitK (f56e N) [.ro, .fn] [false] true [.tmp 4] [3] [.d (.sl .rule) a0, .clo 48 [⟨(.i .i64), a1⟩]] k)))) (by kernel_rfl) ?_
  simp only [f56L0_eq, f56K0_x0, f56K0_x1]
theorem f56_spec (N : Nat) (a0 : List RuleT) (a1 : Int) (hg : gRules a0 a1 = true) (hm : mu56 [.d (.sl .rule) a0, .clo 48 [⟨(.i .i64), a1⟩]] = N) : ∃ keep rounds, ∀ {R : Type} (k : List Dt → Option R), evFn (f56e N) keep rounds f56c [.ro, .fn] [false] true [.tmp 4] [3] [.d (.sl .rule) a0, .clo 48 [⟨(.i .i64), a1⟩]] k = k [.d (.i .i64) (ruleNotAt a0 a1)] := by
  have hm : mr2 a0 a1 = N := hm
  subst hm
  simp only [gRules, Bool.and_eq_true, decide_eq_true_eq] at hg
  obtain ⟨hs, hd0, hd1⟩ := hg
  have hl := smL_len hs
  refine ⟨f56k, a0.length + 1, fun k => ?_⟩
  rw [f56_run]
  refine Eq.trans (loop_find (n := a0.length) (F := fun m i => f56L0 (mr2 a0 a1) (a0.length + 1) _ _ a0 a1 (a0.length : Int) m i) (p := fun j => ruleNot (atI (t := .rule) a0 j) a1) (hit := fun i => k [.d (.i .i64) i]) (miss := k [.d (.i .i64) (-1 : Int)])
    (fun m j hj => ?_) (fun m => by simp only [f56L0, idxE, cond_false]) a0.length 0 (a0.length + 1) (by omega) (by omega)) ?_
  · obtain ⟨h1, h0, hw, ht⟩ := idx hj (by omega)
    have hg2 : gRule1 (atI (t := .rule) a0 j) a1 = true := by unfold gRule1; rw [smL_at (t := .rule) hs hj, decide_eq_true hd0, decide_eq_true hd1]; rfl
    have hb : Nat.blt (mr1 (atI (t := .rule) a0 j) a1) (mr2 a0 a1) = true := by
      obtain ⟨x, hx, _⟩ := drop_get hj
      have := ndL_mem (f := nd_rule) (List.mem_of_getElem? hx)
      rw [atI_of (t := .rule) hx, Nat.blt_eq]; simp only [mr1, mr2]; omega
    simp only [f56L0, h1, h0, hw, ht, Bool.and_self, cond_true, eta_rule, hg2, hb]
  · show _ = k [.d (.i .i64) (plc _)]
    cases firstN (fun j => ruleNot (atI (t := .rule) a0 j) a1) 0 a0.length <;> rfl


theorem goods25 : ∀ x ∈ ([⟨25, [.ro, .ro], [false], true, mu25, q25⟩, ⟨48, [.ro, .pro], [false], true, mu48, q48⟩, ⟨47, [.ro, .fn], [false], true, mu47, q47⟩, ⟨56, [.ro, .fn], [false], true, mu56, q56⟩] : List Rc), Gm.SpecOk Try.prog x.f (Gm.Spec.of x.ms x.rs x.ow x.q) := by
  refine spec_recs _ fun N hr => ?_
  have hr1 : Gm.SpecOk Try.prog 25 (Gm.Spec.of [.ro, .ro] [false] true (qlt mu25 N q25)) := fun {R} => hr _ (.head _)
  have hr2 : Gm.SpecOk Try.prog 48 (Gm.Spec.of [.ro, .pro] [false] true (qlt mu48 N q48)) := fun {R} => hr _ (.tail _ (.head _))
  have hr3 : Gm.SpecOk Try.prog 47 (Gm.Spec.of [.ro, .fn] [false] true (qlt mu47 N q47)) := fun {R} => hr _ (.tail _ (.tail _ (.head _)))
  have hr4 : Gm.SpecOk Try.prog 56 (Gm.Spec.of [.ro, .fn] [false] true (qlt mu56 N q56)) := fun {R} => hr _ (.tail _ (.tail _ (.tail _ (.head _))))
  refine List.forall_mem_cons.2 ⟨?_, List.forall_mem_cons.2 ⟨?_, List.forall_mem_cons.2 ⟨?_, List.forall_mem_cons.2 ⟨?_, List.forall_mem_nil _⟩⟩⟩⟩
  · have hl : ∀ x ∈ ([(45, s45), (46, s46), (47, s47r N), (48, s48r N)] : List (Nat × Gm.Spec)), Gm.Good Try.prog x := List.forall_mem_cons.2 ⟨good45, List.forall_mem_cons.2 ⟨good46, List.forall_mem_cons.2 ⟨⟨⟨hr3, _, Try.func47, by kernel_rfl, of_decide_eq_true (by kernel_rfl)⟩, Gm.Spec.of_natl _ _ _ _⟩, List.forall_mem_cons.2 ⟨⟨⟨hr2, _, Try.func48, by kernel_rfl, of_decide_eq_true (by kernel_rfl)⟩, Gm.Spec.of_natl _ _ _ _⟩, List.forall_mem_nil _⟩⟩⟩⟩
    show Gm.SpecOk Try.prog 25 (Gm.Spec.of [.ro, .ro] [false] true (qeq mu25 N q25))
    intro R
    refine spec_ok (E := f25e N) (tab_ok.env hl) (tab.natl hl) Try.func25 (by kernel_rfl : Try.f25.body = some f25c) [4] (by kernel_rfl) ?_
    intro ds outs h
    obtain ⟨h, hm⟩ := qeq_some h
    unfold q25 at h
    split at h
    · simp only [Option.some.injEq, Prod.mk.injEq] at h; obtain ⟨hg, h⟩ := h; cases h; exact f25_spec N _ _ hg hm
    · cases h
  · have hl : ∀ x ∈ ([(25, s25r N)] : List (Nat × Gm.Spec)), Gm.Good Try.prog x := List.forall_mem_cons.2 ⟨⟨⟨hr1, _, Try.func25, by kernel_rfl, of_decide_eq_true (by kernel_rfl)⟩, Gm.Spec.of_natl _ _ _ _⟩, List.forall_mem_nil _⟩
    show Gm.SpecOk Try.prog 48 (Gm.Spec.of [.ro, .pro] [false] true (qeq mu48 N q48))
    intro R
    refine spec_ok (E := f48e N) (tab_ok.env hl) (tab.natl hl) Try.func48 (by kernel_rfl : Try.f48.body = some f48c) [4] (by kernel_rfl) ?_
    intro ds outs h
    obtain ⟨h, hm⟩ := qeq_some h
    unfold q48 at h
    split at h
    · simp only [Option.some.injEq, Prod.mk.injEq] at h; obtain ⟨hg, h⟩ := h; cases h; exact f48_spec N _ _ hg hm
    · cases h
  · have hl : ∀ x ∈ ([(48, s48r N), (56, s56r N)] : List (Nat × Gm.Spec)), Gm.Good Try.prog x := List.forall_mem_cons.2 ⟨⟨⟨hr2, _, Try.func48, by kernel_rfl, of_decide_eq_true (by kernel_rfl)⟩, Gm.Spec.of_natl _ _ _ _⟩, List.forall_mem_cons.2 ⟨⟨⟨hr4, _, Try.func56, by kernel_rfl, of_decide_eq_true (by kernel_rfl)⟩, Gm.Spec.of_natl _ _ _ _⟩, List.forall_mem_nil _⟩⟩
    show Gm.SpecOk Try.prog 47 (Gm.Spec.of [.ro, .fn] [false] true (qeq mu47 N q47))
    intro R
    refine spec_ok (E := f47e N) (tab_ok.env hl) (tab.natl hl) Try.func47 (by kernel_rfl : Try.f47.body = some f47c) [4] (by kernel_rfl) ?_
    intro ds outs h
    obtain ⟨h, hm⟩ := qeq_some h
    unfold q47 at h
    split at h
    · simp only [Option.some.injEq, Prod.mk.injEq] at h; obtain ⟨hg, h⟩ := h; cases h; exact f47_spec N _ _ hg hm
    · cases h
  · have hl : ∀ x ∈ ([(48, s48r N)] : List (Nat × Gm.Spec)), Gm.Good Try.prog x := List.forall_mem_cons.2 ⟨⟨⟨hr2, _, Try.func48, by kernel_rfl, of_decide_eq_true (by kernel_rfl)⟩, Gm.Spec.of_natl _ _ _ _⟩, List.forall_mem_nil _⟩
    show Gm.SpecOk Try.prog 56 (Gm.Spec.of [.ro, .fn] [false] true (qeq mu56 N q56))
    intro R
    refine spec_ok (E := f56e N) (tab_ok.env hl) (tab.natl hl) Try.func56 (by kernel_rfl : Try.f56.body = some f56c) [3] (by kernel_rfl) ?_
    intro ds outs h
    obtain ⟨h, hm⟩ := qeq_some h
    unfold q56 at h
    split at h
    · simp only [Option.some.injEq, Prod.mk.injEq] at h; obtain ⟨hg, h⟩ := h; cases h; exact f56_spec N _ _ hg hm
    · cases h
theorem good25 : Gm.Good Try.prog (25, s25) := ⟨⟨fun {R} => goods25 _ (.head _), _, Try.func25, by kernel_rfl, of_decide_eq_true (by kernel_rfl)⟩, Gm.Spec.of_natl _ _ _ _⟩
/-! ### loop.example/g00465/spec.RuleOk -/
noncomputable def f6c : Code := (Try.f6.body).getD .skip
def f6k : Nat → Kp := kat [⟨[1], [], [], []⟩, ⟨[2], [], [], []⟩]
noncomputable def f6e : Env := tab.env [(21, s21)]
theorem f6_run {R : Type} (n : Nat) (k : List Dt → Option R) (a0 : RuleT) : evFn f6e f6k n f6c [.ro] [false] true [.tmp 2] [4] [.d .rule a0] k =
    (cond (gRule (⟨(RuleT.kind a0), (RuleT.keys a0), (RuleT.kids a0), (RuleT.need a0), (RuleT.low a0), (RuleT.high a0)⟩ : RuleT) (8 : Int))
    (k [.d .bool (ruleRight (⟨(RuleT.kind a0), (RuleT.keys a0), (RuleT.kids a0), (RuleT.need a0), (RuleT.low a0), (RuleT.high a0)⟩ : RuleT) (8 : Int))])
    none) := by kernel_rfl
theorem f6_spec (a0 : RuleT) (hg : sm_rule a0 = true) : ∃ keep rounds, ∀ {R : Type} (k : List Dt → Option R), evFn f6e keep rounds f6c [.ro] [false] true [.tmp 2] [4] [.d .rule a0] k = k [.d .bool (ruleOk a0)] := by
  have hg2 : gRule a0 8 = true := by unfold gRule; rw [hg]; rfl
  refine ⟨f6k, 0, fun {R} k => ?_⟩
  rw [f6_run]
  simp only [eta_rule, hg2, cond_true]
  rfl

noncomputable def q6 : List Dt → Option (Bool × List Dt)
  | [.d .rule a0] => some ((sm_rule a0), [.d .bool (ruleOk a0)])
  | _ => none
noncomputable def s6 : Gm.Spec := Gm.Spec.of [.ro] [false] true q6
theorem good6 : Gm.Good Try.prog (6, s6) := by
  have hl : ∀ x ∈ [(21, s21)], Gm.Good Try.prog x := List.forall_mem_cons.2 ⟨good21, List.forall_mem_nil _⟩
  refine ⟨⟨spec_ok (tab_ok.env hl) (tab.natl hl) Try.func6 (by kernel_rfl : Try.f6.body = some f6c) [4] (by kernel_rfl) ?_, _, Try.func6, by kernel_rfl, of_decide_eq_true (by kernel_rfl)⟩, Gm.Spec.of_natl _ _ _ _⟩
  intro ds outs h
  unfold q6 at h
  split at h
  · simp only [Option.some.injEq, Prod.mk.injEq] at h; obtain ⟨hg, h⟩ := h; cases h; exact f6_spec _ hg
  · cases h
/-! ### loop.example/g00465/impl.RuleOk -/
noncomputable def f8c : Code := (Try.f8.body).getD .skip
def f8k : Nat → Kp := kat [⟨[1], [], [], []⟩, ⟨[2], [], [], []⟩]
noncomputable def f8e : Env := tab.env [(25, s25)]
theorem f8_run {R : Type} (n : Nat) (k : List Dt → Option R) (a0 : RuleT) : evFn f8e f8k n f8c [.ro] [false] true [.tmp 2] [4] [.d .rule a0] k =
    (cond (gRule (⟨(RuleT.kind a0), (RuleT.keys a0), (RuleT.kids a0), (RuleT.need a0), (RuleT.low a0), (RuleT.high a0)⟩ : RuleT) (8 : Int))
    (k [.d .bool (ruleRight (⟨(RuleT.kind a0), (RuleT.keys a0), (RuleT.kids a0), (RuleT.need a0), (RuleT.low a0), (RuleT.high a0)⟩ : RuleT) (8 : Int))])
    none) := by kernel_rfl
theorem f8_spec (a0 : RuleT) (hg : sm_rule a0 = true) : ∃ keep rounds, ∀ {R : Type} (k : List Dt → Option R), evFn f8e keep rounds f8c [.ro] [false] true [.tmp 2] [4] [.d .rule a0] k = k [.d .bool (ruleOk a0)] := by
  have hg2 : gRule a0 8 = true := by unfold gRule; rw [hg]; rfl
  refine ⟨f8k, 0, fun {R} k => ?_⟩
  rw [f8_run]
  simp only [eta_rule, hg2, cond_true]
  rfl

noncomputable def q8 : List Dt → Option (Bool × List Dt)
  | [.d .rule a0] => some ((sm_rule a0), [.d .bool (ruleOk a0)])
  | _ => none
noncomputable def s8 : Gm.Spec := Gm.Spec.of [.ro] [false] true q8
theorem good8 : Gm.Good Try.prog (8, s8) := by
  have hl : ∀ x ∈ [(25, s25)], Gm.Good Try.prog x := List.forall_mem_cons.2 ⟨good25, List.forall_mem_nil _⟩
  refine ⟨⟨spec_ok (tab_ok.env hl) (tab.natl hl) Try.func8 (by kernel_rfl : Try.f8.body = some f8c) [4] (by kernel_rfl) ?_, _, Try.func8, by kernel_rfl, of_decide_eq_true (by kernel_rfl)⟩, Gm.Spec.of_natl _ _ _ _⟩
  intro ds outs h
  unfold q8 at h
  split at h
  · simp only [Option.some.injEq, Prod.mk.injEq] at h; obtain ⟨hg, h⟩ := h; cases h; exact f8_spec _ hg
  · cases h
end Go.Proofs.Ytglijihijmkpaaa

/- x -/
namespace Go.Proofs.Ytglijihijmkpaaa
open Go Go.Gm
/-! ### loop.example/g00465/spec.Prune -/
noncomputable def f11c : Code := (Try.f11.body).getD .skip
def f11k : Nat → Kp := kat [⟨[2, 3, 4], [], [], []⟩, ⟨[2, 3, 4, 7], [], [], []⟩, ⟨[4], [], [], []⟩, ⟨[4], [], [], []⟩]
noncomputable def f11e : Env := tab.env [(6, s6), (30, s30), (31, s31)]
theorem f11_run {R : Type} (n : Nat) (k : List Dt → Option R) (a0 : NodeT) (a1 : RuleT) : evFn f11e f11k n f11c [.ro, .ro] [false] true [.cell 4 41] [41] [.d .node a0, .d .rule a1] k =
    (cond (sm_rule (⟨(RuleT.kind a1), (RuleT.keys a1), (RuleT.kids a1), (RuleT.need a1), (RuleT.low a1), (RuleT.high a1)⟩ : RuleT))
    (cond (!(ruleOk (⟨(RuleT.kind a1), (RuleT.keys a1), (RuleT.kids a1), (RuleT.need a1), (RuleT.low a1), (RuleT.high a1)⟩ : RuleT)))
      (cond (sm_node (⟨(NodeT.kind a0), (NodeT.n a0), (NodeT.s a0), (NodeT.keys a0), (NodeT.kids a0)⟩ : NodeT))
        (k [.d .node (⟨(NodeT.kind (⟨(NodeT.kind a0), (NodeT.n a0), (NodeT.s a0), (NodeT.keys a0), (NodeT.kids a0)⟩ : NodeT)), (NodeT.n (⟨(NodeT.kind a0), (NodeT.n a0), (NodeT.s a0), (NodeT.keys a0), (NodeT.kids a0)⟩ : NodeT)), (NodeT.s (⟨(NodeT.kind a0), (NodeT.n a0), (NodeT.s a0), (NodeT.keys a0), (NodeT.kids a0)⟩ : NodeT)), (NodeT.keys (⟨(NodeT.kind a0), (NodeT.n a0), (NodeT.s a0), (NodeT.keys a0), (NodeT.kids a0)⟩ : NodeT)), (NodeT.kids (⟨(NodeT.kind a0), (NodeT.n a0), (NodeT.s a0), (NodeT.keys a0), (NodeT.kids a0)⟩ : NodeT))⟩ : NodeT)])
        none)
      (cond (gPr (⟨(NodeT.kind a0), (NodeT.n a0), (NodeT.s a0), (NodeT.keys a0), (NodeT.kids a0)⟩ : NodeT) (⟨(RuleT.kind a1), (RuleT.keys a1), (RuleT.kids a1), (RuleT.need a1), (RuleT.low a1), (RuleT.high a1)⟩ : RuleT))
        (k [.d .node (⟨(NodeT.kind (prune (⟨(NodeT.kind a0), (NodeT.n a0), (NodeT.s a0), (NodeT.keys a0), (NodeT.kids a0)⟩ : NodeT) (⟨(RuleT.kind a1), (RuleT.keys a1), (RuleT.kids a1), (RuleT.need a1), (RuleT.low a1), (RuleT.high a1)⟩ : RuleT))), (NodeT.n (prune (⟨(NodeT.kind a0), (NodeT.n a0), (NodeT.s a0), (NodeT.keys a0), (NodeT.kids a0)⟩ : NodeT) (⟨(RuleT.kind a1), (RuleT.keys a1), (RuleT.kids a1), (RuleT.need a1), (RuleT.low a1), (RuleT.high a1)⟩ : RuleT))), (NodeT.s (prune (⟨(NodeT.kind a0), (NodeT.n a0), (NodeT.s a0), (NodeT.keys a0), (NodeT.kids a0)⟩ : NodeT) (⟨(RuleT.kind a1), (RuleT.keys a1), (RuleT.kids a1), (RuleT.need a1), (RuleT.low a1), (RuleT.high a1)⟩ : RuleT))), (NodeT.keys (prune (⟨(NodeT.kind a0), (NodeT.n a0), (NodeT.s a0), (NodeT.keys a0), (NodeT.kids a0)⟩ : NodeT) (⟨(RuleT.kind a1), (RuleT.keys a1), (RuleT.kids a1), (RuleT.need a1), (RuleT.low a1), (RuleT.high a1)⟩ : RuleT))), (NodeT.kids (prune (⟨(NodeT.kind a0), (NodeT.n a0), (NodeT.s a0), (NodeT.keys a0), (NodeT.kids a0)⟩ : NodeT) (⟨(RuleT.kind a1), (RuleT.keys a1), (RuleT.kids a1), (RuleT.need a1), (RuleT.low a1), (RuleT.high a1)⟩ : RuleT)))⟩ : NodeT)])
        none))
    none) := by kernel_rfl
theorem f11_spec (a0 : NodeT) (a1 : RuleT) (hg : (sm_node a0 && sm_rule a1) = true) : ∃ keep rounds, ∀ {R : Type} (k : List Dt → Option R), evFn f11e keep rounds f11c [.ro, .ro] [false] true [.cell 4 41] [41] [.d .node a0, .d .rule a1] k = k [.d .node (pruneR a0 a1)] := by
  simp only [Bool.and_eq_true] at hg
  obtain ⟨hg, hr⟩ := hg
  refine ⟨f11k, 0, fun {R} k => ?_⟩
  rw [f11_run]
  simp only [eta_node, eta_rule, hg, hr, cond_true]
  show _ = k [.d .node (pruneR a0 a1)]
  unfold pruneR
  cases ho : ruleOk a1
  · rfl
  · have hp : gPr a0 a1 = true := by
      simp only [gPr, Bool.and_eq_true]
      exact ⟨hg, hr, ruleRight_fit a1 8 ho⟩
    rw [hp]; rfl

noncomputable def q11 : List Dt → Option (Bool × List Dt)
  | [.d .node a0, .d .rule a1] => some (((fun (x : NodeT) (y : RuleT) => sm_node x && sm_rule y) a0 a1), [.d .node (pruneR a0 a1)])
  | _ => none
noncomputable def s11 : Gm.Spec := Gm.Spec.of [.ro, .ro] [false] true q11
theorem good11 : Gm.Good Try.prog (11, s11) := by
  have hl : ∀ x ∈ [(6, s6), (30, s30), (31, s31)], Gm.Good Try.prog x := List.forall_mem_cons.2 ⟨good6, List.forall_mem_cons.2 ⟨good30, List.forall_mem_cons.2 ⟨good31, List.forall_mem_nil _⟩⟩⟩
  refine ⟨⟨spec_ok (tab_ok.env hl) (tab.natl hl) Try.func11 (by kernel_rfl : Try.f11.body = some f11c) [41] (by kernel_rfl) ?_, _, Try.func11, by kernel_rfl, of_decide_eq_true (by kernel_rfl)⟩, Gm.Spec.of_natl _ _ _ _⟩
  intro ds outs h
  unfold q11 at h
  split at h
  · simp only [Option.some.injEq, Prod.mk.injEq] at h; obtain ⟨hg, h⟩ := h; cases h; exact f11_spec _ _ hg
  · cases h
/-! ### loop.example/g00465/impl.Prune -/
noncomputable def f13c : Code := (Try.f13.body).getD .skip
def f13k : Nat → Kp := kat [⟨[2, 3, 4], [], [], []⟩, ⟨[2, 3, 4, 7], [], [], []⟩, ⟨[4], [], [], []⟩, ⟨[4], [], [], []⟩]
noncomputable def f13e : Env := tab.env [(8, s8), (33, s33), (34, s34)]
theorem f13_run {R : Type} (n : Nat) (k : List Dt → Option R) (a0 : NodeT) (a1 : RuleT) : evFn f13e f13k n f13c [.ro, .ro] [false] true [.cell 4 41] [41] [.d .node a0, .d .rule a1] k =
    (cond (sm_rule (⟨(RuleT.kind a1), (RuleT.keys a1), (RuleT.kids a1), (RuleT.need a1), (RuleT.low a1), (RuleT.high a1)⟩ : RuleT))
    (cond (!(ruleOk (⟨(RuleT.kind a1), (RuleT.keys a1), (RuleT.kids a1), (RuleT.need a1), (RuleT.low a1), (RuleT.high a1)⟩ : RuleT)))
      (cond (sm_node (⟨(NodeT.kind a0), (NodeT.n a0), (NodeT.s a0), (NodeT.keys a0), (NodeT.kids a0)⟩ : NodeT))
        (k [.d .node (⟨(NodeT.kind (⟨(NodeT.kind a0), (NodeT.n a0), (NodeT.s a0), (NodeT.keys a0), (NodeT.kids a0)⟩ : NodeT)), (NodeT.n (⟨(NodeT.kind a0), (NodeT.n a0), (NodeT.s a0), (NodeT.keys a0), (NodeT.kids a0)⟩ : NodeT)), (NodeT.s (⟨(NodeT.kind a0), (NodeT.n a0), (NodeT.s a0), (NodeT.keys a0), (NodeT.kids a0)⟩ : NodeT)), (NodeT.keys (⟨(NodeT.kind a0), (NodeT.n a0), (NodeT.s a0), (NodeT.keys a0), (NodeT.kids a0)⟩ : NodeT)), (NodeT.kids (⟨(NodeT.kind a0), (NodeT.n a0), (NodeT.s a0), (NodeT.keys a0), (NodeT.kids a0)⟩ : NodeT))⟩ : NodeT)])
        none)
      (cond (gPr (⟨(NodeT.kind a0), (NodeT.n a0), (NodeT.s a0), (NodeT.keys a0), (NodeT.kids a0)⟩ : NodeT) (⟨(RuleT.kind a1), (RuleT.keys a1), (RuleT.kids a1), (RuleT.need a1), (RuleT.low a1), (RuleT.high a1)⟩ : RuleT))
        (k [.d .node (⟨(NodeT.kind (prune (⟨(NodeT.kind a0), (NodeT.n a0), (NodeT.s a0), (NodeT.keys a0), (NodeT.kids a0)⟩ : NodeT) (⟨(RuleT.kind a1), (RuleT.keys a1), (RuleT.kids a1), (RuleT.need a1), (RuleT.low a1), (RuleT.high a1)⟩ : RuleT))), (NodeT.n (prune (⟨(NodeT.kind a0), (NodeT.n a0), (NodeT.s a0), (NodeT.keys a0), (NodeT.kids a0)⟩ : NodeT) (⟨(RuleT.kind a1), (RuleT.keys a1), (RuleT.kids a1), (RuleT.need a1), (RuleT.low a1), (RuleT.high a1)⟩ : RuleT))), (NodeT.s (prune (⟨(NodeT.kind a0), (NodeT.n a0), (NodeT.s a0), (NodeT.keys a0), (NodeT.kids a0)⟩ : NodeT) (⟨(RuleT.kind a1), (RuleT.keys a1), (RuleT.kids a1), (RuleT.need a1), (RuleT.low a1), (RuleT.high a1)⟩ : RuleT))), (NodeT.keys (prune (⟨(NodeT.kind a0), (NodeT.n a0), (NodeT.s a0), (NodeT.keys a0), (NodeT.kids a0)⟩ : NodeT) (⟨(RuleT.kind a1), (RuleT.keys a1), (RuleT.kids a1), (RuleT.need a1), (RuleT.low a1), (RuleT.high a1)⟩ : RuleT))), (NodeT.kids (prune (⟨(NodeT.kind a0), (NodeT.n a0), (NodeT.s a0), (NodeT.keys a0), (NodeT.kids a0)⟩ : NodeT) (⟨(RuleT.kind a1), (RuleT.keys a1), (RuleT.kids a1), (RuleT.need a1), (RuleT.low a1), (RuleT.high a1)⟩ : RuleT)))⟩ : NodeT)])
        none))
    none) := by kernel_rfl
theorem f13_spec (a0 : NodeT) (a1 : RuleT) (hg : (sm_node a0 && sm_rule a1) = true) : ∃ keep rounds, ∀ {R : Type} (k : List Dt → Option R), evFn f13e keep rounds f13c [.ro, .ro] [false] true [.cell 4 41] [41] [.d .node a0, .d .rule a1] k = k [.d .node (pruneR a0 a1)] := by
  simp only [Bool.and_eq_true] at hg
  obtain ⟨hg, hr⟩ := hg
  refine ⟨f13k, 0, fun {R} k => ?_⟩
  rw [f13_run]
  simp only [eta_node, eta_rule, hg, hr, cond_true]
  show _ = k [.d .node (pruneR a0 a1)]
  unfold pruneR
  cases ho : ruleOk a1
  · rfl
  · have hp : gPr a0 a1 = true := by
      simp only [gPr, Bool.and_eq_true]
      exact ⟨hg, hr, ruleRight_fit a1 8 ho⟩
    rw [hp]; rfl

noncomputable def q13 : List Dt → Option (Bool × List Dt)
  | [.d .node a0, .d .rule a1] => some (((fun (x : NodeT) (y : RuleT) => sm_node x && sm_rule y) a0 a1), [.d .node (pruneR a0 a1)])
  | _ => none
noncomputable def s13 : Gm.Spec := Gm.Spec.of [.ro, .ro] [false] true q13
theorem good13 : Gm.Good Try.prog (13, s13) := by
  have hl : ∀ x ∈ [(8, s8), (33, s33), (34, s34)], Gm.Good Try.prog x := List.forall_mem_cons.2 ⟨good8, List.forall_mem_cons.2 ⟨good33, List.forall_mem_cons.2 ⟨good34, List.forall_mem_nil _⟩⟩⟩
  refine ⟨⟨spec_ok (tab_ok.env hl) (tab.natl hl) Try.func13 (by kernel_rfl : Try.f13.body = some f13c) [41] (by kernel_rfl) ?_, _, Try.func13, by kernel_rfl, of_decide_eq_true (by kernel_rfl)⟩, Gm.Spec.of_natl _ _ _ _⟩
  intro ds outs h
  unfold q13 at h
  split at h
  · simp only [Option.some.injEq, Prod.mk.injEq] at h; obtain ⟨hg, h⟩ := h; cases h; exact f13_spec _ _ hg
  · cases h
end Go.Proofs.Ytglijihijmkpaaa

/- x -/
namespace Go.Proofs.Ytglijihijmkpaaa
open Go Go.Gm
/-! ### loop.example/g00465/laws.szStringS -/
noncomputable def f18c : Code := (Try.f18.body).getD .skip
def f18k : Nat → Kp := kat [⟨[0, 1], [], [], []⟩, ⟨[0, 1], [], [], []⟩, ⟨[0, 1, 11], [], [], []⟩, ⟨[4], [], [], []⟩, ⟨[0, 1, 5], [], [], []⟩, ⟨[0, 1, 5, 15], [], [], []⟩, ⟨[0, 1, 5], [], [], []⟩, ⟨[0, 1, 5], [], [], []⟩, ⟨[0, 1, 5, 26], [], [], []⟩, ⟨[4], [], [], []⟩, ⟨[4], [], [], []⟩]
noncomputable def f18e : Env := tab.env []
noncomputable def f18L0 {R : Type} (n : Nat) (x0 : Option R) (x1 : Int → Int → Bool → Option R) (vs0 : List ByteArray) : Nat → Int → Int → Option R
  | 0, _, _ => none
  | m + 1, vs1, vs5 =>
    (cond (decide (vs5 < (vs0.length : Int)))
      (cond ((decide ((0 : Int) ≤ vs5)) && (decide (vs5 < (vs0.length : Int))))
        (cond (decide ((IntKind.wrap .i64 (vs1 - (ByteArray.size (atI (t := .str) vs0 (Int.toNat vs5)) : Int))) < (0 : Int)))
          (x0)
          (f18L0 n x0 x1 vs0 m (IntKind.wrap .i64 (vs1 - (ByteArray.size (atI (t := .str) vs0 (Int.toNat vs5)) : Int))) (IntKind.wrap .i64 (vs5 + (1 : Int)))))
        none)
      (x1 vs1 vs5 (decide (vs5 < (vs0.length : Int)))))
theorem f18L0_b {R : Type} (n : Nat) (k' : Ex → St → Option R) (vs0 : List ByteArray) (vs1 : Int) (vs5 : Int) : ev f18e f18k n (cAt [1,1,1,0,1,0,0] f18c) ⟨[(0, .c (.one (.ro .str vs0))), (1, .c (.one (.v (.int .i64 vs1)))), (5, .c (.one (.v (.int .i64 vs5))))], [], []⟩ k' =
    (cond (decide (vs5 < (vs0.length : Int)))
    (cond ((decide ((0 : Int) ≤ vs5)) && (decide (vs5 < (vs0.length : Int))))
      (cond (decide ((IntKind.wrap .i64 (vs1 - (ByteArray.size (atI (t := .str) vs0 (Int.toNat vs5)) : Int))) < (0 : Int)))
        (k' .ret ⟨[(4, .c (.one (.v (.int .i64 (-1 : Int)))))], [], []⟩)
        (k' .normal ⟨[(0, .c (.one (.ro .str vs0))), (1, .c (.one (.v (.int .i64 (IntKind.wrap .i64 (vs1 - (ByteArray.size (atI (t := .str) vs0 (Int.toNat vs5)) : Int))))))), (5, .c (.one (.v (.int .i64 (IntKind.wrap .i64 (vs5 + (1 : Int)))))))], [], []⟩))
      none)
    (k' (.exit 0) ⟨[(0, .c (.one (.ro .str vs0))), (1, .c (.one (.v (.int .i64 vs1)))), (5, .c (.one (.v (.int .i64 vs5)))), (15, .c (.one (.v (.bool (decide (vs5 < (vs0.length : Int)))))))], [], []⟩)) := by kernel_rfl
theorem f18L0_eq {R : Type} (n : Nat) (k' : Ex → St → Option R) (vs0 : List ByteArray) : ∀ (m : Nat) (vs1 : Int) (vs5 : Int), iter (fun st k => ev f18e f18k n (cAt [1,1,1,0,1,0,0] f18c) st k) m ⟨[(0, .c (.one (.ro .str vs0))), (1, .c (.one (.v (.int .i64 vs1)))), (5, .c (.one (.v (.int .i64 vs5))))], [], []⟩ k' = f18L0 n (k' .ret ⟨[(4, .c (.one (.v (.int .i64 (-1 : Int)))))], [], []⟩) (fun (xvs1 : Int) (xvs5 : Int) (xvs15 : Bool) => k' (.exit 0) ⟨[(0, .c (.one (.ro .str vs0))), (1, .c (.one (.v (.int .i64 xvs1)))), (5, .c (.one (.v (.int .i64 xvs5)))), (15, .c (.one (.v (.bool xvs15))))], [], []⟩) vs0 m vs1 vs5 := by
  intro m; induction m with
  | zero => intros; rfl
  | succ m ih =>
    intro vs1 vs5
    simp only [iter]
    rw [f18L0_b]
    simp only [ih, f18L0]

noncomputable def f18K0 {R : Type} (n : Nat) (k' : Ex → St → Option R) : Ex → St → Option R := (blockK 0 (seqK f18e f18k n (cAt [1,1,1,1] f18c) k'))
theorem f18K0_x0 {R : Type} (n : Nat) (k : List Dt → Option R) (a0 : List ByteArray) (a1 : Int)  : f18K0 n (exitK f18e [.ro, .ro] [false] true [.tmp 4] [3] [.d (.sl .str) a0, .d (.i .i64) a1] k) .ret ⟨[(4, .c (.one (.v (.int .i64 (-1 : Int)))))], [], []⟩ =
    (k [.d (.i .i64) (-1 : Int)]) := by kernel_rfl
theorem f18K0_x1 {R : Type} (n : Nat) (k : List Dt → Option R) (a0 : List ByteArray) (a1 : Int) (vs0 : List ByteArray) (xvs1 : Int) (xvs5 : Int) (xvs15 : Bool) : f18K0 n (exitK f18e [.ro, .ro] [false] true [.tmp 4] [3] [.d (.sl .str) a0, .d (.i .i64) a1] k) (.exit 0) ⟨[(0, .c (.one (.ro .str vs0))), (1, .c (.one (.v (.int .i64 xvs1)))), (5, .c (.one (.v (.int .i64 xvs5)))), (15, .c (.one (.v (.bool xvs15))))], [], []⟩ =
    (k [.d (.i .i64) xvs1]) := by kernel_rfl

theorem f18_run {R : Type} (n : Nat) (k : List Dt → Option R) (a0 : List ByteArray) (a1 : Int) : evFn f18e f18k n f18c [.ro, .ro] [false] true [.tmp 4] [3] [.d (.sl .str) a0, .d (.i .i64) a1] k =
    (cond (decide ((IntKind.wrap .i64 (a1 - (a0.length : Int))) < (0 : Int)))
    (k [.d (.i .i64) (-1 : Int)])
    (f18L0 n (k [.d (.i .i64) (-1 : Int)]) (fun (xvs1 : Int) (xvs5 : Int) (xvs15 : Bool) =>
      (k [.d (.i .i64) xvs1])) a0 n (IntKind.wrap .i64 (a1 - (a0.length : Int))) (0 : Int))) := by
  refine Eq.trans (b := (cond (decide ((IntKind.wrap .i64 (a1 - (a0.length : Int))) < (0 : Int)))
    (k [.d (.i .i64) (-1 : Int)])
    (iter (fun st k => ev f18e f18k n (cAt [1,1,1,0,1,0,0] f18c) st k) n ⟨[(0, .c (.one (.ro .str a0))), (1, .c (.one (.v (.int .i64 (IntKind.wrap .i64 (a1 - (a0.length : Int))))))), (5, .c (.one (.v (.int .i64 (0 : Int)))))], [], []⟩ (f18K0 n (exitK f18e [.ro, .ro] [false] true [.tmp 4] [3] [.d (.sl .str) a0, .d (.i .i64) a1] k))))) (by kernel_rfl) ?_
  simp only [f18L0_eq, f18K0_x0, f18K0_x1]
theorem f18_spec (a0 : List ByteArray) (a1 : Int) (hg : gzL_str a0 a1 = true) : ∃ keep rounds, ∀ {R : Type} (k : List Dt → Option R), evFn f18e keep rounds f18c [.ro, .ro] [false] true [.tmp 4] [3] [.d (.sl .str) a0, .d (.i .i64) a1] k = k [.d (.i .i64) (zL_str a0 a1)] := by
  simp only [gzL_str, okL, Bool.and_eq_true, okN_iff] at hg
  obtain ⟨⟨hl, hs⟩, hn⟩ := hg
  have hl : a0.length ≤ 9223372036854775807 := bleN hl
  refine ⟨f18k, a0.length + 1, fun k => ?_⟩
  rw [f18_run, wrap_id (x := a1 - (a0.length : Int)) (by omega) (by omega)]
  show _ = k [.d (.i .i64) (zL_str a0 a1)]
  unfold zL_str
  have eL : szL ByteArray.size a0 = a0.length + (a0.map ByteArray.size).sum := rfl
  by_cases hc : a1 - (a0.length : Int) < 0
  · simp only [hc, decide_true, cond_true]
    rw [szI_neg (by omega)]
  · simp only [hc, decide_false, cond_false]
    refine Eq.trans (loop_fold (xs := a0) (F := fun m j left => f18L0 (a0.length + 1) _ _ a0 m left (j : Int)) (step := szStep ByteArray.size)
      (out := fun _ => k [.d (.i .i64) (-1 : Int)]) (good := fun left => k [.d (.i .i64) left]) (fun n => 0 ≤ n ∧ n ≤ 1048576)
      (fun x n n' hx hn h => by
        unfold szStep at h
        split at h
        · cases h
        · cases h; omega)
      (fun m j n x hx hn => ?_)
      (fun m n hn => by simp only [f18L0, idxE, cond_false]) a0.length 0 (a0.length + 1) (a1 - (a0.length : Int)) (by omega) (by omega) (by omega)) ?_
    · obtain ⟨h1, h0, hw, ht⟩ := idx (lt_of_get hx) (by omega)
      have hx2 := List.all_eq_true.1 hs x (List.mem_of_getElem? hx)
      have hx2 : x.size ≤ 9223372036854775807 := bleN hx2
      simp only [f18L0, h1, h0, hw, ht, atI_of (t := .str) hx, Bool.and_self, cond_true]
      rw [wrap_id (x := n - (x.size : Int)) (by omega) (by omega)]
      unfold szStep
      by_cases h : n - (x.size : Int) < 0
      · simp only [h, decide_true, cond_true, if_true, Sum.elim_inl]
      · simp only [h, decide_false, cond_false, if_false, Sum.elim_inr]
    · rw [List.drop_zero, sz_fold _ _ _ (by omega)]
      by_cases h2 : a1 - (a0.length : Int) - ((a0.map ByteArray.size).sum : Nat) < 0
      · rw [if_pos h2, szI_neg (by omega)]; rfl
      · rw [if_neg h2, szI_pos (by omega)]
        simp only [Sum.elim_inr]
        rw [show a1 - (a0.length : Int) - ((a0.map ByteArray.size).sum : Nat) = a1 - (szL ByteArray.size a0 : Nat) by omega]

noncomputable def q18 : List Dt → Option (Bool × List Dt)
  | [.d (.sl .str) a0, .d (.i .i64) a1] => some ((gzL_str a0 a1), [.d (.i .i64) (zL_str a0 a1)])
  | _ => none
noncomputable def s18 : Gm.Spec := Gm.Spec.of [.ro, .ro] [false] true q18
theorem good18 : Gm.Good Try.prog (18, s18) := by
  have hl : ∀ x ∈ ([] : List (Nat × Gm.Spec)), Gm.Good Try.prog x := fun _ h => by cases h
  refine ⟨⟨spec_ok (tab_ok.env hl) (tab.natl hl) Try.func18 (by kernel_rfl : Try.f18.body = some f18c) [3] (by kernel_rfl) ?_, _, Try.func18, by kernel_rfl, of_decide_eq_true (by kernel_rfl)⟩, Gm.Spec.of_natl _ _ _ _⟩
  intro ds outs h
  unfold q18 at h
  split at h
  · simp only [Option.some.injEq, Prod.mk.injEq] at h; obtain ⟨hg, h⟩ := h; cases h; exact f18_spec _ _ hg
  · cases h
/-! ### loop.example/g00465/laws.szBoolS -/
noncomputable def f20c : Code := (Try.f20.body).getD .skip
def f20k : Nat → Kp := kat [⟨[0, 1], [], [], []⟩, ⟨[1], [], [], []⟩, ⟨[1, 10], [], [], []⟩, ⟨[4], [], [], []⟩, ⟨[4], [], [], []⟩]
noncomputable def f20e : Env := tab.env []
theorem f20_run {R : Type} (n : Nat) (k : List Dt → Option R) (a0 : List Bool) (a1 : Int) : evFn f20e f20k n f20c [.ro, .ro] [false] true [.tmp 4] [3] [.d (.sl .bool) a0, .d (.i .i64) a1] k =
    (cond (decide ((IntKind.wrap .i64 (a1 - (a0.length : Int))) < (0 : Int)))
    (k [.d (.i .i64) (-1 : Int)])
    (k [.d (.i .i64) (IntKind.wrap .i64 (a1 - (a0.length : Int)))])) := by kernel_rfl
theorem f20_spec (a0 : List Bool) (a1 : Int) (hg : gzL_bool a0 a1 = true) : ∃ keep rounds, ∀ {R : Type} (k : List Dt → Option R), evFn f20e keep rounds f20c [.ro, .ro] [false] true [.tmp 4] [3] [.d (.sl .bool) a0, .d (.i .i64) a1] k = k [.d (.i .i64) (zL_bool a0 a1)] := by
  simp only [gzL_bool, okL, Bool.and_eq_true, okN_iff] at hg
  obtain ⟨⟨hl, hs⟩, hn⟩ := hg
  have hl : a0.length ≤ 9223372036854775807 := bleN hl
  refine ⟨f20k, 0, fun k => ?_⟩
  rw [f20_run, wrap_id (x := a1 - (a0.length : Int)) (by omega) (by omega)]
  show _ = k [.d (.i .i64) (zL_bool a0 a1)]
  unfold zL_bool
  have eL : szL (fun _ => 0) a0 = a0.length := by
    have z : ∀ l : List Bool, (l.map (fun _ => 0)).sum = 0 := fun l => by induction l with | nil => rfl | cons x r ih => rw [List.map_cons, List.sum_cons, ih]
    unfold szL; rw [z]; rfl
  rw [eL]
  by_cases hc : a1 - (a0.length : Int) < 0
  · simp only [hc, decide_true, cond_true]
    rw [szI_neg (by omega)]
  · simp only [hc, decide_false, cond_false]
    rw [szI_pos (by omega)]

noncomputable def q20 : List Dt → Option (Bool × List Dt)
  | [.d (.sl .bool) a0, .d (.i .i64) a1] => some ((gzL_bool a0 a1), [.d (.i .i64) (zL_bool a0 a1)])
  | _ => none
noncomputable def s20 : Gm.Spec := Gm.Spec.of [.ro, .ro] [false] true q20
theorem good20 : Gm.Good Try.prog (20, s20) := by
  have hl : ∀ x ∈ ([] : List (Nat × Gm.Spec)), Gm.Good Try.prog x := fun _ h => by cases h
  refine ⟨⟨spec_ok (tab_ok.env hl) (tab.natl hl) Try.func20 (by kernel_rfl : Try.f20.body = some f20c) [3] (by kernel_rfl) ?_, _, Try.func20, by kernel_rfl, of_decide_eq_true (by kernel_rfl)⟩, Gm.Spec.of_natl _ _ _ _⟩
  intro ds outs h
  unfold q20 at h
  split at h
  · simp only [Option.some.injEq, Prod.mk.injEq] at h; obtain ⟨hg, h⟩ := h; cases h; exact f20_spec _ _ hg
  · cases h
noncomputable def q5 : List Dt → Option (Bool × List Dt)
  | [.d .rule a0, .d (.i .i64) a1] => some ((gz_rule a0 a1), [.d (.i .i64) (z_rule a0 a1)])
  | _ => none
noncomputable def mu5 : List Dt → Nat
  | [.d .rule a0, .d (.i .i64) a1] => mz_rule a0 a1
  | _ => 0
noncomputable def s5r (N : Nat) : Gm.Spec := Gm.Spec.of [.ro, .ro] [false] true (qlt mu5 N q5)
noncomputable def s5 : Gm.Spec := Gm.Spec.of [.ro, .ro] [false] true q5
noncomputable def q19 : List Dt → Option (Bool × List Dt)
  | [.d (.sl .rule) a0, .d (.i .i64) a1] => some ((gzL_rule a0 a1), [.d (.i .i64) (zL_rule a0 a1)])
  | _ => none
noncomputable def mu19 : List Dt → Nat
  | [.d (.sl .rule) a0, .d (.i .i64) a1] => mzL_rule a0 a1
  | _ => 0
noncomputable def s19r (N : Nat) : Gm.Spec := Gm.Spec.of [.ro, .ro] [false] true (qlt mu19 N q19)
/-! ### loop.example/g00465/laws.szRule -/
noncomputable def f5c : Code := (Try.f5.body).getD .skip
def f5k : Nat → Kp := kat [⟨[1, 2], [], [], []⟩, ⟨[1, 2], [], [], []⟩, ⟨[1, 2, 10], [], [], []⟩, ⟨[4], [], [], []⟩, ⟨[1, 2], [], [], []⟩, ⟨[1, 2, 16], [], [], []⟩, ⟨[4], [], [], []⟩, ⟨[1], [], [], []⟩, ⟨[1, 22], [], [], []⟩, ⟨[4], [], [], []⟩, ⟨[4], [], [], []⟩]
noncomputable def f5e (N : Nat) : Env := tab.env [(18, s18), (19, s19r N), (20, s20)]
theorem f5_run {R : Type} (N : Nat) (n : Nat) (k : List Dt → Option R) (a0 : RuleT) (a1 : Int) : evFn (f5e N) f5k n f5c [.ro, .ro] [false] true [.tmp 4] [3] [.d .rule a0, .d (.i .i64) a1] k =
    (cond (gzL_str (RuleT.keys a0) a1)
    (cond (decide ((zL_str (RuleT.keys a0) a1) < (0 : Int)))
      (k [.d (.i .i64) (-1 : Int)])
      (cond ((gzL_rule (RuleT.kids a0) (zL_str (RuleT.keys a0) a1)) && (Nat.blt (mzL_rule (RuleT.kids a0) (zL_str (RuleT.keys a0) a1)) N))
        (cond (decide ((zL_rule (RuleT.kids a0) (zL_str (RuleT.keys a0) a1)) < (0 : Int)))
          (k [.d (.i .i64) (-1 : Int)])
          (cond (gzL_bool (RuleT.need a0) (zL_rule (RuleT.kids a0) (zL_str (RuleT.keys a0) a1)))
            (cond (decide ((zL_bool (RuleT.need a0) (zL_rule (RuleT.kids a0) (zL_str (RuleT.keys a0) a1))) < (0 : Int)))
              (k [.d (.i .i64) (-1 : Int)])
              (k [.d (.i .i64) (zL_bool (RuleT.need a0) (zL_rule (RuleT.kids a0) (zL_str (RuleT.keys a0) a1)))]))
            none))
        none))
    none) := by kernel_rfl
theorem f5_spec (N : Nat) (a0 : RuleT) (a1 : Int) (hg : gz_rule a0 a1 = true) (hm : mu5 [.d .rule a0, .d (.i .i64) a1] = N) : ∃ keep rounds, ∀ {R : Type} (k : List Dt → Option R), evFn (f5e N) keep rounds f5c [.ro, .ro] [false] true [.tmp 4] [3] [.d .rule a0, .d (.i .i64) a1] k = k [.d (.i .i64) (z_rule a0 a1)] := by
  have hm : mz_rule a0 a1 = N := hm
  subst hm
  simp only [gz_rule, ok_rule_def, Bool.and_eq_true, okN_iff] at hg
  obtain ⟨⟨hf_kind, hf_keys, hf_kids, hf_need, hf_low, hf_high⟩, hn1, hn2⟩ := hg
  have eN := szN_rule_def a0
  refine ⟨f5k, 0, fun {R} k => ?_⟩
  rw [f5_run]
  show _ = k [.d (.i .i64) (z_rule a0 a1)]
  unfold z_rule
  have g1 : gzL_str a0.keys a1 = true := by simp only [gzL_str, Bool.and_eq_true, okN_iff]; exact ⟨hf_keys, by omega, by omega⟩
  have z1 : zL_str a0.keys a1 = szI (szL ByteArray.size a0.keys) a1 := rfl
  rw [g1, z1]
  by_cases h1 : a1 - ((szL ByteArray.size a0.keys : Nat) : Int) < 0
  · rw [szI_neg h1, szI_neg (by omega)]; rfl
  rw [szI_pos h1]
  simp only [cond_true, h1, decide_false, cond_false, Bool.and_self]
  have g2 : gzL_rule a0.kids (a1 - ((szL ByteArray.size a0.keys : Nat) : Int)) = true := by simp only [gzL_rule, Bool.and_eq_true, okN_iff]; exact ⟨hf_kids, by omega, by omega⟩
  have m2 : Nat.blt (mzL_rule a0.kids (a1 - ((szL ByteArray.size a0.keys : Nat) : Int))) (mz_rule a0 a1) = true := by rw [Nat.blt_eq]; simp only [mzL_rule, mz_rule, nd_rule_def]; omega
  have z2 : zL_rule a0.kids (a1 - ((szL ByteArray.size a0.keys : Nat) : Int)) = szI (szL szN_rule a0.kids) (a1 - ((szL ByteArray.size a0.keys : Nat) : Int)) := rfl
  rw [g2, m2, z2]
  by_cases h2 : (a1 - ((szL ByteArray.size a0.keys : Nat) : Int)) - ((szL szN_rule a0.kids : Nat) : Int) < 0
  · rw [szI_neg h2, szI_neg (by omega)]; rfl
  rw [szI_pos h2]
  simp only [cond_true, h2, decide_false, cond_false, Bool.and_self]
  have g3 : gzL_bool a0.need ((a1 - ((szL ByteArray.size a0.keys : Nat) : Int)) - ((szL szN_rule a0.kids : Nat) : Int)) = true := by simp only [gzL_bool, Bool.and_eq_true, okN_iff]; exact ⟨hf_need, by omega, by omega⟩
  have z3 : zL_bool a0.need ((a1 - ((szL ByteArray.size a0.keys : Nat) : Int)) - ((szL szN_rule a0.kids : Nat) : Int)) = szI (szL (fun _ => 0) a0.need) ((a1 - ((szL ByteArray.size a0.keys : Nat) : Int)) - ((szL szN_rule a0.kids : Nat) : Int)) := rfl
  rw [g3, z3]
  by_cases h3 : ((a1 - ((szL ByteArray.size a0.keys : Nat) : Int)) - ((szL szN_rule a0.kids : Nat) : Int)) - ((szL (fun _ => 0) a0.need : Nat) : Int) < 0
  · rw [szI_neg h3, szI_neg (by omega)]; rfl
  rw [szI_pos h3]
  simp only [cond_true, h3, decide_false, cond_false, Bool.and_self]
  rw [szI_pos (by omega)]
  first
    | rfl
    | rw [show (((a1 - ((szL ByteArray.size a0.keys : Nat) : Int)) - ((szL szN_rule a0.kids : Nat) : Int)) - ((szL (fun _ => 0) a0.need : Nat) : Int)) = a1 - ((szN_rule a0 : Nat) : Int) by omega]


/-! ### loop.example/g00465/laws.szRuleS -/
noncomputable def f19c : Code := (Try.f19.body).getD .skip
def f19k : Nat → Kp := kat [⟨[0, 1], [], [], []⟩, ⟨[0, 1], [], [], []⟩, ⟨[0, 1, 11], [], [], []⟩, ⟨[4], [], [], []⟩, ⟨[0, 1, 5], [], [], []⟩, ⟨[0, 1, 5, 15], [], [], []⟩, ⟨[0, 1, 5], [], [], []⟩, ⟨[0, 1, 5], [], [], []⟩, ⟨[0, 1, 5, 25], [], [], []⟩, ⟨[4], [], [], []⟩, ⟨[4], [], [], []⟩]
noncomputable def f19e (N : Nat) : Env := tab.env [(5, s5r N)]
noncomputable def f19L0 {R : Type} (N : Nat) (n : Nat) (x0 : Option R) (x1 : Int → Int → Bool → Option R) (vs0 : List RuleT) : Nat → Int → Int → Option R
  | 0, _, _ => none
  | m + 1, vs1, vs5 =>
    (cond (decide (vs5 < (vs0.length : Int)))
      (cond ((decide ((0 : Int) ≤ vs5)) && (decide (vs5 < (vs0.length : Int))))
        (cond ((gz_rule (⟨(RuleT.kind (atI (t := .rule) vs0 (Int.toNat vs5))), (RuleT.keys (atI (t := .rule) vs0 (Int.toNat vs5))), (RuleT.kids (atI (t := .rule) vs0 (Int.toNat vs5))), (RuleT.need (atI (t := .rule) vs0 (Int.toNat vs5))), (RuleT.low (atI (t := .rule) vs0 (Int.toNat vs5))), (RuleT.high (atI (t := .rule) vs0 (Int.toNat vs5)))⟩ : RuleT) vs1) && (Nat.blt (mz_rule (⟨(RuleT.kind (atI (t := .rule) vs0 (Int.toNat vs5))), (RuleT.keys (atI (t := .rule) vs0 (Int.toNat vs5))), (RuleT.kids (atI (t := .rule) vs0 (Int.toNat vs5))), (RuleT.need (atI (t := .rule) vs0 (Int.toNat vs5))), (RuleT.low (atI (t := .rule) vs0 (Int.toNat vs5))), (RuleT.high (atI (t := .rule) vs0 (Int.toNat vs5)))⟩ : RuleT) vs1) N))
          (cond (decide ((z_rule (⟨(RuleT.kind (atI (t := .rule) vs0 (Int.toNat vs5))), (RuleT.keys (atI (t := .rule) vs0 (Int.toNat vs5))), (RuleT.kids (atI (t := .rule) vs0 (Int.toNat vs5))), (RuleT.need (atI (t := .rule) vs0 (Int.toNat vs5))), (RuleT.low (atI (t := .rule) vs0 (Int.toNat vs5))), (RuleT.high (atI (t := .rule) vs0 (Int.toNat vs5)))⟩ : RuleT) vs1) < (0 : Int)))
            (x0)
            (f19L0 N n x0 x1 vs0 m (z_rule (⟨(RuleT.kind (atI (t := .rule) vs0 (Int.toNat vs5))), (RuleT.keys (atI (t := .rule) vs0 (Int.toNat vs5))), (RuleT.kids (atI (t := .rule) vs0 (Int.toNat vs5))), (RuleT.need (atI (t := .rule) vs0 (Int.toNat vs5))), (RuleT.low (atI (t := .rule) vs0 (Int.toNat vs5))), (RuleT.high (atI (t := .rule) vs0 (Int.toNat vs5)))⟩ : RuleT) vs1) (IntKind.wrap .i64 (vs5 + (1 : Int)))))
          none)
        none)
      (x1 vs1 vs5 (decide (vs5 < (vs0.length : Int)))))
theorem f19L0_b {R : Type} (N : Nat) (n : Nat) (k' : Ex → St → Option R) (vs0 : List RuleT) (vs1 : Int) (vs5 : Int) : ev (f19e N) f19k n (cAt [1,1,1,0,1,0,0] f19c) ⟨[(0, .c (.one (.ro .rule vs0))), (1, .c (.one (.v (.int .i64 vs1)))), (5, .c (.one (.v (.int .i64 vs5))))], [], []⟩ k' =
    (cond (decide (vs5 < (vs0.length : Int)))
    (cond ((decide ((0 : Int) ≤ vs5)) && (decide (vs5 < (vs0.length : Int))))
      (cond ((gz_rule (⟨(RuleT.kind (atI (t := .rule) vs0 (Int.toNat vs5))), (RuleT.keys (atI (t := .rule) vs0 (Int.toNat vs5))), (RuleT.kids (atI (t := .rule) vs0 (Int.toNat vs5))), (RuleT.need (atI (t := .rule) vs0 (Int.toNat vs5))), (RuleT.low (atI (t := .rule) vs0 (Int.toNat vs5))), (RuleT.high (atI (t := .rule) vs0 (Int.toNat vs5)))⟩ : RuleT) vs1) && (Nat.blt (mz_rule (⟨(RuleT.kind (atI (t := .rule) vs0 (Int.toNat vs5))), (RuleT.keys (atI (t := .rule) vs0 (Int.toNat vs5))), (RuleT.kids (atI (t := .rule) vs0 (Int.toNat vs5))), (RuleT.need (atI (t := .rule) vs0 (Int.toNat vs5))), (RuleT.low (atI (t := .rule) vs0 (Int.toNat vs5))), (RuleT.high (atI (t := .rule) vs0 (Int.toNat vs5)))⟩ : RuleT) vs1) N))
        (cond (decide ((z_rule (⟨(RuleT.kind (atI (t := .rule) vs0 (Int.toNat vs5))), (RuleT.keys (atI (t := .rule) vs0 (Int.toNat vs5))), (RuleT.kids (atI (t := .rule) vs0 (Int.toNat vs5))), (RuleT.need (atI (t := .rule) vs0 (Int.toNat vs5))), (RuleT.low (atI (t := .rule) vs0 (Int.toNat vs5))), (RuleT.high (atI (t := .rule) vs0 (Int.toNat vs5)))⟩ : RuleT) vs1) < (0 : Int)))
          (k' .ret ⟨[(4, .c (.one (.v (.int .i64 (-1 : Int)))))], [], []⟩)
          (k' .normal ⟨[(0, .c (.one (.ro .rule vs0))), (1, .c (.one (.v (.int .i64 (z_rule (⟨(RuleT.kind (atI (t := .rule) vs0 (Int.toNat vs5))), (RuleT.keys (atI (t := .rule) vs0 (Int.toNat vs5))), (RuleT.kids (atI (t := .rule) vs0 (Int.toNat vs5))), (RuleT.need (atI (t := .rule) vs0 (Int.toNat vs5))), (RuleT.low (atI (t := .rule) vs0 (Int.toNat vs5))), (RuleT.high (atI (t := .rule) vs0 (Int.toNat vs5)))⟩ : RuleT) vs1))))), (5, .c (.one (.v (.int .i64 (IntKind.wrap .i64 (vs5 + (1 : Int)))))))], [], []⟩))
        none)
      none)
    (k' (.exit 0) ⟨[(0, .c (.one (.ro .rule vs0))), (1, .c (.one (.v (.int .i64 vs1)))), (5, .c (.one (.v (.int .i64 vs5)))), (15, .c (.one (.v (.bool (decide (vs5 < (vs0.length : Int)))))))], [], []⟩)) := by kernel_rfl
theorem f19L0_eq {R : Type} (N : Nat) (n : Nat) (k' : Ex → St → Option R) (vs0 : List RuleT) : ∀ (m : Nat) (vs1 : Int) (vs5 : Int), iter (fun st k => ev (f19e N) f19k n (cAt [1,1,1,0,1,0,0] f19c) st k) m ⟨[(0, .c (.one (.ro .rule vs0))), (1, .c (.one (.v (.int .i64 vs1)))), (5, .c (.one (.v (.int .i64 vs5))))], [], []⟩ k' = f19L0 N n (k' .ret ⟨[(4, .c (.one (.v (.int .i64 (-1 : Int)))))], [], []⟩) (fun (xvs1 : Int) (xvs5 : Int) (xvs15 : Bool) => k' (.exit 0) ⟨[(0, .c (.one (.ro .rule vs0))), (1, .c (.one (.v (.int .i64 xvs1)))), (5, .c (.one (.v (.int .i64 xvs5)))), (15, .c (.one (.v (.bool xvs15))))], [], []⟩) vs0 m vs1 vs5 := by
  intro m; induction m with
  | zero => intros; rfl
  | succ m ih =>
    intro vs1 vs5
    simp only [iter]
    rw [f19L0_b]
    simp only [ih, f19L0]

noncomputable def f19K0 {R : Type} (N : Nat) (n : Nat) (k' : Ex → St → Option R) : Ex → St → Option R := (blockK 0 (seqK (f19e N) f19k n (cAt [1,1,1,1] f19c) k'))
theorem f19K0_x0 {R : Type} (N : Nat) (n : Nat) (k : List Dt → Option R) (a0 : List RuleT) (a1 : Int)  : f19K0 N n (exitK (f19e N) [.ro, .ro] [false] true [.tmp 4] [3] [.d (.sl .rule) a0, .d (.i .i64) a1] k) .ret ⟨[(4, .c (.one (.v (.int .i64 (-1 : Int)))))], [], []⟩ =
    (k [.d (.i .i64) (-1 : Int)]) := by kernel_rfl
theorem f19K0_x1 {R : Type} (N : Nat) (n : Nat) (k : List Dt → Option R) (a0 : List RuleT) (a1 : Int) (vs0 : List RuleT) (xvs1 : Int) (xvs5 : Int) (xvs15 : Bool) : f19K0 N n (exitK (f19e N) [.ro, .ro] [false] true [.tmp 4] [3] [.d (.sl .rule) a0, .d (.i .i64) a1] k) (.exit 0) ⟨[(0, .c (.one (.ro .rule vs0))), (1, .c (.one (.v (.int .i64 xvs1)))), (5, .c (.one (.v (.int .i64 xvs5)))), (15, .c (.one (.v (.bool xvs15))))], [], []⟩ =
    (k [.d (.i .i64) xvs1]) := by kernel_rfl

theorem f19_run {R : Type} (N : Nat) (n : Nat) (k : List Dt → Option R) (a0 : List RuleT) (a1 : Int) : evFn (f19e N) f19k n f19c [.ro, .ro] [false] true [.tmp 4] [3] [.d (.sl .rule) a0, .d (.i .i64) a1] k =
    (cond (decide ((IntKind.wrap .i64 (a1 - (a0.length : Int))) < (0 : Int)))
    (k [.d (.i .i64) (-1 : Int)])
    (f19L0 N n (k [.d (.i .i64) (-1 : Int)]) (fun (xvs1 : Int) (xvs5 : Int) (xvs15 : Bool) =>
      (k [.d (.i .i64) xvs1])) a0 n (IntKind.wrap .i64 (a1 - (a0.length : Int))) (0 : Int))) := by
  refine Eq.trans (b := (cond (decide ((IntKind.wrap .i64 (a1 - (a0.length : Int))) < (0 : Int)))
    (k [.d (.i .i64) (-1 : Int)])
    (iter (fun st k => ev (f19e N) f19k n (cAt [1,1,1,0,1,0,0] f19c) st k) n ⟨[(0, .c (.one (.ro .rule a0))), (1, .c (.one (.v (.int .i64 (IntKind.wrap .i64 (a1 - (a0.length : Int))))))), (5, .c (.one (.v (.int .i64 (0 : Int)))))], [], []⟩ (f19K0 N n (exitK (f19e N) [.ro, .ro] [false] true [.tmp 4] [3] [.d (.sl .rule) a0, .d (.i .i64) a1] k))))) (by kernel_rfl) ?_
  simp only [f19L0_eq, f19K0_x0, f19K0_x1]
theorem f19_spec (N : Nat) (a0 : List RuleT) (a1 : Int) (hg : gzL_rule a0 a1 = true) (hm : mu19 [.d (.sl .rule) a0, .d (.i .i64) a1] = N) : ∃ keep rounds, ∀ {R : Type} (k : List Dt → Option R), evFn (f19e N) keep rounds f19c [.ro, .ro] [false] true [.tmp 4] [3] [.d (.sl .rule) a0, .d (.i .i64) a1] k = k [.d (.i .i64) (zL_rule a0 a1)] := by
  have hm : mzL_rule a0 a1 = N := hm
  subst hm
  simp only [gzL_rule, okL, Bool.and_eq_true, okN_iff] at hg
  obtain ⟨⟨hl, hs⟩, hn⟩ := hg
  have hl : a0.length ≤ 9223372036854775807 := bleN hl
  refine ⟨f19k, a0.length + 1, fun {R} k => ?_⟩
  rw [f19_run, wrap_id (x := a1 - (a0.length : Int)) (by omega) (by omega)]
  show _ = k [.d (.i .i64) (zL_rule a0 a1)]
  unfold zL_rule
  have eL : szL szN_rule a0 = a0.length + (a0.map szN_rule).sum := rfl
  by_cases hc : a1 - (a0.length : Int) < 0
  · simp only [hc, decide_true, cond_true]
    rw [szI_neg (by omega)]
  · simp only [hc, decide_false, cond_false]
    refine Eq.trans (loop_fold (xs := a0) (F := fun m j left => f19L0 (mzL_rule a0 a1) (a0.length + 1) _ _ a0 m left (j : Int)) (step := szStep szN_rule)
      (out := fun _ => k [.d (.i .i64) (-1 : Int)]) (good := fun left => k [.d (.i .i64) left]) (fun n => 0 ≤ n ∧ n ≤ 1048576)
      (fun x n n' hx hn h => by
        unfold szStep at h
        split at h
        · cases h
        · cases h; omega)
      (fun m j n x hx hn => ?_)
      (fun m n hn => by simp only [f19L0, idxE, cond_false]) a0.length 0 (a0.length + 1) (a1 - (a0.length : Int)) (by omega) (by omega) (by omega)) ?_
    · obtain ⟨h1, h0, hw, ht⟩ := idx (lt_of_get hx) (by omega)
      have hmem := List.mem_of_getElem? hx
      have hx2 := List.all_eq_true.1 hs x hmem
      have hb : Nat.blt (mz_rule x n) (mzL_rule a0 a1) = true := by
        have := ndL_mem (f := nd_rule) hmem
        rw [Nat.blt_eq]; simp only [mz_rule, mzL_rule]; omega
      have hg2 : gz_rule x n = true := by simp only [gz_rule, Bool.and_eq_true, okN_iff]; exact ⟨hx2, by omega, by omega⟩
      have hz : z_rule x n = szI (szN_rule x) n := rfl
      simp only [f19L0, h1, h0, hw, ht, atI_of (t := .rule) hx, Bool.and_self, cond_true, eta_rule, hg2, hz, hb]
      unfold szStep
      by_cases h : n - (szN_rule x : Int) < 0
      · rw [szI_neg h]; simp only [h, if_true, Sum.elim_inl]; rfl
      · rw [szI_pos h]; simp only [h, decide_false, cond_false, if_false, Sum.elim_inr]
    · rw [List.drop_zero, sz_fold _ _ _ (by omega)]
      by_cases h2 : a1 - (a0.length : Int) - ((a0.map szN_rule).sum : Nat) < 0
      · rw [if_pos h2, szI_neg (by omega)]; rfl
      · rw [if_neg h2, szI_pos (by omega)]
        simp only [Sum.elim_inr]
        rw [show a1 - (a0.length : Int) - ((a0.map szN_rule).sum : Nat) = a1 - (szL szN_rule a0 : Nat) by omega]


theorem goods5 : ∀ x ∈ ([⟨5, [.ro, .ro], [false], true, mu5, q5⟩, ⟨19, [.ro, .ro], [false], true, mu19, q19⟩] : List Rc), Gm.SpecOk Try.prog x.f (Gm.Spec.of x.ms x.rs x.ow x.q) := by
  refine spec_recs _ fun N hr => ?_
  have hr1 : Gm.SpecOk Try.prog 5 (Gm.Spec.of [.ro, .ro] [false] true (qlt mu5 N q5)) := fun {R} => hr _ (.head _)
  have hr2 : Gm.SpecOk Try.prog 19 (Gm.Spec.of [.ro, .ro] [false] true (qlt mu19 N q19)) := fun {R} => hr _ (.tail _ (.head _))
  refine List.forall_mem_cons.2 ⟨?_, List.forall_mem_cons.2 ⟨?_, List.forall_mem_nil _⟩⟩
  · have hl : ∀ x ∈ ([(18, s18), (19, s19r N), (20, s20)] : List (Nat × Gm.Spec)), Gm.Good Try.prog x := List.forall_mem_cons.2 ⟨good18, List.forall_mem_cons.2 ⟨⟨⟨hr2, _, Try.func19, by kernel_rfl, of_decide_eq_true (by kernel_rfl)⟩, Gm.Spec.of_natl _ _ _ _⟩, List.forall_mem_cons.2 ⟨good20, List.forall_mem_nil _⟩⟩⟩
    show Gm.SpecOk Try.prog 5 (Gm.Spec.of [.ro, .ro] [false] true (qeq mu5 N q5))
    intro R
    refine spec_ok (E := f5e N) (tab_ok.env hl) (tab.natl hl) Try.func5 (by kernel_rfl : Try.f5.body = some f5c) [3] (by kernel_rfl) ?_
    intro ds outs h
    obtain ⟨h, hm⟩ := qeq_some h
    unfold q5 at h
    split at h
    · simp only [Option.some.injEq, Prod.mk.injEq] at h; obtain ⟨hg, h⟩ := h; cases h; exact f5_spec N _ _ hg hm
    · cases h
  · have hl : ∀ x ∈ ([(5, s5r N)] : List (Nat × Gm.Spec)), Gm.Good Try.prog x := List.forall_mem_cons.2 ⟨⟨⟨hr1, _, Try.func5, by kernel_rfl, of_decide_eq_true (by kernel_rfl)⟩, Gm.Spec.of_natl _ _ _ _⟩, List.forall_mem_nil _⟩
    show Gm.SpecOk Try.prog 19 (Gm.Spec.of [.ro, .ro] [false] true (qeq mu19 N q19))
    intro R
    refine spec_ok (E := f19e N) (tab_ok.env hl) (tab.natl hl) Try.func19 (by kernel_rfl : Try.f19.body = some f19c) [3] (by kernel_rfl) ?_
    intro ds outs h
    obtain ⟨h, hm⟩ := qeq_some h
    unfold q19 at h
    split at h
    · simp only [Option.some.injEq, Prod.mk.injEq] at h; obtain ⟨hg, h⟩ := h; cases h; exact f19_spec N _ _ hg hm
    · cases h
theorem good5 : Gm.Good Try.prog (5, s5) := ⟨⟨fun {R} => goods5 _ (.head _), _, Try.func5, by kernel_rfl, of_decide_eq_true (by kernel_rfl)⟩, Gm.Spec.of_natl _ _ _ _⟩
/-! ### loop.example/g00465/laws.toBoolS -/
noncomputable def f24c : Code := (Try.f24.body).getD .skip
def f24k : Nat → Kp := kat [⟨[0], [], [], []⟩, ⟨[0, 3], [], [], []⟩, ⟨[0, 3, 4], [], [], []⟩, ⟨[0, 3, 4, 11], [], [], []⟩, ⟨[0, 3, 4], [], [], []⟩, ⟨[0, 3, 4], [], [], []⟩, ⟨[2], [], [], []⟩]
noncomputable def f24e : Env := tab.env []
noncomputable def f24L0 {R : Type} (n : Nat) (x0 : Int → Bool → (List Bool) → Option R) (vs0 : List Bool) : Nat → Int → (List Bool) → Option R
  | 0, _, _ => none
  | m + 1, vs4, vr448 =>
    (cond (decide (vs4 < (vs0.length : Int)))
      (cond ((decide ((0 : Int) ≤ vs4)) && (decide (vs4 < (vs0.length : Int))))
        (cond ((decide ((0 : Int) ≤ vs4)) && (decide (vs4 < (vr448.length : Int))))
          (f24L0 n x0 vs0 m (IntKind.wrap .i64 (vs4 + (1 : Int))) (vr448.set (Int.toNat vs4) (atI (t := .bool) vs0 (Int.toNat vs4))))
          none)
        none)
      (x0 vs4 (decide (vs4 < (vs0.length : Int))) vr448))
theorem f24L0_b {R : Type} (n : Nat) (k' : Ex → St → Option R) (vs0 : List Bool) (vs4 : Int) (vr448 : List Bool) : ev f24e f24k n (cAt [1,1,0,1,0,0] f24c) ⟨[(0, .c (.one (.ro .bool vs0))), (3, .c (.one (.h 448 0 0 []))), (4, .c (.one (.v (.int .i64 vs4))))], [], [(448, .live ⟨.bool, .deep, 0, [], vr448⟩)]⟩ k' =
    (cond (decide (vs4 < (vs0.length : Int)))
    (cond ((decide ((0 : Int) ≤ vs4)) && (decide (vs4 < (vs0.length : Int))))
      (cond ((decide ((0 : Int) ≤ vs4)) && (decide (vs4 < (vr448.length : Int))))
        (k' .normal ⟨[(0, .c (.one (.ro .bool vs0))), (3, .c (.one (.h 448 0 0 []))), (4, .c (.one (.v (.int .i64 (IntKind.wrap .i64 (vs4 + (1 : Int)))))))], [], [(448, .live ⟨.bool, .deep, 0, [], (vr448.set (Int.toNat vs4) (atI (t := .bool) vs0 (Int.toNat vs4)))⟩)]⟩)
        none)
      none)
    (k' (.exit 0) ⟨[(0, .c (.one (.ro .bool vs0))), (3, .c (.one (.h 448 0 0 []))), (4, .c (.one (.v (.int .i64 vs4)))), (11, .c (.one (.v (.bool (decide (vs4 < (vs0.length : Int)))))))], [], [(448, .live ⟨.bool, .deep, 0, [], vr448⟩)]⟩)) := by kernel_rfl
theorem f24L0_eq {R : Type} (n : Nat) (k' : Ex → St → Option R) (vs0 : List Bool) : ∀ (m : Nat) (vs4 : Int) (vr448 : List Bool), iter (fun st k => ev f24e f24k n (cAt [1,1,0,1,0,0] f24c) st k) m ⟨[(0, .c (.one (.ro .bool vs0))), (3, .c (.one (.h 448 0 0 []))), (4, .c (.one (.v (.int .i64 vs4))))], [], [(448, .live ⟨.bool, .deep, 0, [], vr448⟩)]⟩ k' = f24L0 n (fun (xvs4 : Int) (xvs11 : Bool) (xvr448 : List Bool) => k' (.exit 0) ⟨[(0, .c (.one (.ro .bool vs0))), (3, .c (.one (.h 448 0 0 []))), (4, .c (.one (.v (.int .i64 xvs4)))), (11, .c (.one (.v (.bool xvs11))))], [], [(448, .live ⟨.bool, .deep, 0, [], xvr448⟩)]⟩) vs0 m vs4 vr448 := by
  intro m; induction m with
  | zero => intros; rfl
  | succ m ih =>
    intro vs4 vr448
    simp only [iter]
    rw [f24L0_b]
    simp only [ih, f24L0]

noncomputable def f24K0 {R : Type} (n : Nat) (k' : Ex → St → Option R) : Ex → St → Option R := (blockK 0 (seqK f24e f24k n (cAt [1,1,1] f24c) k'))
theorem f24K0_x0 {R : Type} (n : Nat) (k : List Dt → Option R) (a0 : List Bool) (vs0 : List Bool) (xvs4 : Int) (xvs11 : Bool) (xvr448 : List Bool) : f24K0 n (exitK f24e [.ro] [false] true [.tmp 2] [24] [.d (.sl .bool) a0] k) (.exit 0) ⟨[(0, .c (.one (.ro .bool vs0))), (3, .c (.one (.h 448 0 0 []))), (4, .c (.one (.v (.int .i64 xvs4)))), (11, .c (.one (.v (.bool xvs11))))], [], [(448, .live ⟨.bool, .deep, 0, [], xvr448⟩)]⟩ =
    (k [.d (.sl .bool) xvr448]) := by kernel_rfl

theorem f24_run {R : Type} (n : Nat) (k : List Dt → Option R) (a0 : List Bool) : evFn f24e f24k n f24c [.ro] [false] true [.tmp 2] [24] [.d (.sl .bool) a0] k =
    (cond ((decide ((a0.length : Int) = (a0.length : Int))) && ((decide ((0 : Int) ≤ (a0.length : Int))) && (decide ((a0.length : Int) ≤ (LIM : Int)))))
    (f24L0 n (fun (xvs4 : Int) (xvs11 : Bool) (xvr448 : List Bool) =>
      (k [.d (.sl .bool) xvr448])) a0 n (0 : Int) (List.replicate (Int.toNat (a0.length : Int)) false))
    none) := by
  refine Eq.trans (b := (cond ((decide ((a0.length : Int) = (a0.length : Int))) && ((decide ((0 : Int) ≤ (a0.length : Int))) && (decide ((a0.length : Int) ≤ (LIM : Int)))))
    (iter (fun st k => ev f24e f24k n (cAt [1,1,0,1,0,0] f24c) st k) n ⟨[(0, .c (.one (.ro .bool a0))), (3, .c (.one (.h 448 0 0 []))), (4, .c (.one (.v (.int .i64 (0 : Int)))))], [], [(448, .live ⟨.bool, .deep, 0, [], (List.replicate (Int.toNat (a0.length : Int)) false)⟩)]⟩ (f24K0 n (exitK f24e [.ro] [false] true [.tmp 2] [24] [.d (.sl .bool) a0] k)))
    none)) (by kernel_rfl) ?_
  simp only [f24L0_eq, f24K0_x0]
theorem f24_spec (a0 : List Bool) (hg : smL (fun _ => true) a0 = true) : ∃ keep rounds, ∀ {R : Type} (k : List Dt → Option R), evFn f24e keep rounds f24c [.ro] [false] true [.tmp 2] [24] [.d (.sl .bool) a0] k = k [.d (.sl .bool) a0] := by
  have hl : a0.length ≤ 1048576 := smL_len hg
  refine ⟨f24k, a0.length + 1, fun {R} k => ?_⟩
  rw [f24_run, mkOk hl]
  simp only [cond_true]
  have := loop_copy (xs := a0) (f := fun x => x) (F := fun m j out => f24L0 (a0.length + 1) (fun (xvs4 : Int) (xvs11 : Bool) (xvr448 : List Bool) => (k [.d (.sl .bool) xvr448])) a0 m (j : Int) out) (good := fun out => k [.d (.sl .bool) out]) false
    (fun m j out x hx hl' => by
      obtain ⟨h1, h0, hw, ht⟩ := idx (lt_of_get hx) (by omega)
      obtain ⟨h2, _, _, _⟩ := idx (show j < out.length by rw [hl']; exact lt_of_get hx) (by omega)
      simp only [f24L0, h1, h0, h2, hw, ht, atI_of (t := .bool) hx, Bool.and_self, cond_true])
    (fun m out => by simp only [f24L0, idxE, cond_false]) a0.length 0 (a0.length + 1) (by omega) (by omega)
  simpa using this

noncomputable def q24 : List Dt → Option (Bool × List Dt)
  | [.d (.sl .bool) a0] => some ((smL (fun _ => true) a0), [.d (.sl .bool) a0])
  | _ => none
noncomputable def s24 : Gm.Spec := Gm.Spec.of [.ro] [false] true q24
theorem good24 : Gm.Good Try.prog (24, s24) := by
  have hl : ∀ x ∈ ([] : List (Nat × Gm.Spec)), Gm.Good Try.prog x := fun _ h => by cases h
  refine ⟨⟨spec_ok (tab_ok.env hl) (tab.natl hl) Try.func24 (by kernel_rfl : Try.f24.body = some f24c) [24] (by kernel_rfl) ?_, _, Try.func24, by kernel_rfl, of_decide_eq_true (by kernel_rfl)⟩, Gm.Spec.of_natl _ _ _ _⟩
  intro ds outs h
  unfold q24 at h
  split at h
  · simp only [Option.some.injEq, Prod.mk.injEq] at h; obtain ⟨hg, h⟩ := h; cases h; exact f24_spec _ hg
  · cases h
/-! ### loop.example/g00465/laws.toStringS -/
noncomputable def f22c : Code := (Try.f22.body).getD .skip
def f22k : Nat → Kp := kat [⟨[0], [], [], []⟩, ⟨[0, 3], [], [], []⟩, ⟨[0, 3, 4], [], [], []⟩, ⟨[0, 3, 4, 11], [], [], []⟩, ⟨[0, 3, 4], [], [], []⟩, ⟨[0, 3, 4], [], [], []⟩, ⟨[2], [], [], []⟩]
noncomputable def f22e : Env := tab.env []
noncomputable def f22L0 {R : Type} (n : Nat) (x0 : Int → Bool → (List ByteArray) → Option R) (vs0 : List ByteArray) : Nat → Int → (List ByteArray) → Option R
  | 0, _, _ => none
  | m + 1, vs4, vr448 =>
    (cond (decide (vs4 < (vs0.length : Int)))
      (cond ((decide ((0 : Int) ≤ vs4)) && (decide (vs4 < (vs0.length : Int))))
        (cond ((decide ((0 : Int) ≤ vs4)) && (decide (vs4 < (vr448.length : Int))))
          (f22L0 n x0 vs0 m (IntKind.wrap .i64 (vs4 + (1 : Int))) (vr448.set (Int.toNat vs4) (atI (t := .str) vs0 (Int.toNat vs4))))
          none)
        none)
      (x0 vs4 (decide (vs4 < (vs0.length : Int))) vr448))
theorem f22L0_b {R : Type} (n : Nat) (k' : Ex → St → Option R) (vs0 : List ByteArray) (vs4 : Int) (vr448 : List ByteArray) : ev f22e f22k n (cAt [1,1,0,1,0,0] f22c) ⟨[(0, .c (.one (.ro .str vs0))), (3, .c (.one (.h 448 0 0 []))), (4, .c (.one (.v (.int .i64 vs4))))], [], [(448, .live ⟨.str, .deep, 0, [], vr448⟩)]⟩ k' =
    (cond (decide (vs4 < (vs0.length : Int)))
    (cond ((decide ((0 : Int) ≤ vs4)) && (decide (vs4 < (vs0.length : Int))))
      (cond ((decide ((0 : Int) ≤ vs4)) && (decide (vs4 < (vr448.length : Int))))
        (k' .normal ⟨[(0, .c (.one (.ro .str vs0))), (3, .c (.one (.h 448 0 0 []))), (4, .c (.one (.v (.int .i64 (IntKind.wrap .i64 (vs4 + (1 : Int)))))))], [], [(448, .live ⟨.str, .deep, 0, [], (vr448.set (Int.toNat vs4) (atI (t := .str) vs0 (Int.toNat vs4)))⟩)]⟩)
        none)
      none)
    (k' (.exit 0) ⟨[(0, .c (.one (.ro .str vs0))), (3, .c (.one (.h 448 0 0 []))), (4, .c (.one (.v (.int .i64 vs4)))), (11, .c (.one (.v (.bool (decide (vs4 < (vs0.length : Int)))))))], [], [(448, .live ⟨.str, .deep, 0, [], vr448⟩)]⟩)) := by kernel_rfl
theorem f22L0_eq {R : Type} (n : Nat) (k' : Ex → St → Option R) (vs0 : List ByteArray) : ∀ (m : Nat) (vs4 : Int) (vr448 : List ByteArray), iter (fun st k => ev f22e f22k n (cAt [1,1,0,1,0,0] f22c) st k) m ⟨[(0, .c (.one (.ro .str vs0))), (3, .c (.one (.h 448 0 0 []))), (4, .c (.one (.v (.int .i64 vs4))))], [], [(448, .live ⟨.str, .deep, 0, [], vr448⟩)]⟩ k' = f22L0 n (fun (xvs4 : Int) (xvs11 : Bool) (xvr448 : List ByteArray) => k' (.exit 0) ⟨[(0, .c (.one (.ro .str vs0))), (3, .c (.one (.h 448 0 0 []))), (4, .c (.one (.v (.int .i64 xvs4)))), (11, .c (.one (.v (.bool xvs11))))], [], [(448, .live ⟨.str, .deep, 0, [], xvr448⟩)]⟩) vs0 m vs4 vr448 := by
  intro m; induction m with
  | zero => intros; rfl
  | succ m ih =>
    intro vs4 vr448
    simp only [iter]
    rw [f22L0_b]
    simp only [ih, f22L0]

noncomputable def f22K0 {R : Type} (n : Nat) (k' : Ex → St → Option R) : Ex → St → Option R := (blockK 0 (seqK f22e f22k n (cAt [1,1,1] f22c) k'))
theorem f22K0_x0 {R : Type} (n : Nat) (k : List Dt → Option R) (a0 : List ByteArray) (vs0 : List ByteArray) (xvs4 : Int) (xvs11 : Bool) (xvr448 : List ByteArray) : f22K0 n (exitK f22e [.ro] [false] true [.tmp 2] [22] [.d (.sl .str) a0] k) (.exit 0) ⟨[(0, .c (.one (.ro .str vs0))), (3, .c (.one (.h 448 0 0 []))), (4, .c (.one (.v (.int .i64 xvs4)))), (11, .c (.one (.v (.bool xvs11))))], [], [(448, .live ⟨.str, .deep, 0, [], xvr448⟩)]⟩ =
    (k [.d (.sl .str) xvr448]) := by kernel_rfl

theorem f22_run {R : Type} (n : Nat) (k : List Dt → Option R) (a0 : List ByteArray) : evFn f22e f22k n f22c [.ro] [false] true [.tmp 2] [22] [.d (.sl .str) a0] k =
    (cond ((decide ((a0.length : Int) = (a0.length : Int))) && ((decide ((0 : Int) ≤ (a0.length : Int))) && (decide ((a0.length : Int) ≤ (LIM : Int)))))
    (f22L0 n (fun (xvs4 : Int) (xvs11 : Bool) (xvr448 : List ByteArray) =>
      (k [.d (.sl .str) xvr448])) a0 n (0 : Int) (List.replicate (Int.toNat (a0.length : Int)) ByteArray.empty))
    none) := by
  refine Eq.trans (b := (cond ((decide ((a0.length : Int) = (a0.length : Int))) && ((decide ((0 : Int) ≤ (a0.length : Int))) && (decide ((a0.length : Int) ≤ (LIM : Int)))))
    (iter (fun st k => ev f22e f22k n (cAt [1,1,0,1,0,0] f22c) st k) n ⟨[(0, .c (.one (.ro .str a0))), (3, .c (.one (.h 448 0 0 []))), (4, .c (.one (.v (.int .i64 (0 : Int)))))], [], [(448, .live ⟨.str, .deep, 0, [], (List.replicate (Int.toNat (a0.length : Int)) ByteArray.empty)⟩)]⟩ (f22K0 n (exitK f22e [.ro] [false] true [.tmp 2] [22] [.d (.sl .str) a0] k)))
    none)) (by kernel_rfl) ?_
  simp only [f22L0_eq, f22K0_x0]
theorem f22_spec (a0 : List ByteArray) (hg : smL smStr a0 = true) : ∃ keep rounds, ∀ {R : Type} (k : List Dt → Option R), evFn f22e keep rounds f22c [.ro] [false] true [.tmp 2] [22] [.d (.sl .str) a0] k = k [.d (.sl .str) a0] := by
  have hl : a0.length ≤ 1048576 := smL_len hg
  have hs := smL_all hg
  refine ⟨f22k, a0.length + 1, fun k => ?_⟩
  rw [f22_run, mkOk hl]
  simp only [cond_true]
  have := loop_copy (xs := a0) (f := fun x => x) (F := fun m j out => f22L0 (a0.length + 1) (fun (xvs4 : Int) (xvs11 : Bool) (xvr448 : List ByteArray) => (k [.d (.sl .str) xvr448])) a0 m (j : Int) out) (good := fun out => k [.d (.sl .str) out]) ByteArray.empty
    (fun m j out x hx hl' => by
      obtain ⟨h1, h0, hw, ht⟩ := idx (lt_of_get hx) (by omega)
      obtain ⟨h2, _, _, _⟩ := idx (show j < out.length by rw [hl']; exact lt_of_get hx) (by omega)
      have hx2 := List.all_eq_true.1 hs x (List.mem_of_getElem? hx)
      simp only [f22L0, h1, h0, h2, hw, ht, atI_of (t := .str) hx, Bool.and_self, cond_true])
    (fun m out => by simp only [f22L0, idxE, cond_false]) a0.length 0 (a0.length + 1) (by omega) (by omega)
  simpa using this

noncomputable def q22 : List Dt → Option (Bool × List Dt)
  | [.d (.sl .str) a0] => some ((smL smStr a0), [.d (.sl .str) a0])
  | _ => none
noncomputable def s22 : Gm.Spec := Gm.Spec.of [.ro] [false] true q22
theorem good22 : Gm.Good Try.prog (22, s22) := by
  have hl : ∀ x ∈ ([] : List (Nat × Gm.Spec)), Gm.Good Try.prog x := fun _ h => by cases h
  refine ⟨⟨spec_ok (tab_ok.env hl) (tab.natl hl) Try.func22 (by kernel_rfl : Try.f22.body = some f22c) [22] (by kernel_rfl) ?_, _, Try.func22, by kernel_rfl, of_decide_eq_true (by kernel_rfl)⟩, Gm.Spec.of_natl _ _ _ _⟩
  intro ds outs h
  unfold q22 at h
  split at h
  · simp only [Option.some.injEq, Prod.mk.injEq] at h; obtain ⟨hg, h⟩ := h; cases h; exact f22_spec _ hg
  · cases h
noncomputable def q7 : List Dt → Option (Bool × List Dt)
  | [.d .rule a0] => some ((sm_rule a0), [.d .rule a0])
  | _ => none
noncomputable def mu7 : List Dt → Nat
  | [.d .rule a0] => mt_rule a0
  | _ => 0
noncomputable def s7r (N : Nat) : Gm.Spec := Gm.Spec.of [.ro] [false] true (qlt mu7 N q7)
noncomputable def s7 : Gm.Spec := Gm.Spec.of [.ro] [false] true q7
noncomputable def q23 : List Dt → Option (Bool × List Dt)
  | [.d (.sl .rule) a0] => some ((smL sm_rule a0), [.d (.sl .rule) a0])
  | _ => none
noncomputable def mu23 : List Dt → Nat
  | [.d (.sl .rule) a0] => mtL_rule a0
  | _ => 0
noncomputable def s23r (N : Nat) : Gm.Spec := Gm.Spec.of [.ro] [false] true (qlt mu23 N q23)
/-! ### loop.example/g00465/laws.toRule -/
noncomputable def f7c : Code := (Try.f7.body).getD .skip
def f7k : Nat → Kp := kat [⟨[1, 2], [], [], []⟩, ⟨[1, 2, 3], [], [], []⟩, ⟨[1, 2, 3], [], [], []⟩, ⟨[1, 2, 3], [], [], []⟩, ⟨[1, 2, 3], [], [], []⟩, ⟨[1, 2, 3], [], [], []⟩, ⟨[1, 2, 3], [], [], []⟩, ⟨[2, 3], [], [], []⟩, ⟨[2], [], [], []⟩]
noncomputable def f7e (N : Nat) : Env := tab.env [(22, s22), (23, s23r N), (24, s24)]
theorem f7_run {R : Type} (N : Nat) (n : Nat) (k : List Dt → Option R) (a0 : RuleT) : evFn (f7e N) f7k n f7c [.ro] [false] true [.cell 2 31] [31] [.d .rule a0] k =
    (cond (smL smStr (RuleT.keys a0))
    (cond ((smL sm_rule (RuleT.kids a0)) && (Nat.blt (mtL_rule (RuleT.kids a0)) N))
      (cond (smL (fun _ => true) (RuleT.need a0))
        (k [.d .rule (⟨(RuleT.kind a0), (RuleT.keys a0), (RuleT.kids a0), (RuleT.need a0), (RuleT.low a0), (RuleT.high a0)⟩ : RuleT)])
        none)
      none)
    none) := by kernel_rfl
theorem f7_spec (N : Nat) (a0 : RuleT) (hg : sm_rule a0 = true) (hm : mu7 [.d .rule a0] = N) : ∃ keep rounds, ∀ {R : Type} (k : List Dt → Option R), evFn (f7e N) keep rounds f7c [.ro] [false] true [.cell 2 31] [31] [.d .rule a0] k = k [.d .rule a0] := by
  have hm : mt_rule a0 = N := hm
  subst hm
  have m1 : Nat.blt (mtL_rule a0.kids) (mt_rule a0) = true := by rw [Nat.blt_eq]; simp only [mtL_rule, mt_rule, nd_rule_def]; omega
  simp only [sm_rule_def, Bool.and_eq_true] at hg
  refine ⟨f7k, 0, fun {R} k => ?_⟩
  rw [f7_run]
  simp only [hg, m1, Bool.and_self, cond_true, eta_rule]


/-! ### loop.example/g00465/laws.toRuleS -/
noncomputable def f23c : Code := (Try.f23.body).getD .skip
def f23k : Nat → Kp := kat [⟨[0], [], [], []⟩, ⟨[0, 3], [], [], []⟩, ⟨[0, 3, 4], [], [], []⟩, ⟨[0, 3, 4, 11], [], [], []⟩, ⟨[0, 3, 4], [], [], []⟩, ⟨[0, 3, 4], [], [], []⟩, ⟨[2], [], [], []⟩]
noncomputable def f23e (N : Nat) : Env := tab.env [(7, s7r N)]
noncomputable def f23v0 (vr448 : List RuleT) (vs4 : Int) (vs0 : List RuleT) : List RuleT :=
  (vr448.set (Int.toNat vs4) (⟨(RuleT.kind (⟨(RuleT.kind (atI (t := .rule) vs0 (Int.toNat vs4))), (RuleT.keys (atI (t := .rule) vs0 (Int.toNat vs4))), (RuleT.kids (atI (t := .rule) vs0 (Int.toNat vs4))), (RuleT.need (atI (t := .rule) vs0 (Int.toNat vs4))), (RuleT.low (atI (t := .rule) vs0 (Int.toNat vs4))), (RuleT.high (atI (t := .rule) vs0 (Int.toNat vs4)))⟩ : RuleT)), (RuleT.keys (⟨(RuleT.kind (atI (t := .rule) vs0 (Int.toNat vs4))), (RuleT.keys (atI (t := .rule) vs0 (Int.toNat vs4))), (RuleT.kids (atI (t := .rule) vs0 (Int.toNat vs4))), (RuleT.need (atI (t := .rule) vs0 (Int.toNat vs4))), (RuleT.low (atI (t := .rule) vs0 (Int.toNat vs4))), (RuleT.high (atI (t := .rule) vs0 (Int.toNat vs4)))⟩ : RuleT)), (RuleT.kids (⟨(RuleT.kind (atI (t := .rule) vs0 (Int.toNat vs4))), (RuleT.keys (atI (t := .rule) vs0 (Int.toNat vs4))), (RuleT.kids (atI (t := .rule) vs0 (Int.toNat vs4))), (RuleT.need (atI (t := .rule) vs0 (Int.toNat vs4))), (RuleT.low (atI (t := .rule) vs0 (Int.toNat vs4))), (RuleT.high (atI (t := .rule) vs0 (Int.toNat vs4)))⟩ : RuleT)), (RuleT.need (⟨(RuleT.kind (atI (t := .rule) vs0 (Int.toNat vs4))), (RuleT.keys (atI (t := .rule) vs0 (Int.toNat vs4))), (RuleT.kids (atI (t := .rule) vs0 (Int.toNat vs4))), (RuleT.need (atI (t := .rule) vs0 (Int.toNat vs4))), (RuleT.low (atI (t := .rule) vs0 (Int.toNat vs4))), (RuleT.high (atI (t := .rule) vs0 (Int.toNat vs4)))⟩ : RuleT)), (RuleT.low (⟨(RuleT.kind (atI (t := .rule) vs0 (Int.toNat vs4))), (RuleT.keys (atI (t := .rule) vs0 (Int.toNat vs4))), (RuleT.kids (atI (t := .rule) vs0 (Int.toNat vs4))), (RuleT.need (atI (t := .rule) vs0 (Int.toNat vs4))), (RuleT.low (atI (t := .rule) vs0 (Int.toNat vs4))), (RuleT.high (atI (t := .rule) vs0 (Int.toNat vs4)))⟩ : RuleT)), (RuleT.high (⟨(RuleT.kind (atI (t := .rule) vs0 (Int.toNat vs4))), (RuleT.keys (atI (t := .rule) vs0 (Int.toNat vs4))), (RuleT.kids (atI (t := .rule) vs0 (Int.toNat vs4))), (RuleT.need (atI (t := .rule) vs0 (Int.toNat vs4))), (RuleT.low (atI (t := .rule) vs0 (Int.toNat vs4))), (RuleT.high (atI (t := .rule) vs0 (Int.toNat vs4)))⟩ : RuleT))⟩ : RuleT))
noncomputable def f23L0 {R : Type} (N : Nat) (n : Nat) (x0 : Int → Bool → (List RuleT) → Option R) (vs0 : List RuleT) : Nat → Int → (List RuleT) → Option R
  | 0, _, _ => none
  | m + 1, vs4, vr448 =>
    (cond (decide (vs4 < (vs0.length : Int)))
      (cond ((decide ((0 : Int) ≤ vs4)) && (decide (vs4 < (vs0.length : Int))))
        (cond ((sm_rule (⟨(RuleT.kind (atI (t := .rule) vs0 (Int.toNat vs4))), (RuleT.keys (atI (t := .rule) vs0 (Int.toNat vs4))), (RuleT.kids (atI (t := .rule) vs0 (Int.toNat vs4))), (RuleT.need (atI (t := .rule) vs0 (Int.toNat vs4))), (RuleT.low (atI (t := .rule) vs0 (Int.toNat vs4))), (RuleT.high (atI (t := .rule) vs0 (Int.toNat vs4)))⟩ : RuleT)) && (Nat.blt (mt_rule (⟨(RuleT.kind (atI (t := .rule) vs0 (Int.toNat vs4))), (RuleT.keys (atI (t := .rule) vs0 (Int.toNat vs4))), (RuleT.kids (atI (t := .rule) vs0 (Int.toNat vs4))), (RuleT.need (atI (t := .rule) vs0 (Int.toNat vs4))), (RuleT.low (atI (t := .rule) vs0 (Int.toNat vs4))), (RuleT.high (atI (t := .rule) vs0 (Int.toNat vs4)))⟩ : RuleT)) N))
          (cond ((decide ((0 : Int) ≤ vs4)) && (decide (vs4 < (vr448.length : Int))))
            (f23L0 N n x0 vs0 m (IntKind.wrap .i64 (vs4 + (1 : Int))) (f23v0 vr448 vs4 vs0))
            none)
          none)
        none)
      (x0 vs4 (decide (vs4 < (vs0.length : Int))) vr448))
theorem f23L0_b {R : Type} (N : Nat) (n : Nat) (k' : Ex → St → Option R) (vs0 : List RuleT) (vs4 : Int) (vr448 : List RuleT) : ev (f23e N) f23k n (cAt [1,1,0,1,0,0] f23c) ⟨[(0, .c (.one (.ro .rule vs0))), (3, .c (.one (.h 448 0 0 []))), (4, .c (.one (.v (.int .i64 vs4))))], [], [(448, .live ⟨.rule, .deep, 0, [], vr448⟩)]⟩ k' =
    (cond (decide (vs4 < (vs0.length : Int)))
    (cond ((decide ((0 : Int) ≤ vs4)) && (decide (vs4 < (vs0.length : Int))))
      (cond ((sm_rule (⟨(RuleT.kind (atI (t := .rule) vs0 (Int.toNat vs4))), (RuleT.keys (atI (t := .rule) vs0 (Int.toNat vs4))), (RuleT.kids (atI (t := .rule) vs0 (Int.toNat vs4))), (RuleT.need (atI (t := .rule) vs0 (Int.toNat vs4))), (RuleT.low (atI (t := .rule) vs0 (Int.toNat vs4))), (RuleT.high (atI (t := .rule) vs0 (Int.toNat vs4)))⟩ : RuleT)) && (Nat.blt (mt_rule (⟨(RuleT.kind (atI (t := .rule) vs0 (Int.toNat vs4))), (RuleT.keys (atI (t := .rule) vs0 (Int.toNat vs4))), (RuleT.kids (atI (t := .rule) vs0 (Int.toNat vs4))), (RuleT.need (atI (t := .rule) vs0 (Int.toNat vs4))), (RuleT.low (atI (t := .rule) vs0 (Int.toNat vs4))), (RuleT.high (atI (t := .rule) vs0 (Int.toNat vs4)))⟩ : RuleT)) N))
        (cond ((decide ((0 : Int) ≤ vs4)) && (decide (vs4 < (vr448.length : Int))))
          (k' .normal ⟨[(0, .c (.one (.ro .rule vs0))), (3, .c (.one (.h 448 0 0 []))), (4, .c (.one (.v (.int .i64 (IntKind.wrap .i64 (vs4 + (1 : Int)))))))], [], [(448, .live ⟨.rule, .deep, 0, [], (f23v0 vr448 vs4 vs0)⟩)]⟩)
          none)
        none)
      none)
    (k' (.exit 0) ⟨[(0, .c (.one (.ro .rule vs0))), (3, .c (.one (.h 448 0 0 []))), (4, .c (.one (.v (.int .i64 vs4)))), (11, .c (.one (.v (.bool (decide (vs4 < (vs0.length : Int)))))))], [], [(448, .live ⟨.rule, .deep, 0, [], vr448⟩)]⟩)) := by kernel_rfl
theorem f23L0_eq {R : Type} (N : Nat) (n : Nat) (k' : Ex → St → Option R) (vs0 : List RuleT) : ∀ (m : Nat) (vs4 : Int) (vr448 : List RuleT), iter (fun st k => ev (f23e N) f23k n (cAt [1,1,0,1,0,0] f23c) st k) m ⟨[(0, .c (.one (.ro .rule vs0))), (3, .c (.one (.h 448 0 0 []))), (4, .c (.one (.v (.int .i64 vs4))))], [], [(448, .live ⟨.rule, .deep, 0, [], vr448⟩)]⟩ k' = f23L0 N n (fun (xvs4 : Int) (xvs11 : Bool) (xvr448 : List RuleT) => k' (.exit 0) ⟨[(0, .c (.one (.ro .rule vs0))), (3, .c (.one (.h 448 0 0 []))), (4, .c (.one (.v (.int .i64 xvs4)))), (11, .c (.one (.v (.bool xvs11))))], [], [(448, .live ⟨.rule, .deep, 0, [], xvr448⟩)]⟩) vs0 m vs4 vr448 := by
  intro m; induction m with
  | zero => intros; rfl
  | succ m ih =>
    intro vs4 vr448
    simp only [iter]
    rw [f23L0_b]
    simp only [ih, f23L0]

noncomputable def f23K0 {R : Type} (N : Nat) (n : Nat) (k' : Ex → St → Option R) : Ex → St → Option R := (blockK 0 (seqK (f23e N) f23k n (cAt [1,1,1] f23c) k'))
theorem f23K0_x0 {R : Type} (N : Nat) (n : Nat) (k : List Dt → Option R) (a0 : List RuleT) (vs0 : List RuleT) (xvs4 : Int) (xvs11 : Bool) (xvr448 : List RuleT) : f23K0 N n (exitK (f23e N) [.ro] [false] true [.tmp 2] [29] [.d (.sl .rule) a0] k) (.exit 0) ⟨[(0, .c (.one (.ro .rule vs0))), (3, .c (.one (.h 448 0 0 []))), (4, .c (.one (.v (.int .i64 xvs4)))), (11, .c (.one (.v (.bool xvs11))))], [], [(448, .live ⟨.rule, .deep, 0, [], xvr448⟩)]⟩ =
    (k [.d (.sl .rule) xvr448]) := by kernel_rfl

theorem f23_run {R : Type} (N : Nat) (n : Nat) (k : List Dt → Option R) (a0 : List RuleT) : evFn (f23e N) f23k n f23c [.ro] [false] true [.tmp 2] [29] [.d (.sl .rule) a0] k =
    (cond ((decide ((a0.length : Int) = (a0.length : Int))) && ((decide ((0 : Int) ≤ (a0.length : Int))) && (decide ((a0.length : Int) ≤ (LIM : Int)))))
    (f23L0 N n (fun (xvs4 : Int) (xvs11 : Bool) (xvr448 : List RuleT) =>
      (k [.d (.sl .rule) xvr448])) a0 n (0 : Int) (List.replicate (Int.toNat (a0.length : Int)) (⟨(0 : Int), ([] : List ByteArray), ([] : List RuleT), ([] : List Bool), (0 : Int), (0 : Int)⟩ : RuleT)))
    none) := by
  refine Eq.trans (b := (cond ((decide ((a0.length : Int) = (a0.length : Int))) && ((decide ((0 : Int) ≤ (a0.length : Int))) && (decide ((a0.length : Int) ≤ (LIM : Int)))))
    (iter (fun st k => ev (f23e N) f23k n (cAt [1,1,0,1,0,0] f23c) st k) n ⟨[(0, .c (.one (.ro .rule a0))), (3, .c (.one (.h 448 0 0 []))), (4, .c (.one (.v (.int .i64 (0 : Int)))))], [], [(448, .live ⟨.rule, .deep, 0, [], (List.replicate (Int.toNat (a0.length : Int)) (⟨(0 : Int), ([] : List ByteArray), ([] : List RuleT), ([] : List Bool), (0 : Int), (0 : Int)⟩ : RuleT))⟩)]⟩ (f23K0 N n (exitK (f23e N) [.ro] [false] true [.tmp 2] [29] [.d (.sl .rule) a0] k)))
    none)) (by kernel_rfl) ?_
  simp only [f23L0_eq, f23K0_x0]
theorem f23_spec (N : Nat) (a0 : List RuleT) (hg : smL sm_rule a0 = true) (hm : mu23 [.d (.sl .rule) a0] = N) : ∃ keep rounds, ∀ {R : Type} (k : List Dt → Option R), evFn (f23e N) keep rounds f23c [.ro] [false] true [.tmp 2] [29] [.d (.sl .rule) a0] k = k [.d (.sl .rule) a0] := by
  have hm : mtL_rule a0 = N := hm
  subst hm
  have hl : a0.length ≤ 1048576 := smL_len hg
  have hs := smL_all hg
  refine ⟨f23k, a0.length + 1, fun {R} k => ?_⟩
  rw [f23_run, mkOk hl]
  simp only [cond_true]
  have := loop_copy (xs := a0) (f := fun x => x) (F := fun m j out => f23L0 (mtL_rule a0) (a0.length + 1) (fun (xvs4 : Int) (xvs11 : Bool) (xvr448 : List RuleT) => (k [.d (.sl .rule) xvr448])) a0 m (j : Int) out) (good := fun out => k [.d (.sl .rule) out]) (⟨(0 : Int), ([] : List ByteArray), ([] : List RuleT), ([] : List Bool), (0 : Int), (0 : Int)⟩ : RuleT)
    (fun m j out x hx hl' => by
      obtain ⟨h1, h0, hw, ht⟩ := idx (lt_of_get hx) (by omega)
      obtain ⟨h2, _, _, _⟩ := idx (show j < out.length by rw [hl']; exact lt_of_get hx) (by omega)
      have hmem := List.mem_of_getElem? hx
      have hx2 := List.all_eq_true.1 hs x hmem
      have hb : Nat.blt (mt_rule x) (mtL_rule a0) = true := by
        have := ndL_mem (f := nd_rule) hmem
        rw [Nat.blt_eq]; simp only [mt_rule, mtL_rule]; omega
      simp only [f23L0, f23v0, h1, h0, h2, hw, ht, atI_of (t := .rule) hx, Bool.and_self, cond_true, eta_rule, hx2, hb])
    (fun m out => by simp only [f23L0, idxE, cond_false]) a0.length 0 (a0.length + 1) (by omega) (by omega)
  simpa using this


theorem goods7 : ∀ x ∈ ([⟨7, [.ro], [false], true, mu7, q7⟩, ⟨23, [.ro], [false], true, mu23, q23⟩] : List Rc), Gm.SpecOk Try.prog x.f (Gm.Spec.of x.ms x.rs x.ow x.q) := by
  refine spec_recs _ fun N hr => ?_
  have hr1 : Gm.SpecOk Try.prog 7 (Gm.Spec.of [.ro] [false] true (qlt mu7 N q7)) := fun {R} => hr _ (.head _)
  have hr2 : Gm.SpecOk Try.prog 23 (Gm.Spec.of [.ro] [false] true (qlt mu23 N q23)) := fun {R} => hr _ (.tail _ (.head _))
  refine List.forall_mem_cons.2 ⟨?_, List.forall_mem_cons.2 ⟨?_, List.forall_mem_nil _⟩⟩
  · have hl : ∀ x ∈ ([(22, s22), (23, s23r N), (24, s24)] : List (Nat × Gm.Spec)), Gm.Good Try.prog x := List.forall_mem_cons.2 ⟨good22, List.forall_mem_cons.2 ⟨⟨⟨hr2, _, Try.func23, by kernel_rfl, of_decide_eq_true (by kernel_rfl)⟩, Gm.Spec.of_natl _ _ _ _⟩, List.forall_mem_cons.2 ⟨good24, List.forall_mem_nil _⟩⟩⟩
    show Gm.SpecOk Try.prog 7 (Gm.Spec.of [.ro] [false] true (qeq mu7 N q7))
    intro R
    refine spec_ok (E := f7e N) (tab_ok.env hl) (tab.natl hl) Try.func7 (by kernel_rfl : Try.f7.body = some f7c) [31] (by kernel_rfl) ?_
    intro ds outs h
    obtain ⟨h, hm⟩ := qeq_some h
    unfold q7 at h
    split at h
    · simp only [Option.some.injEq, Prod.mk.injEq] at h; obtain ⟨hg, h⟩ := h; cases h; exact f7_spec N _ hg hm
    · cases h
  · have hl : ∀ x ∈ ([(7, s7r N)] : List (Nat × Gm.Spec)), Gm.Good Try.prog x := List.forall_mem_cons.2 ⟨⟨⟨hr1, _, Try.func7, by kernel_rfl, of_decide_eq_true (by kernel_rfl)⟩, Gm.Spec.of_natl _ _ _ _⟩, List.forall_mem_nil _⟩
    show Gm.SpecOk Try.prog 23 (Gm.Spec.of [.ro] [false] true (qeq mu23 N q23))
    intro R
    refine spec_ok (E := f23e N) (tab_ok.env hl) (tab.natl hl) Try.func23 (by kernel_rfl : Try.f23.body = some f23c) [29] (by kernel_rfl) ?_
    intro ds outs h
    obtain ⟨h, hm⟩ := qeq_some h
    unfold q23 at h
    split at h
    · simp only [Option.some.injEq, Prod.mk.injEq] at h; obtain ⟨hg, h⟩ := h; cases h; exact f23_spec N _ hg hm
    · cases h
theorem good7 : Gm.Good Try.prog (7, s7) := ⟨⟨fun {R} => goods7 _ (.head _), _, Try.func7, by kernel_rfl, of_decide_eq_true (by kernel_rfl)⟩, Gm.Spec.of_natl _ _ _ _⟩
/-! ### loop.example/g00465/laws.eqStringS -/
noncomputable def f26c : Code := (Try.f26.body).getD .skip
def f26k : Nat → Kp := kat [⟨[0, 1], [], [], []⟩, ⟨[0, 1, 10], [], [], []⟩, ⟨[4], [], [], []⟩, ⟨[0, 1, 5], [], [], []⟩, ⟨[0, 1, 5, 14], [], [], []⟩, ⟨[0, 1, 5], [], [], []⟩, ⟨[0, 1, 5, 25], [], [], []⟩, ⟨[4], [], [], []⟩, ⟨[4], [], [], []⟩]
noncomputable def f26e : Env := tab.env []
noncomputable def f26L0 {R : Type} (n : Nat) (x0 : Option R) (x1 : Int → Bool → Option R) (vs0 : List ByteArray) (vs1 : List ByteArray) : Nat → Int → Option R
  | 0, _ => none
  | m + 1, vs5 =>
    (cond (decide (vs5 < (vs0.length : Int)))
      (cond ((decide ((0 : Int) ≤ vs5)) && (decide (vs5 < (vs0.length : Int))))
        (cond ((decide ((0 : Int) ≤ vs5)) && (decide (vs5 < (vs1.length : Int))))
          (cond (!(sEq (atI (t := .str) vs0 (Int.toNat vs5)) (atI (t := .str) vs1 (Int.toNat vs5))))
            (x0)
            (f26L0 n x0 x1 vs0 vs1 m (IntKind.wrap .i64 (vs5 + (1 : Int)))))
          none)
        none)
      (x1 vs5 (decide (vs5 < (vs0.length : Int)))))
theorem f26L0_b {R : Type} (n : Nat) (k' : Ex → St → Option R) (vs0 : List ByteArray) (vs1 : List ByteArray) (vs5 : Int) : ev f26e f26k n (cAt [1,1,0,1,0,0] f26c) ⟨[(0, .c (.one (.ro .str vs0))), (1, .c (.one (.ro .str vs1))), (5, .c (.one (.v (.int .i64 vs5))))], [], []⟩ k' =
    (cond (decide (vs5 < (vs0.length : Int)))
    (cond ((decide ((0 : Int) ≤ vs5)) && (decide (vs5 < (vs0.length : Int))))
      (cond ((decide ((0 : Int) ≤ vs5)) && (decide (vs5 < (vs1.length : Int))))
        (cond (!(sEq (atI (t := .str) vs0 (Int.toNat vs5)) (atI (t := .str) vs1 (Int.toNat vs5))))
          (k' .ret ⟨[(4, .c (.one (.v (.bool false))))], [], []⟩)
          (k' .normal ⟨[(0, .c (.one (.ro .str vs0))), (1, .c (.one (.ro .str vs1))), (5, .c (.one (.v (.int .i64 (IntKind.wrap .i64 (vs5 + (1 : Int)))))))], [], []⟩))
        none)
      none)
    (k' (.exit 0) ⟨[(0, .c (.one (.ro .str vs0))), (1, .c (.one (.ro .str vs1))), (5, .c (.one (.v (.int .i64 vs5)))), (14, .c (.one (.v (.bool (decide (vs5 < (vs0.length : Int)))))))], [], []⟩)) := by kernel_rfl
theorem f26L0_eq {R : Type} (n : Nat) (k' : Ex → St → Option R) (vs0 : List ByteArray) (vs1 : List ByteArray) : ∀ (m : Nat) (vs5 : Int), iter (fun st k => ev f26e f26k n (cAt [1,1,0,1,0,0] f26c) st k) m ⟨[(0, .c (.one (.ro .str vs0))), (1, .c (.one (.ro .str vs1))), (5, .c (.one (.v (.int .i64 vs5))))], [], []⟩ k' = f26L0 n (k' .ret ⟨[(4, .c (.one (.v (.bool false))))], [], []⟩) (fun (xvs5 : Int) (xvs14 : Bool) => k' (.exit 0) ⟨[(0, .c (.one (.ro .str vs0))), (1, .c (.one (.ro .str vs1))), (5, .c (.one (.v (.int .i64 xvs5)))), (14, .c (.one (.v (.bool xvs14))))], [], []⟩) vs0 vs1 m vs5 := by
  intro m; induction m with
  | zero => intros; rfl
  | succ m ih =>
    intro vs5
    simp only [iter]
    rw [f26L0_b]
    simp only [ih, f26L0]

noncomputable def f26K0 {R : Type} (n : Nat) (k' : Ex → St → Option R) : Ex → St → Option R := (blockK 0 (seqK f26e f26k n (cAt [1,1,1] f26c) k'))
theorem f26K0_x0 {R : Type} (n : Nat) (k : List Dt → Option R) (a0 : List ByteArray) (a1 : List ByteArray)  : f26K0 n (exitK f26e [.ro, .ro] [false] true [.tmp 4] [4] [.d (.sl .str) a0, .d (.sl .str) a1] k) .ret ⟨[(4, .c (.one (.v (.bool false))))], [], []⟩ =
    (k [.d .bool false]) := by kernel_rfl
theorem f26K0_x1 {R : Type} (n : Nat) (k : List Dt → Option R) (a0 : List ByteArray) (a1 : List ByteArray) (vs0 : List ByteArray) (vs1 : List ByteArray) (xvs5 : Int) (xvs14 : Bool) : f26K0 n (exitK f26e [.ro, .ro] [false] true [.tmp 4] [4] [.d (.sl .str) a0, .d (.sl .str) a1] k) (.exit 0) ⟨[(0, .c (.one (.ro .str vs0))), (1, .c (.one (.ro .str vs1))), (5, .c (.one (.v (.int .i64 xvs5)))), (14, .c (.one (.v (.bool xvs14))))], [], []⟩ =
    (k [.d .bool true]) := by kernel_rfl

theorem f26_run {R : Type} (n : Nat) (k : List Dt → Option R) (a0 : List ByteArray) (a1 : List ByteArray) : evFn f26e f26k n f26c [.ro, .ro] [false] true [.tmp 4] [4] [.d (.sl .str) a0, .d (.sl .str) a1] k =
    (cond ((a0.length : Int) != (a1.length : Int))
    (k [.d .bool false])
    (f26L0 n (k [.d .bool false]) (fun (xvs5 : Int) (xvs14 : Bool) =>
      (k [.d .bool true])) a0 a1 n (0 : Int))) := by
  refine Eq.trans (b := (cond ((a0.length : Int) != (a1.length : Int))
    (k [.d .bool false])
    (iter (fun st k => ev f26e f26k n (cAt [1,1,0,1,0,0] f26c) st k) n ⟨[(0, .c (.one (.ro .str a0))), (1, .c (.one (.ro .str a1))), (5, .c (.one (.v (.int .i64 (0 : Int)))))], [], []⟩ (f26K0 n (exitK f26e [.ro, .ro] [false] true [.tmp 4] [4] [.d (.sl .str) a0, .d (.sl .str) a1] k))))) (by kernel_rfl) ?_
  simp only [f26L0_eq, f26K0_x0, f26K0_x1]
theorem f26_spec (a0 : List ByteArray) (a1 : List ByteArray) (hg : sm2 (smL smStr) a0 a1 = true) : ∃ keep rounds, ∀ {R : Type} (k : List Dt → Option R), evFn f26e keep rounds f26c [.ro, .ro] [false] true [.tmp 4] [4] [.d (.sl .str) a0, .d (.sl .str) a1] k = k [.d .bool (eqD a0 a1)] := by
  simp only [sm2, Bool.and_eq_true] at hg
  obtain ⟨hg0, hg1⟩ := hg
  have hl : a0.length ≤ 1048576 := smL_len hg0
  refine ⟨f26k, a0.length + 1, fun k => ?_⟩
  rw [f26_run]
  by_cases hc : a0.length = a1.length
  · have hc' : ((a0.length : Int) != (a1.length : Int)) = false := by simp [hc]
    simp only [hc', cond_false]
    refine Eq.trans (loop_idx (n := a0.length) (F := fun m i => f26L0 (a0.length + 1) _ _ a0 a1 m i) (p := fun j => sEq (atI (t := .str) a0 j) (atI (t := .str) a1 j)) (good := k [.d .bool true]) (bad := k [.d .bool false])
      (fun m j hj => ?_) (fun m => by simp only [f26L0, idxE, cond_false]) a0.length 0 (a0.length + 1) (by omega) (by omega)) ?_
    · obtain ⟨h1, h0, hw, ht⟩ := idx hj (by omega)
      obtain ⟨h2, _, _, _⟩ := idx (show j < a1.length by omega) (by omega)
      simp only [f26L0, h1, h0, h2, hw, ht, Bool.and_self, cond_true]
      cases sEq (atI (t := .str) a0 j) (atI (t := .str) a1 j) <;> rfl
    · rw [allN_eq hc (fun j x y hx hy => by rw [atI_of (t := .str) hx, atI_of (t := .str) hy, ← eqD_str])]
      cases eqD a0 a1 <;> rfl
  · simp only [bneLen hc, cond_true]
    rw [eqD_ne (fun e => hc (by rw [e]))]

noncomputable def q26 : List Dt → Option (Bool × List Dt)
  | [.d (.sl .str) a0, .d (.sl .str) a1] => some ((sm2 (smL smStr) a0 a1), [.d .bool (eqD a0 a1)])
  | _ => none
noncomputable def s26 : Gm.Spec := Gm.Spec.of [.ro, .ro] [false] true q26
theorem good26 : Gm.Good Try.prog (26, s26) := by
  have hl : ∀ x ∈ ([] : List (Nat × Gm.Spec)), Gm.Good Try.prog x := fun _ h => by cases h
  refine ⟨⟨spec_ok (tab_ok.env hl) (tab.natl hl) Try.func26 (by kernel_rfl : Try.f26.body = some f26c) [4] (by kernel_rfl) ?_, _, Try.func26, by kernel_rfl, of_decide_eq_true (by kernel_rfl)⟩, Gm.Spec.of_natl _ _ _ _⟩
  intro ds outs h
  unfold q26 at h
  split at h
  · simp only [Option.some.injEq, Prod.mk.injEq] at h; obtain ⟨hg, h⟩ := h; cases h; exact f26_spec _ _ hg
  · cases h
/-! ### loop.example/g00465/laws.eqBoolS -/
noncomputable def f28c : Code := (Try.f28.body).getD .skip
def f28k : Nat → Kp := kat [⟨[0, 1], [], [], []⟩, ⟨[0, 1, 10], [], [], []⟩, ⟨[4], [], [], []⟩, ⟨[0, 1, 5], [], [], []⟩, ⟨[0, 1, 5, 14], [], [], []⟩, ⟨[0, 1, 5], [], [], []⟩, ⟨[0, 1, 5, 25], [], [], []⟩, ⟨[4], [], [], []⟩, ⟨[4], [], [], []⟩]
noncomputable def f28e : Env := tab.env []
noncomputable def f28L0 {R : Type} (n : Nat) (x0 : Option R) (x1 : Int → Bool → Option R) (vs0 : List Bool) (vs1 : List Bool) : Nat → Int → Option R
  | 0, _ => none
  | m + 1, vs5 =>
    (cond (decide (vs5 < (vs0.length : Int)))
      (cond ((decide ((0 : Int) ≤ vs5)) && (decide (vs5 < (vs0.length : Int))))
        (cond ((decide ((0 : Int) ≤ vs5)) && (decide (vs5 < (vs1.length : Int))))
          (cond (!((atI (t := .bool) vs0 (Int.toNat vs5)) == (atI (t := .bool) vs1 (Int.toNat vs5))))
            (x0)
            (f28L0 n x0 x1 vs0 vs1 m (IntKind.wrap .i64 (vs5 + (1 : Int)))))
          none)
        none)
      (x1 vs5 (decide (vs5 < (vs0.length : Int)))))
theorem f28L0_b {R : Type} (n : Nat) (k' : Ex → St → Option R) (vs0 : List Bool) (vs1 : List Bool) (vs5 : Int) : ev f28e f28k n (cAt [1,1,0,1,0,0] f28c) ⟨[(0, .c (.one (.ro .bool vs0))), (1, .c (.one (.ro .bool vs1))), (5, .c (.one (.v (.int .i64 vs5))))], [], []⟩ k' =
    (cond (decide (vs5 < (vs0.length : Int)))
    (cond ((decide ((0 : Int) ≤ vs5)) && (decide (vs5 < (vs0.length : Int))))
      (cond ((decide ((0 : Int) ≤ vs5)) && (decide (vs5 < (vs1.length : Int))))
        (cond (!((atI (t := .bool) vs0 (Int.toNat vs5)) == (atI (t := .bool) vs1 (Int.toNat vs5))))
          (k' .ret ⟨[(4, .c (.one (.v (.bool false))))], [], []⟩)
          (k' .normal ⟨[(0, .c (.one (.ro .bool vs0))), (1, .c (.one (.ro .bool vs1))), (5, .c (.one (.v (.int .i64 (IntKind.wrap .i64 (vs5 + (1 : Int)))))))], [], []⟩))
        none)
      none)
    (k' (.exit 0) ⟨[(0, .c (.one (.ro .bool vs0))), (1, .c (.one (.ro .bool vs1))), (5, .c (.one (.v (.int .i64 vs5)))), (14, .c (.one (.v (.bool (decide (vs5 < (vs0.length : Int)))))))], [], []⟩)) := by kernel_rfl
theorem f28L0_eq {R : Type} (n : Nat) (k' : Ex → St → Option R) (vs0 : List Bool) (vs1 : List Bool) : ∀ (m : Nat) (vs5 : Int), iter (fun st k => ev f28e f28k n (cAt [1,1,0,1,0,0] f28c) st k) m ⟨[(0, .c (.one (.ro .bool vs0))), (1, .c (.one (.ro .bool vs1))), (5, .c (.one (.v (.int .i64 vs5))))], [], []⟩ k' = f28L0 n (k' .ret ⟨[(4, .c (.one (.v (.bool false))))], [], []⟩) (fun (xvs5 : Int) (xvs14 : Bool) => k' (.exit 0) ⟨[(0, .c (.one (.ro .bool vs0))), (1, .c (.one (.ro .bool vs1))), (5, .c (.one (.v (.int .i64 xvs5)))), (14, .c (.one (.v (.bool xvs14))))], [], []⟩) vs0 vs1 m vs5 := by
  intro m; induction m with
  | zero => intros; rfl
  | succ m ih =>
    intro vs5
    simp only [iter]
    rw [f28L0_b]
    simp only [ih, f28L0]

noncomputable def f28K0 {R : Type} (n : Nat) (k' : Ex → St → Option R) : Ex → St → Option R := (blockK 0 (seqK f28e f28k n (cAt [1,1,1] f28c) k'))
theorem f28K0_x0 {R : Type} (n : Nat) (k : List Dt → Option R) (a0 : List Bool) (a1 : List Bool)  : f28K0 n (exitK f28e [.ro, .ro] [false] true [.tmp 4] [4] [.d (.sl .bool) a0, .d (.sl .bool) a1] k) .ret ⟨[(4, .c (.one (.v (.bool false))))], [], []⟩ =
    (k [.d .bool false]) := by kernel_rfl
theorem f28K0_x1 {R : Type} (n : Nat) (k : List Dt → Option R) (a0 : List Bool) (a1 : List Bool) (vs0 : List Bool) (vs1 : List Bool) (xvs5 : Int) (xvs14 : Bool) : f28K0 n (exitK f28e [.ro, .ro] [false] true [.tmp 4] [4] [.d (.sl .bool) a0, .d (.sl .bool) a1] k) (.exit 0) ⟨[(0, .c (.one (.ro .bool vs0))), (1, .c (.one (.ro .bool vs1))), (5, .c (.one (.v (.int .i64 xvs5)))), (14, .c (.one (.v (.bool xvs14))))], [], []⟩ =
    (k [.d .bool true]) := by kernel_rfl

theorem f28_run {R : Type} (n : Nat) (k : List Dt → Option R) (a0 : List Bool) (a1 : List Bool) : evFn f28e f28k n f28c [.ro, .ro] [false] true [.tmp 4] [4] [.d (.sl .bool) a0, .d (.sl .bool) a1] k =
    (cond ((a0.length : Int) != (a1.length : Int))
    (k [.d .bool false])
    (f28L0 n (k [.d .bool false]) (fun (xvs5 : Int) (xvs14 : Bool) =>
      (k [.d .bool true])) a0 a1 n (0 : Int))) := by
  refine Eq.trans (b := (cond ((a0.length : Int) != (a1.length : Int))
    (k [.d .bool false])
    (iter (fun st k => ev f28e f28k n (cAt [1,1,0,1,0,0] f28c) st k) n ⟨[(0, .c (.one (.ro .bool a0))), (1, .c (.one (.ro .bool a1))), (5, .c (.one (.v (.int .i64 (0 : Int)))))], [], []⟩ (f28K0 n (exitK f28e [.ro, .ro] [false] true [.tmp 4] [4] [.d (.sl .bool) a0, .d (.sl .bool) a1] k))))) (by kernel_rfl) ?_
  simp only [f28L0_eq, f28K0_x0, f28K0_x1]
theorem f28_spec (a0 : List Bool) (a1 : List Bool) (hg : sm2 (smL (fun _ => true)) a0 a1 = true) : ∃ keep rounds, ∀ {R : Type} (k : List Dt → Option R), evFn f28e keep rounds f28c [.ro, .ro] [false] true [.tmp 4] [4] [.d (.sl .bool) a0, .d (.sl .bool) a1] k = k [.d .bool (eqD a0 a1)] := by
  simp only [sm2, Bool.and_eq_true] at hg
  obtain ⟨hg0, hg1⟩ := hg
  have hl : a0.length ≤ 1048576 := smL_len hg0
  refine ⟨f28k, a0.length + 1, fun {R} k => ?_⟩
  rw [f28_run]
  by_cases hc : a0.length = a1.length
  · have hc' : ((a0.length : Int) != (a1.length : Int)) = false := by simp [hc]
    simp only [hc', cond_false]
    refine Eq.trans (loop_idx (n := a0.length) (F := fun m i => f28L0 (a0.length + 1) _ _ a0 a1 m i) (p := fun j => ((atI (t := .bool) a0 j : Bool) == (atI (t := .bool) a1 j : Bool))) (good := k [.d .bool true]) (bad := k [.d .bool false])
      (fun m j hj => ?_) (fun m => by simp only [f28L0, idxE, cond_false]) a0.length 0 (a0.length + 1) (by omega) (by omega)) ?_
    · obtain ⟨h1, h0, hw, ht⟩ := idx hj (by omega)
      obtain ⟨h2, _, _, _⟩ := idx (show j < a1.length by omega) (by omega)
      simp only [f28L0, h1, h0, h2, hw, ht, Bool.and_self, cond_true, bne]
      cases ((atI (t := .bool) a0 j : Bool) == (atI (t := .bool) a1 j : Bool)) <;> rfl
    · rw [allN_eq hc (fun j x y hx hy => by rw [atI_of (t := .bool) hx, atI_of (t := .bool) hy, ← eqD_bool])]
      cases eqD a0 a1 <;> rfl
  · simp only [bneLen hc, cond_true]
    rw [eqD_ne (fun e => hc (by rw [e]))]

noncomputable def q28 : List Dt → Option (Bool × List Dt)
  | [.d (.sl .bool) a0, .d (.sl .bool) a1] => some ((sm2 (smL (fun _ => true)) a0 a1), [.d .bool (eqD a0 a1)])
  | _ => none
noncomputable def s28 : Gm.Spec := Gm.Spec.of [.ro, .ro] [false] true q28
theorem good28 : Gm.Good Try.prog (28, s28) := by
  have hl : ∀ x ∈ ([] : List (Nat × Gm.Spec)), Gm.Good Try.prog x := fun _ h => by cases h
  refine ⟨⟨spec_ok (tab_ok.env hl) (tab.natl hl) Try.func28 (by kernel_rfl : Try.f28.body = some f28c) [4] (by kernel_rfl) ?_, _, Try.func28, by kernel_rfl, of_decide_eq_true (by kernel_rfl)⟩, Gm.Spec.of_natl _ _ _ _⟩
  intro ds outs h
  unfold q28 at h
  split at h
  · simp only [Option.some.injEq, Prod.mk.injEq] at h; obtain ⟨hg, h⟩ := h; cases h; exact f28_spec _ _ hg
  · cases h
noncomputable def q9 : List Dt → Option (Bool × List Dt)
  | [.d .rule a0, .d .rule a1] => some ((sm2 sm_rule a0 a1), [.d .bool (eqD a0 a1)])
  | _ => none
noncomputable def mu9 : List Dt → Nat
  | [.d .rule a0, .d .rule a1] => me_rule a0 a1
  | _ => 0
noncomputable def s9r (N : Nat) : Gm.Spec := Gm.Spec.of [.ro, .ro] [false] true (qlt mu9 N q9)
noncomputable def s9 : Gm.Spec := Gm.Spec.of [.ro, .ro] [false] true q9
noncomputable def q27 : List Dt → Option (Bool × List Dt)
  | [.d (.sl .rule) a0, .d (.sl .rule) a1] => some ((sm2 (smL sm_rule) a0 a1), [.d .bool (eqD a0 a1)])
  | _ => none
noncomputable def mu27 : List Dt → Nat
  | [.d (.sl .rule) a0, .d (.sl .rule) a1] => meL_rule a0 a1
  | _ => 0
noncomputable def s27r (N : Nat) : Gm.Spec := Gm.Spec.of [.ro, .ro] [false] true (qlt mu27 N q27)
/-! ### loop.example/g00465/laws.eqRule -/
noncomputable def f9c : Code := (Try.f9.body).getD .skip
def f9k : Nat → Kp := kat [⟨[2, 3], [], [], []⟩, ⟨[2, 3, 9], [], [], []⟩, ⟨[4], [], [], []⟩, ⟨[2, 3, 15], [], [], []⟩, ⟨[4], [], [], []⟩, ⟨[2, 3, 21], [], [], []⟩, ⟨[4], [], [], []⟩, ⟨[2, 3, 27], [], [], []⟩, ⟨[4], [], [], []⟩, ⟨[2, 3, 32], [], [], []⟩, ⟨[4], [], [], []⟩, ⟨[37], [], [], []⟩, ⟨[4], [], [], []⟩, ⟨[4], [], [], []⟩]
noncomputable def f9e (N : Nat) : Env := tab.env [(26, s26), (27, s27r N), (28, s28)]
theorem f9_run {R : Type} (N : Nat) (n : Nat) (k : List Dt → Option R) (a0 : RuleT) (a1 : RuleT) : evFn (f9e N) f9k n f9c [.ro, .ro] [false] true [.tmp 4] [4] [.d .rule a0, .d .rule a1] k =
    (cond ((RuleT.kind a0) != (RuleT.kind a1))
    (k [.d .bool false])
    (cond (sm2 (smL smStr) (RuleT.keys a0) (RuleT.keys a1))
      (cond (!(eqD (RuleT.keys a0) (RuleT.keys a1)))
        (k [.d .bool false])
        (cond ((sm2 (smL sm_rule) (RuleT.kids a0) (RuleT.kids a1)) && (Nat.blt (meL_rule (RuleT.kids a0) (RuleT.kids a1)) N))
          (cond (!(eqD (RuleT.kids a0) (RuleT.kids a1)))
            (k [.d .bool false])
            (cond (sm2 (smL (fun _ => true)) (RuleT.need a0) (RuleT.need a1))
              (cond (!(eqD (RuleT.need a0) (RuleT.need a1)))
                (k [.d .bool false])
                (cond ((RuleT.low a0) != (RuleT.low a1))
                  (k [.d .bool false])
                  (cond ((RuleT.high a0) != (RuleT.high a1))
                    (k [.d .bool false])
                    (k [.d .bool true]))))
              none))
          none))
      none)) := by kernel_rfl
theorem f9_spec (N : Nat) (a0 : RuleT) (a1 : RuleT) (hg : sm2 sm_rule a0 a1 = true) (hm : mu9 [.d .rule a0, .d .rule a1] = N) : ∃ keep rounds, ∀ {R : Type} (k : List Dt → Option R), evFn (f9e N) keep rounds f9c [.ro, .ro] [false] true [.tmp 4] [4] [.d .rule a0, .d .rule a1] k = k [.d .bool (eqD a0 a1)] := by
  have hm : me_rule a0 a1 = N := hm
  subst hm
  have m1 : Nat.blt (meL_rule a0.kids a1.kids) (me_rule a0 a1) = true := by rw [Nat.blt_eq]; simp only [meL_rule, me_rule, nd_rule_def]; omega
  simp only [sm2, sm_rule_def, Bool.and_eq_true] at hg
  refine ⟨f9k, 0, fun {R} k => ?_⟩
  rw [f9_run, eqD_rule]
  simp only [bne, sm2, hg, m1, Bool.and_self, Bool.true_and, cond_true]
  cases (a0.kind == a1.kind) <;> cases eqD a0.keys a1.keys <;> cases eqD a0.kids a1.kids <;> cases eqD a0.need a1.need <;> cases (a0.low == a1.low) <;> cases (a0.high == a1.high) <;> rfl


/-! ### loop.example/g00465/laws.eqRuleS -/
noncomputable def f27c : Code := (Try.f27.body).getD .skip
def f27k : Nat → Kp := kat [⟨[0, 1], [], [], []⟩, ⟨[0, 1, 10], [], [], []⟩, ⟨[4], [], [], []⟩, ⟨[0, 1, 5], [], [], []⟩, ⟨[0, 1, 5, 14], [], [], []⟩, ⟨[0, 1, 5], [], [], []⟩, ⟨[0, 1, 5, 26], [], [], []⟩, ⟨[4], [], [], []⟩, ⟨[4], [], [], []⟩]
noncomputable def f27e (N : Nat) : Env := tab.env [(9, s9r N)]
noncomputable def f27L0 {R : Type} (N : Nat) (n : Nat) (x0 : Option R) (x1 : Int → Bool → Option R) (vs0 : List RuleT) (vs1 : List RuleT) : Nat → Int → Option R
  | 0, _ => none
  | m + 1, vs5 =>
    (cond (decide (vs5 < (vs0.length : Int)))
      (cond ((decide ((0 : Int) ≤ vs5)) && (decide (vs5 < (vs0.length : Int))))
        (cond ((decide ((0 : Int) ≤ vs5)) && (decide (vs5 < (vs1.length : Int))))
          (cond ((sm2 sm_rule (⟨(RuleT.kind (atI (t := .rule) vs0 (Int.toNat vs5))), (RuleT.keys (atI (t := .rule) vs0 (Int.toNat vs5))), (RuleT.kids (atI (t := .rule) vs0 (Int.toNat vs5))), (RuleT.need (atI (t := .rule) vs0 (Int.toNat vs5))), (RuleT.low (atI (t := .rule) vs0 (Int.toNat vs5))), (RuleT.high (atI (t := .rule) vs0 (Int.toNat vs5)))⟩ : RuleT) (⟨(RuleT.kind (atI (t := .rule) vs1 (Int.toNat vs5))), (RuleT.keys (atI (t := .rule) vs1 (Int.toNat vs5))), (RuleT.kids (atI (t := .rule) vs1 (Int.toNat vs5))), (RuleT.need (atI (t := .rule) vs1 (Int.toNat vs5))), (RuleT.low (atI (t := .rule) vs1 (Int.toNat vs5))), (RuleT.high (atI (t := .rule) vs1 (Int.toNat vs5)))⟩ : RuleT)) && (Nat.blt (me_rule (⟨(RuleT.kind (atI (t := .rule) vs0 (Int.toNat vs5))), (RuleT.keys (atI (t := .rule) vs0 (Int.toNat vs5))), (RuleT.kids (atI (t := .rule) vs0 (Int.toNat vs5))), (RuleT.need (atI (t := .rule) vs0 (Int.toNat vs5))), (RuleT.low (atI (t := .rule) vs0 (Int.toNat vs5))), (RuleT.high (atI (t := .rule) vs0 (Int.toNat vs5)))⟩ : RuleT) (⟨(RuleT.kind (atI (t := .rule) vs1 (Int.toNat vs5))), (RuleT.keys (atI (t := .rule) vs1 (Int.toNat vs5))), (RuleT.kids (atI (t := .rule) vs1 (Int.toNat vs5))), (RuleT.need (atI (t := .rule) vs1 (Int.toNat vs5))), (RuleT.low (atI (t := .rule) vs1 (Int.toNat vs5))), (RuleT.high (atI (t := .rule) vs1 (Int.toNat vs5)))⟩ : RuleT)) N))
            (cond (!(eqD (⟨(RuleT.kind (atI (t := .rule) vs0 (Int.toNat vs5))), (RuleT.keys (atI (t := .rule) vs0 (Int.toNat vs5))), (RuleT.kids (atI (t := .rule) vs0 (Int.toNat vs5))), (RuleT.need (atI (t := .rule) vs0 (Int.toNat vs5))), (RuleT.low (atI (t := .rule) vs0 (Int.toNat vs5))), (RuleT.high (atI (t := .rule) vs0 (Int.toNat vs5)))⟩ : RuleT) (⟨(RuleT.kind (atI (t := .rule) vs1 (Int.toNat vs5))), (RuleT.keys (atI (t := .rule) vs1 (Int.toNat vs5))), (RuleT.kids (atI (t := .rule) vs1 (Int.toNat vs5))), (RuleT.need (atI (t := .rule) vs1 (Int.toNat vs5))), (RuleT.low (atI (t := .rule) vs1 (Int.toNat vs5))), (RuleT.high (atI (t := .rule) vs1 (Int.toNat vs5)))⟩ : RuleT)))
              (x0)
              (f27L0 N n x0 x1 vs0 vs1 m (IntKind.wrap .i64 (vs5 + (1 : Int)))))
            none)
          none)
        none)
      (x1 vs5 (decide (vs5 < (vs0.length : Int)))))
theorem f27L0_b {R : Type} (N : Nat) (n : Nat) (k' : Ex → St → Option R) (vs0 : List RuleT) (vs1 : List RuleT) (vs5 : Int) : ev (f27e N) f27k n (cAt [1,1,0,1,0,0] f27c) ⟨[(0, .c (.one (.ro .rule vs0))), (1, .c (.one (.ro .rule vs1))), (5, .c (.one (.v (.int .i64 vs5))))], [], []⟩ k' =
    (cond (decide (vs5 < (vs0.length : Int)))
    (cond ((decide ((0 : Int) ≤ vs5)) && (decide (vs5 < (vs0.length : Int))))
      (cond ((decide ((0 : Int) ≤ vs5)) && (decide (vs5 < (vs1.length : Int))))
        (cond ((sm2 sm_rule (⟨(RuleT.kind (atI (t := .rule) vs0 (Int.toNat vs5))), (RuleT.keys (atI (t := .rule) vs0 (Int.toNat vs5))), (RuleT.kids (atI (t := .rule) vs0 (Int.toNat vs5))), (RuleT.need (atI (t := .rule) vs0 (Int.toNat vs5))), (RuleT.low (atI (t := .rule) vs0 (Int.toNat vs5))), (RuleT.high (atI (t := .rule) vs0 (Int.toNat vs5)))⟩ : RuleT) (⟨(RuleT.kind (atI (t := .rule) vs1 (Int.toNat vs5))), (RuleT.keys (atI (t := .rule) vs1 (Int.toNat vs5))), (RuleT.kids (atI (t := .rule) vs1 (Int.toNat vs5))), (RuleT.need (atI (t := .rule) vs1 (Int.toNat vs5))), (RuleT.low (atI (t := .rule) vs1 (Int.toNat vs5))), (RuleT.high (atI (t := .rule) vs1 (Int.toNat vs5)))⟩ : RuleT)) && (Nat.blt (me_rule (⟨(RuleT.kind (atI (t := .rule) vs0 (Int.toNat vs5))), (RuleT.keys (atI (t := .rule) vs0 (Int.toNat vs5))), (RuleT.kids (atI (t := .rule) vs0 (Int.toNat vs5))), (RuleT.need (atI (t := .rule) vs0 (Int.toNat vs5))), (RuleT.low (atI (t := .rule) vs0 (Int.toNat vs5))), (RuleT.high (atI (t := .rule) vs0 (Int.toNat vs5)))⟩ : RuleT) (⟨(RuleT.kind (atI (t := .rule) vs1 (Int.toNat vs5))), (RuleT.keys (atI (t := .rule) vs1 (Int.toNat vs5))), (RuleT.kids (atI (t := .rule) vs1 (Int.toNat vs5))), (RuleT.need (atI (t := .rule) vs1 (Int.toNat vs5))), (RuleT.low (atI (t := .rule) vs1 (Int.toNat vs5))), (RuleT.high (atI (t := .rule) vs1 (Int.toNat vs5)))⟩ : RuleT)) N))
          (cond (!(eqD (⟨(RuleT.kind (atI (t := .rule) vs0 (Int.toNat vs5))), (RuleT.keys (atI (t := .rule) vs0 (Int.toNat vs5))), (RuleT.kids (atI (t := .rule) vs0 (Int.toNat vs5))), (RuleT.need (atI (t := .rule) vs0 (Int.toNat vs5))), (RuleT.low (atI (t := .rule) vs0 (Int.toNat vs5))), (RuleT.high (atI (t := .rule) vs0 (Int.toNat vs5)))⟩ : RuleT) (⟨(RuleT.kind (atI (t := .rule) vs1 (Int.toNat vs5))), (RuleT.keys (atI (t := .rule) vs1 (Int.toNat vs5))), (RuleT.kids (atI (t := .rule) vs1 (Int.toNat vs5))), (RuleT.need (atI (t := .rule) vs1 (Int.toNat vs5))), (RuleT.low (atI (t := .rule) vs1 (Int.toNat vs5))), (RuleT.high (atI (t := .rule) vs1 (Int.toNat vs5)))⟩ : RuleT)))
            (k' .ret ⟨[(4, .c (.one (.v (.bool false))))], [], []⟩)
            (k' .normal ⟨[(0, .c (.one (.ro .rule vs0))), (1, .c (.one (.ro .rule vs1))), (5, .c (.one (.v (.int .i64 (IntKind.wrap .i64 (vs5 + (1 : Int)))))))], [], []⟩))
          none)
        none)
      none)
    (k' (.exit 0) ⟨[(0, .c (.one (.ro .rule vs0))), (1, .c (.one (.ro .rule vs1))), (5, .c (.one (.v (.int .i64 vs5)))), (14, .c (.one (.v (.bool (decide (vs5 < (vs0.length : Int)))))))], [], []⟩)) := by kernel_rfl
theorem f27L0_eq {R : Type} (N : Nat) (n : Nat) (k' : Ex → St → Option R) (vs0 : List RuleT) (vs1 : List RuleT) : ∀ (m : Nat) (vs5 : Int), iter (fun st k => ev (f27e N) f27k n (cAt [1,1,0,1,0,0] f27c) st k) m ⟨[(0, .c (.one (.ro .rule vs0))), (1, .c (.one (.ro .rule vs1))), (5, .c (.one (.v (.int .i64 vs5))))], [], []⟩ k' = f27L0 N n (k' .ret ⟨[(4, .c (.one (.v (.bool false))))], [], []⟩) (fun (xvs5 : Int) (xvs14 : Bool) => k' (.exit 0) ⟨[(0, .c (.one (.ro .rule vs0))), (1, .c (.one (.ro .rule vs1))), (5, .c (.one (.v (.int .i64 xvs5)))), (14, .c (.one (.v (.bool xvs14))))], [], []⟩) vs0 vs1 m vs5 := by
  intro m; induction m with
  | zero => intros; rfl
  | succ m ih =>
    intro vs5
    simp only [iter]
    rw [f27L0_b]
    simp only [ih, f27L0]

noncomputable def f27K0 {R : Type} (N : Nat) (n : Nat) (k' : Ex → St → Option R) : Ex → St → Option R := (blockK 0 (seqK (f27e N) f27k n (cAt [1,1,1] f27c) k'))
theorem f27K0_x0 {R : Type} (N : Nat) (n : Nat) (k : List Dt → Option R) (a0 : List RuleT) (a1 : List RuleT)  : f27K0 N n (exitK (f27e N) [.ro, .ro] [false] true [.tmp 4] [4] [.d (.sl .rule) a0, .d (.sl .rule) a1] k) .ret ⟨[(4, .c (.one (.v (.bool false))))], [], []⟩ =
    (k [.d .bool false]) := by kernel_rfl
theorem f27K0_x1 {R : Type} (N : Nat) (n : Nat) (k : List Dt → Option R) (a0 : List RuleT) (a1 : List RuleT) (vs0 : List RuleT) (vs1 : List RuleT) (xvs5 : Int) (xvs14 : Bool) : f27K0 N n (exitK (f27e N) [.ro, .ro] [false] true [.tmp 4] [4] [.d (.sl .rule) a0, .d (.sl .rule) a1] k) (.exit 0) ⟨[(0, .c (.one (.ro .rule vs0))), (1, .c (.one (.ro .rule vs1))), (5, .c (.one (.v (.int .i64 xvs5)))), (14, .c (.one (.v (.bool xvs14))))], [], []⟩ =
    (k [.d .bool true]) := by kernel_rfl

theorem f27_run {R : Type} (N : Nat) (n : Nat) (k : List Dt → Option R) (a0 : List RuleT) (a1 : List RuleT) : evFn (f27e N) f27k n f27c [.ro, .ro] [false] true [.tmp 4] [4] [.d (.sl .rule) a0, .d (.sl .rule) a1] k =
    (cond ((a0.length : Int) != (a1.length : Int))
    (k [.d .bool false])
    (f27L0 N n (k [.d .bool false]) (fun (xvs5 : Int) (xvs14 : Bool) =>
      (k [.d .bool true])) a0 a1 n (0 : Int))) := by
  refine Eq.trans (b := (cond ((a0.length : Int) != (a1.length : Int))
    (k [.d .bool false])
    (iter (fun st k => ev (f27e N) f27k n (cAt [1,1,0,1,0,0] f27c) st k) n ⟨[(0, .c (.one (.ro .rule a0))), (1, .c (.one (.ro .rule a1))), (5, .c (.one (.v (.int .i64 (0 : Int)))))], [], []⟩ (f27K0 N n (exitK (f27e N) [.ro, .ro] [false] true [.tmp 4] [4] [.d (.sl .rule) a0, .d (.sl .rule) a1] k))))) (by kernel_rfl) ?_
  simp only [f27L0_eq, f27K0_x0, f27K0_x1]
theorem f27_spec (N : Nat) (a0 : List RuleT) (a1 : List RuleT) (hg : sm2 (smL sm_rule) a0 a1 = true) (hm : mu27 [.d (.sl .rule) a0, .d (.sl .rule) a1] = N) : ∃ keep rounds, ∀ {R : Type} (k : List Dt → Option R), evFn (f27e N) keep rounds f27c [.ro, .ro] [false] true [.tmp 4] [4] [.d (.sl .rule) a0, .d (.sl .rule) a1] k = k [.d .bool (eqD a0 a1)] := by
  have hm : meL_rule a0 a1 = N := hm
  subst hm
  simp only [sm2, Bool.and_eq_true] at hg
  obtain ⟨hg0, hg1⟩ := hg
  have hl : a0.length ≤ 1048576 := smL_len hg0
  refine ⟨f27k, a0.length + 1, fun {R} k => ?_⟩
  rw [f27_run]
  by_cases hc : a0.length = a1.length
  · have hc' : ((a0.length : Int) != (a1.length : Int)) = false := by simp [hc]
    simp only [hc', cond_false]
    refine Eq.trans (loop_idx (n := a0.length) (F := fun m i => f27L0 (meL_rule a0 a1) (a0.length + 1) _ _ a0 a1 m i) (p := fun j => eqD (atI (t := .rule) a0 j) (atI (t := .rule) a1 j)) (good := k [.d .bool true]) (bad := k [.d .bool false])
      (fun m j hj => ?_) (fun m => by simp only [f27L0, idxE, cond_false]) a0.length 0 (a0.length + 1) (by omega) (by omega)) ?_
    · obtain ⟨h1, h0, hw, ht⟩ := idx hj (by omega)
      obtain ⟨h2, _, _, _⟩ := idx (show j < a1.length by omega) (by omega)
      have ha := smL_at (t := .rule) hg0 hj
      have hb := smL_at (t := .rule) hg1 (show j < a1.length by omega)
      have hm1 : Nat.blt (me_rule (atI (t := .rule) a0 j) (atI (t := .rule) a1 j)) (meL_rule a0 a1) = true := by
        obtain ⟨x, hx, _⟩ := drop_get hj
        have := ndL_mem (f := nd_rule) (List.mem_of_getElem? hx)
        rw [atI_of (t := .rule) hx, Nat.blt_eq]; simp only [me_rule, meL_rule]; omega
      simp only [f27L0, h1, h0, h2, hw, ht, Bool.and_self, cond_true, sm2, eta_rule, ha, hb, hm1]
      cases eqD (atI (t := .rule) a0 j) (atI (t := .rule) a1 j) <;> rfl
    · rw [allN_eq hc (fun j x y hx hy => by rw [atI_of (t := .rule) hx, atI_of (t := .rule) hy])]
      cases eqD a0 a1 <;> rfl
  · simp only [bneLen hc, cond_true]
    rw [eqD_ne (fun e => hc (by rw [e]))]


theorem goods9 : ∀ x ∈ ([⟨9, [.ro, .ro], [false], true, mu9, q9⟩, ⟨27, [.ro, .ro], [false], true, mu27, q27⟩] : List Rc), Gm.SpecOk Try.prog x.f (Gm.Spec.of x.ms x.rs x.ow x.q) := by
  refine spec_recs _ fun N hr => ?_
  have hr1 : Gm.SpecOk Try.prog 9 (Gm.Spec.of [.ro, .ro] [false] true (qlt mu9 N q9)) := fun {R} => hr _ (.head _)
  have hr2 : Gm.SpecOk Try.prog 27 (Gm.Spec.of [.ro, .ro] [false] true (qlt mu27 N q27)) := fun {R} => hr _ (.tail _ (.head _))
  refine List.forall_mem_cons.2 ⟨?_, List.forall_mem_cons.2 ⟨?_, List.forall_mem_nil _⟩⟩
  · have hl : ∀ x ∈ ([(26, s26), (27, s27r N), (28, s28)] : List (Nat × Gm.Spec)), Gm.Good Try.prog x := List.forall_mem_cons.2 ⟨good26, List.forall_mem_cons.2 ⟨⟨⟨hr2, _, Try.func27, by kernel_rfl, of_decide_eq_true (by kernel_rfl)⟩, Gm.Spec.of_natl _ _ _ _⟩, List.forall_mem_cons.2 ⟨good28, List.forall_mem_nil _⟩⟩⟩
    show Gm.SpecOk Try.prog 9 (Gm.Spec.of [.ro, .ro] [false] true (qeq mu9 N q9))
    intro R
    refine spec_ok (E := f9e N) (tab_ok.env hl) (tab.natl hl) Try.func9 (by kernel_rfl : Try.f9.body = some f9c) [4] (by kernel_rfl) ?_
    intro ds outs h
    obtain ⟨h, hm⟩ := qeq_some h
    unfold q9 at h
    split at h
    · simp only [Option.some.injEq, Prod.mk.injEq] at h; obtain ⟨hg, h⟩ := h; cases h; exact f9_spec N _ _ hg hm
    · cases h
  · have hl : ∀ x ∈ ([(9, s9r N)] : List (Nat × Gm.Spec)), Gm.Good Try.prog x := List.forall_mem_cons.2 ⟨⟨⟨hr1, _, Try.func9, by kernel_rfl, of_decide_eq_true (by kernel_rfl)⟩, Gm.Spec.of_natl _ _ _ _⟩, List.forall_mem_nil _⟩
    show Gm.SpecOk Try.prog 27 (Gm.Spec.of [.ro, .ro] [false] true (qeq mu27 N q27))
    intro R
    refine spec_ok (E := f27e N) (tab_ok.env hl) (tab.natl hl) Try.func27 (by kernel_rfl : Try.f27.body = some f27c) [4] (by kernel_rfl) ?_
    intro ds outs h
    obtain ⟨h, hm⟩ := qeq_some h
    unfold q27 at h
    split at h
    · simp only [Option.some.injEq, Prod.mk.injEq] at h; obtain ⟨hg, h⟩ := h; cases h; exact f27_spec N _ _ hg hm
    · cases h
theorem good9 : Gm.Good Try.prog (9, s9) := ⟨⟨fun {R} => goods9 _ (.head _), _, Try.func9, by kernel_rfl, of_decide_eq_true (by kernel_rfl)⟩, Gm.Spec.of_natl _ _ _ _⟩
noncomputable def q10 : List Dt → Option (Bool × List Dt)
  | [.d .node a0, .d (.i .i64) a1] => some ((gz_node a0 a1), [.d (.i .i64) (z_node a0 a1)])
  | _ => none
noncomputable def mu10 : List Dt → Nat
  | [.d .node a0, .d (.i .i64) a1] => mz_node a0 a1
  | _ => 0
noncomputable def s10r (N : Nat) : Gm.Spec := Gm.Spec.of [.ro, .ro] [false] true (qlt mu10 N q10)
noncomputable def s10 : Gm.Spec := Gm.Spec.of [.ro, .ro] [false] true q10
noncomputable def q29 : List Dt → Option (Bool × List Dt)
  | [.d (.sl .node) a0, .d (.i .i64) a1] => some ((gzL_node a0 a1), [.d (.i .i64) (zL_node a0 a1)])
  | _ => none
noncomputable def mu29 : List Dt → Nat
  | [.d (.sl .node) a0, .d (.i .i64) a1] => mzL_node a0 a1
  | _ => 0
noncomputable def s29r (N : Nat) : Gm.Spec := Gm.Spec.of [.ro, .ro] [false] true (qlt mu29 N q29)
/-! ### loop.example/g00465/laws.szNode -/
noncomputable def f10c : Code := (Try.f10.body).getD .skip
def f10k : Nat → Kp := kat [⟨[1, 2], [], [], []⟩, ⟨[1, 2], [], [], []⟩, ⟨[1, 2, 11], [], [], []⟩, ⟨[4], [], [], []⟩, ⟨[1, 2], [], [], []⟩, ⟨[1, 2, 17], [], [], []⟩, ⟨[4], [], [], []⟩, ⟨[1], [], [], []⟩, ⟨[1, 23], [], [], []⟩, ⟨[4], [], [], []⟩, ⟨[4], [], [], []⟩]
noncomputable def f10e (N : Nat) : Env := tab.env [(18, s18), (29, s29r N)]
theorem f10_run {R : Type} (N : Nat) (n : Nat) (k : List Dt → Option R) (a0 : NodeT) (a1 : Int) : evFn (f10e N) f10k n f10c [.ro, .ro] [false] true [.tmp 4] [3] [.d .node a0, .d (.i .i64) a1] k =
    (cond (decide ((IntKind.wrap .i64 (a1 - (ByteArray.size (NodeT.s a0) : Int))) < (0 : Int)))
    (k [.d (.i .i64) (-1 : Int)])
    (cond (gzL_str (NodeT.keys a0) (IntKind.wrap .i64 (a1 - (ByteArray.size (NodeT.s a0) : Int))))
      (cond (decide ((zL_str (NodeT.keys a0) (IntKind.wrap .i64 (a1 - (ByteArray.size (NodeT.s a0) : Int)))) < (0 : Int)))
        (k [.d (.i .i64) (-1 : Int)])
        (cond ((gzL_node (NodeT.kids a0) (zL_str (NodeT.keys a0) (IntKind.wrap .i64 (a1 - (ByteArray.size (NodeT.s a0) : Int))))) && (Nat.blt (mzL_node (NodeT.kids a0) (zL_str (NodeT.keys a0) (IntKind.wrap .i64 (a1 - (ByteArray.size (NodeT.s a0) : Int))))) N))
          (cond (decide ((zL_node (NodeT.kids a0) (zL_str (NodeT.keys a0) (IntKind.wrap .i64 (a1 - (ByteArray.size (NodeT.s a0) : Int))))) < (0 : Int)))
            (k [.d (.i .i64) (-1 : Int)])
            (k [.d (.i .i64) (zL_node (NodeT.kids a0) (zL_str (NodeT.keys a0) (IntKind.wrap .i64 (a1 - (ByteArray.size (NodeT.s a0) : Int)))))]))
          none))
      none)) := by kernel_rfl
theorem f10_spec (N : Nat) (a0 : NodeT) (a1 : Int) (hg : gz_node a0 a1 = true) (hm : mu10 [.d .node a0, .d (.i .i64) a1] = N) : ∃ keep rounds, ∀ {R : Type} (k : List Dt → Option R), evFn (f10e N) keep rounds f10c [.ro, .ro] [false] true [.tmp 4] [3] [.d .node a0, .d (.i .i64) a1] k = k [.d (.i .i64) (z_node a0 a1)] := by
  have hm : mz_node a0 a1 = N := hm
  subst hm
  simp only [gz_node, ok_node_def, Bool.and_eq_true, okN_iff] at hg
  obtain ⟨⟨hf_kind, hf_n, hf_s, hf_keys, hf_kids⟩, hn1, hn2⟩ := hg
  have hf_sb : a0.s.size ≤ 9223372036854775807 := bleN hf_s
  have eN := szN_node_def a0
  refine ⟨f10k, 0, fun {R} k => ?_⟩
  rw [f10_run]
  show _ = k [.d (.i .i64) (z_node a0 a1)]
  unfold z_node
  rw [wrap_id (x := a1 - ((a0.s.size : Nat) : Int)) (by omega) (by omega)]
  by_cases h1 : a1 - ((a0.s.size : Nat) : Int) < 0
  · simp only [h1, decide_true, cond_true]; rw [szI_neg (by omega)]
  simp only [h1, decide_false, cond_false]
  have g2 : gzL_str a0.keys (a1 - ((a0.s.size : Nat) : Int)) = true := by simp only [gzL_str, Bool.and_eq_true, okN_iff]; exact ⟨hf_keys, by omega, by omega⟩
  have z2 : zL_str a0.keys (a1 - ((a0.s.size : Nat) : Int)) = szI (szL ByteArray.size a0.keys) (a1 - ((a0.s.size : Nat) : Int)) := rfl
  rw [g2, z2]
  by_cases h2 : (a1 - ((a0.s.size : Nat) : Int)) - ((szL ByteArray.size a0.keys : Nat) : Int) < 0
  · rw [szI_neg h2, szI_neg (by omega)]; rfl
  rw [szI_pos h2]
  simp only [cond_true, h2, decide_false, cond_false, Bool.and_self]
  have g3 : gzL_node a0.kids ((a1 - ((a0.s.size : Nat) : Int)) - ((szL ByteArray.size a0.keys : Nat) : Int)) = true := by simp only [gzL_node, Bool.and_eq_true, okN_iff]; exact ⟨hf_kids, by omega, by omega⟩
  have m3 : Nat.blt (mzL_node a0.kids ((a1 - ((a0.s.size : Nat) : Int)) - ((szL ByteArray.size a0.keys : Nat) : Int))) (mz_node a0 a1) = true := by rw [Nat.blt_eq]; simp only [mzL_node, mz_node, nd_node_def]; omega
  have z3 : zL_node a0.kids ((a1 - ((a0.s.size : Nat) : Int)) - ((szL ByteArray.size a0.keys : Nat) : Int)) = szI (szL szN_node a0.kids) ((a1 - ((a0.s.size : Nat) : Int)) - ((szL ByteArray.size a0.keys : Nat) : Int)) := rfl
  rw [g3, m3, z3]
  by_cases h3 : ((a1 - ((a0.s.size : Nat) : Int)) - ((szL ByteArray.size a0.keys : Nat) : Int)) - ((szL szN_node a0.kids : Nat) : Int) < 0
  · rw [szI_neg h3, szI_neg (by omega)]; rfl
  rw [szI_pos h3]
  simp only [cond_true, h3, decide_false, cond_false, Bool.and_self]
  rw [szI_pos (by omega)]
  first
    | rfl
    | rw [show (((a1 - ((a0.s.size : Nat) : Int)) - ((szL ByteArray.size a0.keys : Nat) : Int)) - ((szL szN_node a0.kids : Nat) : Int)) = a1 - ((szN_node a0 : Nat) : Int) by omega]


/-! ### loop.example/g00465/laws.szNodeS -/
noncomputable def f29c : Code := (Try.f29.body).getD .skip
def f29k : Nat → Kp := kat [⟨[0, 1], [], [], []⟩, ⟨[0, 1], [], [], []⟩, ⟨[0, 1, 11], [], [], []⟩, ⟨[4], [], [], []⟩, ⟨[0, 1, 5], [], [], []⟩, ⟨[0, 1, 5, 15], [], [], []⟩, ⟨[0, 1, 5], [], [], []⟩, ⟨[0, 1, 5], [], [], []⟩, ⟨[0, 1, 5, 25], [], [], []⟩, ⟨[4], [], [], []⟩, ⟨[4], [], [], []⟩]
noncomputable def f29e (N : Nat) : Env := tab.env [(10, s10r N)]
noncomputable def f29L0 {R : Type} (N : Nat) (n : Nat) (x0 : Option R) (x1 : Int → Int → Bool → Option R) (vs0 : List NodeT) : Nat → Int → Int → Option R
  | 0, _, _ => none
  | m + 1, vs1, vs5 =>
    (cond (decide (vs5 < (vs0.length : Int)))
      (cond ((decide ((0 : Int) ≤ vs5)) && (decide (vs5 < (vs0.length : Int))))
        (cond ((gz_node (⟨(NodeT.kind (atI (t := .node) vs0 (Int.toNat vs5))), (NodeT.n (atI (t := .node) vs0 (Int.toNat vs5))), (NodeT.s (atI (t := .node) vs0 (Int.toNat vs5))), (NodeT.keys (atI (t := .node) vs0 (Int.toNat vs5))), (NodeT.kids (atI (t := .node) vs0 (Int.toNat vs5)))⟩ : NodeT) vs1) && (Nat.blt (mz_node (⟨(NodeT.kind (atI (t := .node) vs0 (Int.toNat vs5))), (NodeT.n (atI (t := .node) vs0 (Int.toNat vs5))), (NodeT.s (atI (t := .node) vs0 (Int.toNat vs5))), (NodeT.keys (atI (t := .node) vs0 (Int.toNat vs5))), (NodeT.kids (atI (t := .node) vs0 (Int.toNat vs5)))⟩ : NodeT) vs1) N))
          (cond (decide ((z_node (⟨(NodeT.kind (atI (t := .node) vs0 (Int.toNat vs5))), (NodeT.n (atI (t := .node) vs0 (Int.toNat vs5))), (NodeT.s (atI (t := .node) vs0 (Int.toNat vs5))), (NodeT.keys (atI (t := .node) vs0 (Int.toNat vs5))), (NodeT.kids (atI (t := .node) vs0 (Int.toNat vs5)))⟩ : NodeT) vs1) < (0 : Int)))
            (x0)
            (f29L0 N n x0 x1 vs0 m (z_node (⟨(NodeT.kind (atI (t := .node) vs0 (Int.toNat vs5))), (NodeT.n (atI (t := .node) vs0 (Int.toNat vs5))), (NodeT.s (atI (t := .node) vs0 (Int.toNat vs5))), (NodeT.keys (atI (t := .node) vs0 (Int.toNat vs5))), (NodeT.kids (atI (t := .node) vs0 (Int.toNat vs5)))⟩ : NodeT) vs1) (IntKind.wrap .i64 (vs5 + (1 : Int)))))
          none)
        none)
      (x1 vs1 vs5 (decide (vs5 < (vs0.length : Int)))))
theorem f29L0_b {R : Type} (N : Nat) (n : Nat) (k' : Ex → St → Option R) (vs0 : List NodeT) (vs1 : Int) (vs5 : Int) : ev (f29e N) f29k n (cAt [1,1,1,0,1,0,0] f29c) ⟨[(0, .c (.one (.ro .node vs0))), (1, .c (.one (.v (.int .i64 vs1)))), (5, .c (.one (.v (.int .i64 vs5))))], [], []⟩ k' =
    (cond (decide (vs5 < (vs0.length : Int)))
    (cond ((decide ((0 : Int) ≤ vs5)) && (decide (vs5 < (vs0.length : Int))))
      (cond ((gz_node (⟨(NodeT.kind (atI (t := .node) vs0 (Int.toNat vs5))), (NodeT.n (atI (t := .node) vs0 (Int.toNat vs5))), (NodeT.s (atI (t := .node) vs0 (Int.toNat vs5))), (NodeT.keys (atI (t := .node) vs0 (Int.toNat vs5))), (NodeT.kids (atI (t := .node) vs0 (Int.toNat vs5)))⟩ : NodeT) vs1) && (Nat.blt (mz_node (⟨(NodeT.kind (atI (t := .node) vs0 (Int.toNat vs5))), (NodeT.n (atI (t := .node) vs0 (Int.toNat vs5))), (NodeT.s (atI (t := .node) vs0 (Int.toNat vs5))), (NodeT.keys (atI (t := .node) vs0 (Int.toNat vs5))), (NodeT.kids (atI (t := .node) vs0 (Int.toNat vs5)))⟩ : NodeT) vs1) N))
        (cond (decide ((z_node (⟨(NodeT.kind (atI (t := .node) vs0 (Int.toNat vs5))), (NodeT.n (atI (t := .node) vs0 (Int.toNat vs5))), (NodeT.s (atI (t := .node) vs0 (Int.toNat vs5))), (NodeT.keys (atI (t := .node) vs0 (Int.toNat vs5))), (NodeT.kids (atI (t := .node) vs0 (Int.toNat vs5)))⟩ : NodeT) vs1) < (0 : Int)))
          (k' .ret ⟨[(4, .c (.one (.v (.int .i64 (-1 : Int)))))], [], []⟩)
          (k' .normal ⟨[(0, .c (.one (.ro .node vs0))), (1, .c (.one (.v (.int .i64 (z_node (⟨(NodeT.kind (atI (t := .node) vs0 (Int.toNat vs5))), (NodeT.n (atI (t := .node) vs0 (Int.toNat vs5))), (NodeT.s (atI (t := .node) vs0 (Int.toNat vs5))), (NodeT.keys (atI (t := .node) vs0 (Int.toNat vs5))), (NodeT.kids (atI (t := .node) vs0 (Int.toNat vs5)))⟩ : NodeT) vs1))))), (5, .c (.one (.v (.int .i64 (IntKind.wrap .i64 (vs5 + (1 : Int)))))))], [], []⟩))
        none)
      none)
    (k' (.exit 0) ⟨[(0, .c (.one (.ro .node vs0))), (1, .c (.one (.v (.int .i64 vs1)))), (5, .c (.one (.v (.int .i64 vs5)))), (15, .c (.one (.v (.bool (decide (vs5 < (vs0.length : Int)))))))], [], []⟩)) := by kernel_rfl
theorem f29L0_eq {R : Type} (N : Nat) (n : Nat) (k' : Ex → St → Option R) (vs0 : List NodeT) : ∀ (m : Nat) (vs1 : Int) (vs5 : Int), iter (fun st k => ev (f29e N) f29k n (cAt [1,1,1,0,1,0,0] f29c) st k) m ⟨[(0, .c (.one (.ro .node vs0))), (1, .c (.one (.v (.int .i64 vs1)))), (5, .c (.one (.v (.int .i64 vs5))))], [], []⟩ k' = f29L0 N n (k' .ret ⟨[(4, .c (.one (.v (.int .i64 (-1 : Int)))))], [], []⟩) (fun (xvs1 : Int) (xvs5 : Int) (xvs15 : Bool) => k' (.exit 0) ⟨[(0, .c (.one (.ro .node vs0))), (1, .c (.one (.v (.int .i64 xvs1)))), (5, .c (.one (.v (.int .i64 xvs5)))), (15, .c (.one (.v (.bool xvs15))))], [], []⟩) vs0 m vs1 vs5 := by
  intro m; induction m with
  | zero => intros; rfl
  | succ m ih =>
    intro vs1 vs5
    simp only [iter]
    rw [f29L0_b]
    simp only [ih, f29L0]

noncomputable def f29K0 {R : Type} (N : Nat) (n : Nat) (k' : Ex → St → Option R) : Ex → St → Option R := (blockK 0 (seqK (f29e N) f29k n (cAt [1,1,1,1] f29c) k'))
theorem f29K0_x0 {R : Type} (N : Nat) (n : Nat) (k : List Dt → Option R) (a0 : List NodeT) (a1 : Int)  : f29K0 N n (exitK (f29e N) [.ro, .ro] [false] true [.tmp 4] [3] [.d (.sl .node) a0, .d (.i .i64) a1] k) .ret ⟨[(4, .c (.one (.v (.int .i64 (-1 : Int)))))], [], []⟩ =
    (k [.d (.i .i64) (-1 : Int)]) := by kernel_rfl
theorem f29K0_x1 {R : Type} (N : Nat) (n : Nat) (k : List Dt → Option R) (a0 : List NodeT) (a1 : Int) (vs0 : List NodeT) (xvs1 : Int) (xvs5 : Int) (xvs15 : Bool) : f29K0 N n (exitK (f29e N) [.ro, .ro] [false] true [.tmp 4] [3] [.d (.sl .node) a0, .d (.i .i64) a1] k) (.exit 0) ⟨[(0, .c (.one (.ro .node vs0))), (1, .c (.one (.v (.int .i64 xvs1)))), (5, .c (.one (.v (.int .i64 xvs5)))), (15, .c (.one (.v (.bool xvs15))))], [], []⟩ =
    (k [.d (.i .i64) xvs1]) := by kernel_rfl

theorem f29_run {R : Type} (N : Nat) (n : Nat) (k : List Dt → Option R) (a0 : List NodeT) (a1 : Int) : evFn (f29e N) f29k n f29c [.ro, .ro] [false] true [.tmp 4] [3] [.d (.sl .node) a0, .d (.i .i64) a1] k =
    (cond (decide ((IntKind.wrap .i64 (a1 - (a0.length : Int))) < (0 : Int)))
    (k [.d (.i .i64) (-1 : Int)])
    (f29L0 N n (k [.d (.i .i64) (-1 : Int)]) (fun (xvs1 : Int) (xvs5 : Int) (xvs15 : Bool) =>
      (k [.d (.i .i64) xvs1])) a0 n (IntKind.wrap .i64 (a1 - (a0.length : Int))) (0 : Int))) := by
  refine Eq.trans (b := (cond (decide ((IntKind.wrap .i64 (a1 - (a0.length : Int))) < (0 : Int)))
    (k [.d (.i .i64) (-1 : Int)])
    (iter (fun st k => ev (f29e N) f29k n (cAt [1,1,1,0,1,0,0] f29c) st k) n ⟨[(0, .c (.one (.ro .node a0))), (1, .c (.one (.v (.int .i64 (IntKind.wrap .i64 (a1 - (a0.length : Int))))))), (5, .c (.one (.v (.int .i64 (0 : Int)))))], [], []⟩ (f29K0 N n (exitK (f29e N) [.ro, .ro] [false] true [.tmp 4] [3] [.d (.sl .node) a0, .d (.i .i64) a1] k))))) (by kernel_rfl) ?_
  simp only [f29L0_eq, f29K0_x0, f29K0_x1]
theorem f29_spec (N : Nat) (a0 : List NodeT) (a1 : Int) (hg : gzL_node a0 a1 = true) (hm : mu29 [.d (.sl .node) a0, .d (.i .i64) a1] = N) : ∃ keep rounds, ∀ {R : Type} (k : List Dt → Option R), evFn (f29e N) keep rounds f29c [.ro, .ro] [false] true [.tmp 4] [3] [.d (.sl .node) a0, .d (.i .i64) a1] k = k [.d (.i .i64) (zL_node a0 a1)] := by
  have hm : mzL_node a0 a1 = N := hm
  subst hm
  simp only [gzL_node, okL, Bool.and_eq_true, okN_iff] at hg
  obtain ⟨⟨hl, hs⟩, hn⟩ := hg
  have hl : a0.length ≤ 9223372036854775807 := bleN hl
  refine ⟨f29k, a0.length + 1, fun {R} k => ?_⟩
  rw [f29_run, wrap_id (x := a1 - (a0.length : Int)) (by omega) (by omega)]
  show _ = k [.d (.i .i64) (zL_node a0 a1)]
  unfold zL_node
  have eL : szL szN_node a0 = a0.length + (a0.map szN_node).sum := rfl
  by_cases hc : a1 - (a0.length : Int) < 0
  · simp only [hc, decide_true, cond_true]
    rw [szI_neg (by omega)]
  · simp only [hc, decide_false, cond_false]
    refine Eq.trans (loop_fold (xs := a0) (F := fun m j left => f29L0 (mzL_node a0 a1) (a0.length + 1) _ _ a0 m left (j : Int)) (step := szStep szN_node)
      (out := fun _ => k [.d (.i .i64) (-1 : Int)]) (good := fun left => k [.d (.i .i64) left]) (fun n => 0 ≤ n ∧ n ≤ 1048576)
      (fun x n n' hx hn h => by
        unfold szStep at h
        split at h
        · cases h
        · cases h; omega)
      (fun m j n x hx hn => ?_)
      (fun m n hn => by simp only [f29L0, idxE, cond_false]) a0.length 0 (a0.length + 1) (a1 - (a0.length : Int)) (by omega) (by omega) (by omega)) ?_
    · obtain ⟨h1, h0, hw, ht⟩ := idx (lt_of_get hx) (by omega)
      have hmem := List.mem_of_getElem? hx
      have hx2 := List.all_eq_true.1 hs x hmem
      have hb : Nat.blt (mz_node x n) (mzL_node a0 a1) = true := by
        have := ndL_mem (f := nd_node) hmem
        rw [Nat.blt_eq]; simp only [mz_node, mzL_node]; omega
      have hg2 : gz_node x n = true := by simp only [gz_node, Bool.and_eq_true, okN_iff]; exact ⟨hx2, by omega, by omega⟩
      have hz : z_node x n = szI (szN_node x) n := rfl
      simp only [f29L0, h1, h0, hw, ht, atI_of (t := .node) hx, Bool.and_self, cond_true, eta_node, hg2, hz, hb]
      unfold szStep
      by_cases h : n - (szN_node x : Int) < 0
      · rw [szI_neg h]; simp only [h, if_true, Sum.elim_inl]; rfl
      · rw [szI_pos h]; simp only [h, decide_false, cond_false, if_false, Sum.elim_inr]
    · rw [List.drop_zero, sz_fold _ _ _ (by omega)]
      by_cases h2 : a1 - (a0.length : Int) - ((a0.map szN_node).sum : Nat) < 0
      · rw [if_pos h2, szI_neg (by omega)]; rfl
      · rw [if_neg h2, szI_pos (by omega)]
        simp only [Sum.elim_inr]
        rw [show a1 - (a0.length : Int) - ((a0.map szN_node).sum : Nat) = a1 - (szL szN_node a0 : Nat) by omega]


theorem goods10 : ∀ x ∈ ([⟨10, [.ro, .ro], [false], true, mu10, q10⟩, ⟨29, [.ro, .ro], [false], true, mu29, q29⟩] : List Rc), Gm.SpecOk Try.prog x.f (Gm.Spec.of x.ms x.rs x.ow x.q) := by
  refine spec_recs _ fun N hr => ?_
  have hr1 : Gm.SpecOk Try.prog 10 (Gm.Spec.of [.ro, .ro] [false] true (qlt mu10 N q10)) := fun {R} => hr _ (.head _)
  have hr2 : Gm.SpecOk Try.prog 29 (Gm.Spec.of [.ro, .ro] [false] true (qlt mu29 N q29)) := fun {R} => hr _ (.tail _ (.head _))
  refine List.forall_mem_cons.2 ⟨?_, List.forall_mem_cons.2 ⟨?_, List.forall_mem_nil _⟩⟩
  · have hl : ∀ x ∈ ([(18, s18), (29, s29r N)] : List (Nat × Gm.Spec)), Gm.Good Try.prog x := List.forall_mem_cons.2 ⟨good18, List.forall_mem_cons.2 ⟨⟨⟨hr2, _, Try.func29, by kernel_rfl, of_decide_eq_true (by kernel_rfl)⟩, Gm.Spec.of_natl _ _ _ _⟩, List.forall_mem_nil _⟩⟩
    show Gm.SpecOk Try.prog 10 (Gm.Spec.of [.ro, .ro] [false] true (qeq mu10 N q10))
    intro R
    refine spec_ok (E := f10e N) (tab_ok.env hl) (tab.natl hl) Try.func10 (by kernel_rfl : Try.f10.body = some f10c) [3] (by kernel_rfl) ?_
    intro ds outs h
    obtain ⟨h, hm⟩ := qeq_some h
    unfold q10 at h
    split at h
    · simp only [Option.some.injEq, Prod.mk.injEq] at h; obtain ⟨hg, h⟩ := h; cases h; exact f10_spec N _ _ hg hm
    · cases h
  · have hl : ∀ x ∈ ([(10, s10r N)] : List (Nat × Gm.Spec)), Gm.Good Try.prog x := List.forall_mem_cons.2 ⟨⟨⟨hr1, _, Try.func10, by kernel_rfl, of_decide_eq_true (by kernel_rfl)⟩, Gm.Spec.of_natl _ _ _ _⟩, List.forall_mem_nil _⟩
    show Gm.SpecOk Try.prog 29 (Gm.Spec.of [.ro, .ro] [false] true (qeq mu29 N q29))
    intro R
    refine spec_ok (E := f29e N) (tab_ok.env hl) (tab.natl hl) Try.func29 (by kernel_rfl : Try.f29.body = some f29c) [3] (by kernel_rfl) ?_
    intro ds outs h
    obtain ⟨h, hm⟩ := qeq_some h
    unfold q29 at h
    split at h
    · simp only [Option.some.injEq, Prod.mk.injEq] at h; obtain ⟨hg, h⟩ := h; cases h; exact f29_spec N _ _ hg hm
    · cases h
theorem good10 : Gm.Good Try.prog (10, s10) := ⟨⟨fun {R} => goods10 _ (.head _), _, Try.func10, by kernel_rfl, of_decide_eq_true (by kernel_rfl)⟩, Gm.Spec.of_natl _ _ _ _⟩
noncomputable def q12 : List Dt → Option (Bool × List Dt)
  | [.d .node a0] => some ((sm_node a0), [.d .node a0])
  | _ => none
noncomputable def mu12 : List Dt → Nat
  | [.d .node a0] => mt_node a0
  | _ => 0
noncomputable def s12r (N : Nat) : Gm.Spec := Gm.Spec.of [.ro] [false] true (qlt mu12 N q12)
noncomputable def s12 : Gm.Spec := Gm.Spec.of [.ro] [false] true q12
noncomputable def q32 : List Dt → Option (Bool × List Dt)
  | [.d (.sl .node) a0] => some ((smL sm_node a0), [.d (.sl .node) a0])
  | _ => none
noncomputable def mu32 : List Dt → Nat
  | [.d (.sl .node) a0] => mtL_node a0
  | _ => 0
noncomputable def s32r (N : Nat) : Gm.Spec := Gm.Spec.of [.ro] [false] true (qlt mu32 N q32)
/-! ### loop.example/g00465/laws.toNode -/
noncomputable def f12c : Code := (Try.f12.body).getD .skip
def f12k : Nat → Kp := kat [⟨[1, 2], [], [], []⟩, ⟨[1, 2, 3], [], [], []⟩, ⟨[1, 2, 3], [], [], []⟩, ⟨[1, 2, 3], [], [], []⟩, ⟨[1, 2, 3], [], [], []⟩, ⟨[1, 2, 3], [], [], []⟩, ⟨[2, 3], [], [], []⟩, ⟨[2], [], [], []⟩]
noncomputable def f12e (N : Nat) : Env := tab.env [(22, s22), (32, s32r N)]
theorem f12_run {R : Type} (N : Nat) (n : Nat) (k : List Dt → Option R) (a0 : NodeT) : evFn (f12e N) f12k n f12c [.ro] [false] true [.cell 2 41] [41] [.d .node a0] k =
    (cond (smL smStr (NodeT.keys a0))
    (cond ((smL sm_node (NodeT.kids a0)) && (Nat.blt (mtL_node (NodeT.kids a0)) N))
      (k [.d .node (⟨(NodeT.kind a0), (NodeT.n a0), (NodeT.s a0), (NodeT.keys a0), (NodeT.kids a0)⟩ : NodeT)])
      none)
    none) := by kernel_rfl
theorem f12_spec (N : Nat) (a0 : NodeT) (hg : sm_node a0 = true) (hm : mu12 [.d .node a0] = N) : ∃ keep rounds, ∀ {R : Type} (k : List Dt → Option R), evFn (f12e N) keep rounds f12c [.ro] [false] true [.cell 2 41] [41] [.d .node a0] k = k [.d .node a0] := by
  have hm : mt_node a0 = N := hm
  subst hm
  have m1 : Nat.blt (mtL_node a0.kids) (mt_node a0) = true := by rw [Nat.blt_eq]; simp only [mtL_node, mt_node, nd_node_def]; omega
  simp only [sm_node_def, Bool.and_eq_true] at hg
  refine ⟨f12k, 0, fun {R} k => ?_⟩
  rw [f12_run]
  simp only [hg, m1, Bool.and_self, cond_true, eta_node]


/-! ### loop.example/g00465/laws.toNodeS -/
noncomputable def f32c : Code := (Try.f32.body).getD .skip
def f32k : Nat → Kp := kat [⟨[0], [], [], []⟩, ⟨[0, 3], [], [], []⟩, ⟨[0, 3, 4], [], [], []⟩, ⟨[0, 3, 4, 11], [], [], []⟩, ⟨[0, 3, 4], [], [], []⟩, ⟨[0, 3, 4], [], [], []⟩, ⟨[2], [], [], []⟩]
noncomputable def f32e (N : Nat) : Env := tab.env [(12, s12r N)]
noncomputable def f32v0 (vr448 : List NodeT) (vs4 : Int) (vs0 : List NodeT) : List NodeT :=
  (vr448.set (Int.toNat vs4) (⟨(NodeT.kind (⟨(NodeT.kind (atI (t := .node) vs0 (Int.toNat vs4))), (NodeT.n (atI (t := .node) vs0 (Int.toNat vs4))), (NodeT.s (atI (t := .node) vs0 (Int.toNat vs4))), (NodeT.keys (atI (t := .node) vs0 (Int.toNat vs4))), (NodeT.kids (atI (t := .node) vs0 (Int.toNat vs4)))⟩ : NodeT)), (NodeT.n (⟨(NodeT.kind (atI (t := .node) vs0 (Int.toNat vs4))), (NodeT.n (atI (t := .node) vs0 (Int.toNat vs4))), (NodeT.s (atI (t := .node) vs0 (Int.toNat vs4))), (NodeT.keys (atI (t := .node) vs0 (Int.toNat vs4))), (NodeT.kids (atI (t := .node) vs0 (Int.toNat vs4)))⟩ : NodeT)), (NodeT.s (⟨(NodeT.kind (atI (t := .node) vs0 (Int.toNat vs4))), (NodeT.n (atI (t := .node) vs0 (Int.toNat vs4))), (NodeT.s (atI (t := .node) vs0 (Int.toNat vs4))), (NodeT.keys (atI (t := .node) vs0 (Int.toNat vs4))), (NodeT.kids (atI (t := .node) vs0 (Int.toNat vs4)))⟩ : NodeT)), (NodeT.keys (⟨(NodeT.kind (atI (t := .node) vs0 (Int.toNat vs4))), (NodeT.n (atI (t := .node) vs0 (Int.toNat vs4))), (NodeT.s (atI (t := .node) vs0 (Int.toNat vs4))), (NodeT.keys (atI (t := .node) vs0 (Int.toNat vs4))), (NodeT.kids (atI (t := .node) vs0 (Int.toNat vs4)))⟩ : NodeT)), (NodeT.kids (⟨(NodeT.kind (atI (t := .node) vs0 (Int.toNat vs4))), (NodeT.n (atI (t := .node) vs0 (Int.toNat vs4))), (NodeT.s (atI (t := .node) vs0 (Int.toNat vs4))), (NodeT.keys (atI (t := .node) vs0 (Int.toNat vs4))), (NodeT.kids (atI (t := .node) vs0 (Int.toNat vs4)))⟩ : NodeT))⟩ : NodeT))
noncomputable def f32L0 {R : Type} (N : Nat) (n : Nat) (x0 : Int → Bool → (List NodeT) → Option R) (vs0 : List NodeT) : Nat → Int → (List NodeT) → Option R
  | 0, _, _ => none
  | m + 1, vs4, vr448 =>
    (cond (decide (vs4 < (vs0.length : Int)))
      (cond ((decide ((0 : Int) ≤ vs4)) && (decide (vs4 < (vs0.length : Int))))
        (cond ((sm_node (⟨(NodeT.kind (atI (t := .node) vs0 (Int.toNat vs4))), (NodeT.n (atI (t := .node) vs0 (Int.toNat vs4))), (NodeT.s (atI (t := .node) vs0 (Int.toNat vs4))), (NodeT.keys (atI (t := .node) vs0 (Int.toNat vs4))), (NodeT.kids (atI (t := .node) vs0 (Int.toNat vs4)))⟩ : NodeT)) && (Nat.blt (mt_node (⟨(NodeT.kind (atI (t := .node) vs0 (Int.toNat vs4))), (NodeT.n (atI (t := .node) vs0 (Int.toNat vs4))), (NodeT.s (atI (t := .node) vs0 (Int.toNat vs4))), (NodeT.keys (atI (t := .node) vs0 (Int.toNat vs4))), (NodeT.kids (atI (t := .node) vs0 (Int.toNat vs4)))⟩ : NodeT)) N))
          (cond ((decide ((0 : Int) ≤ vs4)) && (decide (vs4 < (vr448.length : Int))))
            (f32L0 N n x0 vs0 m (IntKind.wrap .i64 (vs4 + (1 : Int))) (f32v0 vr448 vs4 vs0))
            none)
          none)
        none)
      (x0 vs4 (decide (vs4 < (vs0.length : Int))) vr448))
theorem f32L0_b {R : Type} (N : Nat) (n : Nat) (k' : Ex → St → Option R) (vs0 : List NodeT) (vs4 : Int) (vr448 : List NodeT) : ev (f32e N) f32k n (cAt [1,1,0,1,0,0] f32c) ⟨[(0, .c (.one (.ro .node vs0))), (3, .c (.one (.h 448 0 0 []))), (4, .c (.one (.v (.int .i64 vs4))))], [], [(448, .live ⟨.node, .deep, 0, [], vr448⟩)]⟩ k' =
    (cond (decide (vs4 < (vs0.length : Int)))
    (cond ((decide ((0 : Int) ≤ vs4)) && (decide (vs4 < (vs0.length : Int))))
      (cond ((sm_node (⟨(NodeT.kind (atI (t := .node) vs0 (Int.toNat vs4))), (NodeT.n (atI (t := .node) vs0 (Int.toNat vs4))), (NodeT.s (atI (t := .node) vs0 (Int.toNat vs4))), (NodeT.keys (atI (t := .node) vs0 (Int.toNat vs4))), (NodeT.kids (atI (t := .node) vs0 (Int.toNat vs4)))⟩ : NodeT)) && (Nat.blt (mt_node (⟨(NodeT.kind (atI (t := .node) vs0 (Int.toNat vs4))), (NodeT.n (atI (t := .node) vs0 (Int.toNat vs4))), (NodeT.s (atI (t := .node) vs0 (Int.toNat vs4))), (NodeT.keys (atI (t := .node) vs0 (Int.toNat vs4))), (NodeT.kids (atI (t := .node) vs0 (Int.toNat vs4)))⟩ : NodeT)) N))
        (cond ((decide ((0 : Int) ≤ vs4)) && (decide (vs4 < (vr448.length : Int))))
          (k' .normal ⟨[(0, .c (.one (.ro .node vs0))), (3, .c (.one (.h 448 0 0 []))), (4, .c (.one (.v (.int .i64 (IntKind.wrap .i64 (vs4 + (1 : Int)))))))], [], [(448, .live ⟨.node, .deep, 0, [], (f32v0 vr448 vs4 vs0)⟩)]⟩)
          none)
        none)
      none)
    (k' (.exit 0) ⟨[(0, .c (.one (.ro .node vs0))), (3, .c (.one (.h 448 0 0 []))), (4, .c (.one (.v (.int .i64 vs4)))), (11, .c (.one (.v (.bool (decide (vs4 < (vs0.length : Int)))))))], [], [(448, .live ⟨.node, .deep, 0, [], vr448⟩)]⟩)) := by kernel_rfl
theorem f32L0_eq {R : Type} (N : Nat) (n : Nat) (k' : Ex → St → Option R) (vs0 : List NodeT) : ∀ (m : Nat) (vs4 : Int) (vr448 : List NodeT), iter (fun st k => ev (f32e N) f32k n (cAt [1,1,0,1,0,0] f32c) st k) m ⟨[(0, .c (.one (.ro .node vs0))), (3, .c (.one (.h 448 0 0 []))), (4, .c (.one (.v (.int .i64 vs4))))], [], [(448, .live ⟨.node, .deep, 0, [], vr448⟩)]⟩ k' = f32L0 N n (fun (xvs4 : Int) (xvs11 : Bool) (xvr448 : List NodeT) => k' (.exit 0) ⟨[(0, .c (.one (.ro .node vs0))), (3, .c (.one (.h 448 0 0 []))), (4, .c (.one (.v (.int .i64 xvs4)))), (11, .c (.one (.v (.bool xvs11))))], [], [(448, .live ⟨.node, .deep, 0, [], xvr448⟩)]⟩) vs0 m vs4 vr448 := by
  intro m; induction m with
  | zero => intros; rfl
  | succ m ih =>
    intro vs4 vr448
    simp only [iter]
    rw [f32L0_b]
    simp only [ih, f32L0]

noncomputable def f32K0 {R : Type} (N : Nat) (n : Nat) (k' : Ex → St → Option R) : Ex → St → Option R := (blockK 0 (seqK (f32e N) f32k n (cAt [1,1,1] f32c) k'))
theorem f32K0_x0 {R : Type} (N : Nat) (n : Nat) (k : List Dt → Option R) (a0 : List NodeT) (vs0 : List NodeT) (xvs4 : Int) (xvs11 : Bool) (xvr448 : List NodeT) : f32K0 N n (exitK (f32e N) [.ro] [false] true [.tmp 2] [39] [.d (.sl .node) a0] k) (.exit 0) ⟨[(0, .c (.one (.ro .node vs0))), (3, .c (.one (.h 448 0 0 []))), (4, .c (.one (.v (.int .i64 xvs4)))), (11, .c (.one (.v (.bool xvs11))))], [], [(448, .live ⟨.node, .deep, 0, [], xvr448⟩)]⟩ =
    (k [.d (.sl .node) xvr448]) := by kernel_rfl

theorem f32_run {R : Type} (N : Nat) (n : Nat) (k : List Dt → Option R) (a0 : List NodeT) : evFn (f32e N) f32k n f32c [.ro] [false] true [.tmp 2] [39] [.d (.sl .node) a0] k =
    (cond ((decide ((a0.length : Int) = (a0.length : Int))) && ((decide ((0 : Int) ≤ (a0.length : Int))) && (decide ((a0.length : Int) ≤ (LIM : Int)))))
    (f32L0 N n (fun (xvs4 : Int) (xvs11 : Bool) (xvr448 : List NodeT) =>
      (k [.d (.sl .node) xvr448])) a0 n (0 : Int) (List.replicate (Int.toNat (a0.length : Int)) (⟨(0 : Int), (0 : Int), ByteArray.empty, ([] : List ByteArray), ([] : List NodeT)⟩ : NodeT)))
    none) := by
  refine Eq.trans (b := (cond ((decide ((a0.length : Int) = (a0.length : Int))) && ((decide ((0 : Int) ≤ (a0.length : Int))) && (decide ((a0.length : Int) ≤ (LIM : Int)))))
    (iter (fun st k => ev (f32e N) f32k n (cAt [1,1,0,1,0,0] f32c) st k) n ⟨[(0, .c (.one (.ro .node a0))), (3, .c (.one (.h 448 0 0 []))), (4, .c (.one (.v (.int .i64 (0 : Int)))))], [], [(448, .live ⟨.node, .deep, 0, [], (List.replicate (Int.toNat (a0.length : Int)) (⟨(0 : Int), (0 : Int), ByteArray.empty, ([] : List ByteArray), ([] : List NodeT)⟩ : NodeT))⟩)]⟩ (f32K0 N n (exitK (f32e N) [.ro] [false] true [.tmp 2] [39] [.d (.sl .node) a0] k)))
    none)) (by kernel_rfl) ?_
  simp only [f32L0_eq, f32K0_x0]
theorem f32_spec (N : Nat) (a0 : List NodeT) (hg : smL sm_node a0 = true) (hm : mu32 [.d (.sl .node) a0] = N) : ∃ keep rounds, ∀ {R : Type} (k : List Dt → Option R), evFn (f32e N) keep rounds f32c [.ro] [false] true [.tmp 2] [39] [.d (.sl .node) a0] k = k [.d (.sl .node) a0] := by
  have hm : mtL_node a0 = N := hm
  subst hm
  have hl : a0.length ≤ 1048576 := smL_len hg
  have hs := smL_all hg
  refine ⟨f32k, a0.length + 1, fun {R} k => ?_⟩
  rw [f32_run, mkOk hl]
  simp only [cond_true]
  have := loop_copy (xs := a0) (f := fun x => x) (F := fun m j out => f32L0 (mtL_node a0) (a0.length + 1) (fun (xvs4 : Int) (xvs11 : Bool) (xvr448 : List NodeT) => (k [.d (.sl .node) xvr448])) a0 m (j : Int) out) (good := fun out => k [.d (.sl .node) out]) (⟨(0 : Int), (0 : Int), ByteArray.empty, ([] : List ByteArray), ([] : List NodeT)⟩ : NodeT)
    (fun m j out x hx hl' => by
      obtain ⟨h1, h0, hw, ht⟩ := idx (lt_of_get hx) (by omega)
      obtain ⟨h2, _, _, _⟩ := idx (show j < out.length by rw [hl']; exact lt_of_get hx) (by omega)
      have hmem := List.mem_of_getElem? hx
      have hx2 := List.all_eq_true.1 hs x hmem
      have hb : Nat.blt (mt_node x) (mtL_node a0) = true := by
        have := ndL_mem (f := nd_node) hmem
        rw [Nat.blt_eq]; simp only [mt_node, mtL_node]; omega
      simp only [f32L0, f32v0, h1, h0, h2, hw, ht, atI_of (t := .node) hx, Bool.and_self, cond_true, eta_node, hx2, hb])
    (fun m out => by simp only [f32L0, idxE, cond_false]) a0.length 0 (a0.length + 1) (by omega) (by omega)
  simpa using this


theorem goods12 : ∀ x ∈ ([⟨12, [.ro], [false], true, mu12, q12⟩, ⟨32, [.ro], [false], true, mu32, q32⟩] : List Rc), Gm.SpecOk Try.prog x.f (Gm.Spec.of x.ms x.rs x.ow x.q) := by
  refine spec_recs _ fun N hr => ?_
  have hr1 : Gm.SpecOk Try.prog 12 (Gm.Spec.of [.ro] [false] true (qlt mu12 N q12)) := fun {R} => hr _ (.head _)
  have hr2 : Gm.SpecOk Try.prog 32 (Gm.Spec.of [.ro] [false] true (qlt mu32 N q32)) := fun {R} => hr _ (.tail _ (.head _))
  refine List.forall_mem_cons.2 ⟨?_, List.forall_mem_cons.2 ⟨?_, List.forall_mem_nil _⟩⟩
  · have hl : ∀ x ∈ ([(22, s22), (32, s32r N)] : List (Nat × Gm.Spec)), Gm.Good Try.prog x := List.forall_mem_cons.2 ⟨good22, List.forall_mem_cons.2 ⟨⟨⟨hr2, _, Try.func32, by kernel_rfl, of_decide_eq_true (by kernel_rfl)⟩, Gm.Spec.of_natl _ _ _ _⟩, List.forall_mem_nil _⟩⟩
    show Gm.SpecOk Try.prog 12 (Gm.Spec.of [.ro] [false] true (qeq mu12 N q12))
    intro R
    refine spec_ok (E := f12e N) (tab_ok.env hl) (tab.natl hl) Try.func12 (by kernel_rfl : Try.f12.body = some f12c) [41] (by kernel_rfl) ?_
    intro ds outs h
    obtain ⟨h, hm⟩ := qeq_some h
    unfold q12 at h
    split at h
    · simp only [Option.some.injEq, Prod.mk.injEq] at h; obtain ⟨hg, h⟩ := h; cases h; exact f12_spec N _ hg hm
    · cases h
  · have hl : ∀ x ∈ ([(12, s12r N)] : List (Nat × Gm.Spec)), Gm.Good Try.prog x := List.forall_mem_cons.2 ⟨⟨⟨hr1, _, Try.func12, by kernel_rfl, of_decide_eq_true (by kernel_rfl)⟩, Gm.Spec.of_natl _ _ _ _⟩, List.forall_mem_nil _⟩
    show Gm.SpecOk Try.prog 32 (Gm.Spec.of [.ro] [false] true (qeq mu32 N q32))
    intro R
    refine spec_ok (E := f32e N) (tab_ok.env hl) (tab.natl hl) Try.func32 (by kernel_rfl : Try.f32.body = some f32c) [39] (by kernel_rfl) ?_
    intro ds outs h
    obtain ⟨h, hm⟩ := qeq_some h
    unfold q32 at h
    split at h
    · simp only [Option.some.injEq, Prod.mk.injEq] at h; obtain ⟨hg, h⟩ := h; cases h; exact f32_spec N _ hg hm
    · cases h
theorem good12 : Gm.Good Try.prog (12, s12) := ⟨⟨fun {R} => goods12 _ (.head _), _, Try.func12, by kernel_rfl, of_decide_eq_true (by kernel_rfl)⟩, Gm.Spec.of_natl _ _ _ _⟩
noncomputable def q14 : List Dt → Option (Bool × List Dt)
  | [.d .node a0, .d .node a1] => some ((sm2 sm_node a0 a1), [.d .bool (eqD a0 a1)])
  | _ => none
noncomputable def mu14 : List Dt → Nat
  | [.d .node a0, .d .node a1] => me_node a0 a1
  | _ => 0
noncomputable def s14r (N : Nat) : Gm.Spec := Gm.Spec.of [.ro, .ro] [false] true (qlt mu14 N q14)
noncomputable def s14 : Gm.Spec := Gm.Spec.of [.ro, .ro] [false] true q14
noncomputable def q35 : List Dt → Option (Bool × List Dt)
  | [.d (.sl .node) a0, .d (.sl .node) a1] => some ((sm2 (smL sm_node) a0 a1), [.d .bool (eqD a0 a1)])
  | _ => none
noncomputable def mu35 : List Dt → Nat
  | [.d (.sl .node) a0, .d (.sl .node) a1] => meL_node a0 a1
  | _ => 0
noncomputable def s35r (N : Nat) : Gm.Spec := Gm.Spec.of [.ro, .ro] [false] true (qlt mu35 N q35)
/-! ### loop.example/g00465/laws.eqNode -/
noncomputable def f14c : Code := (Try.f14.body).getD .skip
def f14k : Nat → Kp := kat [⟨[2, 3], [], [], []⟩, ⟨[2, 3, 9], [], [], []⟩, ⟨[4], [], [], []⟩, ⟨[2, 3, 14], [], [], []⟩, ⟨[4], [], [], []⟩, ⟨[2, 3, 19], [], [], []⟩, ⟨[4], [], [], []⟩, ⟨[2, 3, 25], [], [], []⟩, ⟨[4], [], [], []⟩, ⟨[31], [], [], []⟩, ⟨[4], [], [], []⟩, ⟨[4], [], [], []⟩]
noncomputable def f14e (N : Nat) : Env := tab.env [(26, s26), (35, s35r N)]
theorem f14_run {R : Type} (N : Nat) (n : Nat) (k : List Dt → Option R) (a0 : NodeT) (a1 : NodeT) : evFn (f14e N) f14k n f14c [.ro, .ro] [false] true [.tmp 4] [4] [.d .node a0, .d .node a1] k =
    (cond ((NodeT.kind a0) != (NodeT.kind a1))
    (k [.d .bool false])
    (cond ((NodeT.n a0) != (NodeT.n a1))
      (k [.d .bool false])
      (cond (!(sEq (NodeT.s a0) (NodeT.s a1)))
        (k [.d .bool false])
        (cond (sm2 (smL smStr) (NodeT.keys a0) (NodeT.keys a1))
          (cond (!(eqD (NodeT.keys a0) (NodeT.keys a1)))
            (k [.d .bool false])
            (cond ((sm2 (smL sm_node) (NodeT.kids a0) (NodeT.kids a1)) && (Nat.blt (meL_node (NodeT.kids a0) (NodeT.kids a1)) N))
              (cond (!(eqD (NodeT.kids a0) (NodeT.kids a1)))
                (k [.d .bool false])
                (k [.d .bool true]))
              none))
          none)))) := by kernel_rfl
theorem f14_spec (N : Nat) (a0 : NodeT) (a1 : NodeT) (hg : sm2 sm_node a0 a1 = true) (hm : mu14 [.d .node a0, .d .node a1] = N) : ∃ keep rounds, ∀ {R : Type} (k : List Dt → Option R), evFn (f14e N) keep rounds f14c [.ro, .ro] [false] true [.tmp 4] [4] [.d .node a0, .d .node a1] k = k [.d .bool (eqD a0 a1)] := by
  have hm : me_node a0 a1 = N := hm
  subst hm
  have m1 : Nat.blt (meL_node a0.kids a1.kids) (me_node a0 a1) = true := by rw [Nat.blt_eq]; simp only [meL_node, me_node, nd_node_def]; omega
  simp only [sm2, sm_node_def, Bool.and_eq_true] at hg
  refine ⟨f14k, 0, fun {R} k => ?_⟩
  rw [f14_run, eqD_node]
  simp only [bne, sm2, hg, m1, Bool.and_self, Bool.true_and, cond_true]
  cases (a0.kind == a1.kind) <;> cases (a0.n == a1.n) <;> cases sEq a0.s a1.s <;> cases eqD a0.keys a1.keys <;> cases eqD a0.kids a1.kids <;> rfl


/-! ### loop.example/g00465/laws.eqNodeS -/
noncomputable def f35c : Code := (Try.f35.body).getD .skip
def f35k : Nat → Kp := kat [⟨[0, 1], [], [], []⟩, ⟨[0, 1, 10], [], [], []⟩, ⟨[4], [], [], []⟩, ⟨[0, 1, 5], [], [], []⟩, ⟨[0, 1, 5, 14], [], [], []⟩, ⟨[0, 1, 5], [], [], []⟩, ⟨[0, 1, 5, 26], [], [], []⟩, ⟨[4], [], [], []⟩, ⟨[4], [], [], []⟩]
noncomputable def f35e (N : Nat) : Env := tab.env [(14, s14r N)]
noncomputable def f35L0 {R : Type} (N : Nat) (n : Nat) (x0 : Option R) (x1 : Int → Bool → Option R) (vs0 : List NodeT) (vs1 : List NodeT) : Nat → Int → Option R
  | 0, _ => none
  | m + 1, vs5 =>
    (cond (decide (vs5 < (vs0.length : Int)))
      (cond ((decide ((0 : Int) ≤ vs5)) && (decide (vs5 < (vs0.length : Int))))
        (cond ((decide ((0 : Int) ≤ vs5)) && (decide (vs5 < (vs1.length : Int))))
          (cond ((sm2 sm_node (⟨(NodeT.kind (atI (t := .node) vs0 (Int.toNat vs5))), (NodeT.n (atI (t := .node) vs0 (Int.toNat vs5))), (NodeT.s (atI (t := .node) vs0 (Int.toNat vs5))), (NodeT.keys (atI (t := .node) vs0 (Int.toNat vs5))), (NodeT.kids (atI (t := .node) vs0 (Int.toNat vs5)))⟩ : NodeT) (⟨(NodeT.kind (atI (t := .node) vs1 (Int.toNat vs5))), (NodeT.n (atI (t := .node) vs1 (Int.toNat vs5))), (NodeT.s (atI (t := .node) vs1 (Int.toNat vs5))), (NodeT.keys (atI (t := .node) vs1 (Int.toNat vs5))), (NodeT.kids (atI (t := .node) vs1 (Int.toNat vs5)))⟩ : NodeT)) && (Nat.blt (me_node (⟨(NodeT.kind (atI (t := .node) vs0 (Int.toNat vs5))), (NodeT.n (atI (t := .node) vs0 (Int.toNat vs5))), (NodeT.s (atI (t := .node) vs0 (Int.toNat vs5))), (NodeT.keys (atI (t := .node) vs0 (Int.toNat vs5))), (NodeT.kids (atI (t := .node) vs0 (Int.toNat vs5)))⟩ : NodeT) (⟨(NodeT.kind (atI (t := .node) vs1 (Int.toNat vs5))), (NodeT.n (atI (t := .node) vs1 (Int.toNat vs5))), (NodeT.s (atI (t := .node) vs1 (Int.toNat vs5))), (NodeT.keys (atI (t := .node) vs1 (Int.toNat vs5))), (NodeT.kids (atI (t := .node) vs1 (Int.toNat vs5)))⟩ : NodeT)) N))
            (cond (!(eqD (⟨(NodeT.kind (atI (t := .node) vs0 (Int.toNat vs5))), (NodeT.n (atI (t := .node) vs0 (Int.toNat vs5))), (NodeT.s (atI (t := .node) vs0 (Int.toNat vs5))), (NodeT.keys (atI (t := .node) vs0 (Int.toNat vs5))), (NodeT.kids (atI (t := .node) vs0 (Int.toNat vs5)))⟩ : NodeT) (⟨(NodeT.kind (atI (t := .node) vs1 (Int.toNat vs5))), (NodeT.n (atI (t := .node) vs1 (Int.toNat vs5))), (NodeT.s (atI (t := .node) vs1 (Int.toNat vs5))), (NodeT.keys (atI (t := .node) vs1 (Int.toNat vs5))), (NodeT.kids (atI (t := .node) vs1 (Int.toNat vs5)))⟩ : NodeT)))
              (x0)
              (f35L0 N n x0 x1 vs0 vs1 m (IntKind.wrap .i64 (vs5 + (1 : Int)))))
            none)
          none)
        none)
      (x1 vs5 (decide (vs5 < (vs0.length : Int)))))
theorem f35L0_b {R : Type} (N : Nat) (n : Nat) (k' : Ex → St → Option R) (vs0 : List NodeT) (vs1 : List NodeT) (vs5 : Int) : ev (f35e N) f35k n (cAt [1,1,0,1,0,0] f35c) ⟨[(0, .c (.one (.ro .node vs0))), (1, .c (.one (.ro .node vs1))), (5, .c (.one (.v (.int .i64 vs5))))], [], []⟩ k' =
    (cond (decide (vs5 < (vs0.length : Int)))
    (cond ((decide ((0 : Int) ≤ vs5)) && (decide (vs5 < (vs0.length : Int))))
      (cond ((decide ((0 : Int) ≤ vs5)) && (decide (vs5 < (vs1.length : Int))))
        (cond ((sm2 sm_node (⟨(NodeT.kind (atI (t := .node) vs0 (Int.toNat vs5))), (NodeT.n (atI (t := .node) vs0 (Int.toNat vs5))), (NodeT.s (atI (t := .node) vs0 (Int.toNat vs5))), (NodeT.keys (atI (t := .node) vs0 (Int.toNat vs5))), (NodeT.kids (atI (t := .node) vs0 (Int.toNat vs5)))⟩ : NodeT) (⟨(NodeT.kind (atI (t := .node) vs1 (Int.toNat vs5))), (NodeT.n (atI (t := .node) vs1 (Int.toNat vs5))), (NodeT.s (atI (t := .node) vs1 (Int.toNat vs5))), (NodeT.keys (atI (t := .node) vs1 (Int.toNat vs5))), (NodeT.kids (atI (t := .node) vs1 (Int.toNat vs5)))⟩ : NodeT)) && (Nat.blt (me_node (⟨(NodeT.kind (atI (t := .node) vs0 (Int.toNat vs5))), (NodeT.n (atI (t := .node) vs0 (Int.toNat vs5))), (NodeT.s (atI (t := .node) vs0 (Int.toNat vs5))), (NodeT.keys (atI (t := .node) vs0 (Int.toNat vs5))), (NodeT.kids (atI (t := .node) vs0 (Int.toNat vs5)))⟩ : NodeT) (⟨(NodeT.kind (atI (t := .node) vs1 (Int.toNat vs5))), (NodeT.n (atI (t := .node) vs1 (Int.toNat vs5))), (NodeT.s (atI (t := .node) vs1 (Int.toNat vs5))), (NodeT.keys (atI (t := .node) vs1 (Int.toNat vs5))), (NodeT.kids (atI (t := .node) vs1 (Int.toNat vs5)))⟩ : NodeT)) N))
          (cond (!(eqD (⟨(NodeT.kind (atI (t := .node) vs0 (Int.toNat vs5))), (NodeT.n (atI (t := .node) vs0 (Int.toNat vs5))), (NodeT.s (atI (t := .node) vs0 (Int.toNat vs5))), (NodeT.keys (atI (t := .node) vs0 (Int.toNat vs5))), (NodeT.kids (atI (t := .node) vs0 (Int.toNat vs5)))⟩ : NodeT) (⟨(NodeT.kind (atI (t := .node) vs1 (Int.toNat vs5))), (NodeT.n (atI (t := .node) vs1 (Int.toNat vs5))), (NodeT.s (atI (t := .node) vs1 (Int.toNat vs5))), (NodeT.keys (atI (t := .node) vs1 (Int.toNat vs5))), (NodeT.kids (atI (t := .node) vs1 (Int.toNat vs5)))⟩ : NodeT)))
            (k' .ret ⟨[(4, .c (.one (.v (.bool false))))], [], []⟩)
            (k' .normal ⟨[(0, .c (.one (.ro .node vs0))), (1, .c (.one (.ro .node vs1))), (5, .c (.one (.v (.int .i64 (IntKind.wrap .i64 (vs5 + (1 : Int)))))))], [], []⟩))
          none)
        none)
      none)
    (k' (.exit 0) ⟨[(0, .c (.one (.ro .node vs0))), (1, .c (.one (.ro .node vs1))), (5, .c (.one (.v (.int .i64 vs5)))), (14, .c (.one (.v (.bool (decide (vs5 < (vs0.length : Int)))))))], [], []⟩)) := by kernel_rfl
theorem f35L0_eq {R : Type} (N : Nat) (n : Nat) (k' : Ex → St → Option R) (vs0 : List NodeT) (vs1 : List NodeT) : ∀ (m : Nat) (vs5 : Int), iter (fun st k => ev (f35e N) f35k n (cAt [1,1,0,1,0,0] f35c) st k) m ⟨[(0, .c (.one (.ro .node vs0))), (1, .c (.one (.ro .node vs1))), (5, .c (.one (.v (.int .i64 vs5))))], [], []⟩ k' = f35L0 N n (k' .ret ⟨[(4, .c (.one (.v (.bool false))))], [], []⟩) (fun (xvs5 : Int) (xvs14 : Bool) => k' (.exit 0) ⟨[(0, .c (.one (.ro .node vs0))), (1, .c (.one (.ro .node vs1))), (5, .c (.one (.v (.int .i64 xvs5)))), (14, .c (.one (.v (.bool xvs14))))], [], []⟩) vs0 vs1 m vs5 := by
  intro m; induction m with
  | zero => intros; rfl
  | succ m ih =>
    intro vs5
    simp only [iter]
    rw [f35L0_b]
    simp only [ih, f35L0]

noncomputable def f35K0 {R : Type} (N : Nat) (n : Nat) (k' : Ex → St → Option R) : Ex → St → Option R := (blockK 0 (seqK (f35e N) f35k n (cAt [1,1,1] f35c) k'))
theorem f35K0_x0 {R : Type} (N : Nat) (n : Nat) (k : List Dt → Option R) (a0 : List NodeT) (a1 : List NodeT)  : f35K0 N n (exitK (f35e N) [.ro, .ro] [false] true [.tmp 4] [4] [.d (.sl .node) a0, .d (.sl .node) a1] k) .ret ⟨[(4, .c (.one (.v (.bool false))))], [], []⟩ =
    (k [.d .bool false]) := by kernel_rfl
theorem f35K0_x1 {R : Type} (N : Nat) (n : Nat) (k : List Dt → Option R) (a0 : List NodeT) (a1 : List NodeT) (vs0 : List NodeT) (vs1 : List NodeT) (xvs5 : Int) (xvs14 : Bool) : f35K0 N n (exitK (f35e N) [.ro, .ro] [false] true [.tmp 4] [4] [.d (.sl .node) a0, .d (.sl .node) a1] k) (.exit 0) ⟨[(0, .c (.one (.ro .node vs0))), (1, .c (.one (.ro .node vs1))), (5, .c (.one (.v (.int .i64 xvs5)))), (14, .c (.one (.v (.bool xvs14))))], [], []⟩ =
    (k [.d .bool true]) := by kernel_rfl

theorem f35_run {R : Type} (N : Nat) (n : Nat) (k : List Dt → Option R) (a0 : List NodeT) (a1 : List NodeT) : evFn (f35e N) f35k n f35c [.ro, .ro] [false] true [.tmp 4] [4] [.d (.sl .node) a0, .d (.sl .node) a1] k =
    (cond ((a0.length : Int) != (a1.length : Int))
    (k [.d .bool false])
    (f35L0 N n (k [.d .bool false]) (fun (xvs5 : Int) (xvs14 : Bool) =>
      (k [.d .bool true])) a0 a1 n (0 : Int))) := by
  refine Eq.trans (b := (cond ((a0.length : Int) != (a1.length : Int))
    (k [.d .bool false])
    (iter (fun st k => ev (f35e N) f35k n (cAt [1,1,0,1,0,0] f35c) st k) n ⟨[(0, .c (.one (.ro .node a0))), (1, .c (.one (.ro .node a1))), (5, .c (.one (.v (.int .i64 (0 : Int)))))], [], []⟩ (f35K0 N n (exitK (f35e N) [.ro, .ro] [false] true [.tmp 4] [4] [.d (.sl .node) a0, .d (.sl .node) a1] k))))) (by kernel_rfl) ?_
  simp only [f35L0_eq, f35K0_x0, f35K0_x1]
theorem f35_spec (N : Nat) (a0 : List NodeT) (a1 : List NodeT) (hg : sm2 (smL sm_node) a0 a1 = true) (hm : mu35 [.d (.sl .node) a0, .d (.sl .node) a1] = N) : ∃ keep rounds, ∀ {R : Type} (k : List Dt → Option R), evFn (f35e N) keep rounds f35c [.ro, .ro] [false] true [.tmp 4] [4] [.d (.sl .node) a0, .d (.sl .node) a1] k = k [.d .bool (eqD a0 a1)] := by
  have hm : meL_node a0 a1 = N := hm
  subst hm
  simp only [sm2, Bool.and_eq_true] at hg
  obtain ⟨hg0, hg1⟩ := hg
  have hl : a0.length ≤ 1048576 := smL_len hg0
  refine ⟨f35k, a0.length + 1, fun {R} k => ?_⟩
  rw [f35_run]
  by_cases hc : a0.length = a1.length
  · have hc' : ((a0.length : Int) != (a1.length : Int)) = false := by simp [hc]
    simp only [hc', cond_false]
    refine Eq.trans (loop_idx (n := a0.length) (F := fun m i => f35L0 (meL_node a0 a1) (a0.length + 1) _ _ a0 a1 m i) (p := fun j => eqD (atI (t := .node) a0 j) (atI (t := .node) a1 j)) (good := k [.d .bool true]) (bad := k [.d .bool false])
      (fun m j hj => ?_) (fun m => by simp only [f35L0, idxE, cond_false]) a0.length 0 (a0.length + 1) (by omega) (by omega)) ?_
    · obtain ⟨h1, h0, hw, ht⟩ := idx hj (by omega)
      obtain ⟨h2, _, _, _⟩ := idx (show j < a1.length by omega) (by omega)
      have ha := smL_at (t := .node) hg0 hj
      have hb := smL_at (t := .node) hg1 (show j < a1.length by omega)
      have hm1 : Nat.blt (me_node (atI (t := .node) a0 j) (atI (t := .node) a1 j)) (meL_node a0 a1) = true := by
        obtain ⟨x, hx, _⟩ := drop_get hj
        have := ndL_mem (f := nd_node) (List.mem_of_getElem? hx)
        rw [atI_of (t := .node) hx, Nat.blt_eq]; simp only [me_node, meL_node]; omega
      simp only [f35L0, h1, h0, h2, hw, ht, Bool.and_self, cond_true, sm2, eta_node, ha, hb, hm1]
      cases eqD (atI (t := .node) a0 j) (atI (t := .node) a1 j) <;> rfl
    · rw [allN_eq hc (fun j x y hx hy => by rw [atI_of (t := .node) hx, atI_of (t := .node) hy])]
      cases eqD a0 a1 <;> rfl
  · simp only [bneLen hc, cond_true]
    rw [eqD_ne (fun e => hc (by rw [e]))]


theorem goods14 : ∀ x ∈ ([⟨14, [.ro, .ro], [false], true, mu14, q14⟩, ⟨35, [.ro, .ro], [false], true, mu35, q35⟩] : List Rc), Gm.SpecOk Try.prog x.f (Gm.Spec.of x.ms x.rs x.ow x.q) := by
  refine spec_recs _ fun N hr => ?_
  have hr1 : Gm.SpecOk Try.prog 14 (Gm.Spec.of [.ro, .ro] [false] true (qlt mu14 N q14)) := fun {R} => hr _ (.head _)
  have hr2 : Gm.SpecOk Try.prog 35 (Gm.Spec.of [.ro, .ro] [false] true (qlt mu35 N q35)) := fun {R} => hr _ (.tail _ (.head _))
  refine List.forall_mem_cons.2 ⟨?_, List.forall_mem_cons.2 ⟨?_, List.forall_mem_nil _⟩⟩
  · have hl : ∀ x ∈ ([(26, s26), (35, s35r N)] : List (Nat × Gm.Spec)), Gm.Good Try.prog x := List.forall_mem_cons.2 ⟨good26, List.forall_mem_cons.2 ⟨⟨⟨hr2, _, Try.func35, by kernel_rfl, of_decide_eq_true (by kernel_rfl)⟩, Gm.Spec.of_natl _ _ _ _⟩, List.forall_mem_nil _⟩⟩
    show Gm.SpecOk Try.prog 14 (Gm.Spec.of [.ro, .ro] [false] true (qeq mu14 N q14))
    intro R
    refine spec_ok (E := f14e N) (tab_ok.env hl) (tab.natl hl) Try.func14 (by kernel_rfl : Try.f14.body = some f14c) [4] (by kernel_rfl) ?_
    intro ds outs h
    obtain ⟨h, hm⟩ := qeq_some h
    unfold q14 at h
    split at h
    · simp only [Option.some.injEq, Prod.mk.injEq] at h; obtain ⟨hg, h⟩ := h; cases h; exact f14_spec N _ _ hg hm
    · cases h
  · have hl : ∀ x ∈ ([(14, s14r N)] : List (Nat × Gm.Spec)), Gm.Good Try.prog x := List.forall_mem_cons.2 ⟨⟨⟨hr1, _, Try.func14, by kernel_rfl, of_decide_eq_true (by kernel_rfl)⟩, Gm.Spec.of_natl _ _ _ _⟩, List.forall_mem_nil _⟩
    show Gm.SpecOk Try.prog 35 (Gm.Spec.of [.ro, .ro] [false] true (qeq mu35 N q35))
    intro R
    refine spec_ok (E := f35e N) (tab_ok.env hl) (tab.natl hl) Try.func35 (by kernel_rfl : Try.f35.body = some f35c) [4] (by kernel_rfl) ?_
    intro ds outs h
    obtain ⟨h, hm⟩ := qeq_some h
    unfold q35 at h
    split at h
    · simp only [Option.some.injEq, Prod.mk.injEq] at h; obtain ⟨hg, h⟩ := h; cases h; exact f35_spec N _ _ hg hm
    · cases h
theorem good14 : Gm.Good Try.prog (14, s14) := ⟨⟨fun {R} => goods14 _ (.head _), _, Try.func14, by kernel_rfl, of_decide_eq_true (by kernel_rfl)⟩, Gm.Spec.of_natl _ _ _ _⟩
end Go.Proofs.Ytglijihijmkpaaa

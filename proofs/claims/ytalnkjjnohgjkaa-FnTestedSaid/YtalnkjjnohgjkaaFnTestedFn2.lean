/- What the functions compute, part 2. No conditions. -/
import Derived.Test.YtalnkjjnohgjkaaFnTestedFn1
/- x -/
namespace Go.Proofs.Ytalnkjjnohgjkaa
open Go Go.Gm
noncomputable def q108a : List Dt → Option (Bool × List Dt)
  | [.d .node a0, .d (.sl .str) a1, .clo 101 []] => some ((gW a0 a1), [.d .node ((cutIn a0 a1).1), .d .bool ((cutIn a0 a1).2)])
  | _ => none
noncomputable def mu108a : List Dt → Nat
  | [.d .node a0, .d (.sl .str) a1, .clo 101 []] => (fun (_ : NodeT) (p : List ByteArray) => p.length) a0 a1
  | _ => 0
noncomputable def s108ar (N : Nat) : Gm.Spec := Gm.Spec.of [.ro, .ro, .fn] [false, false] true (qlt mu108a N q108a)
/-! ### loop.example/g00465/impl.within -/
noncomputable def f108ac : Code := (Try.f108.body).getD .skip
def f108ak : Nat → Kp := kat [⟨[1, 2, 3, 6], [], [], []⟩, ⟨[1, 2, 3, 6, 13], [], [], []⟩, ⟨[6, 7], [], [], []⟩, ⟨[1, 2, 3, 6, 8], [], [], []⟩, ⟨[1, 2, 3, 6, 8, 28], [], [], []⟩, ⟨[6, 7], [], [], []⟩, ⟨[3, 6, 8, 9, 10], [], [], []⟩, ⟨[3, 6, 8, 9, 43], [], [], []⟩, ⟨[6, 7], [], [], []⟩, ⟨[3, 6, 8, 9], [], [], []⟩, ⟨[3, 6], [], [], []⟩, ⟨[6, 7], [], [], []⟩]
noncomputable def f108ae (N : Nat) : Env := tab.env [(38, s38), (39, s39), (101, s101), (108, s108ar N)]
noncomputable def f108av0 (a0 : NodeT) (a1 : List ByteArray) : List NodeT :=
  ((NodeT.kids a0).set (Int.toNat (kidAt (eN a0) (atI (t := .str) a1 0))) (eN ((cutIn (eN (atI (t := .node) (NodeT.kids a0) (Int.toNat (kidAt (eN a0) (atI (t := .str) a1 0))))) ((a1.take (Int.toNat (a1.length : Int))).drop 1)).1)))
theorem f108a_run {R : Type} (N : Nat) (n : Nat) (k : List Dt → Option R) (a0 : NodeT) (a1 : List ByteArray) : evFn (f108ae N) f108ak n f108ac [.ro, .ro, .fn] [false, false] true [.cell 6 27, .tmp 7] [27, 4] [.d .node a0, .d (.sl .str) a1, .clo 101 []] k =
    (cond ((a1.length : Int) == (1 : Int))
    (cond (decide ((0 : Int) < (a1.length : Int)))
      (cond ((fun (x : NodeT) (_ : ByteArray) => sm_node x) (eN a0) (atI (t := .str) a1 0))
        (k [.d .node (eN ((cutLast (eN a0) (atI (t := .str) a1 0)).1)), .d .bool ((cutLast (eN a0) (atI (t := .str) a1 0)).2)])
        none)
      none)
    (cond (decide ((0 : Int) < (a1.length : Int)))
      (cond ((fun (x : NodeT) (_ : ByteArray) => sm_node x) (eN a0) (atI (t := .str) a1 0))
        (cond (decide ((kidAt (eN a0) (atI (t := .str) a1 0)) < (0 : Int)))
          (k [.d .node (⟨(0 : Int), (0 : Int), ByteArray.empty, ([] : List ByteArray), ([] : List NodeT)⟩ : NodeT), .d .bool false])
          (cond ((decide ((0 : Int) ≤ (kidAt (eN a0) (atI (t := .str) a1 0)))) && (decide ((kidAt (eN a0) (atI (t := .str) a1 0)) < ((NodeT.kids a0).length : Int))))
            (cond ((decide ((1 : Int) ≤ (a1.length : Int))) && (decide ((a1.length : Int) ≤ (a1.length : Int))))
              (cond ((gW (eN (atI (t := .node) (NodeT.kids a0) (Int.toNat (kidAt (eN a0) (atI (t := .str) a1 0))))) ((a1.take (Int.toNat (a1.length : Int))).drop 1)) && (Nat.blt ((fun (_ : NodeT) (p : List ByteArray) => p.length) (eN (atI (t := .node) (NodeT.kids a0) (Int.toNat (kidAt (eN a0) (atI (t := .str) a1 0))))) ((a1.take (Int.toNat (a1.length : Int))).drop 1)) N))
                (cond (!((cutIn (eN (atI (t := .node) (NodeT.kids a0) (Int.toNat (kidAt (eN a0) (atI (t := .str) a1 0))))) ((a1.take (Int.toNat (a1.length : Int))).drop 1)).2))
                  (k [.d .node (⟨(0 : Int), (0 : Int), ByteArray.empty, ([] : List ByteArray), ([] : List NodeT)⟩ : NodeT), .d .bool false])
                  (cond (sm_node (eN a0))
                    (cond ((decide ((0 : Int) ≤ (kidAt (eN a0) (atI (t := .str) a1 0)))) && (decide ((kidAt (eN a0) (atI (t := .str) a1 0)) < ((NodeT.kids a0).length : Int))))
                      (k [.d .node (⟨(NodeT.kind a0), (NodeT.n a0), (NodeT.s a0), (NodeT.keys a0), (f108av0 a0 a1)⟩ : NodeT), .d .bool true])
                      none)
                    none))
                none)
              none)
            none))
        none)
      none)) := by kernel_rfl
theorem f108a_spec (N : Nat) (a0 : NodeT) (a1 : List ByteArray) (hg : gW a0 a1 = true) (hm : mu108a [.d .node a0, .d (.sl .str) a1, .clo 101 []] = N) : ∃ keep rounds, ∀ {R : Type} (k : List Dt → Option R), evFn (f108ae N) keep rounds f108ac [.ro, .ro, .fn] [false, false] true [.cell 6 27, .tmp 7] [27, 4] [.d .node a0, .d (.sl .str) a1, .clo 101 []] k = k [.d .node ((cutIn a0 a1).1), .d .bool ((cutIn a0 a1).2)] := by
  have hm : a1.length = N := hm
  subst hm
  simp only [gW, Bool.and_eq_true] at hg
  obtain ⟨hg, hpa, hne⟩ := hg
  have hg0 := hg
  rw [sm_node_def] at hg
  simp only [Bool.and_eq_true] at hg
  obtain ⟨_, _, _, hke, hki⟩ := hg
  have nke := smL_len hke
  have nki := smL_len hki
  refine ⟨f108ak, 0, fun {R} k => ?_⟩
  rw [f108a_run]
  show _ = k [.d .node (cutIn a0 a1).1, .d .bool (cutIn a0 a1).2]
  match a1, hpa, hne with
  | [], _, hne => cases hne
  | [p], _, _ =>
    simp only [eta_node, eN_eq, hg0, cutIn]
    rfl
  | p :: q :: r, hpa, _ =>
    have l0 : decide ((0 : Int) < ((p :: q :: r).length : Int)) = true := decide_eq_true (by simp only [List.length_cons]; omega)
    have l1 : (((p :: q :: r).length : Int) == (1 : Int)) = false := by rw [beq_eq_false_iff_ne]; simp only [List.length_cons]; omega
    have l2 : decide ((1 : Int) ≤ ((p :: q :: r).length : Int)) = true := decide_eq_true (by simp only [List.length_cons]; omega)
    have l3 : decide (((p :: q :: r).length : Int) ≤ ((p :: q :: r).length : Int)) = true := decide_eq_true (Int.le_refl _)
    have l4 : ((p :: q :: r).take (Int.toNat ((p :: q :: r).length : Int))).drop 1 = q :: r := by rw [Int.toNat_natCast, List.take_length]; rfl
    have l5 : atI (t := .str) (p :: q :: r) 0 = p := rfl
    have l6 : Nat.blt (q :: r).length (p :: q :: r).length = true := by rw [Nat.blt_eq]; simp only [List.length_cons]; omega
    have l7 : (((p :: q :: r).length : Int) == (0 : Int)) = false := by rw [beq_eq_false_iff_ne]; simp only [List.length_cons]; omega
    have l8 : decide (((p :: q :: r).length : Int) > (1 : Int)) = true := decide_eq_true (by simp only [List.length_cons]; omega)
    have hqr : smL smStr (q :: r) = true := smL_tail hpa
    simp only [eta_node, eN_eq, hg0, l0, l1, l5, cond_true, cond_false]
    rw [cutIn]
    by_cases hk : kidAt a0 p < 0
    · rw [decide_eq_true hk]; rfl
    obtain ⟨i, e, h1⟩ := kidAt_bd hk
    obtain ⟨i1, i0, _, it⟩ := idx h1 (by omega)
    have hx := atI_lt (t := .node) h1
    have hgk : gW (atI (t := .node) a0.kids i) (q :: r) = true := by
      simp only [gW, Bool.and_eq_true]
      exact ⟨sm_kid hg0 (List.mem_of_getElem? hx), hqr, rfl⟩
    simp only [decide_eq_false hk, f108av0, eta_node, eN_eq, l2, l3, l4, l5, l6, hgk, e, i1, i0, it, Bool.and_self, cond_true, cond_false]
    cases (cutIn (atI (t := .node) a0.kids i) (q :: r)).2 <;> rfl

noncomputable def s108a : Gm.Spec := Gm.Spec.of [.ro, .ro, .fn] [false, false] true q108a
theorem good108a : Gm.Good Try.prog (108, s108a) := by
  refine ⟨⟨spec_rec mu108a fun N hr => ?_, _, Try.func108, by kernel_rfl, of_decide_eq_true (by kernel_rfl)⟩, Gm.Spec.of_natl _ _ _ _⟩
  have hl : ∀ x ∈ [(38, s38), (39, s39), (101, s101), (108, s108ar N)], Gm.Good Try.prog x := List.forall_mem_cons.2 ⟨good38, List.forall_mem_cons.2 ⟨good39, List.forall_mem_cons.2 ⟨good101, List.forall_mem_cons.2 ⟨⟨⟨hr, _, Try.func108, by kernel_rfl, of_decide_eq_true (by kernel_rfl)⟩, Gm.Spec.of_natl _ _ _ _⟩, List.forall_mem_nil _⟩⟩⟩⟩
  intro R
  refine spec_ok (E := f108ae N) (tab_ok.env hl) (tab.natl hl) Try.func108 (by kernel_rfl : Try.f108.body = some f108ac) [27, 4] (by kernel_rfl) ?_
  intro ds outs h
  obtain ⟨h, hm⟩ := qeq_some h
  unfold q108a at h
  split at h
  · simp only [Option.some.injEq, Prod.mk.injEq] at h; obtain ⟨hg, h⟩ := h; cases h; exact f108a_spec N _ _ hg hm
  · cases h

noncomputable def q108b : List Dt → Option (Bool × List Dt)
  | [.d .node a0, .d (.sl .str) a1, .clo 97 [⟨.node, a2⟩]] => some ((gPW a0 a1 a2), [.d .node ((putIn a0 a1 a2).1), .d .bool ((putIn a0 a1 a2).2)])
  | _ => none
noncomputable def mu108b : List Dt → Nat
  | [.d .node a0, .d (.sl .str) a1, .clo 97 [⟨.node, a2⟩]] => (fun (_ : NodeT) (p : List ByteArray) (_ : NodeT) => p.length) a0 a1 a2
  | _ => 0
noncomputable def s108br (N : Nat) : Gm.Spec := Gm.Spec.of [.ro, .ro, .fn] [false, false] true (qlt mu108b N q108b)
/-! ### loop.example/g00465/impl.within -/
noncomputable def f108bc : Code := (Try.f108.body).getD .skip
def f108bk : Nat → Kp := kat [⟨[1, 2, 3, 6], [], [], []⟩, ⟨[1, 2, 3, 6, 13], [], [], []⟩, ⟨[6, 7], [], [], []⟩, ⟨[1, 2, 3, 6, 8], [], [], []⟩, ⟨[1, 2, 3, 6, 8, 28], [], [], []⟩, ⟨[6, 7], [], [], []⟩, ⟨[3, 6, 8, 9, 10], [], [], []⟩, ⟨[3, 6, 8, 9, 43], [], [], []⟩, ⟨[6, 7], [], [], []⟩, ⟨[3, 6, 8, 9], [], [], []⟩, ⟨[3, 6], [], [], []⟩, ⟨[6, 7], [], [], []⟩]
noncomputable def f108be (N : Nat) : Env := tab.env [(38, s38), (39, s39), (97, s97), (108, s108br N)]
noncomputable def f108bv0 (a0 : NodeT) (a1 : List ByteArray) (a2 : NodeT) : List NodeT :=
  ((NodeT.kids a0).set (Int.toNat (kidAt (eN a0) (atI (t := .str) a1 0))) (eN ((putIn (eN (atI (t := .node) (NodeT.kids a0) (Int.toNat (kidAt (eN a0) (atI (t := .str) a1 0))))) ((a1.take (Int.toNat (a1.length : Int))).drop 1) a2).1)))
theorem f108b_run {R : Type} (N : Nat) (n : Nat) (k : List Dt → Option R) (a0 : NodeT) (a1 : List ByteArray) (a2 : NodeT) : evFn (f108be N) f108bk n f108bc [.ro, .ro, .fn] [false, false] true [.cell 6 27, .tmp 7] [27, 4] [.d .node a0, .d (.sl .str) a1, .clo 97 [⟨.node, a2⟩]] k =
    (cond ((a1.length : Int) == (1 : Int))
    (cond (decide ((0 : Int) < (a1.length : Int)))
      (cond (gS3 (eN a0) (atI (t := .str) a1 0) a2)
        (k [.d .node (eN ((putLast (eN a0) (atI (t := .str) a1 0) a2).1)), .d .bool ((putLast (eN a0) (atI (t := .str) a1 0) a2).2)])
        none)
      none)
    (cond (decide ((0 : Int) < (a1.length : Int)))
      (cond ((fun (x : NodeT) (_ : ByteArray) => sm_node x) (eN a0) (atI (t := .str) a1 0))
        (cond (decide ((kidAt (eN a0) (atI (t := .str) a1 0)) < (0 : Int)))
          (k [.d .node (⟨(0 : Int), (0 : Int), ByteArray.empty, ([] : List ByteArray), ([] : List NodeT)⟩ : NodeT), .d .bool false])
          (cond ((decide ((0 : Int) ≤ (kidAt (eN a0) (atI (t := .str) a1 0)))) && (decide ((kidAt (eN a0) (atI (t := .str) a1 0)) < ((NodeT.kids a0).length : Int))))
            (cond ((decide ((1 : Int) ≤ (a1.length : Int))) && (decide ((a1.length : Int) ≤ (a1.length : Int))))
              (cond ((gPW (eN (atI (t := .node) (NodeT.kids a0) (Int.toNat (kidAt (eN a0) (atI (t := .str) a1 0))))) ((a1.take (Int.toNat (a1.length : Int))).drop 1) a2) && (Nat.blt ((fun (_ : NodeT) (p : List ByteArray) (_ : NodeT) => p.length) (eN (atI (t := .node) (NodeT.kids a0) (Int.toNat (kidAt (eN a0) (atI (t := .str) a1 0))))) ((a1.take (Int.toNat (a1.length : Int))).drop 1) a2) N))
                (cond (!((putIn (eN (atI (t := .node) (NodeT.kids a0) (Int.toNat (kidAt (eN a0) (atI (t := .str) a1 0))))) ((a1.take (Int.toNat (a1.length : Int))).drop 1) a2).2))
                  (k [.d .node (⟨(0 : Int), (0 : Int), ByteArray.empty, ([] : List ByteArray), ([] : List NodeT)⟩ : NodeT), .d .bool false])
                  (cond (sm_node (eN a0))
                    (cond ((decide ((0 : Int) ≤ (kidAt (eN a0) (atI (t := .str) a1 0)))) && (decide ((kidAt (eN a0) (atI (t := .str) a1 0)) < ((NodeT.kids a0).length : Int))))
                      (k [.d .node (⟨(NodeT.kind a0), (NodeT.n a0), (NodeT.s a0), (NodeT.keys a0), (f108bv0 a0 a1 a2)⟩ : NodeT), .d .bool true])
                      none)
                    none))
                none)
              none)
            none))
        none)
      none)) := by kernel_rfl
theorem f108b_spec (N : Nat) (a0 : NodeT) (a1 : List ByteArray) (a2 : NodeT) (hg : gPW a0 a1 a2 = true) (hm : mu108b [.d .node a0, .d (.sl .str) a1, .clo 97 [⟨.node, a2⟩]] = N) : ∃ keep rounds, ∀ {R : Type} (k : List Dt → Option R), evFn (f108be N) keep rounds f108bc [.ro, .ro, .fn] [false, false] true [.cell 6 27, .tmp 7] [27, 4] [.d .node a0, .d (.sl .str) a1, .clo 97 [⟨.node, a2⟩]] k = k [.d .node ((putIn a0 a1 a2).1), .d .bool ((putIn a0 a1 a2).2)] := by
  have hm : a1.length = N := hm
  subst hm
  simp only [gPW, gP, Bool.and_eq_true] at hg
  obtain ⟨⟨hg, hpa, hx2⟩, hne⟩ := hg
  have hg0 := hg
  rw [sm_node_def] at hg
  simp only [Bool.and_eq_true] at hg
  obtain ⟨_, _, _, hke, hki⟩ := hg
  have nke := smL_len hke
  have nki := smL_len hki
  refine ⟨f108bk, 0, fun {R} k => ?_⟩
  rw [f108b_run]
  show _ = k [.d .node (putIn a0 a1 a2).1, .d .bool (putIn a0 a1 a2).2]
  match a1, hpa, hne with
  | [], _, hne => cases hne
  | [p], hpa, _ =>
    have hg3 : gS3 a0 p a2 = true := by simp only [gS3, Bool.and_eq_true]; exact ⟨hg0, smL_head hpa, hx2⟩
    have e5 : atI (t := .str) [p] 0 = p := rfl
    simp only [eta_node, eN_eq, e5, hg3, putIn]
    rfl
  | p :: q :: r, hpa, _ =>
    have l0 : decide ((0 : Int) < ((p :: q :: r).length : Int)) = true := decide_eq_true (by simp only [List.length_cons]; omega)
    have l1 : (((p :: q :: r).length : Int) == (1 : Int)) = false := by rw [beq_eq_false_iff_ne]; simp only [List.length_cons]; omega
    have l2 : decide ((1 : Int) ≤ ((p :: q :: r).length : Int)) = true := decide_eq_true (by simp only [List.length_cons]; omega)
    have l3 : decide (((p :: q :: r).length : Int) ≤ ((p :: q :: r).length : Int)) = true := decide_eq_true (Int.le_refl _)
    have l4 : ((p :: q :: r).take (Int.toNat ((p :: q :: r).length : Int))).drop 1 = q :: r := by rw [Int.toNat_natCast, List.take_length]; rfl
    have l5 : atI (t := .str) (p :: q :: r) 0 = p := rfl
    have l6 : Nat.blt (q :: r).length (p :: q :: r).length = true := by rw [Nat.blt_eq]; simp only [List.length_cons]; omega
    have l7 : (((p :: q :: r).length : Int) == (0 : Int)) = false := by rw [beq_eq_false_iff_ne]; simp only [List.length_cons]; omega
    have l8 : decide (((p :: q :: r).length : Int) > (1 : Int)) = true := decide_eq_true (by simp only [List.length_cons]; omega)
    have hqr : smL smStr (q :: r) = true := smL_tail hpa
    simp only [eta_node, eN_eq, hg0, l0, l1, l5, cond_true, cond_false]
    rw [putIn]
    by_cases hk : kidAt a0 p < 0
    · rw [decide_eq_true hk]; rfl
    obtain ⟨i, e, h1⟩ := kidAt_bd hk
    obtain ⟨i1, i0, _, it⟩ := idx h1 (by omega)
    have hx := atI_lt (t := .node) h1
    have hgk : gPW (atI (t := .node) a0.kids i) (q :: r) a2 = true := by
      simp only [gPW, gP, Bool.and_eq_true]
      exact ⟨⟨sm_kid hg0 (List.mem_of_getElem? hx), hqr, hx2⟩, rfl⟩
    simp only [decide_eq_false hk, f108bv0, eta_node, eN_eq, l2, l3, l4, l5, l6, hgk, e, i1, i0, it, Bool.and_self, cond_true, cond_false]
    cases (putIn (atI (t := .node) a0.kids i) (q :: r) a2).2 <;> rfl

noncomputable def s108b : Gm.Spec := Gm.Spec.of [.ro, .ro, .fn] [false, false] true q108b
theorem good108b : Gm.Good Try.prog (108, s108b) := by
  refine ⟨⟨spec_rec mu108b fun N hr => ?_, _, Try.func108, by kernel_rfl, of_decide_eq_true (by kernel_rfl)⟩, Gm.Spec.of_natl _ _ _ _⟩
  have hl : ∀ x ∈ [(38, s38), (39, s39), (97, s97), (108, s108br N)], Gm.Good Try.prog x := List.forall_mem_cons.2 ⟨good38, List.forall_mem_cons.2 ⟨good39, List.forall_mem_cons.2 ⟨good97, List.forall_mem_cons.2 ⟨⟨⟨hr, _, Try.func108, by kernel_rfl, of_decide_eq_true (by kernel_rfl)⟩, Gm.Spec.of_natl _ _ _ _⟩, List.forall_mem_nil _⟩⟩⟩⟩
  intro R
  refine spec_ok (E := f108be N) (tab_ok.env hl) (tab.natl hl) Try.func108 (by kernel_rfl : Try.f108.body = some f108bc) [27, 4] (by kernel_rfl) ?_
  intro ds outs h
  obtain ⟨h, hm⟩ := qeq_some h
  unfold q108b at h
  split at h
  · simp only [Option.some.injEq, Prod.mk.injEq] at h; obtain ⟨hg, h⟩ := h; cases h; exact f108b_spec N _ _ _ hg hm
  · cases h

noncomputable def q108 : List Dt → Option (Bool × List Dt) := fun ds => (match q108a ds with | some r => some r | none => (match q108b ds with | some r => some r | none => none))
noncomputable def s108 : Gm.Spec := Gm.Spec.of [.ro, .ro, .fn] [false, false] true q108
theorem good108 : Gm.Good Try.prog (108, s108) := by
  refine ⟨⟨spec_part (q := q108) ?_, good108a.1.2⟩, Gm.Spec.of_natl _ _ _ _⟩
  intro ds outs h
  unfold q108 at h
  cases ha : q108a ds with
  | some r =>
    simp only [ha] at h
    exact ⟨q108a, good108a.1.1, by rw [ha]; exact h⟩
  | none =>
  simp only [ha] at h
  cases hb : q108b ds with
  | some r =>
    simp only [hb] at h
    exact ⟨q108b, good108b.1.1, by rw [hb]; exact h⟩
  | none =>
  simp only [hb] at h
  cases h
/-! ### loop.example/g00465/impl.changedAt -/
noncomputable def f96ac : Code := (Try.f96.body).getD .skip
def f96ak : Nat → Kp := kat [⟨[1, 2, 3, 6], [], [], []⟩, ⟨[3, 6, 8, 9], [], [], []⟩, ⟨[3, 6, 8, 18], [], [], []⟩, ⟨[6, 7], [], [], []⟩, ⟨[6, 7], [], [], []⟩]
noncomputable def f96ae : Env := tab.env [(39, s39), (101, s101), (108, s108)]
theorem f96a_run {R : Type} (n : Nat) (k : List Dt → Option R) (a0 : NodeT) (a1 : List ByteArray) : evFn f96ae f96ak n f96ac [.ro, .ro, .fn] [false, false] true [.cell 6 27, .tmp 7] [27, 4] [.d .node a0, .d (.sl .str) a1, .clo 101 []] k =
    (cond (gW (eN a0) a1)
    (cond (!((cutIn (eN a0) a1).2))
      (cond (sm_node (eN a0))
        (k [.d .node (eN a0), .d .bool false])
        none)
      (k [.d .node (eN ((cutIn (eN a0) a1).1)), .d .bool true]))
    none) := by kernel_rfl
theorem f96a_spec (a0 : NodeT) (a1 : List ByteArray) (hg : gW a0 a1 = true) : ∃ keep rounds, ∀ {R : Type} (k : List Dt → Option R), evFn f96ae keep rounds f96ac [.ro, .ro, .fn] [false, false] true [.cell 6 27, .tmp 7] [27, 4] [.d .node a0, .d (.sl .str) a1, .clo 101 []] k = k [.d .node ((cutAt a0 a1).1), .d .bool ((cutAt a0 a1).2)] := by
  refine ⟨f96ak, 0, fun {R} k => ?_⟩
  rw [f96a_run]
  have hs : sm_node a0 = true := by simp only [gW, Bool.and_eq_true] at hg; exact hg.1
  simp only [eta_node, eN_eq, hg, hs, cond_true]
  show _ = k [.d .node (cutAt a0 a1).1, .d .bool (cutAt a0 a1).2]
  unfold cutAt
  cases (cutIn a0 a1).2 <;> rfl

noncomputable def q96a : List Dt → Option (Bool × List Dt)
  | [.d .node a0, .d (.sl .str) a1, .clo 101 []] => some ((gW a0 a1), [.d .node ((cutAt a0 a1).1), .d .bool ((cutAt a0 a1).2)])
  | _ => none
noncomputable def s96a : Gm.Spec := Gm.Spec.of [.ro, .ro, .fn] [false, false] true q96a
theorem good96a : Gm.Good Try.prog (96, s96a) := by
  have hl : ∀ x ∈ [(39, s39), (101, s101), (108, s108)], Gm.Good Try.prog x := List.forall_mem_cons.2 ⟨good39, List.forall_mem_cons.2 ⟨good101, List.forall_mem_cons.2 ⟨good108, List.forall_mem_nil _⟩⟩⟩
  refine ⟨⟨spec_ok (tab_ok.env hl) (tab.natl hl) Try.func96 (by kernel_rfl : Try.f96.body = some f96ac) [27, 4] (by kernel_rfl) ?_, _, Try.func96, by kernel_rfl, of_decide_eq_true (by kernel_rfl)⟩, Gm.Spec.of_natl _ _ _ _⟩
  intro ds outs h
  unfold q96a at h
  split at h
  · simp only [Option.some.injEq, Prod.mk.injEq] at h; obtain ⟨hg, h⟩ := h; cases h; exact f96a_spec _ _ hg
  · cases h

/-! ### loop.example/g00465/impl.changedAt -/
noncomputable def f96bc : Code := (Try.f96.body).getD .skip
def f96bk : Nat → Kp := kat [⟨[1, 2, 3, 6], [], [], []⟩, ⟨[3, 6, 8, 9], [], [], []⟩, ⟨[3, 6, 8, 18], [], [], []⟩, ⟨[6, 7], [], [], []⟩, ⟨[6, 7], [], [], []⟩]
noncomputable def f96be : Env := tab.env [(39, s39), (97, s97), (108, s108)]
theorem f96b_run {R : Type} (n : Nat) (k : List Dt → Option R) (a0 : NodeT) (a1 : List ByteArray) (a2 : NodeT) : evFn f96be f96bk n f96bc [.ro, .ro, .fn] [false, false] true [.cell 6 27, .tmp 7] [27, 4] [.d .node a0, .d (.sl .str) a1, .clo 97 [⟨.node, a2⟩]] k =
    (cond (gPW (eN a0) a1 a2)
    (cond (!((putIn (eN a0) a1 a2).2))
      (cond (sm_node (eN a0))
        (k [.d .node (eN a0), .d .bool false])
        none)
      (k [.d .node (eN ((putIn (eN a0) a1 a2).1)), .d .bool true]))
    none) := by kernel_rfl
theorem f96b_spec (a0 : NodeT) (a1 : List ByteArray) (a2 : NodeT) (hg : gPW a0 a1 a2 = true) : ∃ keep rounds, ∀ {R : Type} (k : List Dt → Option R), evFn f96be keep rounds f96bc [.ro, .ro, .fn] [false, false] true [.cell 6 27, .tmp 7] [27, 4] [.d .node a0, .d (.sl .str) a1, .clo 97 [⟨.node, a2⟩]] k = k [.d .node ((putAtW a0 a1 a2).1), .d .bool ((putAtW a0 a1 a2).2)] := by
  refine ⟨f96bk, 0, fun {R} k => ?_⟩
  rw [f96b_run]
  have hs : sm_node a0 = true := by simp only [gPW, gP, Bool.and_eq_true] at hg; exact hg.1.1
  simp only [eta_node, eN_eq, hg, hs, cond_true]
  show _ = k [.d .node (putAtW a0 a1 a2).1, .d .bool (putAtW a0 a1 a2).2]
  unfold putAtW
  cases (putIn a0 a1 a2).2 <;> rfl

noncomputable def q96b : List Dt → Option (Bool × List Dt)
  | [.d .node a0, .d (.sl .str) a1, .clo 97 [⟨.node, a2⟩]] => some ((gPW a0 a1 a2), [.d .node ((putAtW a0 a1 a2).1), .d .bool ((putAtW a0 a1 a2).2)])
  | _ => none
noncomputable def s96b : Gm.Spec := Gm.Spec.of [.ro, .ro, .fn] [false, false] true q96b
theorem good96b : Gm.Good Try.prog (96, s96b) := by
  have hl : ∀ x ∈ [(39, s39), (97, s97), (108, s108)], Gm.Good Try.prog x := List.forall_mem_cons.2 ⟨good39, List.forall_mem_cons.2 ⟨good97, List.forall_mem_cons.2 ⟨good108, List.forall_mem_nil _⟩⟩⟩
  refine ⟨⟨spec_ok (tab_ok.env hl) (tab.natl hl) Try.func96 (by kernel_rfl : Try.f96.body = some f96bc) [27, 4] (by kernel_rfl) ?_, _, Try.func96, by kernel_rfl, of_decide_eq_true (by kernel_rfl)⟩, Gm.Spec.of_natl _ _ _ _⟩
  intro ds outs h
  unfold q96b at h
  split at h
  · simp only [Option.some.injEq, Prod.mk.injEq] at h; obtain ⟨hg, h⟩ := h; cases h; exact f96b_spec _ _ _ hg
  · cases h

noncomputable def q96 : List Dt → Option (Bool × List Dt) := fun ds => (match q96a ds with | some r => some r | none => (match q96b ds with | some r => some r | none => none))
noncomputable def s96 : Gm.Spec := Gm.Spec.of [.ro, .ro, .fn] [false, false] true q96
theorem good96 : Gm.Good Try.prog (96, s96) := by
  refine ⟨⟨spec_part (q := q96) ?_, good96a.1.2⟩, Gm.Spec.of_natl _ _ _ _⟩
  intro ds outs h
  unfold q96 at h
  cases ha : q96a ds with
  | some r =>
    simp only [ha] at h
    exact ⟨q96a, good96a.1.1, by rw [ha]; exact h⟩
  | none =>
  simp only [ha] at h
  cases hb : q96b ds with
  | some r =>
    simp only [hb] at h
    exact ⟨q96b, good96b.1.1, by rw [hb]; exact h⟩
  | none =>
  simp only [hb] at h
  cases h
end Go.Proofs.Ytalnkjjnohgjkaa

/- x -/
namespace Go.Proofs.Ytalnkjjnohgjkaa
open Go Go.Gm
/-! ### loop.example/g00465/impl.PutPtr -/
noncomputable def f86c : Code := (Try.f86.body).getD .skip
def f86k : Nat → Kp := kat [⟨[1, 3, 5, 6], [], [], []⟩, ⟨[1, 3, 5, 6, 10], [], [], []⟩, ⟨[6, 7], [], [], []⟩, ⟨[6, 7], [], [], []⟩]
noncomputable def f86e : Env := tab.env [(39, s39), (96, s96), (97, s97)]
theorem f86_run {R : Type} (n : Nat) (k : List Dt → Option R) (a0 : NodeT) (a1 : List ByteArray) (a2 : NodeT) : evFn f86e f86k n f86c [.ro, .ro, .ro] [false, false] true [.cell 6 27, .tmp 7] [27, 4] [.d .node a0, .d (.sl .str) a1, .d .node a2] k =
    (cond ((a1.length : Int) == (0 : Int))
    (cond (sm_node (eN a2))
      (k [.d .node (eN a2), .d .bool true])
      none)
    (cond (gPW (eN a0) a1 (eN a2))
      (k [.d .node (eN ((putAtW (eN a0) a1 (eN a2)).1)), .d .bool ((putAtW (eN a0) a1 (eN a2)).2)])
      none)) := by kernel_rfl
theorem f86_spec (a0 : NodeT) (a1 : List ByteArray) (a2 : NodeT) (hg : gP a0 a1 a2 = true) : ∃ keep rounds, ∀ {R : Type} (k : List Dt → Option R), evFn f86e keep rounds f86c [.ro, .ro, .ro] [false, false] true [.cell 6 27, .tmp 7] [27, 4] [.d .node a0, .d (.sl .str) a1, .d .node a2] k = k [.d .node ((putPtr a0 a1 a2).1), .d .bool ((putPtr a0 a1 a2).2)] := by
  have hgp := hg
  simp only [gP, Bool.and_eq_true] at hg
  obtain ⟨hg, hpa, hx2⟩ := hg
  refine ⟨f86k, 0, fun {R} k => ?_⟩
  rw [f86_run]
  show _ = k [.d .node (putPtr a0 a1 a2).1, .d .bool (putPtr a0 a1 a2).2]
  unfold putPtr
  cases a1 with
  | nil => simp only [eta_node, eN_eq, hx2]; rfl
  | cons p r =>
    have hgw : gPW a0 (p :: r) a2 = true := by simp only [gPW, hgp]; rfl
    have l7 : (((p :: r).length : Int) == (0 : Int)) = false := by rw [beq_eq_false_iff_ne]; simp only [List.length_cons]; omega
    simp only [eta_node, eN_eq, hgw, l7, cond_true, cond_false]

noncomputable def q86 : List Dt → Option (Bool × List Dt)
  | [.d .node a0, .d (.sl .str) a1, .d .node a2] => some ((gP a0 a1 a2), [.d .node ((putPtr a0 a1 a2).1), .d .bool ((putPtr a0 a1 a2).2)])
  | _ => none
noncomputable def s86 : Gm.Spec := Gm.Spec.of [.ro, .ro, .ro] [false, false] true q86
theorem good86 : Gm.Good Try.prog (86, s86) := by
  have hl : ∀ x ∈ [(39, s39), (96, s96), (97, s97)], Gm.Good Try.prog x := List.forall_mem_cons.2 ⟨good39, List.forall_mem_cons.2 ⟨good96, List.forall_mem_cons.2 ⟨good97, List.forall_mem_nil _⟩⟩⟩
  refine ⟨⟨spec_ok (tab_ok.env hl) (tab.natl hl) Try.func86 (by kernel_rfl : Try.f86.body = some f86c) [27, 4] (by kernel_rfl) ?_, _, Try.func86, by kernel_rfl, of_decide_eq_true (by kernel_rfl)⟩, Gm.Spec.of_natl _ _ _ _⟩
  intro ds outs h
  unfold q86 at h
  split at h
  · simp only [Option.some.injEq, Prod.mk.injEq] at h; obtain ⟨hg, h⟩ := h; cases h; exact f86_spec _ _ _ hg
  · cases h
/-! ### loop.example/g00465/spec.Set -/
noncomputable def f78c : Code := (Try.f78.body).getD .skip
def f78k : Nat → Kp := kat [⟨[1, 3, 5, 6], [], [], []⟩, ⟨[1, 3, 5, 6, 7], [], [], []⟩, ⟨[1, 3, 5, 6, 7, 24], [], [], []⟩, ⟨[6], [], [], []⟩, ⟨[1, 3, 5, 6, 7, 8], [], [], []⟩, ⟨[1, 3, 5, 6, 7, 8, 30], [], [], []⟩, ⟨[6, 7], [], [], []⟩, ⟨[6], [], [], []⟩, ⟨[1, 3, 5, 6, 7, 8], [], [], []⟩, ⟨[1, 3, 5, 6, 7, 8, 51], [], [], []⟩, ⟨[1, 3, 5, 6, 7, 8], [], [], []⟩, ⟨[1, 3, 5, 6, 7, 8, 9], [], [], []⟩, ⟨[3, 5, 6, 7, 8, 9], [], [], []⟩, ⟨[3, 5, 6, 7, 8, 9, 10], [], [], []⟩, ⟨[3, 6, 7, 8, 9, 10], [], [], []⟩, ⟨[6], [], [], []⟩]
noncomputable def f78e : Env := tab.env [(41, s41), (85, s85)]
noncomputable def f78L0 {R : Type} (n : Nat) (x0 : Int → Bool → Option R) (x1 : Int → Option R) (vs1 : ByteArray) (vb3_0 : Int) (vb3_1 : Int) (vb3_2 : ByteArray) (vb3_3 : List ByteArray) (vb3_4 : List NodeT) (vb5_0 : Int) (vb5_1 : Int) (vb5_2 : ByteArray) (vb5_3 : List ByteArray) (vb5_4 : List NodeT) (vb7_0 : Int) (vb7_1 : Int) (vb7_2 : ByteArray) (vr768 : List ByteArray) (vr769 : List NodeT) : Nat → Int → Option R
  | 0, _ => none
  | m + 1, vs8 =>
    (cond (decide (vs8 < (vb3_3.length : Int)))
      (cond ((decide ((0 : Int) ≤ vs8)) && (decide (vs8 < (vb3_3.length : Int))))
        (cond (sLt (atI (t := .str) vb3_3 (Int.toNat vs8)) vs1)
          (f78L0 n x0 x1 vs1 vb3_0 vb3_1 vb3_2 vb3_3 vb3_4 vb5_0 vb5_1 vb5_2 vb5_3 vb5_4 vb7_0 vb7_1 vb7_2 vr768 vr769 m (IntKind.wrap .i64 (vs8 + (1 : Int))))
          (x0 vs8 (sLt (atI (t := .str) vb3_3 (Int.toNat vs8)) vs1)))
        none)
      (x1 vs8))
theorem f78L0_b {R : Type} (n : Nat) (k' : Ex → St → Option R) (vs1 : ByteArray) (vs8 : Int) (vb3_0 : Int) (vb3_1 : Int) (vb3_2 : ByteArray) (vb3_3 : List ByteArray) (vb3_4 : List NodeT) (vb5_0 : Int) (vb5_1 : Int) (vb5_2 : ByteArray) (vb5_3 : List ByteArray) (vb5_4 : List NodeT) (vb7_0 : Int) (vb7_1 : Int) (vb7_2 : ByteArray) (vr768 : List ByteArray) (vr769 : List NodeT) : ev f78e f78k n (cAt [1,1,1,1,1,1,0,0,0] f78c) ⟨[(1, .c (.one (.v (.string vs1)))), (3, .c (.one (.pt 3 0))), (5, .c (.one (.pt 5 0))), (6, .c (.one (.pt 6 0))), (7, .c (.one (.pt 7 0))), (8, .c (.one (.v (.int .i64 vs8))))], [(3, ⟨.node, [.v (.int .i64 vb3_0), .v (.int .i64 vb3_1), .v (.string vb3_2), .ro .str vb3_3, .ro .node vb3_4]⟩), (5, ⟨.node, [.v (.int .i64 vb5_0), .v (.int .i64 vb5_1), .v (.string vb5_2), .ro .str vb5_3, .ro .node vb5_4]⟩), (6, ⟨.node, [.v (.int .i64 (0 : Int)), .v (.int .i64 (0 : Int)), .v (.string ByteArray.empty), .nl, .nl]⟩), (7, ⟨.node, [.v (.int .i64 vb7_0), .v (.int .i64 vb7_1), .v (.string vb7_2), .h 768 0 0 [], .h 769 0 0 []]⟩)], [(768, .live ⟨.str, .deep, 0, [], vr768⟩), (769, .live ⟨.node, .deep, 0, [], vr769⟩)]⟩ k' =
    (cond (decide (vs8 < (vb3_3.length : Int)))
    (cond ((decide ((0 : Int) ≤ vs8)) && (decide (vs8 < (vb3_3.length : Int))))
      (cond (sLt (atI (t := .str) vb3_3 (Int.toNat vs8)) vs1)
        (k' .normal ⟨[(1, .c (.one (.v (.string vs1)))), (3, .c (.one (.pt 3 0))), (5, .c (.one (.pt 5 0))), (6, .c (.one (.pt 6 0))), (7, .c (.one (.pt 7 0))), (8, .c (.one (.v (.int .i64 (IntKind.wrap .i64 (vs8 + (1 : Int)))))))], [(3, ⟨.node, [.v (.int .i64 vb3_0), .v (.int .i64 vb3_1), .v (.string vb3_2), .ro .str vb3_3, .ro .node vb3_4]⟩), (5, ⟨.node, [.v (.int .i64 vb5_0), .v (.int .i64 vb5_1), .v (.string vb5_2), .ro .str vb5_3, .ro .node vb5_4]⟩), (6, ⟨.node, [.v (.int .i64 (0 : Int)), .v (.int .i64 (0 : Int)), .v (.string ByteArray.empty), .nl, .nl]⟩), (7, ⟨.node, [.v (.int .i64 vb7_0), .v (.int .i64 vb7_1), .v (.string vb7_2), .h 768 0 0 [], .h 769 0 0 []]⟩)], [(768, .live ⟨.str, .deep, 0, [], vr768⟩), (769, .live ⟨.node, .deep, 0, [], vr769⟩)]⟩)
        (k' (.exit 0) ⟨[(1, .c (.one (.v (.string vs1)))), (3, .c (.one (.pt 3 0))), (5, .c (.one (.pt 5 0))), (6, .c (.one (.pt 6 0))), (7, .c (.one (.pt 7 0))), (8, .c (.one (.v (.int .i64 vs8)))), (51, .c (.one (.v (.bool (sLt (atI (t := .str) vb3_3 (Int.toNat vs8)) vs1)))))], [(3, ⟨.node, [.v (.int .i64 vb3_0), .v (.int .i64 vb3_1), .v (.string vb3_2), .ro .str vb3_3, .ro .node vb3_4]⟩), (5, ⟨.node, [.v (.int .i64 vb5_0), .v (.int .i64 vb5_1), .v (.string vb5_2), .ro .str vb5_3, .ro .node vb5_4]⟩), (6, ⟨.node, [.v (.int .i64 (0 : Int)), .v (.int .i64 (0 : Int)), .v (.string ByteArray.empty), .nl, .nl]⟩), (7, ⟨.node, [.v (.int .i64 vb7_0), .v (.int .i64 vb7_1), .v (.string vb7_2), .h 768 0 0 [], .h 769 0 0 []]⟩)], [(768, .live ⟨.str, .deep, 0, [], vr768⟩), (769, .live ⟨.node, .deep, 0, [], vr769⟩)]⟩))
      none)
    (k' (.exit 0) ⟨[(1, .c (.one (.v (.string vs1)))), (3, .c (.one (.pt 3 0))), (5, .c (.one (.pt 5 0))), (6, .c (.one (.pt 6 0))), (7, .c (.one (.pt 7 0))), (8, .c (.one (.v (.int .i64 vs8)))), (51, .c (.one (.v (.bool false))))], [(3, ⟨.node, [.v (.int .i64 vb3_0), .v (.int .i64 vb3_1), .v (.string vb3_2), .ro .str vb3_3, .ro .node vb3_4]⟩), (5, ⟨.node, [.v (.int .i64 vb5_0), .v (.int .i64 vb5_1), .v (.string vb5_2), .ro .str vb5_3, .ro .node vb5_4]⟩), (6, ⟨.node, [.v (.int .i64 (0 : Int)), .v (.int .i64 (0 : Int)), .v (.string ByteArray.empty), .nl, .nl]⟩), (7, ⟨.node, [.v (.int .i64 vb7_0), .v (.int .i64 vb7_1), .v (.string vb7_2), .h 768 0 0 [], .h 769 0 0 []]⟩)], [(768, .live ⟨.str, .deep, 0, [], vr768⟩), (769, .live ⟨.node, .deep, 0, [], vr769⟩)]⟩)) := by kernel_rfl
theorem f78L0_eq {R : Type} (n : Nat) (k' : Ex → St → Option R) (vs1 : ByteArray) (vb3_0 : Int) (vb3_1 : Int) (vb3_2 : ByteArray) (vb3_3 : List ByteArray) (vb3_4 : List NodeT) (vb5_0 : Int) (vb5_1 : Int) (vb5_2 : ByteArray) (vb5_3 : List ByteArray) (vb5_4 : List NodeT) (vb7_0 : Int) (vb7_1 : Int) (vb7_2 : ByteArray) (vr768 : List ByteArray) (vr769 : List NodeT) : ∀ (m : Nat) (vs8 : Int), iter (fun st k => ev f78e f78k n (cAt [1,1,1,1,1,1,0,0,0] f78c) st k) m ⟨[(1, .c (.one (.v (.string vs1)))), (3, .c (.one (.pt 3 0))), (5, .c (.one (.pt 5 0))), (6, .c (.one (.pt 6 0))), (7, .c (.one (.pt 7 0))), (8, .c (.one (.v (.int .i64 vs8))))], [(3, ⟨.node, [.v (.int .i64 vb3_0), .v (.int .i64 vb3_1), .v (.string vb3_2), .ro .str vb3_3, .ro .node vb3_4]⟩), (5, ⟨.node, [.v (.int .i64 vb5_0), .v (.int .i64 vb5_1), .v (.string vb5_2), .ro .str vb5_3, .ro .node vb5_4]⟩), (6, ⟨.node, [.v (.int .i64 (0 : Int)), .v (.int .i64 (0 : Int)), .v (.string ByteArray.empty), .nl, .nl]⟩), (7, ⟨.node, [.v (.int .i64 vb7_0), .v (.int .i64 vb7_1), .v (.string vb7_2), .h 768 0 0 [], .h 769 0 0 []]⟩)], [(768, .live ⟨.str, .deep, 0, [], vr768⟩), (769, .live ⟨.node, .deep, 0, [], vr769⟩)]⟩ k' = f78L0 n (fun (xvs8 : Int) (xvs51 : Bool) => k' (.exit 0) ⟨[(1, .c (.one (.v (.string vs1)))), (3, .c (.one (.pt 3 0))), (5, .c (.one (.pt 5 0))), (6, .c (.one (.pt 6 0))), (7, .c (.one (.pt 7 0))), (8, .c (.one (.v (.int .i64 xvs8)))), (51, .c (.one (.v (.bool xvs51))))], [(3, ⟨.node, [.v (.int .i64 vb3_0), .v (.int .i64 vb3_1), .v (.string vb3_2), .ro .str vb3_3, .ro .node vb3_4]⟩), (5, ⟨.node, [.v (.int .i64 vb5_0), .v (.int .i64 vb5_1), .v (.string vb5_2), .ro .str vb5_3, .ro .node vb5_4]⟩), (6, ⟨.node, [.v (.int .i64 (0 : Int)), .v (.int .i64 (0 : Int)), .v (.string ByteArray.empty), .nl, .nl]⟩), (7, ⟨.node, [.v (.int .i64 vb7_0), .v (.int .i64 vb7_1), .v (.string vb7_2), .h 768 0 0 [], .h 769 0 0 []]⟩)], [(768, .live ⟨.str, .deep, 0, [], vr768⟩), (769, .live ⟨.node, .deep, 0, [], vr769⟩)]⟩) (fun (xvs8 : Int) => k' (.exit 0) ⟨[(1, .c (.one (.v (.string vs1)))), (3, .c (.one (.pt 3 0))), (5, .c (.one (.pt 5 0))), (6, .c (.one (.pt 6 0))), (7, .c (.one (.pt 7 0))), (8, .c (.one (.v (.int .i64 xvs8)))), (51, .c (.one (.v (.bool false))))], [(3, ⟨.node, [.v (.int .i64 vb3_0), .v (.int .i64 vb3_1), .v (.string vb3_2), .ro .str vb3_3, .ro .node vb3_4]⟩), (5, ⟨.node, [.v (.int .i64 vb5_0), .v (.int .i64 vb5_1), .v (.string vb5_2), .ro .str vb5_3, .ro .node vb5_4]⟩), (6, ⟨.node, [.v (.int .i64 (0 : Int)), .v (.int .i64 (0 : Int)), .v (.string ByteArray.empty), .nl, .nl]⟩), (7, ⟨.node, [.v (.int .i64 vb7_0), .v (.int .i64 vb7_1), .v (.string vb7_2), .h 768 0 0 [], .h 769 0 0 []]⟩)], [(768, .live ⟨.str, .deep, 0, [], vr768⟩), (769, .live ⟨.node, .deep, 0, [], vr769⟩)]⟩) vs1 vb3_0 vb3_1 vb3_2 vb3_3 vb3_4 vb5_0 vb5_1 vb5_2 vb5_3 vb5_4 vb7_0 vb7_1 vb7_2 vr768 vr769 m vs8 := by
  intro m; induction m with
  | zero => intros; rfl
  | succ m ih =>
    intro vs8
    simp only [iter]
    rw [f78L0_b]
    simp only [ih, f78L0]

noncomputable def f78K0 {R : Type} (n : Nat) (k' : Ex → St → Option R) : Ex → St → Option R := (blockK 0 (seqK f78e f78k n (cAt [1,1,1,1,1,1,1] f78c) k'))
theorem f78K0_x0 {R : Type} (n : Nat) (k : List Dt → Option R) (a0 : NodeT) (a1 : ByteArray) (a2 : NodeT) (vs1 : ByteArray) (vb3_0 : Int) (vb3_1 : Int) (vb3_2 : ByteArray) (vb3_3 : List ByteArray) (vb3_4 : List NodeT) (vb5_0 : Int) (vb5_1 : Int) (vb5_2 : ByteArray) (vb5_3 : List ByteArray) (vb5_4 : List NodeT) (vb7_0 : Int) (vb7_1 : Int) (vb7_2 : ByteArray) (vr768 : List ByteArray) (vr769 : List NodeT) (xvs8 : Int) (xvs51 : Bool) : f78K0 n (exitK f78e [.ro, .ro, .ro] [false] true [.cell 6 27] [27] [.d .node a0, .d .str a1, .d .node a2] k) (.exit 0) ⟨[(1, .c (.one (.v (.string vs1)))), (3, .c (.one (.pt 3 0))), (5, .c (.one (.pt 5 0))), (6, .c (.one (.pt 6 0))), (7, .c (.one (.pt 7 0))), (8, .c (.one (.v (.int .i64 xvs8)))), (51, .c (.one (.v (.bool xvs51))))], [(3, ⟨.node, [.v (.int .i64 vb3_0), .v (.int .i64 vb3_1), .v (.string vb3_2), .ro .str vb3_3, .ro .node vb3_4]⟩), (5, ⟨.node, [.v (.int .i64 vb5_0), .v (.int .i64 vb5_1), .v (.string vb5_2), .ro .str vb5_3, .ro .node vb5_4]⟩), (6, ⟨.node, [.v (.int .i64 (0 : Int)), .v (.int .i64 (0 : Int)), .v (.string ByteArray.empty), .nl, .nl]⟩), (7, ⟨.node, [.v (.int .i64 vb7_0), .v (.int .i64 vb7_1), .v (.string vb7_2), .h 768 0 0 [], .h 769 0 0 []]⟩)], [(768, .live ⟨.str, .deep, 0, [], vr768⟩), (769, .live ⟨.node, .deep, 0, [], vr769⟩)]⟩ =
    (cond ((decide ((0 : Int) ≤ xvs8)) && (decide (xvs8 ≤ (vr768.length : Int))))
    (cond (Nat.ble (0 + ((vr768.take (Int.toNat xvs8)).drop 0).length) LIM)
      (cond (Nat.ble ((([] : List ByteArray) ++ ((vr768.take (Int.toNat xvs8)).drop 0)).length + 1) LIM)
        (cond ((decide ((0 : Int) ≤ xvs8)) && (decide (xvs8 ≤ (vr769.length : Int))))
          (cond (Nat.ble (0 + ((vr769.take (Int.toNat xvs8)).drop 0).length) LIM)
            (cond (sm_node (⟨vb5_0, vb5_1, vb5_2, vb5_3, vb5_4⟩ : NodeT))
              (cond (Nat.ble ((([] : List NodeT) ++ ((vr769.take (Int.toNat xvs8)).drop 0)).length + 1) LIM)
                (cond ((decide ((0 : Int) ≤ xvs8)) && ((decide (xvs8 ≤ (vr768.length : Int))) && (decide ((vr768.length : Int) ≤ (vr768.length : Int)))))
                  (cond (Nat.ble (((([] : List ByteArray) ++ ((vr768.take (Int.toNat xvs8)).drop 0)) ++ ([vs1] : List ByteArray)).length + ((vr768.take (Int.toNat (vr768.length : Int))).drop (Int.toNat xvs8)).length) LIM)
                    (cond ((decide ((0 : Int) ≤ xvs8)) && ((decide (xvs8 ≤ (vr769.length : Int))) && (decide ((vr769.length : Int) ≤ (vr769.length : Int)))))
                      (cond (leC (Int.toNat xvs8) 0 (Int.toNat xvs8) 0)
                        (cond (Nat.ble (((([] : List NodeT) ++ ((vr769.take (Int.toNat xvs8)).drop 0)) ++ ([(⟨vb5_0, vb5_1, vb5_2, vb5_3, vb5_4⟩ : NodeT)] : List NodeT)).length + ((vr769.take (Int.toNat (vr769.length : Int))).drop (Int.toNat xvs8)).length) LIM)
                          (k [.d .node (⟨vb3_0, vb3_1, vb3_2, (((([] : List ByteArray) ++ ((vr768.take (Int.toNat xvs8)).drop 0)) ++ ([vs1] : List ByteArray)) ++ ((vr768.take (Int.toNat (vr768.length : Int))).drop (Int.toNat xvs8))), (((([] : List NodeT) ++ ((vr769.take (Int.toNat xvs8)).drop 0)) ++ ([(⟨vb5_0, vb5_1, vb5_2, vb5_3, vb5_4⟩ : NodeT)] : List NodeT)) ++ ((vr769.take (Int.toNat (vr769.length : Int))).drop (Int.toNat xvs8)))⟩ : NodeT)])
                          none)
                        none)
                      none)
                    none)
                  none)
                none)
              none)
            none)
          none)
        none)
      none)
    none) := by kernel_rfl
theorem f78K0_x1 {R : Type} (n : Nat) (k : List Dt → Option R) (a0 : NodeT) (a1 : ByteArray) (a2 : NodeT) (vs1 : ByteArray) (vb3_0 : Int) (vb3_1 : Int) (vb3_2 : ByteArray) (vb3_3 : List ByteArray) (vb3_4 : List NodeT) (vb5_0 : Int) (vb5_1 : Int) (vb5_2 : ByteArray) (vb5_3 : List ByteArray) (vb5_4 : List NodeT) (vb7_0 : Int) (vb7_1 : Int) (vb7_2 : ByteArray) (vr768 : List ByteArray) (vr769 : List NodeT) (xvs8 : Int) : f78K0 n (exitK f78e [.ro, .ro, .ro] [false] true [.cell 6 27] [27] [.d .node a0, .d .str a1, .d .node a2] k) (.exit 0) ⟨[(1, .c (.one (.v (.string vs1)))), (3, .c (.one (.pt 3 0))), (5, .c (.one (.pt 5 0))), (6, .c (.one (.pt 6 0))), (7, .c (.one (.pt 7 0))), (8, .c (.one (.v (.int .i64 xvs8)))), (51, .c (.one (.v (.bool false))))], [(3, ⟨.node, [.v (.int .i64 vb3_0), .v (.int .i64 vb3_1), .v (.string vb3_2), .ro .str vb3_3, .ro .node vb3_4]⟩), (5, ⟨.node, [.v (.int .i64 vb5_0), .v (.int .i64 vb5_1), .v (.string vb5_2), .ro .str vb5_3, .ro .node vb5_4]⟩), (6, ⟨.node, [.v (.int .i64 (0 : Int)), .v (.int .i64 (0 : Int)), .v (.string ByteArray.empty), .nl, .nl]⟩), (7, ⟨.node, [.v (.int .i64 vb7_0), .v (.int .i64 vb7_1), .v (.string vb7_2), .h 768 0 0 [], .h 769 0 0 []]⟩)], [(768, .live ⟨.str, .deep, 0, [], vr768⟩), (769, .live ⟨.node, .deep, 0, [], vr769⟩)]⟩ =
    (cond ((decide ((0 : Int) ≤ xvs8)) && (decide (xvs8 ≤ (vr768.length : Int))))
    (cond (Nat.ble (0 + ((vr768.take (Int.toNat xvs8)).drop 0).length) LIM)
      (cond (Nat.ble ((([] : List ByteArray) ++ ((vr768.take (Int.toNat xvs8)).drop 0)).length + 1) LIM)
        (cond ((decide ((0 : Int) ≤ xvs8)) && (decide (xvs8 ≤ (vr769.length : Int))))
          (cond (Nat.ble (0 + ((vr769.take (Int.toNat xvs8)).drop 0).length) LIM)
            (cond (sm_node (⟨vb5_0, vb5_1, vb5_2, vb5_3, vb5_4⟩ : NodeT))
              (cond (Nat.ble ((([] : List NodeT) ++ ((vr769.take (Int.toNat xvs8)).drop 0)).length + 1) LIM)
                (cond ((decide ((0 : Int) ≤ xvs8)) && ((decide (xvs8 ≤ (vr768.length : Int))) && (decide ((vr768.length : Int) ≤ (vr768.length : Int)))))
                  (cond (Nat.ble (((([] : List ByteArray) ++ ((vr768.take (Int.toNat xvs8)).drop 0)) ++ ([vs1] : List ByteArray)).length + ((vr768.take (Int.toNat (vr768.length : Int))).drop (Int.toNat xvs8)).length) LIM)
                    (cond ((decide ((0 : Int) ≤ xvs8)) && ((decide (xvs8 ≤ (vr769.length : Int))) && (decide ((vr769.length : Int) ≤ (vr769.length : Int)))))
                      (cond (leC (Int.toNat xvs8) 0 (Int.toNat xvs8) 0)
                        (cond (Nat.ble (((([] : List NodeT) ++ ((vr769.take (Int.toNat xvs8)).drop 0)) ++ ([(⟨vb5_0, vb5_1, vb5_2, vb5_3, vb5_4⟩ : NodeT)] : List NodeT)).length + ((vr769.take (Int.toNat (vr769.length : Int))).drop (Int.toNat xvs8)).length) LIM)
                          (k [.d .node (⟨vb3_0, vb3_1, vb3_2, (((([] : List ByteArray) ++ ((vr768.take (Int.toNat xvs8)).drop 0)) ++ ([vs1] : List ByteArray)) ++ ((vr768.take (Int.toNat (vr768.length : Int))).drop (Int.toNat xvs8))), (((([] : List NodeT) ++ ((vr769.take (Int.toNat xvs8)).drop 0)) ++ ([(⟨vb5_0, vb5_1, vb5_2, vb5_3, vb5_4⟩ : NodeT)] : List NodeT)) ++ ((vr769.take (Int.toNat (vr769.length : Int))).drop (Int.toNat xvs8)))⟩ : NodeT)])
                          none)
                        none)
                      none)
                    none)
                  none)
                none)
              none)
            none)
          none)
        none)
      none)
    none) := by kernel_rfl

theorem f78_run {R : Type} (n : Nat) (k : List Dt → Option R) (a0 : NodeT) (a1 : ByteArray) (a2 : NodeT) : evFn f78e f78k n f78c [.ro, .ro, .ro] [false] true [.cell 6 27] [27] [.d .node a0, .d .str a1, .d .node a2] k =
    (cond (sm_node (eN a0))
    (cond ((NodeT.kind a0) != (5 : Int))
      (k [.d .node (eN a0)])
      (cond (((NodeT.keys a0).length : Int) != ((NodeT.kids a0).length : Int))
        (k [.d .node (eN a0)])
        (cond ((fun (x : NodeT) (_ : ByteArray) => sm_node x) (eN a0) a1)
          (cond (decide ((keyAt (eN a0) a1) ≥ (0 : Int)))
            (cond (sm_node (eN a2))
              (cond ((decide ((0 : Int) ≤ (keyAt (eN a0) a1))) && (decide ((keyAt (eN a0) a1) < ((NodeT.kids a0).length : Int))))
                (k [.d .node (⟨(NodeT.kind a0), (NodeT.n a0), (NodeT.s a0), (NodeT.keys a0), ((NodeT.kids a0).set (Int.toNat (keyAt (eN a0) a1)) (eN a2))⟩ : NodeT)])
                none)
              none)
            (f78L0 n (fun (xvs8 : Int) (xvs51 : Bool) =>
              (cond ((decide ((0 : Int) ≤ xvs8)) && (decide (xvs8 ≤ ((NodeT.keys a0).length : Int))))
                (cond (Nat.ble (0 + (((NodeT.keys a0).take (Int.toNat xvs8)).drop 0).length) LIM)
                  (cond (Nat.ble ((([] : List ByteArray) ++ (((NodeT.keys a0).take (Int.toNat xvs8)).drop 0)).length + 1) LIM)
                    (cond ((decide ((0 : Int) ≤ xvs8)) && (decide (xvs8 ≤ ((NodeT.kids a0).length : Int))))
                      (cond (Nat.ble (0 + (((NodeT.kids a0).take (Int.toNat xvs8)).drop 0).length) LIM)
                        (cond (sm_node (⟨(NodeT.kind a2), (NodeT.n a2), (NodeT.s a2), (NodeT.keys a2), (NodeT.kids a2)⟩ : NodeT))
                          (cond (Nat.ble ((([] : List NodeT) ++ (((NodeT.kids a0).take (Int.toNat xvs8)).drop 0)).length + 1) LIM)
                            (cond ((decide ((0 : Int) ≤ xvs8)) && ((decide (xvs8 ≤ ((NodeT.keys a0).length : Int))) && (decide (((NodeT.keys a0).length : Int) ≤ ((NodeT.keys a0).length : Int)))))
                              (cond (Nat.ble (((([] : List ByteArray) ++ (((NodeT.keys a0).take (Int.toNat xvs8)).drop 0)) ++ ([a1] : List ByteArray)).length + (((NodeT.keys a0).take (Int.toNat ((NodeT.keys a0).length : Int))).drop (Int.toNat xvs8)).length) LIM)
                                (cond ((decide ((0 : Int) ≤ xvs8)) && ((decide (xvs8 ≤ ((NodeT.kids a0).length : Int))) && (decide (((NodeT.kids a0).length : Int) ≤ ((NodeT.kids a0).length : Int)))))
                                  (cond (leC (Int.toNat xvs8) 0 (Int.toNat xvs8) 0)
                                    (cond (Nat.ble (((([] : List NodeT) ++ (((NodeT.kids a0).take (Int.toNat xvs8)).drop 0)) ++ ([(⟨(NodeT.kind a2), (NodeT.n a2), (NodeT.s a2), (NodeT.keys a2), (NodeT.kids a2)⟩ : NodeT)] : List NodeT)).length + (((NodeT.kids a0).take (Int.toNat ((NodeT.kids a0).length : Int))).drop (Int.toNat xvs8)).length) LIM)
                                      (k [.d .node (⟨(NodeT.kind a0), (NodeT.n a0), (NodeT.s a0), (((([] : List ByteArray) ++ (((NodeT.keys a0).take (Int.toNat xvs8)).drop 0)) ++ ([a1] : List ByteArray)) ++ (((NodeT.keys a0).take (Int.toNat ((NodeT.keys a0).length : Int))).drop (Int.toNat xvs8))), (((([] : List NodeT) ++ (((NodeT.kids a0).take (Int.toNat xvs8)).drop 0)) ++ ([(⟨(NodeT.kind a2), (NodeT.n a2), (NodeT.s a2), (NodeT.keys a2), (NodeT.kids a2)⟩ : NodeT)] : List NodeT)) ++ (((NodeT.kids a0).take (Int.toNat ((NodeT.kids a0).length : Int))).drop (Int.toNat xvs8)))⟩ : NodeT)])
                                      none)
                                    none)
                                  none)
                                none)
                              none)
                            none)
                          none)
                        none)
                      none)
                    none)
                  none)
                none)) (fun (xvs8 : Int) =>
              (cond ((decide ((0 : Int) ≤ xvs8)) && (decide (xvs8 ≤ ((NodeT.keys a0).length : Int))))
                (cond (Nat.ble (0 + (((NodeT.keys a0).take (Int.toNat xvs8)).drop 0).length) LIM)
                  (cond (Nat.ble ((([] : List ByteArray) ++ (((NodeT.keys a0).take (Int.toNat xvs8)).drop 0)).length + 1) LIM)
                    (cond ((decide ((0 : Int) ≤ xvs8)) && (decide (xvs8 ≤ ((NodeT.kids a0).length : Int))))
                      (cond (Nat.ble (0 + (((NodeT.kids a0).take (Int.toNat xvs8)).drop 0).length) LIM)
                        (cond (sm_node (⟨(NodeT.kind a2), (NodeT.n a2), (NodeT.s a2), (NodeT.keys a2), (NodeT.kids a2)⟩ : NodeT))
                          (cond (Nat.ble ((([] : List NodeT) ++ (((NodeT.kids a0).take (Int.toNat xvs8)).drop 0)).length + 1) LIM)
                            (cond ((decide ((0 : Int) ≤ xvs8)) && ((decide (xvs8 ≤ ((NodeT.keys a0).length : Int))) && (decide (((NodeT.keys a0).length : Int) ≤ ((NodeT.keys a0).length : Int)))))
                              (cond (Nat.ble (((([] : List ByteArray) ++ (((NodeT.keys a0).take (Int.toNat xvs8)).drop 0)) ++ ([a1] : List ByteArray)).length + (((NodeT.keys a0).take (Int.toNat ((NodeT.keys a0).length : Int))).drop (Int.toNat xvs8)).length) LIM)
                                (cond ((decide ((0 : Int) ≤ xvs8)) && ((decide (xvs8 ≤ ((NodeT.kids a0).length : Int))) && (decide (((NodeT.kids a0).length : Int) ≤ ((NodeT.kids a0).length : Int)))))
                                  (cond (leC (Int.toNat xvs8) 0 (Int.toNat xvs8) 0)
                                    (cond (Nat.ble (((([] : List NodeT) ++ (((NodeT.kids a0).take (Int.toNat xvs8)).drop 0)) ++ ([(⟨(NodeT.kind a2), (NodeT.n a2), (NodeT.s a2), (NodeT.keys a2), (NodeT.kids a2)⟩ : NodeT)] : List NodeT)).length + (((NodeT.kids a0).take (Int.toNat ((NodeT.kids a0).length : Int))).drop (Int.toNat xvs8)).length) LIM)
                                      (k [.d .node (⟨(NodeT.kind a0), (NodeT.n a0), (NodeT.s a0), (((([] : List ByteArray) ++ (((NodeT.keys a0).take (Int.toNat xvs8)).drop 0)) ++ ([a1] : List ByteArray)) ++ (((NodeT.keys a0).take (Int.toNat ((NodeT.keys a0).length : Int))).drop (Int.toNat xvs8))), (((([] : List NodeT) ++ (((NodeT.kids a0).take (Int.toNat xvs8)).drop 0)) ++ ([(⟨(NodeT.kind a2), (NodeT.n a2), (NodeT.s a2), (NodeT.keys a2), (NodeT.kids a2)⟩ : NodeT)] : List NodeT)) ++ (((NodeT.kids a0).take (Int.toNat ((NodeT.kids a0).length : Int))).drop (Int.toNat xvs8)))⟩ : NodeT)])
                                      none)
                                    none)
                                  none)
                                none)
                              none)
                            none)
                          none)
                        none)
                      none)
                    none)
                  none)
                none)) a1 (NodeT.kind a0) (NodeT.n a0) (NodeT.s a0) (NodeT.keys a0) (NodeT.kids a0) (NodeT.kind a2) (NodeT.n a2) (NodeT.s a2) (NodeT.keys a2) (NodeT.kids a2) (NodeT.kind a0) (NodeT.n a0) (NodeT.s a0) (NodeT.keys a0) (NodeT.kids a0) n (0 : Int)))
          none)))
    none) := by
  refine Eq.trans (b := (cond (sm_node (eN a0))
    (cond ((NodeT.kind a0) != (5 : Int))
      (k [.d .node (eN a0)])
      (cond (((NodeT.keys a0).length : Int) != ((NodeT.kids a0).length : Int))
        (k [.d .node (eN a0)])
        (cond ((fun (x : NodeT) (_ : ByteArray) => sm_node x) (eN a0) a1)
          (cond (decide ((keyAt (eN a0) a1) ≥ (0 : Int)))
            (cond (sm_node (eN a2))
              (cond ((decide ((0 : Int) ≤ (keyAt (eN a0) a1))) && (decide ((keyAt (eN a0) a1) < ((NodeT.kids a0).length : Int))))
                (k [.d .node (⟨(NodeT.kind a0), (NodeT.n a0), (NodeT.s a0), (NodeT.keys a0), ((NodeT.kids a0).set (Int.toNat (keyAt (eN a0) a1)) (eN a2))⟩ : NodeT)])
                none)
              none)
            (iter (fun st k => ev f78e f78k n (cAt [1,1,1,1,1,1,0,0,0] f78c) st k) n ⟨[(1, .c (.one (.v (.string a1)))), (3, .c (.one (.pt 3 0))), (5, .c (.one (.pt 5 0))), (6, .c (.one (.pt 6 0))), (7, .c (.one (.pt 7 0))), (8, .c (.one (.v (.int .i64 (0 : Int)))))], [(3, ⟨.node, [.v (.int .i64 (NodeT.kind a0)), .v (.int .i64 (NodeT.n a0)), .v (.string (NodeT.s a0)), .ro .str (NodeT.keys a0), .ro .node (NodeT.kids a0)]⟩), (5, ⟨.node, [.v (.int .i64 (NodeT.kind a2)), .v (.int .i64 (NodeT.n a2)), .v (.string (NodeT.s a2)), .ro .str (NodeT.keys a2), .ro .node (NodeT.kids a2)]⟩), (6, ⟨.node, [.v (.int .i64 (0 : Int)), .v (.int .i64 (0 : Int)), .v (.string ByteArray.empty), .nl, .nl]⟩), (7, ⟨.node, [.v (.int .i64 (NodeT.kind a0)), .v (.int .i64 (NodeT.n a0)), .v (.string (NodeT.s a0)), .h 768 0 0 [], .h 769 0 0 []]⟩)], [(768, .live ⟨.str, .deep, 0, [], (NodeT.keys a0)⟩), (769, .live ⟨.node, .deep, 0, [], (NodeT.kids a0)⟩)]⟩ (f78K0 n (exitK f78e [.ro, .ro, .ro] [false] true [.cell 6 27] [27] [.d .node a0, .d .str a1, .d .node a2] k))))
          none)))
    none)) (by kernel_rfl) ?_
  simp only [f78L0_eq, f78K0_x0, f78K0_x1]
theorem f78_spec (a0 : NodeT) (a1 : ByteArray) (a2 : NodeT) (hg : gS3 a0 a1 a2 = true) : ∃ keep rounds, ∀ {R : Type} (k : List Dt → Option R), evFn f78e keep rounds f78c [.ro, .ro, .ro] [false] true [.cell 6 27] [27] [.d .node a0, .d .str a1, .d .node a2] k = k [.d .node (setK a0 a1 a2)] := by
  have hg3 := hg
  simp only [gS3, Bool.and_eq_true] at hg
  obtain ⟨hg, hs1, hx2⟩ := hg
  have hg0 := hg
  rw [sm_node_def] at hg
  simp only [Bool.and_eq_true] at hg
  obtain ⟨_, _, _, hke, hki⟩ := hg
  have nke := smL_len hke
  have nki := smL_len hki
  refine ⟨f78k, a0.keys.length + 1, fun {R} k => ?_⟩
  rw [f78_run]
  simp only [eta_node, eN_eq, hg0, hx2, cond_true]
  show _ = k [.d .node (setK a0 a1 a2)]
  cases h5 : a0.kind == (5 : Int)
  · rw [show (a0.kind != (5 : Int)) = true by simp only [bne, h5]; rfl]
    unfold setK isMapN; rw [h5]; rfl
  rw [show (a0.kind != (5 : Int)) = false by simp only [bne, h5]; rfl]
  cases hl : ((a0.keys.length : Int) == (a0.kids.length : Int))
  · rw [show ((a0.keys.length : Int) != (a0.kids.length : Int)) = true by simp only [bne, hl]; rfl]
    unfold setK isMapN; rw [h5, hl]; rfl
  rw [show ((a0.keys.length : Int) != (a0.kids.length : Int)) = false by simp only [bne, hl]; rfl]
  have hm : isMapN a0 = true := by unfold isMapN; rw [h5, hl]; rfl
  have hl := (isMapN_eq hm).2
  simp only [cond_false]
  by_cases hk : keyAt a0 a1 < 0
  · rw [setK_neg hm hk, decide_eq_false (show ¬ (keyAt a0 a1 ≥ 0) by omega)]
    simp only [cond_false]
    refine Eq.trans (loop_find (n := a0.keys.length) (F := fun m i => f78L0 (a0.keys.length + 1) _ _ a1 _ _ _ a0.keys a0.kids _ _ _ _ _ _ _ _ _ _ m i) (p := fun j => !(sLt (atI (t := .str) a0.keys j) a1)) (hit := fun i => k [.d .node (putKey a0 i a1 a2)]) (miss := k [.d .node (putKey a0 (a0.keys.length : Int) a1 a2)])
      (fun m j hj => ?_) (fun m => ?_) a0.keys.length 0 (a0.keys.length + 1) (by omega) (by omega)) ?_
    · obtain ⟨h1, h0, hw, ht⟩ := idx hj (by omega)
      have d0 : decide ((0 : Int) ≤ (j : Int)) = true := decide_eq_true (by omega)
      have d1 : decide ((j : Int) ≤ (a0.keys.length : Int)) = true := decide_eq_true (by omega)
      have d2 : decide ((j : Int) ≤ (a0.kids.length : Int)) = true := decide_eq_true (by omega)
      have d6 : decide ((a0.keys.length : Int) ≤ (a0.keys.length : Int)) = true := decide_eq_true (Int.le_refl _)
      have d7 : decide ((a0.kids.length : Int) ≤ (a0.kids.length : Int)) = true := decide_eq_true (Int.le_refl _)
      simp only [f78L0, h1, h0, hw, ht, Bool.and_self, cond_true]
      cases sLt (atI (t := .str) a0.keys j) a1
      · simp only [Bool.not_false, leC_self, d0, d1, d2, d6, d7, Int.toNat_natCast, List.drop_zero, List.take_length, List.nil_append, limT nke, limT1 nke, limT1D nke, limT nki, limT1 nki, limT1D nki, Bool.and_self, cond_true]
        rfl
      · rfl
    · have d0 : decide ((0 : Int) ≤ (a0.keys.length : Int)) = true := decide_eq_true (by omega)
      have d1 : decide ((a0.keys.length : Int) ≤ (a0.keys.length : Int)) = true := decide_eq_true (by omega)
      have d2 : decide ((a0.keys.length : Int) ≤ (a0.kids.length : Int)) = true := decide_eq_true (by omega)
      have d6 : decide ((a0.keys.length : Int) ≤ (a0.keys.length : Int)) = true := decide_eq_true (Int.le_refl _)
      have d7 : decide ((a0.kids.length : Int) ≤ (a0.kids.length : Int)) = true := decide_eq_true (Int.le_refl _)
      have e1 := limT nke a0.keys.length
      have e2 := limT1 nke a0.keys.length
      have e3 := limT1D nke a0.keys.length a0.keys.length a1
      rw [List.take_length] at e1 e2 e3
      have e4 : putKey a0 (a0.keys.length : Int) a1 a2 = ⟨a0.kind, a0.n, a0.s, a0.keys ++ [a1] ++ a0.keys.drop a0.keys.length, a0.kids.take a0.keys.length ++ [a2] ++ a0.kids.drop a0.keys.length⟩ := by
        unfold putKey insL; rw [Int.toNat_natCast, List.take_length]
      simp only [f78L0, idxE, cond_false, e1, e2, e3, e4, leC_self, d0, d1, d2, d6, d7, Int.toNat_natCast, List.drop_zero, List.take_length, List.nil_append, limT nke, limT1 nke, limT1D nke, limT nki, limT1 nki, limT1D nki, Bool.and_self, cond_true]
    · unfold comesAt
      cases firstN (fun j => !(sLt (atI (t := .str) a0.keys j) a1)) 0 a0.keys.length <;> rfl
  · rw [setK_pos hm hk, decide_eq_true (show keyAt a0 a1 ≥ 0 by omega)]
    obtain ⟨i, e, h1, h2⟩ := keyAt_bd a0 a1 hk
    obtain ⟨i1, i0, _, _⟩ := idx h2 (by omega)
    simp only [eta_node, eN_eq, e, i0, i1, Bool.and_self, cond_true]
    rfl

noncomputable def q78 : List Dt → Option (Bool × List Dt)
  | [.d .node a0, .d .str a1, .d .node a2] => some ((gS3 a0 a1 a2), [.d .node (setK a0 a1 a2)])
  | _ => none
noncomputable def s78 : Gm.Spec := Gm.Spec.of [.ro, .ro, .ro] [false] true q78
theorem good78 : Gm.Good Try.prog (78, s78) := by
  have hl : ∀ x ∈ [(41, s41), (85, s85)], Gm.Good Try.prog x := List.forall_mem_cons.2 ⟨good41, List.forall_mem_cons.2 ⟨good85, List.forall_mem_nil _⟩⟩
  refine ⟨⟨spec_ok (tab_ok.env hl) (tab.natl hl) Try.func78 (by kernel_rfl : Try.f78.body = some f78c) [27] (by kernel_rfl) ?_, _, Try.func78, by kernel_rfl, of_decide_eq_true (by kernel_rfl)⟩, Gm.Spec.of_natl _ _ _ _⟩
  intro ds outs h
  unfold q78 at h
  split at h
  · simp only [Option.some.injEq, Prod.mk.injEq] at h; obtain ⟨hg, h⟩ := h; cases h; exact f78_spec _ _ _ hg
  · cases h
/-! ### loop.example/g00465/impl.CutPtr -/
noncomputable def f87c : Code := (Try.f87.body).getD .skip
def f87k : Nat → Kp := kat [⟨[1, 2, 4], [], [], []⟩, ⟨[1, 2, 4, 8], [], [], []⟩, ⟨[4, 5], [], [], []⟩, ⟨[4, 5], [], [], []⟩]
noncomputable def f87e : Env := tab.env [(39, s39), (96, s96), (101, s101)]
theorem f87_run {R : Type} (n : Nat) (k : List Dt → Option R) (a0 : NodeT) (a1 : List ByteArray) : evFn f87e f87k n f87c [.ro, .ro] [false, false] true [.cell 4 27, .tmp 5] [27, 4] [.d .node a0, .d (.sl .str) a1] k =
    (cond ((a1.length : Int) == (0 : Int))
    (cond (sm_node (eN a0))
      (k [.d .node (eN a0), .d .bool false])
      none)
    (cond (gW (eN a0) a1)
      (k [.d .node (eN ((cutAt (eN a0) a1).1)), .d .bool ((cutAt (eN a0) a1).2)])
      none)) := by kernel_rfl
theorem f87_spec (a0 : NodeT) (a1 : List ByteArray) (hg : (sm_node a0 && smL smStr a1) = true) : ∃ keep rounds, ∀ {R : Type} (k : List Dt → Option R), evFn f87e keep rounds f87c [.ro, .ro] [false, false] true [.cell 4 27, .tmp 5] [27, 4] [.d .node a0, .d (.sl .str) a1] k = k [.d .node ((cutPtr a0 a1).1), .d .bool ((cutPtr a0 a1).2)] := by
  simp only [Bool.and_eq_true] at hg
  obtain ⟨hg, hpa⟩ := hg
  refine ⟨f87k, 0, fun {R} k => ?_⟩
  rw [f87_run]
  show _ = k [.d .node (cutPtr a0 a1).1, .d .bool (cutPtr a0 a1).2]
  unfold cutPtr
  cases a1 with
  | nil => simp only [eta_node, eN_eq, hg]; rfl
  | cons p r =>
    have hgw : gW a0 (p :: r) = true := by simp only [gW, Bool.and_eq_true]; exact ⟨hg, hpa, rfl⟩
    have l7 : (((p :: r).length : Int) == (0 : Int)) = false := by rw [beq_eq_false_iff_ne]; simp only [List.length_cons]; omega
    simp only [eta_node, eN_eq, hgw, l7, cond_true, cond_false]

noncomputable def q87 : List Dt → Option (Bool × List Dt)
  | [.d .node a0, .d (.sl .str) a1] => some (((fun (x : NodeT) (y : List ByteArray) => sm_node x && smL smStr y) a0 a1), [.d .node ((cutPtr a0 a1).1), .d .bool ((cutPtr a0 a1).2)])
  | _ => none
noncomputable def s87 : Gm.Spec := Gm.Spec.of [.ro, .ro] [false, false] true q87
theorem good87 : Gm.Good Try.prog (87, s87) := by
  have hl : ∀ x ∈ [(39, s39), (96, s96), (101, s101)], Gm.Good Try.prog x := List.forall_mem_cons.2 ⟨good39, List.forall_mem_cons.2 ⟨good96, List.forall_mem_cons.2 ⟨good101, List.forall_mem_nil _⟩⟩⟩
  refine ⟨⟨spec_ok (tab_ok.env hl) (tab.natl hl) Try.func87 (by kernel_rfl : Try.f87.body = some f87c) [27, 4] (by kernel_rfl) ?_, _, Try.func87, by kernel_rfl, of_decide_eq_true (by kernel_rfl)⟩, Gm.Spec.of_natl _ _ _ _⟩
  intro ds outs h
  unfold q87 at h
  split at h
  · simp only [Option.some.injEq, Prod.mk.injEq] at h; obtain ⟨hg, h⟩ := h; cases h; exact f87_spec _ _ hg
  · cases h
end Go.Proofs.Ytalnkjjnohgjkaa

/- x -/
namespace Go.Proofs.Ytalnkjjnohgjkaa
open Go Go.Gm
/-! ### loop.example/g00465/spec.l1Bit -/
noncomputable def f94c : Code := (Try.f94.body).getD .skip
def f94k : Nat → Kp := kat [⟨[0], [], [], []⟩, ⟨[3], [], [], []⟩, ⟨[2], [], [], []⟩, ⟨[2], [], [], []⟩]
noncomputable def f94e : Env := tab.env []
theorem f94_run {R : Type} (n : Nat) (k : List Dt → Option R) (a0 : Bool) : evFn f94e f94k n f94c [.ro] [false] true [.tmp 2] [3] [.d .bool a0] k =
    (cond a0
    (k [.d (.i .i64) (1 : Int)])
    (k [.d (.i .i64) (0 : Int)])) := by kernel_rfl
theorem f94_spec (a0 : Bool) : ∃ keep rounds, ∀ {R : Type} (k : List Dt → Option R), evFn f94e keep rounds f94c [.ro] [false] true [.tmp 2] [3] [.d .bool a0] k = k [.d (.i .i64) (bitI a0)] := by
  refine ⟨f94k, 0, fun k => ?_⟩
  rw [f94_run]; unfold bitI; cases a0 <;> rfl

noncomputable def q94 : List Dt → Option (Bool × List Dt)
  | [.d .bool a0] => some (true, [.d (.i .i64) (bitI a0)])
  | _ => none
noncomputable def s94 : Gm.Spec := Gm.Spec.of [.ro] [false] true q94
theorem good94 : Gm.Good Try.prog (94, s94) := by
  have hl : ∀ x ∈ ([] : List (Nat × Gm.Spec)), Gm.Good Try.prog x := fun _ h => by cases h
  refine ⟨⟨spec_ok (tab_ok.env hl) (tab.natl hl) Try.func94 (by kernel_rfl : Try.f94.body = some f94c) [3] (by kernel_rfl) ?_, _, Try.func94, by kernel_rfl, of_decide_eq_true (by kernel_rfl)⟩, Gm.Spec.of_natl _ _ _ _⟩
  intro ds outs h
  unfold q94 at h
  split at h
  · cases h; exact f94_spec _
  · cases h
/-! ### loop.example/g00465/spec.l3DrawKey -/
noncomputable def f79c : Code := (Try.f79.body).getD .skip
def f79k : Nat → Kp := kat [⟨[0], [], [], []⟩, ⟨[0, 2], [], [], []⟩]
noncomputable def f79e : Env := tab.env [(81, s81)]
theorem f79_run {R : Type} (n : Nat) (k : List Dt → Option R) (a0 : CurT) : evFn f79e f79k n f79c [.pmut] [false] true [.tmp 2] [9] [.d .cur a0] k =
    (cond (gPickS a0 ([(bs [97]), (bs [98]), (bs [110,97,109,101]), (bs [109,97,120]), (bs [120,32,121]), ByteArray.empty, (bs [97,58,98]), (bs [45])] : List ByteArray))
    (k [.d .str ((curPick a0 ([(bs [97]), (bs [98]), (bs [110,97,109,101]), (bs [109,97,120]), (bs [120,32,121]), ByteArray.empty, (bs [97,58,98]), (bs [45])] : List ByteArray)).1), .d .cur ((curPick a0 ([(bs [97]), (bs [98]), (bs [110,97,109,101]), (bs [109,97,120]), (bs [120,32,121]), ByteArray.empty, (bs [97,58,98]), (bs [45])] : List ByteArray)).2)])
    none) := by kernel_rfl
def f79_P (a0 : CurT) (o : ByteArray × CurT) : Prop := (fun _ o => o.1.size ≤ 4 ∧ gCur o.2 = true) a0 o ∧ ∃ n : Nat, ∀ {R : Type} (k : List Dt → Option R), evFn f79e f79k n f79c [.pmut] [false] true [.tmp 2] [9] [.d .cur a0] k = k [.d .str o.1, .d .cur o.2]
theorem f79_ex (a0 : CurT) (hg : gCur a0 = true) : ∃ o : ByteArray × CurT, (fun _ o => o.1.size ≤ 4 ∧ gCur o.2 = true) a0 o ∧ ∃ n : Nat, ∀ {R : Type} (k : List Dt → Option R), evFn f79e f79k n f79c [.pmut] [false] true [.tmp 2] [9] [.d .cur a0] k = k [.d .str o.1, .d .cur o.2] := by
  have hp := gPickS_of (l := ([(bs [97]), (bs [98]), (bs [110,97,109,101]), (bs [109,97,120]), (bs [120,32,121]), ByteArray.empty, (bs [97,58,98]), (bs [45])] : List ByteArray)) hg rfl
  obtain ⟨hm, g1⟩ := curPick_ok a0 _ hp
  have hz := bleN (List.all_eq_true.1 (show (([(bs [97]), (bs [98]), (bs [110,97,109,101]), (bs [109,97,120]), (bs [120,32,121]), ByteArray.empty, (bs [97,58,98]), (bs [45])] : List ByteArray).all fun x => Nat.ble x.size 4) = true from rfl) _ hm)
  refine ⟨(?a0z0, ?a1z0), ?gz0, 0, ?rz0⟩
  case rz0 =>
    intro R k
    rw [f79_run]
    simp only [hp, cond_true, cond_false, Bool.not_true, Bool.not_false]
    exact rfl
  case gz0 => exact ⟨hz, g1⟩

theorem f79_ne (a0 : CurT) : Nonempty {o : ByteArray × CurT // gCur a0 = true → f79_P a0 o} := by
  by_cases hg : gCur a0 = true
  · obtain ⟨o, ho⟩ := f79_ex a0 hg
    exact ⟨⟨o, fun _ => ho⟩⟩
  · exact ⟨⟨((zero .str), (zero .cur)), fun h => absurd h hg⟩⟩
noncomputable def tKey (a0 : CurT) : ByteArray × CurT := (Classical.choice (f79_ne a0)).val
theorem f79_sp (a0 : CurT) (hg : gCur a0 = true) : f79_P a0 (tKey a0) := (Classical.choice (f79_ne a0)).property hg
theorem tKey_ok (a0 : CurT) (hg : gCur a0 = true) : (fun _ o => o.1.size ≤ 4 ∧ gCur o.2 = true) a0 (tKey a0) := (f79_sp a0 hg).1
theorem f79_spec (a0 : CurT) (hg : gCur a0 = true) : ∃ keep rounds, ∀ {R : Type} (k : List Dt → Option R), evFn f79e keep rounds f79c [.pmut] [false] true [.tmp 2] [9] [.d .cur a0] k = k [.d .str ((tKey a0).1), .d .cur ((tKey a0).2)] := by
  obtain ⟨n, hn⟩ := (f79_sp a0 hg).2
  exact ⟨f79k, n, hn⟩

noncomputable def q79 : List Dt → Option (Bool × List Dt)
  | [.d .cur a0] => some ((gCur a0), [.d .str ((tKey a0).1), .d .cur ((tKey a0).2)])
  | _ => none
noncomputable def s79 : Gm.Spec := Gm.Spec.of [.pmut] [false] true q79
theorem good79 : Gm.Good Try.prog (79, s79) := by
  have hl : ∀ x ∈ [(81, s81)], Gm.Good Try.prog x := List.forall_mem_cons.2 ⟨good81, List.forall_mem_nil _⟩
  refine ⟨⟨spec_ok (tab_ok.env hl) (tab.natl hl) Try.func79 (by kernel_rfl : Try.f79.body = some f79c) [9] (by kernel_rfl) ?_, _, Try.func79, by kernel_rfl, of_decide_eq_true (by kernel_rfl)⟩, Gm.Spec.of_natl _ _ _ _⟩
  intro ds outs h
  unfold q79 at h
  split at h
  · simp only [Option.some.injEq, Prod.mk.injEq] at h; obtain ⟨hg, h⟩ := h; cases h; exact f79_spec _ hg
  · cases h
/-! ### loop.example/g00465/spec.l3DrawText -/
noncomputable def f77c : Code := (Try.f77.body).getD .skip
def f77k : Nat → Kp := kat [⟨[0], [], [], []⟩, ⟨[0, 2], [], [], []⟩]
noncomputable def f77e : Env := tab.env [(81, s81)]
theorem f77_run {R : Type} (n : Nat) (k : List Dt → Option R) (a0 : CurT) : evFn f77e f77k n f77c [.pmut] [false] true [.tmp 2] [9] [.d .cur a0] k =
    (cond (gPickS a0 ([ByteArray.empty, (bs [97]), (bs [119,101,98]), (bs [116,114,117,101]), (bs [49,50]), (bs [115,97,121,32,34,110,111,34]), (bs [98,97,99,107,92]), (bs [97,58,32,98]), (bs [45,32,120]), (bs [35]), (bs [53,109]), (bs [110,117,108,108]), (bs [32,120])] : List ByteArray))
    (k [.d .str ((curPick a0 ([ByteArray.empty, (bs [97]), (bs [119,101,98]), (bs [116,114,117,101]), (bs [49,50]), (bs [115,97,121,32,34,110,111,34]), (bs [98,97,99,107,92]), (bs [97,58,32,98]), (bs [45,32,120]), (bs [35]), (bs [53,109]), (bs [110,117,108,108]), (bs [32,120])] : List ByteArray)).1), .d .cur ((curPick a0 ([ByteArray.empty, (bs [97]), (bs [119,101,98]), (bs [116,114,117,101]), (bs [49,50]), (bs [115,97,121,32,34,110,111,34]), (bs [98,97,99,107,92]), (bs [97,58,32,98]), (bs [45,32,120]), (bs [35]), (bs [53,109]), (bs [110,117,108,108]), (bs [32,120])] : List ByteArray)).2)])
    none) := by kernel_rfl
def f77_P (a0 : CurT) (o : ByteArray × CurT) : Prop := (fun _ o => o.1.size ≤ 8 ∧ gCur o.2 = true) a0 o ∧ ∃ n : Nat, ∀ {R : Type} (k : List Dt → Option R), evFn f77e f77k n f77c [.pmut] [false] true [.tmp 2] [9] [.d .cur a0] k = k [.d .str o.1, .d .cur o.2]
theorem f77_ex (a0 : CurT) (hg : gCur a0 = true) : ∃ o : ByteArray × CurT, (fun _ o => o.1.size ≤ 8 ∧ gCur o.2 = true) a0 o ∧ ∃ n : Nat, ∀ {R : Type} (k : List Dt → Option R), evFn f77e f77k n f77c [.pmut] [false] true [.tmp 2] [9] [.d .cur a0] k = k [.d .str o.1, .d .cur o.2] := by
  have hp := gPickS_of (l := ([ByteArray.empty, (bs [97]), (bs [119,101,98]), (bs [116,114,117,101]), (bs [49,50]), (bs [115,97,121,32,34,110,111,34]), (bs [98,97,99,107,92]), (bs [97,58,32,98]), (bs [45,32,120]), (bs [35]), (bs [53,109]), (bs [110,117,108,108]), (bs [32,120])] : List ByteArray)) hg rfl
  obtain ⟨hm, g1⟩ := curPick_ok a0 _ hp
  have hz := bleN (List.all_eq_true.1 (show (([ByteArray.empty, (bs [97]), (bs [119,101,98]), (bs [116,114,117,101]), (bs [49,50]), (bs [115,97,121,32,34,110,111,34]), (bs [98,97,99,107,92]), (bs [97,58,32,98]), (bs [45,32,120]), (bs [35]), (bs [53,109]), (bs [110,117,108,108]), (bs [32,120])] : List ByteArray).all fun x => Nat.ble x.size 8) = true from rfl) _ hm)
  refine ⟨(?a0z0, ?a1z0), ?gz0, 0, ?rz0⟩
  case rz0 =>
    intro R k
    rw [f77_run]
    simp only [hp, cond_true, cond_false, Bool.not_true, Bool.not_false]
    exact rfl
  case gz0 => exact ⟨hz, g1⟩

theorem f77_ne (a0 : CurT) : Nonempty {o : ByteArray × CurT // gCur a0 = true → f77_P a0 o} := by
  by_cases hg : gCur a0 = true
  · obtain ⟨o, ho⟩ := f77_ex a0 hg
    exact ⟨⟨o, fun _ => ho⟩⟩
  · exact ⟨⟨((zero .str), (zero .cur)), fun h => absurd h hg⟩⟩
noncomputable def tText (a0 : CurT) : ByteArray × CurT := (Classical.choice (f77_ne a0)).val
theorem f77_sp (a0 : CurT) (hg : gCur a0 = true) : f77_P a0 (tText a0) := (Classical.choice (f77_ne a0)).property hg
theorem tText_ok (a0 : CurT) (hg : gCur a0 = true) : (fun _ o => o.1.size ≤ 8 ∧ gCur o.2 = true) a0 (tText a0) := (f77_sp a0 hg).1
theorem f77_spec (a0 : CurT) (hg : gCur a0 = true) : ∃ keep rounds, ∀ {R : Type} (k : List Dt → Option R), evFn f77e keep rounds f77c [.pmut] [false] true [.tmp 2] [9] [.d .cur a0] k = k [.d .str ((tText a0).1), .d .cur ((tText a0).2)] := by
  obtain ⟨n, hn⟩ := (f77_sp a0 hg).2
  exact ⟨f77k, n, hn⟩

noncomputable def q77 : List Dt → Option (Bool × List Dt)
  | [.d .cur a0] => some ((gCur a0), [.d .str ((tText a0).1), .d .cur ((tText a0).2)])
  | _ => none
noncomputable def s77 : Gm.Spec := Gm.Spec.of [.pmut] [false] true q77
theorem good77 : Gm.Good Try.prog (77, s77) := by
  have hl : ∀ x ∈ [(81, s81)], Gm.Good Try.prog x := List.forall_mem_cons.2 ⟨good81, List.forall_mem_nil _⟩
  refine ⟨⟨spec_ok (tab_ok.env hl) (tab.natl hl) Try.func77 (by kernel_rfl : Try.f77.body = some f77c) [9] (by kernel_rfl) ?_, _, Try.func77, by kernel_rfl, of_decide_eq_true (by kernel_rfl)⟩, Gm.Spec.of_natl _ _ _ _⟩
  intro ds outs h
  unfold q77 at h
  split at h
  · simp only [Option.some.injEq, Prod.mk.injEq] at h; obtain ⟨hg, h⟩ := h; cases h; exact f77_spec _ hg
  · cases h
/-! ### loop.example/g00465/spec.FlagOf -/
noncomputable def f73c : Code := (Try.f73.body).getD .skip
def f73k : Nat → Kp := kat [⟨[0, 2], [], [], []⟩, ⟨[2], [], [], []⟩]
noncomputable def f73e : Env := tab.env [(94, s94)]
theorem f73_run {R : Type} (n : Nat) (k : List Dt → Option R) (a0 : Bool) : evFn f73e f73k n f73c [.ro] [false] true [.cell 2 27] [27] [.d .bool a0] k =
    (k [.d .node (⟨(1 : Int), (bitI a0), ByteArray.empty, ([] : List ByteArray), ([] : List NodeT)⟩ : NodeT)]) := by kernel_rfl
theorem f73_spec (a0 : Bool) : ∃ keep rounds, ∀ {R : Type} (k : List Dt → Option R), evFn f73e keep rounds f73c [.ro] [false] true [.cell 2 27] [27] [.d .bool a0] k = k [.d .node (flagN a0)] := by
  refine ⟨f73k, 0, fun {R} k => ?_⟩
  rw [f73_run]
  rfl

noncomputable def q73 : List Dt → Option (Bool × List Dt)
  | [.d .bool a0] => some (true, [.d .node (flagN a0)])
  | _ => none
noncomputable def s73 : Gm.Spec := Gm.Spec.of [.ro] [false] true q73
theorem good73 : Gm.Good Try.prog (73, s73) := by
  have hl : ∀ x ∈ [(94, s94)], Gm.Good Try.prog x := List.forall_mem_cons.2 ⟨good94, List.forall_mem_nil _⟩
  refine ⟨⟨spec_ok (tab_ok.env hl) (tab.natl hl) Try.func73 (by kernel_rfl : Try.f73.body = some f73c) [27] (by kernel_rfl) ?_, _, Try.func73, by kernel_rfl, of_decide_eq_true (by kernel_rfl)⟩, Gm.Spec.of_natl _ _ _ _⟩
  intro ds outs h
  unfold q73 at h
  split at h
  · cases h; exact f73_spec _
  · cases h
/-! ### loop.example/g00465/spec.IntOf -/
noncomputable def f74c : Code := (Try.f74.body).getD .skip
def f74k : Nat → Kp := kat [⟨[0, 2], [], [], []⟩, ⟨[2], [], [], []⟩]
noncomputable def f74e : Env := tab.env []
theorem f74_run {R : Type} (n : Nat) (k : List Dt → Option R) (a0 : Int) : evFn f74e f74k n f74c [.ro] [false] true [.cell 2 27] [27] [.d (.i .i64) a0] k =
    (k [.d .node (⟨(2 : Int), a0, ByteArray.empty, ([] : List ByteArray), ([] : List NodeT)⟩ : NodeT)]) := by kernel_rfl
theorem f74_spec (a0 : Int) : ∃ keep rounds, ∀ {R : Type} (k : List Dt → Option R), evFn f74e keep rounds f74c [.ro] [false] true [.cell 2 27] [27] [.d (.i .i64) a0] k = k [.d .node (intN a0)] := by
  refine ⟨f74k, 0, fun {R} k => ?_⟩
  rw [f74_run]
  rfl

noncomputable def q74 : List Dt → Option (Bool × List Dt)
  | [.d (.i .i64) a0] => some (true, [.d .node (intN a0)])
  | _ => none
noncomputable def s74 : Gm.Spec := Gm.Spec.of [.ro] [false] true q74
theorem good74 : Gm.Good Try.prog (74, s74) := by
  have hl : ∀ x ∈ ([] : List (Nat × Gm.Spec)), Gm.Good Try.prog x := fun _ h => by cases h
  refine ⟨⟨spec_ok (tab_ok.env hl) (tab.natl hl) Try.func74 (by kernel_rfl : Try.f74.body = some f74c) [27] (by kernel_rfl) ?_, _, Try.func74, by kernel_rfl, of_decide_eq_true (by kernel_rfl)⟩, Gm.Spec.of_natl _ _ _ _⟩
  intro ds outs h
  unfold q74 at h
  split at h
  · cases h; exact f74_spec _
  · cases h
/-! ### loop.example/g00465/spec.TextOf -/
noncomputable def f76c : Code := (Try.f76.body).getD .skip
def f76k : Nat → Kp := kat [⟨[0, 2], [], [], []⟩, ⟨[2], [], [], []⟩]
noncomputable def f76e : Env := tab.env []
theorem f76_run {R : Type} (n : Nat) (k : List Dt → Option R) (a0 : ByteArray) : evFn f76e f76k n f76c [.ro] [false] true [.cell 2 27] [27] [.d .str a0] k =
    (k [.d .node (⟨(3 : Int), (0 : Int), a0, ([] : List ByteArray), ([] : List NodeT)⟩ : NodeT)]) := by kernel_rfl
theorem f76_spec (a0 : ByteArray) : ∃ keep rounds, ∀ {R : Type} (k : List Dt → Option R), evFn f76e keep rounds f76c [.ro] [false] true [.cell 2 27] [27] [.d .str a0] k = k [.d .node (textN a0)] := by
  refine ⟨f76k, 0, fun {R} k => ?_⟩
  rw [f76_run]
  rfl

noncomputable def q76 : List Dt → Option (Bool × List Dt)
  | [.d .str a0] => some (true, [.d .node (textN a0)])
  | _ => none
noncomputable def s76 : Gm.Spec := Gm.Spec.of [.ro] [false] true q76
theorem good76 : Gm.Good Try.prog (76, s76) := by
  have hl : ∀ x ∈ ([] : List (Nat × Gm.Spec)), Gm.Good Try.prog x := fun _ h => by cases h
  refine ⟨⟨spec_ok (tab_ok.env hl) (tab.natl hl) Try.func76 (by kernel_rfl : Try.f76.body = some f76c) [27] (by kernel_rfl) ?_, _, Try.func76, by kernel_rfl, of_decide_eq_true (by kernel_rfl)⟩, Gm.Spec.of_natl _ _ _ _⟩
  intro ds outs h
  unfold q76 at h
  split at h
  · cases h; exact f76_spec _
  · cases h
def gFam (N : Nat) (b : Bool) (c : CurT) (d : Int) : Bool := b && (gCur c && (d == (N : Int)))
noncomputable def q36r (F : CurT → NodeT × CurT) (N : Nat) (b : Bool) : List Dt → Option (Bool × List Dt)
  | [.d .cur a0, .d (.i .i64) a1] => some (gFam N b a0 a1, [.d .node (F a0).1, .d .cur (F a0).2])
  | _ => none
noncomputable def s36r (F : CurT → NodeT × CurT) (N : Nat) (b : Bool) : Gm.Spec := Gm.Spec.of [.pmut, .ro] [false] true (q36r F N b)
/-! ### loop.example/g00465/spec.l3DrawRight -/
noncomputable def f36c : Code := (Try.f36.body).getD .skip
def f36k : Nat → Kp := kat [⟨[0, 1, 4], [], [], []⟩, ⟨[0, 1, 4, 5], [], [], []⟩, ⟨[0, 1, 4, 5, 13], [], [], []⟩, ⟨[0, 1, 4, 5], [], [], []⟩, ⟨[0, 1, 4, 5, 16], [], [], []⟩, ⟨[0, 1, 4, 5, 16, 17], [], [], []⟩, ⟨[0, 4], [], [], []⟩, ⟨[0, 1, 4, 5, 16, 20], [], [], []⟩, ⟨[0, 4], [], [], []⟩, ⟨[0, 1, 4, 5, 16, 25], [], [], []⟩, ⟨[0, 4], [], [], []⟩, ⟨[0, 1, 4, 5, 31], [], [], []⟩, ⟨[0, 4], [], [], []⟩, ⟨[0, 1, 4, 5, 6], [], [], []⟩, ⟨[0, 1, 4, 5, 6, 7], [], [], []⟩, ⟨[0, 1, 4, 5, 6, 7, 8], [⟨true, false, 6, 3, .str⟩, ⟨true, false, 6, 4, .node⟩], [], []⟩, ⟨[0, 1, 4, 5, 6, 7, 8, 42], [], [], []⟩, ⟨[0, 1, 4, 5, 6, 7, 8], [], [], [(3520, 387), (3521, 388)]⟩, ⟨[0, 1, 4, 5, 6, 7, 8, 9], [], [], []⟩, ⟨[0, 1, 4, 5, 6, 7, 8, 9, 50], [], [], []⟩, ⟨[0, 1, 4, 5, 6, 7, 8], [], [], []⟩, ⟨[0, 1, 4, 5, 6, 7, 8], [], [], []⟩, ⟨[0, 4], [], [], []⟩]
noncomputable def f36e (F : CurT → NodeT × CurT) (N : Nat) (b : Bool) : Env := tab.env [(36, s36r F N b), (52, s52), (53, s53), (73, s73), (74, s74), (75, s75), (76, s76), (77, s77), (78, s78), (79, s79)]
noncomputable def f36L0 {R : Type} (F : CurT → NodeT × CurT) (N : Nat) (b : Bool) (n : Nat) (x0 : Int → Bool → (List Int) → Int → Int → Int → Int → ByteArray → (List ByteArray) → (List NodeT) → Option R) (vs1 : Int) (vs5 : Int) (vs7 : Int) : Nat → Int → (List Int) → Int → Int → Int → Int → ByteArray → (List ByteArray) → (List NodeT) → Option R
  | 0, _, _, _, _, _, _, _, _, _ => none
  | m + 1, vs8, vb0_0, vb0_1, vb0_2, vb6_0, vb6_1, vb6_2, vr387, vr388 =>
    (cond (decide (vs8 < vs7))
      (cond (gFam N b (⟨vb0_0, vb0_1, vb0_2⟩ : CurT) (IntKind.wrap .i64 (vs1 - (1 : Int))))
        (cond (vs5 == (5 : Int))
          (cond (gCur ((F (⟨vb0_0, vb0_1, vb0_2⟩ : CurT)).2))
            (cond (gS3 (⟨vb6_0, vb6_1, vb6_2, vr387, vr388⟩ : NodeT) ((tKey ((F (⟨vb0_0, vb0_1, vb0_2⟩ : CurT)).2)).1) (eN ((F (⟨vb0_0, vb0_1, vb0_2⟩ : CurT)).1)))
              (f36L0 F N b n x0 vs1 vs5 vs7 m (IntKind.wrap .i64 (vs8 + (1 : Int))) (CurT.b ((tKey ((F (⟨vb0_0, vb0_1, vb0_2⟩ : CurT)).2)).2)) (CurT.i ((tKey ((F (⟨vb0_0, vb0_1, vb0_2⟩ : CurT)).2)).2)) (CurT.h ((tKey ((F (⟨vb0_0, vb0_1, vb0_2⟩ : CurT)).2)).2)) (NodeT.kind (setK (⟨vb6_0, vb6_1, vb6_2, vr387, vr388⟩ : NodeT) ((tKey ((F (⟨vb0_0, vb0_1, vb0_2⟩ : CurT)).2)).1) (eN ((F (⟨vb0_0, vb0_1, vb0_2⟩ : CurT)).1)))) (NodeT.n (setK (⟨vb6_0, vb6_1, vb6_2, vr387, vr388⟩ : NodeT) ((tKey ((F (⟨vb0_0, vb0_1, vb0_2⟩ : CurT)).2)).1) (eN ((F (⟨vb0_0, vb0_1, vb0_2⟩ : CurT)).1)))) (NodeT.s (setK (⟨vb6_0, vb6_1, vb6_2, vr387, vr388⟩ : NodeT) ((tKey ((F (⟨vb0_0, vb0_1, vb0_2⟩ : CurT)).2)).1) (eN ((F (⟨vb0_0, vb0_1, vb0_2⟩ : CurT)).1)))) (NodeT.keys (setK (⟨vb6_0, vb6_1, vb6_2, vr387, vr388⟩ : NodeT) ((tKey ((F (⟨vb0_0, vb0_1, vb0_2⟩ : CurT)).2)).1) (eN ((F (⟨vb0_0, vb0_1, vb0_2⟩ : CurT)).1)))) (NodeT.kids (setK (⟨vb6_0, vb6_1, vb6_2, vr387, vr388⟩ : NodeT) ((tKey ((F (⟨vb0_0, vb0_1, vb0_2⟩ : CurT)).2)).1) (eN ((F (⟨vb0_0, vb0_1, vb0_2⟩ : CurT)).1)))))
              none)
            none)
          (cond (Nat.ble (vr388.length + 1) LIM)
            (f36L0 F N b n x0 vs1 vs5 vs7 m (IntKind.wrap .i64 (vs8 + (1 : Int))) (CurT.b ((F (⟨vb0_0, vb0_1, vb0_2⟩ : CurT)).2)) (CurT.i ((F (⟨vb0_0, vb0_1, vb0_2⟩ : CurT)).2)) (CurT.h ((F (⟨vb0_0, vb0_1, vb0_2⟩ : CurT)).2)) vb6_0 vb6_1 vb6_2 vr387 (vr388 ++ ([(eN ((F (⟨vb0_0, vb0_1, vb0_2⟩ : CurT)).1))] : List NodeT)))
            none))
        none)
      (x0 vs8 (decide (vs8 < vs7)) vb0_0 vb0_1 vb0_2 vb6_0 vb6_1 vb6_2 vr387 vr388))
theorem f36L0_b {R : Type} (F : CurT → NodeT × CurT) (N : Nat) (b : Bool) (n : Nat) (k' : Ex → St → Option R) (vs1 : Int) (vs5 : Int) (vs7 : Int) (vs8 : Int) (vb0_0 : List Int) (vb0_1 : Int) (vb0_2 : Int) (vb6_0 : Int) (vb6_1 : Int) (vb6_2 : ByteArray) (vr387 : List ByteArray) (vr388 : List NodeT) : ev (f36e F N b) f36k n (cAt [1,1,1,1,1,1,0,1,0,0] f36c) ⟨[(0, .c (.one (.pt 0 0))), (1, .c (.one (.v (.int .i64 vs1)))), (4, .c (.one (.pt 4 0))), (5, .c (.one (.v (.int .i64 vs5)))), (6, .c (.one (.pt 6 0))), (7, .c (.one (.v (.int .i64 vs7)))), (8, .c (.one (.v (.int .i64 vs8))))], [(0, ⟨.cur, [.rk (.i .u8) vb0_0, .v (.int .i64 vb0_1), .v (.int .i64 vb0_2)]⟩), (4, ⟨.node, [.v (.int .i64 (0 : Int)), .v (.int .i64 (0 : Int)), .v (.string ByteArray.empty), .nl, .nl]⟩), (6, ⟨.node, [.v (.int .i64 vb6_0), .v (.int .i64 vb6_1), .v (.string vb6_2), .h 387 0 0 [], .h 388 0 0 []]⟩)], [(387, .live ⟨.str, .deep, 0, [], vr387⟩), (388, .live ⟨.node, .deep, 0, [], vr388⟩)]⟩ k' =
    (cond (decide (vs8 < vs7))
    (cond (gFam N b (⟨vb0_0, vb0_1, vb0_2⟩ : CurT) (IntKind.wrap .i64 (vs1 - (1 : Int))))
      (cond (vs5 == (5 : Int))
        (cond (gCur ((F (⟨vb0_0, vb0_1, vb0_2⟩ : CurT)).2))
          (cond (gS3 (⟨vb6_0, vb6_1, vb6_2, vr387, vr388⟩ : NodeT) ((tKey ((F (⟨vb0_0, vb0_1, vb0_2⟩ : CurT)).2)).1) (eN ((F (⟨vb0_0, vb0_1, vb0_2⟩ : CurT)).1)))
            (k' .normal ⟨[(0, .c (.one (.pt 0 0))), (1, .c (.one (.v (.int .i64 vs1)))), (4, .c (.one (.pt 4 0))), (5, .c (.one (.v (.int .i64 vs5)))), (6, .c (.one (.pt 6 0))), (7, .c (.one (.v (.int .i64 vs7)))), (8, .c (.one (.v (.int .i64 (IntKind.wrap .i64 (vs8 + (1 : Int)))))))], [(0, ⟨.cur, [.rk (.i .u8) (CurT.b ((tKey ((F (⟨vb0_0, vb0_1, vb0_2⟩ : CurT)).2)).2)), .v (.int .i64 (CurT.i ((tKey ((F (⟨vb0_0, vb0_1, vb0_2⟩ : CurT)).2)).2))), .v (.int .i64 (CurT.h ((tKey ((F (⟨vb0_0, vb0_1, vb0_2⟩ : CurT)).2)).2)))]⟩), (4, ⟨.node, [.v (.int .i64 (0 : Int)), .v (.int .i64 (0 : Int)), .v (.string ByteArray.empty), .nl, .nl]⟩), (6, ⟨.node, [.v (.int .i64 (NodeT.kind (setK (⟨vb6_0, vb6_1, vb6_2, vr387, vr388⟩ : NodeT) ((tKey ((F (⟨vb0_0, vb0_1, vb0_2⟩ : CurT)).2)).1) (eN ((F (⟨vb0_0, vb0_1, vb0_2⟩ : CurT)).1))))), .v (.int .i64 (NodeT.n (setK (⟨vb6_0, vb6_1, vb6_2, vr387, vr388⟩ : NodeT) ((tKey ((F (⟨vb0_0, vb0_1, vb0_2⟩ : CurT)).2)).1) (eN ((F (⟨vb0_0, vb0_1, vb0_2⟩ : CurT)).1))))), .v (.string (NodeT.s (setK (⟨vb6_0, vb6_1, vb6_2, vr387, vr388⟩ : NodeT) ((tKey ((F (⟨vb0_0, vb0_1, vb0_2⟩ : CurT)).2)).1) (eN ((F (⟨vb0_0, vb0_1, vb0_2⟩ : CurT)).1))))), .h 387 0 0 [], .h 388 0 0 []]⟩)], [(387, .live ⟨.str, .deep, 0, [], (NodeT.keys (setK (⟨vb6_0, vb6_1, vb6_2, vr387, vr388⟩ : NodeT) ((tKey ((F (⟨vb0_0, vb0_1, vb0_2⟩ : CurT)).2)).1) (eN ((F (⟨vb0_0, vb0_1, vb0_2⟩ : CurT)).1))))⟩), (388, .live ⟨.node, .deep, 0, [], (NodeT.kids (setK (⟨vb6_0, vb6_1, vb6_2, vr387, vr388⟩ : NodeT) ((tKey ((F (⟨vb0_0, vb0_1, vb0_2⟩ : CurT)).2)).1) (eN ((F (⟨vb0_0, vb0_1, vb0_2⟩ : CurT)).1))))⟩)]⟩)
            none)
          none)
        (cond (Nat.ble (vr388.length + 1) LIM)
          (k' .normal ⟨[(0, .c (.one (.pt 0 0))), (1, .c (.one (.v (.int .i64 vs1)))), (4, .c (.one (.pt 4 0))), (5, .c (.one (.v (.int .i64 vs5)))), (6, .c (.one (.pt 6 0))), (7, .c (.one (.v (.int .i64 vs7)))), (8, .c (.one (.v (.int .i64 (IntKind.wrap .i64 (vs8 + (1 : Int)))))))], [(0, ⟨.cur, [.rk (.i .u8) (CurT.b ((F (⟨vb0_0, vb0_1, vb0_2⟩ : CurT)).2)), .v (.int .i64 (CurT.i ((F (⟨vb0_0, vb0_1, vb0_2⟩ : CurT)).2))), .v (.int .i64 (CurT.h ((F (⟨vb0_0, vb0_1, vb0_2⟩ : CurT)).2)))]⟩), (4, ⟨.node, [.v (.int .i64 (0 : Int)), .v (.int .i64 (0 : Int)), .v (.string ByteArray.empty), .nl, .nl]⟩), (6, ⟨.node, [.v (.int .i64 vb6_0), .v (.int .i64 vb6_1), .v (.string vb6_2), .h 387 0 0 [], .h 388 0 0 []]⟩)], [(387, .live ⟨.str, .deep, 0, [], vr387⟩), (388, .live ⟨.node, .deep, 0, [], (vr388 ++ ([(eN ((F (⟨vb0_0, vb0_1, vb0_2⟩ : CurT)).1))] : List NodeT))⟩)]⟩)
          none))
      none)
    (k' (.exit 1) ⟨[(0, .c (.one (.pt 0 0))), (1, .c (.one (.v (.int .i64 vs1)))), (4, .c (.one (.pt 4 0))), (5, .c (.one (.v (.int .i64 vs5)))), (6, .c (.one (.pt 6 0))), (7, .c (.one (.v (.int .i64 vs7)))), (8, .c (.one (.v (.int .i64 vs8)))), (42, .c (.one (.v (.bool (decide (vs8 < vs7))))))], [(0, ⟨.cur, [.rk (.i .u8) vb0_0, .v (.int .i64 vb0_1), .v (.int .i64 vb0_2)]⟩), (4, ⟨.node, [.v (.int .i64 (0 : Int)), .v (.int .i64 (0 : Int)), .v (.string ByteArray.empty), .nl, .nl]⟩), (6, ⟨.node, [.v (.int .i64 vb6_0), .v (.int .i64 vb6_1), .v (.string vb6_2), .h 387 0 0 [], .h 388 0 0 []]⟩)], [(387, .live ⟨.str, .deep, 0, [], vr387⟩), (388, .live ⟨.node, .deep, 0, [], vr388⟩)]⟩)) := by kernel_rfl
theorem f36L0_eq {R : Type} (F : CurT → NodeT × CurT) (N : Nat) (b : Bool) (n : Nat) (k' : Ex → St → Option R) (vs1 : Int) (vs5 : Int) (vs7 : Int) : ∀ (m : Nat) (vs8 : Int) (vb0_0 : List Int) (vb0_1 : Int) (vb0_2 : Int) (vb6_0 : Int) (vb6_1 : Int) (vb6_2 : ByteArray) (vr387 : List ByteArray) (vr388 : List NodeT), iter (fun st k => ev (f36e F N b) f36k n (cAt [1,1,1,1,1,1,0,1,0,0] f36c) st k) m ⟨[(0, .c (.one (.pt 0 0))), (1, .c (.one (.v (.int .i64 vs1)))), (4, .c (.one (.pt 4 0))), (5, .c (.one (.v (.int .i64 vs5)))), (6, .c (.one (.pt 6 0))), (7, .c (.one (.v (.int .i64 vs7)))), (8, .c (.one (.v (.int .i64 vs8))))], [(0, ⟨.cur, [.rk (.i .u8) vb0_0, .v (.int .i64 vb0_1), .v (.int .i64 vb0_2)]⟩), (4, ⟨.node, [.v (.int .i64 (0 : Int)), .v (.int .i64 (0 : Int)), .v (.string ByteArray.empty), .nl, .nl]⟩), (6, ⟨.node, [.v (.int .i64 vb6_0), .v (.int .i64 vb6_1), .v (.string vb6_2), .h 387 0 0 [], .h 388 0 0 []]⟩)], [(387, .live ⟨.str, .deep, 0, [], vr387⟩), (388, .live ⟨.node, .deep, 0, [], vr388⟩)]⟩ k' = f36L0 F N b n (fun (xvs8 : Int) (xvs42 : Bool) (xvb0_0 : List Int) (xvb0_1 : Int) (xvb0_2 : Int) (xvb6_0 : Int) (xvb6_1 : Int) (xvb6_2 : ByteArray) (xvr387 : List ByteArray) (xvr388 : List NodeT) => k' (.exit 1) ⟨[(0, .c (.one (.pt 0 0))), (1, .c (.one (.v (.int .i64 vs1)))), (4, .c (.one (.pt 4 0))), (5, .c (.one (.v (.int .i64 vs5)))), (6, .c (.one (.pt 6 0))), (7, .c (.one (.v (.int .i64 vs7)))), (8, .c (.one (.v (.int .i64 xvs8)))), (42, .c (.one (.v (.bool xvs42))))], [(0, ⟨.cur, [.rk (.i .u8) xvb0_0, .v (.int .i64 xvb0_1), .v (.int .i64 xvb0_2)]⟩), (4, ⟨.node, [.v (.int .i64 (0 : Int)), .v (.int .i64 (0 : Int)), .v (.string ByteArray.empty), .nl, .nl]⟩), (6, ⟨.node, [.v (.int .i64 xvb6_0), .v (.int .i64 xvb6_1), .v (.string xvb6_2), .h 387 0 0 [], .h 388 0 0 []]⟩)], [(387, .live ⟨.str, .deep, 0, [], xvr387⟩), (388, .live ⟨.node, .deep, 0, [], xvr388⟩)]⟩) vs1 vs5 vs7 m vs8 vb0_0 vb0_1 vb0_2 vb6_0 vb6_1 vb6_2 vr387 vr388 := by
  intro m; induction m with
  | zero => intros; rfl
  | succ m ih =>
    intro vs8 vb0_0 vb0_1 vb0_2 vb6_0 vb6_1 vb6_2 vr387 vr388
    simp only [iter]
    rw [f36L0_b]
    simp only [ih, f36L0]

noncomputable def f36K0 {R : Type} (F : CurT → NodeT × CurT) (N : Nat) (b : Bool) (n : Nat) (k' : Ex → St → Option R) : Ex → St → Option R := (blockK 1 (seqK (f36e F N b) f36k n (cAt [1,1,1,1,1,1,1] f36c) k'))
theorem f36K0_x0 {R : Type} (F : CurT → NodeT × CurT) (N : Nat) (b : Bool) (n : Nat) (k : List Dt → Option R) (a0 : CurT) (a1 : Int) (vs1 : Int) (vs5 : Int) (vs7 : Int) (xvs8 : Int) (xvs42 : Bool) (xvb0_0 : List Int) (xvb0_1 : Int) (xvb0_2 : Int) (xvb6_0 : Int) (xvb6_1 : Int) (xvb6_2 : ByteArray) (xvr387 : List ByteArray) (xvr388 : List NodeT) : f36K0 F N b n (exitK (f36e F N b) [.pmut, .ro] [false] true [.cell 4 27] [27] [.d .cur a0, .d (.i .i64) a1] k) (.exit 1) ⟨[(0, .c (.one (.pt 0 0))), (1, .c (.one (.v (.int .i64 vs1)))), (4, .c (.one (.pt 4 0))), (5, .c (.one (.v (.int .i64 vs5)))), (6, .c (.one (.pt 6 0))), (7, .c (.one (.v (.int .i64 vs7)))), (8, .c (.one (.v (.int .i64 xvs8)))), (42, .c (.one (.v (.bool xvs42))))], [(0, ⟨.cur, [.rk (.i .u8) xvb0_0, .v (.int .i64 xvb0_1), .v (.int .i64 xvb0_2)]⟩), (4, ⟨.node, [.v (.int .i64 (0 : Int)), .v (.int .i64 (0 : Int)), .v (.string ByteArray.empty), .nl, .nl]⟩), (6, ⟨.node, [.v (.int .i64 xvb6_0), .v (.int .i64 xvb6_1), .v (.string xvb6_2), .h 387 0 0 [], .h 388 0 0 []]⟩)], [(387, .live ⟨.str, .deep, 0, [], xvr387⟩), (388, .live ⟨.node, .deep, 0, [], xvr388⟩)]⟩ =
    (k [.d .node (⟨xvb6_0, xvb6_1, xvb6_2, xvr387, xvr388⟩ : NodeT), .d .cur (⟨xvb0_0, xvb0_1, xvb0_2⟩ : CurT)]) := by kernel_rfl

theorem f36_run {R : Type} (F : CurT → NodeT × CurT) (N : Nat) (b : Bool) (n : Nat) (k : List Dt → Option R) (a0 : CurT) (a1 : Int) : evFn (f36e F N b) f36k n f36c [.pmut, .ro] [false] true [.cell 4 27] [27] [.d .cur a0, .d (.i .i64) a1] k =
    (cond ((fun c _ => gCur c) a0 (6 : Int))
    (cond (a1 == (0 : Int))
      (cond ((fun c _ => gCur c) ((curBelow a0 (6 : Int)).2) (4 : Int))
        (cond (((curBelow ((curBelow a0 (6 : Int)).2) (4 : Int)).1) == (0 : Int))
          (k [.d .node (⟨(0 : Int), (0 : Int), ByteArray.empty, ([] : List ByteArray), ([] : List NodeT)⟩ : NodeT), .d .cur ((curBelow ((curBelow a0 (6 : Int)).2) (4 : Int)).2)])
          (cond (((curBelow ((curBelow a0 (6 : Int)).2) (4 : Int)).1) == (1 : Int))
            (cond ((fun c _ => gCur c) ((curBelow ((curBelow a0 (6 : Int)).2) (4 : Int)).2) (2 : Int))
              (k [.d .node (eN (flagN ((curOnce ((curBelow ((curBelow a0 (6 : Int)).2) (4 : Int)).2) (2 : Int)).1))), .d .cur ((curOnce ((curBelow ((curBelow a0 (6 : Int)).2) (4 : Int)).2) (2 : Int)).2)])
              none)
            (cond (((curBelow ((curBelow a0 (6 : Int)).2) (4 : Int)).1) == (2 : Int))
              (cond (gPickI ((curBelow ((curBelow a0 (6 : Int)).2) (4 : Int)).2) ([(0 : Int), (7 : Int), (-3 : Int), (1000 : Int), (1000000000000 : Int)] : List Int))
                (k [.d .node (eN (intN ((curPickI ((curBelow ((curBelow a0 (6 : Int)).2) (4 : Int)).2) ([(0 : Int), (7 : Int), (-3 : Int), (1000 : Int), (1000000000000 : Int)] : List Int)).1))), .d .cur ((curPickI ((curBelow ((curBelow a0 (6 : Int)).2) (4 : Int)).2) ([(0 : Int), (7 : Int), (-3 : Int), (1000 : Int), (1000000000000 : Int)] : List Int)).2)])
                none)
              (cond (((curBelow ((curBelow a0 (6 : Int)).2) (4 : Int)).1) == (3 : Int))
                (cond (gCur ((curBelow ((curBelow a0 (6 : Int)).2) (4 : Int)).2))
                  (k [.d .node (eN (textN ((tText ((curBelow ((curBelow a0 (6 : Int)).2) (4 : Int)).2)).1))), .d .cur ((tText ((curBelow ((curBelow a0 (6 : Int)).2) (4 : Int)).2)).2)])
                  none)
                (cond ((fun c _ => gCur c) ((curBelow ((curBelow a0 (6 : Int)).2) (4 : Int)).2) (4 : Int))
                  (f36L0 F N b n (fun (xvs8 : Int) (xvs42 : Bool) (xvb0_0 : List Int) (xvb0_1 : Int) (xvb0_2 : Int) (xvb6_0 : Int) (xvb6_1 : Int) (xvb6_2 : ByteArray) (xvr387 : List ByteArray) (xvr388 : List NodeT) =>
                    (k [.d .node (⟨xvb6_0, xvb6_1, xvb6_2, xvr387, xvr388⟩ : NodeT), .d .cur (⟨xvb0_0, xvb0_1, xvb0_2⟩ : CurT)])) a1 ((curBelow ((curBelow a0 (6 : Int)).2) (4 : Int)).1) ((curBelow ((curBelow ((curBelow a0 (6 : Int)).2) (4 : Int)).2) (4 : Int)).1) n (0 : Int) (CurT.b ((curBelow ((curBelow ((curBelow a0 (6 : Int)).2) (4 : Int)).2) (4 : Int)).2)) (CurT.i ((curBelow ((curBelow ((curBelow a0 (6 : Int)).2) (4 : Int)).2) (4 : Int)).2)) (CurT.h ((curBelow ((curBelow ((curBelow a0 (6 : Int)).2) (4 : Int)).2) (4 : Int)).2)) ((curBelow ((curBelow a0 (6 : Int)).2) (4 : Int)).1) (0 : Int) ByteArray.empty ([] : List ByteArray) ([] : List NodeT))
                  none)))))
        none)
      (cond (((curBelow a0 (6 : Int)).1) == (0 : Int))
        (k [.d .node (⟨(0 : Int), (0 : Int), ByteArray.empty, ([] : List ByteArray), ([] : List NodeT)⟩ : NodeT), .d .cur ((curBelow a0 (6 : Int)).2)])
        (cond (((curBelow a0 (6 : Int)).1) == (1 : Int))
          (cond ((fun c _ => gCur c) ((curBelow a0 (6 : Int)).2) (2 : Int))
            (k [.d .node (eN (flagN ((curOnce ((curBelow a0 (6 : Int)).2) (2 : Int)).1))), .d .cur ((curOnce ((curBelow a0 (6 : Int)).2) (2 : Int)).2)])
            none)
          (cond (((curBelow a0 (6 : Int)).1) == (2 : Int))
            (cond (gPickI ((curBelow a0 (6 : Int)).2) ([(0 : Int), (7 : Int), (-3 : Int), (1000 : Int), (1000000000000 : Int)] : List Int))
              (k [.d .node (eN (intN ((curPickI ((curBelow a0 (6 : Int)).2) ([(0 : Int), (7 : Int), (-3 : Int), (1000 : Int), (1000000000000 : Int)] : List Int)).1))), .d .cur ((curPickI ((curBelow a0 (6 : Int)).2) ([(0 : Int), (7 : Int), (-3 : Int), (1000 : Int), (1000000000000 : Int)] : List Int)).2)])
              none)
            (cond (((curBelow a0 (6 : Int)).1) == (3 : Int))
              (cond (gCur ((curBelow a0 (6 : Int)).2))
                (k [.d .node (eN (textN ((tText ((curBelow a0 (6 : Int)).2)).1))), .d .cur ((tText ((curBelow a0 (6 : Int)).2)).2)])
                none)
              (cond ((fun c _ => gCur c) ((curBelow a0 (6 : Int)).2) (4 : Int))
                (f36L0 F N b n (fun (xvs8 : Int) (xvs42 : Bool) (xvb0_0 : List Int) (xvb0_1 : Int) (xvb0_2 : Int) (xvb6_0 : Int) (xvb6_1 : Int) (xvb6_2 : ByteArray) (xvr387 : List ByteArray) (xvr388 : List NodeT) =>
                  (k [.d .node (⟨xvb6_0, xvb6_1, xvb6_2, xvr387, xvr388⟩ : NodeT), .d .cur (⟨xvb0_0, xvb0_1, xvb0_2⟩ : CurT)])) a1 ((curBelow a0 (6 : Int)).1) ((curBelow ((curBelow a0 (6 : Int)).2) (4 : Int)).1) n (0 : Int) (CurT.b ((curBelow ((curBelow a0 (6 : Int)).2) (4 : Int)).2)) (CurT.i ((curBelow ((curBelow a0 (6 : Int)).2) (4 : Int)).2)) (CurT.h ((curBelow ((curBelow a0 (6 : Int)).2) (4 : Int)).2)) ((curBelow a0 (6 : Int)).1) (0 : Int) ByteArray.empty ([] : List ByteArray) ([] : List NodeT))
                none))))))
    none) := by
  refine Eq.trans (b := (cond ((fun c _ => gCur c) a0 (6 : Int))
    (cond (a1 == (0 : Int))
      (cond ((fun c _ => gCur c) ((curBelow a0 (6 : Int)).2) (4 : Int))
        (cond (((curBelow ((curBelow a0 (6 : Int)).2) (4 : Int)).1) == (0 : Int))
          (k [.d .node (⟨(0 : Int), (0 : Int), ByteArray.empty, ([] : List ByteArray), ([] : List NodeT)⟩ : NodeT), .d .cur ((curBelow ((curBelow a0 (6 : Int)).2) (4 : Int)).2)])
          (cond (((curBelow ((curBelow a0 (6 : Int)).2) (4 : Int)).1) == (1 : Int))
            (cond ((fun c _ => gCur c) ((curBelow ((curBelow a0 (6 : Int)).2) (4 : Int)).2) (2 : Int))
              (k [.d .node (eN (flagN ((curOnce ((curBelow ((curBelow a0 (6 : Int)).2) (4 : Int)).2) (2 : Int)).1))), .d .cur ((curOnce ((curBelow ((curBelow a0 (6 : Int)).2) (4 : Int)).2) (2 : Int)).2)])
              none)
            (cond (((curBelow ((curBelow a0 (6 : Int)).2) (4 : Int)).1) == (2 : Int))
              (cond (gPickI ((curBelow ((curBelow a0 (6 : Int)).2) (4 : Int)).2) ([(0 : Int), (7 : Int), (-3 : Int), (1000 : Int), (1000000000000 : Int)] : List Int))
                (k [.d .node (eN (intN ((curPickI ((curBelow ((curBelow a0 (6 : Int)).2) (4 : Int)).2) ([(0 : Int), (7 : Int), (-3 : Int), (1000 : Int), (1000000000000 : Int)] : List Int)).1))), .d .cur ((curPickI ((curBelow ((curBelow a0 (6 : Int)).2) (4 : Int)).2) ([(0 : Int), (7 : Int), (-3 : Int), (1000 : Int), (1000000000000 : Int)] : List Int)).2)])
                none)
              (cond (((curBelow ((curBelow a0 (6 : Int)).2) (4 : Int)).1) == (3 : Int))
                (cond (gCur ((curBelow ((curBelow a0 (6 : Int)).2) (4 : Int)).2))
                  (k [.d .node (eN (textN ((tText ((curBelow ((curBelow a0 (6 : Int)).2) (4 : Int)).2)).1))), .d .cur ((tText ((curBelow ((curBelow a0 (6 : Int)).2) (4 : Int)).2)).2)])
                  none)
                (cond ((fun c _ => gCur c) ((curBelow ((curBelow a0 (6 : Int)).2) (4 : Int)).2) (4 : Int))
                  (iter (fun st k => ev (f36e F N b) f36k n (cAt [1,1,1,1,1,1,0,1,0,0] f36c) st k) n ⟨[(0, .c (.one (.pt 0 0))), (1, .c (.one (.v (.int .i64 a1)))), (4, .c (.one (.pt 4 0))), (5, .c (.one (.v (.int .i64 ((curBelow ((curBelow a0 (6 : Int)).2) (4 : Int)).1))))), (6, .c (.one (.pt 6 0))), (7, .c (.one (.v (.int .i64 ((curBelow ((curBelow ((curBelow a0 (6 : Int)).2) (4 : Int)).2) (4 : Int)).1))))), (8, .c (.one (.v (.int .i64 (0 : Int)))))], [(0, ⟨.cur, [.rk (.i .u8) (CurT.b ((curBelow ((curBelow ((curBelow a0 (6 : Int)).2) (4 : Int)).2) (4 : Int)).2)), .v (.int .i64 (CurT.i ((curBelow ((curBelow ((curBelow a0 (6 : Int)).2) (4 : Int)).2) (4 : Int)).2))), .v (.int .i64 (CurT.h ((curBelow ((curBelow ((curBelow a0 (6 : Int)).2) (4 : Int)).2) (4 : Int)).2)))]⟩), (4, ⟨.node, [.v (.int .i64 (0 : Int)), .v (.int .i64 (0 : Int)), .v (.string ByteArray.empty), .nl, .nl]⟩), (6, ⟨.node, [.v (.int .i64 ((curBelow ((curBelow a0 (6 : Int)).2) (4 : Int)).1)), .v (.int .i64 (0 : Int)), .v (.string ByteArray.empty), .h 387 0 0 [], .h 388 0 0 []]⟩)], [(387, .live ⟨.str, .deep, 0, [], ([] : List ByteArray)⟩), (388, .live ⟨.node, .deep, 0, [], ([] : List NodeT)⟩)]⟩ (f36K0 F N b n (exitK (f36e F N b) [.pmut, .ro] [false] true [.cell 4 27] [27] [.d .cur a0, .d (.i .i64) a1] k)))
                  none)))))
        none)
      (cond (((curBelow a0 (6 : Int)).1) == (0 : Int))
        (k [.d .node (⟨(0 : Int), (0 : Int), ByteArray.empty, ([] : List ByteArray), ([] : List NodeT)⟩ : NodeT), .d .cur ((curBelow a0 (6 : Int)).2)])
        (cond (((curBelow a0 (6 : Int)).1) == (1 : Int))
          (cond ((fun c _ => gCur c) ((curBelow a0 (6 : Int)).2) (2 : Int))
            (k [.d .node (eN (flagN ((curOnce ((curBelow a0 (6 : Int)).2) (2 : Int)).1))), .d .cur ((curOnce ((curBelow a0 (6 : Int)).2) (2 : Int)).2)])
            none)
          (cond (((curBelow a0 (6 : Int)).1) == (2 : Int))
            (cond (gPickI ((curBelow a0 (6 : Int)).2) ([(0 : Int), (7 : Int), (-3 : Int), (1000 : Int), (1000000000000 : Int)] : List Int))
              (k [.d .node (eN (intN ((curPickI ((curBelow a0 (6 : Int)).2) ([(0 : Int), (7 : Int), (-3 : Int), (1000 : Int), (1000000000000 : Int)] : List Int)).1))), .d .cur ((curPickI ((curBelow a0 (6 : Int)).2) ([(0 : Int), (7 : Int), (-3 : Int), (1000 : Int), (1000000000000 : Int)] : List Int)).2)])
              none)
            (cond (((curBelow a0 (6 : Int)).1) == (3 : Int))
              (cond (gCur ((curBelow a0 (6 : Int)).2))
                (k [.d .node (eN (textN ((tText ((curBelow a0 (6 : Int)).2)).1))), .d .cur ((tText ((curBelow a0 (6 : Int)).2)).2)])
                none)
              (cond ((fun c _ => gCur c) ((curBelow a0 (6 : Int)).2) (4 : Int))
                (iter (fun st k => ev (f36e F N b) f36k n (cAt [1,1,1,1,1,1,0,1,0,0] f36c) st k) n ⟨[(0, .c (.one (.pt 0 0))), (1, .c (.one (.v (.int .i64 a1)))), (4, .c (.one (.pt 4 0))), (5, .c (.one (.v (.int .i64 ((curBelow a0 (6 : Int)).1))))), (6, .c (.one (.pt 6 0))), (7, .c (.one (.v (.int .i64 ((curBelow ((curBelow a0 (6 : Int)).2) (4 : Int)).1))))), (8, .c (.one (.v (.int .i64 (0 : Int)))))], [(0, ⟨.cur, [.rk (.i .u8) (CurT.b ((curBelow ((curBelow a0 (6 : Int)).2) (4 : Int)).2)), .v (.int .i64 (CurT.i ((curBelow ((curBelow a0 (6 : Int)).2) (4 : Int)).2))), .v (.int .i64 (CurT.h ((curBelow ((curBelow a0 (6 : Int)).2) (4 : Int)).2)))]⟩), (4, ⟨.node, [.v (.int .i64 (0 : Int)), .v (.int .i64 (0 : Int)), .v (.string ByteArray.empty), .nl, .nl]⟩), (6, ⟨.node, [.v (.int .i64 ((curBelow a0 (6 : Int)).1)), .v (.int .i64 (0 : Int)), .v (.string ByteArray.empty), .h 387 0 0 [], .h 388 0 0 []]⟩)], [(387, .live ⟨.str, .deep, 0, [], ([] : List ByteArray)⟩), (388, .live ⟨.node, .deep, 0, [], ([] : List NodeT)⟩)]⟩ (f36K0 F N b n (exitK (f36e F N b) [.pmut, .ro] [false] true [.cell 4 27] [27] [.d .cur a0, .d (.i .i64) a1] k)))
                none))))))
    none)) (by kernel_rfl) ?_
  simp only [f36L0_eq, f36K0_x0]
theorem f36_ex0 (F : CurT → NodeT × CurT) (N : Nat) (b : Bool) (a0 : CurT) (hg : gCur a0 = true) : ∃ o : NodeT × CurT, (GT 0 o.1 ∧ gCur o.2 = true) ∧ ∃ n : Nat, ∀ {R : Type} (k : List Dt → Option R), evFn (f36e F N b) f36k n f36c [.pmut, .ro] [false] true [.cell 4 27] [27] [.d .cur a0, .d (.i .i64) (0 : Int)] k = k [.d .node o.1, .d .cur o.2] := by
  obtain ⟨_, _, g1⟩ := curBelow_ok a0 6 hg
  obtain ⟨x0, x1, g2⟩ := curBelow_ok (curBelow a0 6).2 4 g1
  have x1 := x1 (by omega)
  have hz : ((0 : Int) == (0 : Int)) = true := rfl
  cases e0 : ((curBelow (curBelow a0 6).2 4).1 == (0 : Int))
  rotate_left
  · skip
    refine ⟨(?za0, ?zb0), ?zg0, 0, ?zr0⟩
    case zr0 =>
      intro R k
      rw [f36_run]
      simp only [hg, g1, g2, hz, e0, cond_true, cond_false]
      exact rfl
    case zg0 => exact ⟨GT_leaf _ rfl rfl (by decide), g2⟩
  cases e1 : ((curBelow (curBelow a0 6).2 4).1 == (1 : Int))
  rotate_left
  · have h1 := curOnce_ok (curBelow (curBelow a0 6).2 4).2 2 g2
    refine ⟨(?za1, ?zb1), ?zg1, 0, ?zr1⟩
    case zr1 =>
      intro R k
      rw [f36_run]
      simp only [hg, g1, g2, hz, e0, e1, cond_true, cond_false]
      exact rfl
    case zg1 => exact ⟨flagN_ok _ _, h1⟩
  cases e2 : ((curBelow (curBelow a0 6).2 4).1 == (2 : Int))
  rotate_left
  · have hp := gPickI_of (l := ([(0 : Int), (7 : Int), (-3 : Int), (1000 : Int), (1000000000000 : Int)] : List Int)) g2 rfl
    obtain ⟨hm, h1⟩ := curPickI_ok (curBelow (curBelow a0 6).2 4).2 _ hp
    refine ⟨(?za2, ?zb2), ?zg2, 0, ?zr2⟩
    case zr2 =>
      intro R k
      rw [f36_run]
      simp only [hg, g1, g2, hz, e0, e1, e2, hp, cond_true, cond_false]
      exact rfl
    case zg2 => exact ⟨intN_ok _ (List.all_eq_true.1 (show (([(0 : Int), (7 : Int), (-3 : Int), (1000 : Int), (1000000000000 : Int)] : List Int).all okI) = true from rfl) _ hm), h1⟩
  cases e3 : ((curBelow (curBelow a0 6).2 4).1 == (3 : Int))
  rotate_left
  · obtain ⟨hz, h1⟩ := tText_ok (curBelow (curBelow a0 6).2 4).2 g2
    refine ⟨(?za3, ?zb3), ?zg3, 0, ?zr3⟩
    case zr3 =>
      intro R k
      rw [f36_run]
      simp only [hg, g1, g2, hz, e0, e1, e2, e3, cond_true, cond_false]
      exact rfl
    case zg3 => exact ⟨textN_ok _ hz, h1⟩
  exfalso
  rw [beq_eq_false_iff_ne] at e0 e1 e2 e3
  omega

theorem f36_exS (F : CurT → NodeT × CurT) (N : Nat) (hN : N + 1 ≤ 6) (hF : ∀ c, gCur c = true → GT N (F c).1 ∧ gCur (F c).2 = true) (a0 : CurT) (hg : gCur a0 = true) : ∃ o : NodeT × CurT, (GT (N + 1) o.1 ∧ gCur o.2 = true) ∧ ∃ n : Nat, ∀ {R : Type} (k : List Dt → Option R), evFn (f36e F N true) f36k n f36c [.pmut, .ro] [false] true [.cell 4 27] [27] [.d .cur a0, .d (.i .i64) ((N + 1 : Nat) : Int)] k = k [.d .node o.1, .d .cur o.2] := by
  obtain ⟨x0, x1, g1⟩ := curBelow_ok a0 6 hg
  have x1 := x1 (by omega)
  have hz : (((N + 1 : Nat) : Int) == (0 : Int)) = false := by rw [beq_eq_false_iff_ne]; omega
  cases e0 : ((curBelow a0 6).1 == (0 : Int))
  rotate_left
  · skip
    refine ⟨(?za4, ?zb4), ?zg4, 0, ?zr4⟩
    case zr4 =>
      intro R k
      rw [f36_run]
      simp only [hg, g1, hz, e0, cond_true, cond_false]
      exact rfl
    case zg4 => exact ⟨GT_leaf _ rfl rfl (by decide), g1⟩
  cases e1 : ((curBelow a0 6).1 == (1 : Int))
  rotate_left
  · have h1 := curOnce_ok (curBelow a0 6).2 2 g1
    refine ⟨(?za5, ?zb5), ?zg5, 0, ?zr5⟩
    case zr5 =>
      intro R k
      rw [f36_run]
      simp only [hg, g1, hz, e0, e1, cond_true, cond_false]
      exact rfl
    case zg5 => exact ⟨flagN_ok _ _, h1⟩
  cases e2 : ((curBelow a0 6).1 == (2 : Int))
  rotate_left
  · have hp := gPickI_of (l := ([(0 : Int), (7 : Int), (-3 : Int), (1000 : Int), (1000000000000 : Int)] : List Int)) g1 rfl
    obtain ⟨hm, h1⟩ := curPickI_ok (curBelow a0 6).2 _ hp
    refine ⟨(?za6, ?zb6), ?zg6, 0, ?zr6⟩
    case zr6 =>
      intro R k
      rw [f36_run]
      simp only [hg, g1, hz, e0, e1, e2, hp, cond_true, cond_false]
      exact rfl
    case zg6 => exact ⟨intN_ok _ (List.all_eq_true.1 (show (([(0 : Int), (7 : Int), (-3 : Int), (1000 : Int), (1000000000000 : Int)] : List Int).all okI) = true from rfl) _ hm), h1⟩
  cases e3 : ((curBelow a0 6).1 == (3 : Int))
  rotate_left
  · obtain ⟨hz, h1⟩ := tText_ok (curBelow a0 6).2 g1
    refine ⟨(?za7, ?zb7), ?zg7, 0, ?zr7⟩
    case zr7 =>
      intro R k
      rw [f36_run]
      simp only [hg, g1, hz, e0, e1, e2, e3, cond_true, cond_false]
      exact rfl
    case zg7 => exact ⟨textN_ok _ hz, h1⟩
  obtain ⟨y0, y1, g2⟩ := curBelow_ok (curBelow a0 6).2 4 g1
  have y1 := y1 (by omega)
  have hpow : 4 ^ N ≤ 4 ^ 5 := Nat.pow_le_pow_right (by decide) (by omega)
  have hk : (curBelow a0 6).1 = 4 ∨ (curBelow a0 6).1 = 5 := by
    rw [beq_eq_false_iff_ne] at e0 e1 e2 e3
    omega
  have hw1 : IntKind.wrap .i64 (((N + 1 : Nat) : Int) - (1 : Int)) = (N : Int) := by rw [wrap_id (by omega) (by omega)]; omega
  have key : ∀ (kind nn : Int), (kind = 4 ∨ kind = 5) → nn < 4 → ∀ (d m : Nat) (i : Nat) (t : NodeT) (c : CurT), nn ≤ i + d → (i : Int) ≤ 4 → (i = 0 ∨ (i : Int) ≤ nn) → d < m → (sm_node t = true ∧ Wf t ∧ t.kind = kind ∧ szN_node t ≤ i * (100 * 4 ^ N + 10)) → gCur c = true →
      ∃ o : NodeT × CurT, (GT (N + 1) o.1 ∧ gCur o.2 = true) ∧ ∀ {R : Type} (X : Int → Bool → (List Int) → Int → Int → Int → Int → ByteArray → (List ByteArray) → (List NodeT) → Option R) (Z : NodeT → CurT → Option R),
        (∀ i b c1 c2 c3 k0 k1 k2 k3 k4, X i b c1 c2 c3 k0 k1 k2 k3 k4 = Z ⟨k0, k1, k2, k3, k4⟩ ⟨c1, c2, c3⟩) → f36L0 F N true 6 X ((N + 1 : Nat) : Int) kind nn m (i : Int) c.b c.i c.h t.kind t.n t.s t.keys t.kids = Z o.1 o.2 := by
    intro kind nn hk hnn d
    have fin : ∀ (i : Nat) (t : NodeT), (i : Int) ≤ 4 → (i = 0 ∨ (i : Int) ≤ nn) → (sm_node t = true ∧ Wf t ∧ t.kind = kind ∧ szN_node t ≤ i * (100 * 4 ^ N + 10)) → GT (N + 1) t := by
      intro i t hi4 hin ⟨h1, h2, h3, h4⟩
      refine ⟨h1, ?_, h2⟩
      have : i * (100 * 4 ^ N + 10) ≤ 3 * (100 * 4 ^ N + 10) := Nat.mul_le_mul_right _ (by omega)
      have h5 : 1 ≤ 4 ^ N := Nat.one_le_pow _ _ (by decide)
      rw [Nat.pow_succ]; omega
    induction d with
    | zero =>
      intro m i t c hi hi4 hin hm hI hc
      obtain ⟨m, rfl⟩ : ∃ m', m = m' + 1 := ⟨m - 1, by omega⟩
      refine ⟨(t, c), ⟨fin i t hi4 hin hI, hc⟩, fun {R} X Z hX => ?_⟩
      simp only [f36L0, decide_eq_false (show ¬ ((i : Int) < nn) by omega), cond_false, hX, eta_node, eN_eq, eta_cur]
    | succ d ih =>
      intro m i t c hi hi4 hin hm hI hc
      obtain ⟨m, rfl⟩ : ∃ m', m = m' + 1 := ⟨m - 1, by omega⟩
      cases hd : decide ((i : Int) < nn)
      · refine ⟨(t, c), ⟨fin i t hi4 hin hI, hc⟩, fun {R} X Z hX => ?_⟩
        simp only [f36L0, hd, cond_false, hX, eta_node, eN_eq, eta_cur]
      have hlt := of_decide_eq_true hd
      have hw : IntKind.wrap .i64 ((i : Int) + 1) = ((i + 1 : Nat) : Int) := by rw [wrap_id (by omega) (by omega)]; omega
      obtain ⟨⟨q1, q2, q3⟩, q4⟩ := hF c hc
      obtain ⟨h1, h2, h3, h4⟩ := hI
      have hgf : gFam N true c (N : Int) = true := by simp [gFam, hc]
      have hb3 : i * (100 * 4 ^ N + 10) ≤ 3 * (100 * 4 ^ N + 10) := Nat.mul_le_mul_right _ (by omega)
      have hs1 : (i + 1) * (100 * 4 ^ N + 10) = i * (100 * 4 ^ N + 10) + (100 * 4 ^ N + 10) := by rw [Nat.add_mul, Nat.one_mul]
      have hln := (@lens_node t).2
      rcases hk with hk | hk
      · have e5 : (kind == (5 : Int)) = false := by rw [hk]; rfl
        have hbl : Nat.ble (t.kids.length + 1) LIM = true := Nat.ble_eq_true_of_le (by have : (LIM : Nat) = 4294967296 := rfl; omega)
        obtain ⟨s1, s2⟩ := snoc_ok h1 q1 (by omega)
        obtain ⟨o1, ho1, hh1⟩ := ih m (i + 1) ⟨t.kind, t.n, t.s, t.keys, t.kids ++ [(F c).1]⟩ (F c).2 (by omega) (by omega) (by omega) (by omega) ⟨s1, snoc_wf h2 q3 (h3.trans hk), h3, by omega⟩ q4
        exact ⟨o1, ho1, fun {R} X Z hX => by
          simp only [f36L0, hd, hw1, eta_cur, eta_node, eN_eq, hgf, hbl, e5, hw, cond_true, cond_false]
          exact hh1 X Z hX⟩
      · have e5 : (kind == (5 : Int)) = true := by rw [hk]; rfl
        obtain ⟨k1, k2⟩ := tKey_ok _ q4
        have hks : smStr (tKey (F c).2).1 = true := smStr_of (by omega)
        have hg3 : gS3 t (tKey (F c).2).1 (F c).1 = true := by simp only [gS3, h1, hks, q1, Bool.and_self]
        obtain ⟨s1, s2⟩ := setK_ok h1 hks q1 (by omega)
        obtain ⟨w1, w2⟩ := setK_wf (s := (tKey (F c).2).1) h2 q3 (h3.trans hk)
        obtain ⟨o1, ho1, hh1⟩ := ih m (i + 1) (setK t (tKey (F c).2).1 (F c).1) (tKey (F c).2).2 (by omega) (by omega) (by omega) (by omega) ⟨s1, w1, w2.trans hk.symm, by omega⟩ k2
        exact ⟨o1, ho1, fun {R} X Z hX => by
          simp only [f36L0, hd, hw1, eta_cur, eta_node, eN_eq, hgf, e5, q4, hg3, hw, cond_true, cond_false]
          exact hh1 X Z hX⟩
  obtain ⟨o, ho, hh⟩ := key (curBelow a0 6).1 (curBelow (curBelow a0 6).2 4).1 hk y1 4 6 0 ⟨(curBelow a0 6).1, 0, ByteArray.empty, [], []⟩ (curBelow (curBelow a0 6).2 4).2 (by omega) (by omega) (.inl rfl) (by omega)
    ⟨(GT_leaf 0 (okI_of (by omega) (by omega)) rfl (by decide)).1, Wf.of_leaf _ rfl rfl, rfl, by rw [szN_node_def]; simp [szL]⟩ g2
  refine ⟨o, ho, 6, fun {R} k => ?_⟩
  rw [f36_run]
  simp only [hg, g1, hz, e0, e1, e2, e3, cond_true, cond_false]
  exact hh _ (fun t c => k [.d .node t, .d .cur c]) (fun _ _ _ _ _ _ _ _ _ _ => rfl)

theorem f36_ne0 (c : CurT) : Nonempty {o : NodeT × CurT // gCur c = true → (GT 0 o.1 ∧ gCur o.2 = true) ∧ ∃ n : Nat, ∀ {R : Type} (k : List Dt → Option R), evFn (f36e (fun c => (noNode, c)) 0 false) f36k n f36c [.pmut, .ro] [false] true [.cell 4 27] [27] [.d .cur c, .d (.i .i64) (0 : Int)] k = k [.d .node o.1, .d .cur o.2]} := by
  by_cases hg : gCur c = true
  · obtain ⟨o, ho⟩ := f36_ex0 (fun c => (noNode, c)) 0 false c hg
    exact ⟨⟨o, fun _ => ho⟩⟩
  · exact ⟨⟨(noNode, c), fun h => absurd h hg⟩⟩
theorem f36_neS (F : CurT → NodeT × CurT) (N : Nat) (hF : N ≤ 6 → ∀ c, gCur c = true → GT N (F c).1 ∧ gCur (F c).2 = true) (c : CurT) : Nonempty {o : NodeT × CurT // N + 1 ≤ 6 → gCur c = true → (GT (N + 1) o.1 ∧ gCur o.2 = true) ∧ ∃ n : Nat, ∀ {R : Type} (k : List Dt → Option R), evFn (f36e F N true) f36k n f36c [.pmut, .ro] [false] true [.cell 4 27] [27] [.d .cur c, .d (.i .i64) ((N + 1 : Nat) : Int)] k = k [.d .node o.1, .d .cur o.2]} := by
  by_cases hN : N + 1 ≤ 6
  · by_cases hg : gCur c = true
    · obtain ⟨o, ho⟩ := f36_exS F N hN (hF (by omega)) c hg
      exact ⟨⟨o, fun _ _ => ho⟩⟩
    · exact ⟨⟨(noNode, c), fun _ h => absurd h hg⟩⟩
  · exact ⟨⟨(noNode, c), fun h => absurd h hN⟩⟩
noncomputable def dTree : (k : Nat) → {F : CurT → NodeT × CurT // k ≤ 6 → ∀ c, gCur c = true → GT k (F c).1 ∧ gCur (F c).2 = true}
  | 0 => ⟨fun c => (Classical.choice (f36_ne0 c)).val, fun _ c hc => ((Classical.choice (f36_ne0 c)).property hc).1⟩
  | k + 1 => ⟨fun c => (Classical.choice (f36_neS (dTree k).1 k (dTree k).2 c)).val, fun hk c hc => ((Classical.choice (f36_neS (dTree k).1 k (dTree k).2 c)).property hk hc).1⟩
noncomputable def dT (c : CurT) (d : Int) : NodeT × CurT := (dTree d.toNat).1 c
def gDT (c : CurT) (d : Int) : Bool := gCur c && (decide (0 ≤ d) && decide (d ≤ 6))
theorem dT_ok {c : CurT} {d : Int} (h : gDT c d = true) : GT d.toNat (dT c d).1 ∧ gCur (dT c d).2 = true := by
  simp only [gDT, Bool.and_eq_true, decide_eq_true_eq] at h
  exact (dTree d.toNat).2 (by omega) c h.1
theorem gDT_of {c : CurT} {d : Int} (h : gCur c = true) (hd : (decide (0 ≤ d) && decide (d ≤ 6)) = true) : gDT c d = true := by
  unfold gDT; rw [h, hd]; rfl
noncomputable def q36 : List Dt → Option (Bool × List Dt)
  | [.d .cur a0, .d (.i .i64) a1] => some (gDT a0 a1, [.d .node (dT a0 a1).1, .d .cur (dT a0 a1).2])
  | _ => none
noncomputable def s36 : Gm.Spec := Gm.Spec.of [.pmut, .ro] [false] true q36
theorem f36_none (F : CurT → NodeT × CurT) (N : Nat) : SpecOk Try.prog 36 (s36r F N false) := by
  intro R ds k r hr
  obtain ⟨outs, hq, _⟩ := Gm.Spec.of_some hr
  unfold q36r at hq
  split at hq
  · simp [gFam] at hq
  · cases hq
theorem f36_lvl : ∀ k : Nat, k ≤ 6 → SpecOk Try.prog 36 (s36r (dTree k).1 k true)
  | 0, _ => by
    have hl : ∀ x ∈ [(36, s36r (fun c => (noNode, c)) 0 false), (52, s52), (53, s53), (73, s73), (74, s74), (75, s75), (76, s76), (77, s77), (78, s78), (79, s79)], Gm.Good Try.prog x := List.forall_mem_cons.2 ⟨⟨⟨f36_none _ _, _, Try.func36, by kernel_rfl, of_decide_eq_true (by kernel_rfl)⟩, Gm.Spec.of_natl _ _ _ _⟩, List.forall_mem_cons.2 ⟨good52, List.forall_mem_cons.2 ⟨good53, List.forall_mem_cons.2 ⟨good73, List.forall_mem_cons.2 ⟨good74, List.forall_mem_cons.2 ⟨good75, List.forall_mem_cons.2 ⟨good76, List.forall_mem_cons.2 ⟨good77, List.forall_mem_cons.2 ⟨good78, List.forall_mem_cons.2 ⟨good79, List.forall_mem_nil _⟩⟩⟩⟩⟩⟩⟩⟩⟩⟩
    refine spec_ok (E := f36e (fun c => (noNode, c)) 0 false) (tab_ok.env hl) (tab.natl hl) Try.func36 (by kernel_rfl : Try.f36.body = some f36c) [27] (by kernel_rfl) ?_
    intro ds outs h
    unfold q36r at h
    split at h
    · simp only [Option.some.injEq, Prod.mk.injEq, gFam, Bool.and_eq_true, beq_iff_eq] at h
      obtain ⟨⟨_, hg, rfl⟩, h⟩ := h
      cases h
      obtain ⟨n, hn⟩ := ((Classical.choice (f36_ne0 _)).property hg).2
      exact ⟨f36k, n, hn⟩
    · cases h
  | k + 1, hk => by
    have hr : SpecOk Try.prog 36 (s36r (dTree k).1 k true) := fun {R} => f36_lvl k (by omega) (R := R)
    have hl : ∀ x ∈ [(36, s36r (dTree k).1 k true), (52, s52), (53, s53), (73, s73), (74, s74), (75, s75), (76, s76), (77, s77), (78, s78), (79, s79)], Gm.Good Try.prog x := List.forall_mem_cons.2 ⟨⟨⟨hr, _, Try.func36, by kernel_rfl, of_decide_eq_true (by kernel_rfl)⟩, Gm.Spec.of_natl _ _ _ _⟩, List.forall_mem_cons.2 ⟨good52, List.forall_mem_cons.2 ⟨good53, List.forall_mem_cons.2 ⟨good73, List.forall_mem_cons.2 ⟨good74, List.forall_mem_cons.2 ⟨good75, List.forall_mem_cons.2 ⟨good76, List.forall_mem_cons.2 ⟨good77, List.forall_mem_cons.2 ⟨good78, List.forall_mem_cons.2 ⟨good79, List.forall_mem_nil _⟩⟩⟩⟩⟩⟩⟩⟩⟩⟩
    refine spec_ok (E := f36e (dTree k).1 k true) (tab_ok.env hl) (tab.natl hl) Try.func36 (by kernel_rfl : Try.f36.body = some f36c) [27] (by kernel_rfl) ?_
    intro ds outs h
    unfold q36r at h
    split at h
    · simp only [Option.some.injEq, Prod.mk.injEq, gFam, Bool.and_eq_true, beq_iff_eq] at h
      obtain ⟨⟨_, hg, rfl⟩, h⟩ := h
      cases h
      obtain ⟨n, hn⟩ := ((Classical.choice (f36_neS (dTree k).1 k (dTree k).2 _)).property hk hg).2
      exact ⟨f36k, n, hn⟩
    · cases h
theorem good36 : Gm.Good Try.prog (36, s36) := by
  refine ⟨⟨spec_part (q := q36) ?_, _, Try.func36, by kernel_rfl, of_decide_eq_true (by kernel_rfl)⟩, Gm.Spec.of_natl _ _ _ _⟩
  intro ds outs h
  unfold q36 at h
  split at h
  · rename_i a0 a1
    simp only [Option.some.injEq, Prod.mk.injEq, gDT, Bool.and_eq_true, decide_eq_true_eq] at h
    obtain ⟨⟨hg, h0, h6⟩, h⟩ := h
    refine ⟨_, f36_lvl a1.toNat (by omega), ?_⟩
    rw [← h]
    have : gFam a1.toNat true a0 a1 = true := by simp only [gFam, hg, Bool.true_and, beq_iff_eq]; omega
    show some (gFam a1.toNat true a0 a1, _) = _
    rw [this]; rfl
  · cases h
end Go.Proofs.Ytalnkjjnohgjkaa

/- x -/
namespace Go.Proofs.Ytalnkjjnohgjkaa
open Go Go.Gm
noncomputable def q80 : List Dt → Option (Bool × List Dt)
  | [.d .node a0] => some ((gPt a0), [.d (.sl (.sl .str)) (allPtrs a0)])
  | _ => none
noncomputable def mu80 : List Dt → Nat
  | [.d .node a0] => nd_node a0
  | _ => 0
noncomputable def s80r (N : Nat) : Gm.Spec := Gm.Spec.of [.ro] [false] true (qlt mu80 N q80)
/-! ### loop.example/g00465/spec.AllPtrs -/
noncomputable def f80c : Code := (Try.f80.body).getD .skip
def f80k : Nat → Kp := kat [⟨[1], [], [], []⟩, ⟨[1, 3], [], [], []⟩, ⟨[1, 3, 4], [], [], []⟩, ⟨[1, 3, 4, 14], [], [], []⟩, ⟨[1, 3, 4], [], [], []⟩, ⟨[1, 3, 4, 5], [], [], []⟩, ⟨[1, 3, 4, 5, 28], [], [], []⟩, ⟨[1, 3, 4, 5], [], [], []⟩, ⟨[1, 3, 4, 5, 6], [], [], []⟩, ⟨[1, 3, 4, 5, 6, 7], [], [], []⟩, ⟨[1, 3, 4, 5, 6, 7, 43], [], [], []⟩, ⟨[1, 3, 4, 5, 6, 7], [], [], []⟩, ⟨[1, 3, 4, 5, 6, 7], [], [], []⟩, ⟨[2], [], [], []⟩]
noncomputable def f80e (N : Nat) : Env := tab.env [(59, s59), (80, s80r N)]
noncomputable def f80L0 {R : Type} (N : Nat) (n : Nat) (x0 : Int → Bool → (List (List ByteArray)) → Option R) (vs4 : Int) (vs5 : ByteArray) (vb1_0 : Int) (vb1_1 : Int) (vb1_2 : ByteArray) (vb1_3 : List ByteArray) (vb1_4 : List NodeT) (vr2496 : List (List ByteArray)) : Nat → Int → (List (List ByteArray)) → Option R
  | 0, _, _ => none
  | m + 1, vs7, vr576 =>
    (cond (decide (vs7 < (vr2496.length : Int)))
      (cond ((decide ((0 : Int) ≤ vs7)) && (decide (vs7 < (vr2496.length : Int))))
        (cond (Nat.ble (1 + (atI (t := (.sl .str)) vr2496 (Int.toNat vs7)).length) LIM)
          (cond (Nat.ble (vr576.length + 1) LIM)
            (f80L0 N n x0 vs4 vs5 vb1_0 vb1_1 vb1_2 vb1_3 vb1_4 vr2496 m (IntKind.wrap .i64 (vs7 + (1 : Int))) (vr576 ++ ([(([vs5] : List ByteArray) ++ (atI (t := (.sl .str)) vr2496 (Int.toNat vs7)))] : List (List ByteArray))))
            none)
          none)
        none)
      (x0 vs7 (decide (vs7 < (vr2496.length : Int))) vr576))
theorem f80L0_b {R : Type} (N : Nat) (n : Nat) (k' : Ex → St → Option R) (vs4 : Int) (vs5 : ByteArray) (vs7 : Int) (vb1_0 : Int) (vb1_1 : Int) (vb1_2 : ByteArray) (vb1_3 : List ByteArray) (vb1_4 : List NodeT) (vr576 : List (List ByteArray)) (vr2496 : List (List ByteArray)) : ev (f80e N) f80k n (cAt [1,1,0,1,0,0,1,0,0,1,1,1,1,0,0] f80c) ⟨[(1, .c (.one (.pt 1 0))), (3, .c (.one (.h 576 0 0 []))), (4, .c (.one (.v (.int .i64 vs4)))), (5, .c (.one (.v (.string vs5)))), (6, .c (.one (.h 2496 0 0 []))), (7, .c (.one (.v (.int .i64 vs7))))], [(1, ⟨.node, [.v (.int .i64 vb1_0), .v (.int .i64 vb1_1), .v (.string vb1_2), .ro .str vb1_3, .ro .node vb1_4]⟩)], [(576, .live ⟨(.sl .str), .deep, 0, [], vr576⟩), (2496, .live ⟨(.sl .str), .deep, 0, [], vr2496⟩)]⟩ k' =
    (cond (decide (vs7 < (vr2496.length : Int)))
    (cond ((decide ((0 : Int) ≤ vs7)) && (decide (vs7 < (vr2496.length : Int))))
      (cond (Nat.ble (1 + (atI (t := (.sl .str)) vr2496 (Int.toNat vs7)).length) LIM)
        (cond (Nat.ble (vr576.length + 1) LIM)
          (k' .normal ⟨[(1, .c (.one (.pt 1 0))), (3, .c (.one (.h 576 0 0 []))), (4, .c (.one (.v (.int .i64 vs4)))), (5, .c (.one (.v (.string vs5)))), (6, .c (.one (.h 2496 0 0 []))), (7, .c (.one (.v (.int .i64 (IntKind.wrap .i64 (vs7 + (1 : Int)))))))], [(1, ⟨.node, [.v (.int .i64 vb1_0), .v (.int .i64 vb1_1), .v (.string vb1_2), .ro .str vb1_3, .ro .node vb1_4]⟩)], [(576, .live ⟨(.sl .str), .deep, 0, [], (vr576 ++ ([(([vs5] : List ByteArray) ++ (atI (t := (.sl .str)) vr2496 (Int.toNat vs7)))] : List (List ByteArray)))⟩), (2496, .live ⟨(.sl .str), .deep, 0, [], vr2496⟩)]⟩)
          none)
        none)
      none)
    (k' (.exit 2) ⟨[(1, .c (.one (.pt 1 0))), (3, .c (.one (.h 576 0 0 []))), (4, .c (.one (.v (.int .i64 vs4)))), (5, .c (.one (.v (.string vs5)))), (6, .c (.one (.h 2496 0 0 []))), (7, .c (.one (.v (.int .i64 vs7)))), (43, .c (.one (.v (.bool (decide (vs7 < (vr2496.length : Int)))))))], [(1, ⟨.node, [.v (.int .i64 vb1_0), .v (.int .i64 vb1_1), .v (.string vb1_2), .ro .str vb1_3, .ro .node vb1_4]⟩)], [(576, .live ⟨(.sl .str), .deep, 0, [], vr576⟩), (2496, .live ⟨(.sl .str), .deep, 0, [], vr2496⟩)]⟩)) := by kernel_rfl
theorem f80L0_eq {R : Type} (N : Nat) (n : Nat) (k' : Ex → St → Option R) (vs4 : Int) (vs5 : ByteArray) (vb1_0 : Int) (vb1_1 : Int) (vb1_2 : ByteArray) (vb1_3 : List ByteArray) (vb1_4 : List NodeT) (vr2496 : List (List ByteArray)) : ∀ (m : Nat) (vs7 : Int) (vr576 : List (List ByteArray)), iter (fun st k => ev (f80e N) f80k n (cAt [1,1,0,1,0,0,1,0,0,1,1,1,1,0,0] f80c) st k) m ⟨[(1, .c (.one (.pt 1 0))), (3, .c (.one (.h 576 0 0 []))), (4, .c (.one (.v (.int .i64 vs4)))), (5, .c (.one (.v (.string vs5)))), (6, .c (.one (.h 2496 0 0 []))), (7, .c (.one (.v (.int .i64 vs7))))], [(1, ⟨.node, [.v (.int .i64 vb1_0), .v (.int .i64 vb1_1), .v (.string vb1_2), .ro .str vb1_3, .ro .node vb1_4]⟩)], [(576, .live ⟨(.sl .str), .deep, 0, [], vr576⟩), (2496, .live ⟨(.sl .str), .deep, 0, [], vr2496⟩)]⟩ k' = f80L0 N n (fun (xvs7 : Int) (xvs43 : Bool) (xvr576 : List (List ByteArray)) => k' (.exit 2) ⟨[(1, .c (.one (.pt 1 0))), (3, .c (.one (.h 576 0 0 []))), (4, .c (.one (.v (.int .i64 vs4)))), (5, .c (.one (.v (.string vs5)))), (6, .c (.one (.h 2496 0 0 []))), (7, .c (.one (.v (.int .i64 xvs7)))), (43, .c (.one (.v (.bool xvs43))))], [(1, ⟨.node, [.v (.int .i64 vb1_0), .v (.int .i64 vb1_1), .v (.string vb1_2), .ro .str vb1_3, .ro .node vb1_4]⟩)], [(576, .live ⟨(.sl .str), .deep, 0, [], xvr576⟩), (2496, .live ⟨(.sl .str), .deep, 0, [], vr2496⟩)]⟩) vs4 vs5 vb1_0 vb1_1 vb1_2 vb1_3 vb1_4 vr2496 m vs7 vr576 := by
  intro m; induction m with
  | zero => intros; rfl
  | succ m ih =>
    intro vs7 vr576
    simp only [iter]
    rw [f80L0_b]
    simp only [ih, f80L0]

noncomputable def f80K0 {R : Type} (N : Nat) (n : Nat) (k' : Ex → St → Option R) : Ex → St → Option R := (blockK 2 (blockK 1 (seqK (f80e N) f80k n (cAt [1,1,0,1,0,0,1,1] f80c) k')))
theorem f80K0_x0 {R : Type} (N : Nat) (n : Nat) (k' : Ex → St → Option R) (vs4 : Int) (vs5 : ByteArray) (vb1_0 : Int) (vb1_1 : Int) (vb1_2 : ByteArray) (vb1_3 : List ByteArray) (vb1_4 : List NodeT) (vr2496 : List (List ByteArray)) (xvs7 : Int) (xvs43 : Bool) (xvr576 : List (List ByteArray)) : f80K0 N n k' (.exit 2) ⟨[(1, .c (.one (.pt 1 0))), (3, .c (.one (.h 576 0 0 []))), (4, .c (.one (.v (.int .i64 vs4)))), (5, .c (.one (.v (.string vs5)))), (6, .c (.one (.h 2496 0 0 []))), (7, .c (.one (.v (.int .i64 xvs7)))), (43, .c (.one (.v (.bool xvs43))))], [(1, ⟨.node, [.v (.int .i64 vb1_0), .v (.int .i64 vb1_1), .v (.string vb1_2), .ro .str vb1_3, .ro .node vb1_4]⟩)], [(576, .live ⟨(.sl .str), .deep, 0, [], xvr576⟩), (2496, .live ⟨(.sl .str), .deep, 0, [], vr2496⟩)]⟩ =
    (k' .normal ⟨[(1, .c (.one (.pt 1 0))), (3, .c (.one (.h 576 0 0 []))), (4, .c (.one (.v (.int .i64 (IntKind.wrap .i64 (vs4 + (1 : Int)))))))], [(1, ⟨.node, [.v (.int .i64 vb1_0), .v (.int .i64 vb1_1), .v (.string vb1_2), .ro .str vb1_3, .ro .node vb1_4]⟩)], [(576, .live ⟨(.sl .str), .deep, 0, [], xvr576⟩)]⟩) := by kernel_rfl

noncomputable def f80L1 {R : Type} (N : Nat) (n : Nat) (x0 : Int → Bool → (List (List ByteArray)) → Option R) (vb1_0 : Int) (vb1_1 : Int) (vb1_2 : ByteArray) (vb1_3 : List ByteArray) (vb1_4 : List NodeT) : Nat → Int → (List (List ByteArray)) → Option R
  | 0, _, _ => none
  | m + 1, vs4, vr576 =>
    (cond (decide (vs4 < (vb1_4.length : Int)))
      (cond (okI vs4)
        (cond (vb1_0 == (5 : Int))
          (cond (decide (vs4 < (vb1_3.length : Int)))
            (cond ((decide ((0 : Int) ≤ vs4)) && (decide (vs4 < (vb1_3.length : Int))))
              (cond ((decide ((0 : Int) ≤ vs4)) && (decide (vs4 < (vb1_4.length : Int))))
                (cond ((gPt (eN (atI (t := .node) vb1_4 (Int.toNat vs4)))) && (Nat.blt (nd_node (eN (atI (t := .node) vb1_4 (Int.toNat vs4)))) N))
                  (f80L0 N n (fun (xvs7 : Int) (xvs43 : Bool) (xvr576 : List (List ByteArray)) =>
                    (f80L1 N n x0 vb1_0 vb1_1 vb1_2 vb1_3 vb1_4 m (IntKind.wrap .i64 (vs4 + (1 : Int))) xvr576)) vs4 (atI (t := .str) vb1_3 (Int.toNat vs4)) vb1_0 vb1_1 vb1_2 vb1_3 vb1_4 (allPtrs (eN (atI (t := .node) vb1_4 (Int.toNat vs4)))) n (0 : Int) vr576)
                  none)
                none)
              none)
            (cond ((decide ((0 : Int) ≤ vs4)) && (decide (vs4 < (vb1_4.length : Int))))
              (cond ((gPt (eN (atI (t := .node) vb1_4 (Int.toNat vs4)))) && (Nat.blt (nd_node (eN (atI (t := .node) vb1_4 (Int.toNat vs4)))) N))
                (f80L0 N n (fun (xvs7 : Int) (xvs43 : Bool) (xvr576 : List (List ByteArray)) =>
                  (f80L1 N n x0 vb1_0 vb1_1 vb1_2 vb1_3 vb1_4 m (IntKind.wrap .i64 (vs4 + (1 : Int))) xvr576)) vs4 (digS vs4) vb1_0 vb1_1 vb1_2 vb1_3 vb1_4 (allPtrs (eN (atI (t := .node) vb1_4 (Int.toNat vs4)))) n (0 : Int) vr576)
                none)
              none))
          (cond ((decide ((0 : Int) ≤ vs4)) && (decide (vs4 < (vb1_4.length : Int))))
            (cond ((gPt (eN (atI (t := .node) vb1_4 (Int.toNat vs4)))) && (Nat.blt (nd_node (eN (atI (t := .node) vb1_4 (Int.toNat vs4)))) N))
              (f80L0 N n (fun (xvs7 : Int) (xvs43 : Bool) (xvr576 : List (List ByteArray)) =>
                (f80L1 N n x0 vb1_0 vb1_1 vb1_2 vb1_3 vb1_4 m (IntKind.wrap .i64 (vs4 + (1 : Int))) xvr576)) vs4 (digS vs4) vb1_0 vb1_1 vb1_2 vb1_3 vb1_4 (allPtrs (eN (atI (t := .node) vb1_4 (Int.toNat vs4)))) n (0 : Int) vr576)
              none)
            none))
        none)
      (x0 vs4 (decide (vs4 < (vb1_4.length : Int))) vr576))
theorem f80L1_b {R : Type} (N : Nat) (n : Nat) (k' : Ex → St → Option R) (vs4 : Int) (vb1_0 : Int) (vb1_1 : Int) (vb1_2 : ByteArray) (vb1_3 : List ByteArray) (vb1_4 : List NodeT) (vr576 : List (List ByteArray)) : ev (f80e N) f80k n (cAt [1,1,0,1,0,0] f80c) ⟨[(1, .c (.one (.pt 1 0))), (3, .c (.one (.h 576 0 0 []))), (4, .c (.one (.v (.int .i64 vs4))))], [(1, ⟨.node, [.v (.int .i64 vb1_0), .v (.int .i64 vb1_1), .v (.string vb1_2), .ro .str vb1_3, .ro .node vb1_4]⟩)], [(576, .live ⟨(.sl .str), .deep, 0, [], vr576⟩)]⟩ k' =
    (cond (decide (vs4 < (vb1_4.length : Int)))
    (cond (okI vs4)
      (cond (vb1_0 == (5 : Int))
        (cond (decide (vs4 < (vb1_3.length : Int)))
          (cond ((decide ((0 : Int) ≤ vs4)) && (decide (vs4 < (vb1_3.length : Int))))
            (cond ((decide ((0 : Int) ≤ vs4)) && (decide (vs4 < (vb1_4.length : Int))))
              (cond ((gPt (eN (atI (t := .node) vb1_4 (Int.toNat vs4)))) && (Nat.blt (nd_node (eN (atI (t := .node) vb1_4 (Int.toNat vs4)))) N))
                (f80L0 N n (fun (xvs7 : Int) (xvs43 : Bool) (xvr576 : List (List ByteArray)) =>
                  (k' .normal ⟨[(1, .c (.one (.pt 1 0))), (3, .c (.one (.h 576 0 0 []))), (4, .c (.one (.v (.int .i64 (IntKind.wrap .i64 (vs4 + (1 : Int)))))))], [(1, ⟨.node, [.v (.int .i64 vb1_0), .v (.int .i64 vb1_1), .v (.string vb1_2), .ro .str vb1_3, .ro .node vb1_4]⟩)], [(576, .live ⟨(.sl .str), .deep, 0, [], xvr576⟩)]⟩)) vs4 (atI (t := .str) vb1_3 (Int.toNat vs4)) vb1_0 vb1_1 vb1_2 vb1_3 vb1_4 (allPtrs (eN (atI (t := .node) vb1_4 (Int.toNat vs4)))) n (0 : Int) vr576)
                none)
              none)
            none)
          (cond ((decide ((0 : Int) ≤ vs4)) && (decide (vs4 < (vb1_4.length : Int))))
            (cond ((gPt (eN (atI (t := .node) vb1_4 (Int.toNat vs4)))) && (Nat.blt (nd_node (eN (atI (t := .node) vb1_4 (Int.toNat vs4)))) N))
              (f80L0 N n (fun (xvs7 : Int) (xvs43 : Bool) (xvr576 : List (List ByteArray)) =>
                (k' .normal ⟨[(1, .c (.one (.pt 1 0))), (3, .c (.one (.h 576 0 0 []))), (4, .c (.one (.v (.int .i64 (IntKind.wrap .i64 (vs4 + (1 : Int)))))))], [(1, ⟨.node, [.v (.int .i64 vb1_0), .v (.int .i64 vb1_1), .v (.string vb1_2), .ro .str vb1_3, .ro .node vb1_4]⟩)], [(576, .live ⟨(.sl .str), .deep, 0, [], xvr576⟩)]⟩)) vs4 (digS vs4) vb1_0 vb1_1 vb1_2 vb1_3 vb1_4 (allPtrs (eN (atI (t := .node) vb1_4 (Int.toNat vs4)))) n (0 : Int) vr576)
              none)
            none))
        (cond ((decide ((0 : Int) ≤ vs4)) && (decide (vs4 < (vb1_4.length : Int))))
          (cond ((gPt (eN (atI (t := .node) vb1_4 (Int.toNat vs4)))) && (Nat.blt (nd_node (eN (atI (t := .node) vb1_4 (Int.toNat vs4)))) N))
            (f80L0 N n (fun (xvs7 : Int) (xvs43 : Bool) (xvr576 : List (List ByteArray)) =>
              (k' .normal ⟨[(1, .c (.one (.pt 1 0))), (3, .c (.one (.h 576 0 0 []))), (4, .c (.one (.v (.int .i64 (IntKind.wrap .i64 (vs4 + (1 : Int)))))))], [(1, ⟨.node, [.v (.int .i64 vb1_0), .v (.int .i64 vb1_1), .v (.string vb1_2), .ro .str vb1_3, .ro .node vb1_4]⟩)], [(576, .live ⟨(.sl .str), .deep, 0, [], xvr576⟩)]⟩)) vs4 (digS vs4) vb1_0 vb1_1 vb1_2 vb1_3 vb1_4 (allPtrs (eN (atI (t := .node) vb1_4 (Int.toNat vs4)))) n (0 : Int) vr576)
            none)
          none))
      none)
    (k' (.exit 0) ⟨[(1, .c (.one (.pt 1 0))), (3, .c (.one (.h 576 0 0 []))), (4, .c (.one (.v (.int .i64 vs4)))), (14, .c (.one (.v (.bool (decide (vs4 < (vb1_4.length : Int)))))))], [(1, ⟨.node, [.v (.int .i64 vb1_0), .v (.int .i64 vb1_1), .v (.string vb1_2), .ro .str vb1_3, .ro .node vb1_4]⟩)], [(576, .live ⟨(.sl .str), .deep, 0, [], vr576⟩)]⟩)) := by
  refine Eq.trans (b := (cond (decide (vs4 < (vb1_4.length : Int)))
    (cond (okI vs4)
      (cond (vb1_0 == (5 : Int))
        (cond (decide (vs4 < (vb1_3.length : Int)))
          (cond ((decide ((0 : Int) ≤ vs4)) && (decide (vs4 < (vb1_3.length : Int))))
            (cond ((decide ((0 : Int) ≤ vs4)) && (decide (vs4 < (vb1_4.length : Int))))
              (cond ((gPt (eN (atI (t := .node) vb1_4 (Int.toNat vs4)))) && (Nat.blt (nd_node (eN (atI (t := .node) vb1_4 (Int.toNat vs4)))) N))
                (iter (fun st k => ev (f80e N) f80k n (cAt [1,1,0,1,0,0,1,0,0,1,1,1,1,0,0] f80c) st k) n ⟨[(1, .c (.one (.pt 1 0))), (3, .c (.one (.h 576 0 0 []))), (4, .c (.one (.v (.int .i64 vs4)))), (5, .c (.one (.v (.string (atI (t := .str) vb1_3 (Int.toNat vs4)))))), (6, .c (.one (.h 2496 0 0 []))), (7, .c (.one (.v (.int .i64 (0 : Int)))))], [(1, ⟨.node, [.v (.int .i64 vb1_0), .v (.int .i64 vb1_1), .v (.string vb1_2), .ro .str vb1_3, .ro .node vb1_4]⟩)], [(576, .live ⟨(.sl .str), .deep, 0, [], vr576⟩), (2496, .live ⟨(.sl .str), .deep, 0, [], (allPtrs (eN (atI (t := .node) vb1_4 (Int.toNat vs4))))⟩)]⟩ (f80K0 N n k'))
                none)
              none)
            none)
          (cond ((decide ((0 : Int) ≤ vs4)) && (decide (vs4 < (vb1_4.length : Int))))
            (cond ((gPt (eN (atI (t := .node) vb1_4 (Int.toNat vs4)))) && (Nat.blt (nd_node (eN (atI (t := .node) vb1_4 (Int.toNat vs4)))) N))
              (iter (fun st k => ev (f80e N) f80k n (cAt [1,1,0,1,0,0,1,0,0,1,1,1,1,0,0] f80c) st k) n ⟨[(1, .c (.one (.pt 1 0))), (3, .c (.one (.h 576 0 0 []))), (4, .c (.one (.v (.int .i64 vs4)))), (5, .c (.one (.v (.string (digS vs4))))), (6, .c (.one (.h 2496 0 0 []))), (7, .c (.one (.v (.int .i64 (0 : Int)))))], [(1, ⟨.node, [.v (.int .i64 vb1_0), .v (.int .i64 vb1_1), .v (.string vb1_2), .ro .str vb1_3, .ro .node vb1_4]⟩)], [(576, .live ⟨(.sl .str), .deep, 0, [], vr576⟩), (2496, .live ⟨(.sl .str), .deep, 0, [], (allPtrs (eN (atI (t := .node) vb1_4 (Int.toNat vs4))))⟩)]⟩ (f80K0 N n k'))
              none)
            none))
        (cond ((decide ((0 : Int) ≤ vs4)) && (decide (vs4 < (vb1_4.length : Int))))
          (cond ((gPt (eN (atI (t := .node) vb1_4 (Int.toNat vs4)))) && (Nat.blt (nd_node (eN (atI (t := .node) vb1_4 (Int.toNat vs4)))) N))
            (iter (fun st k => ev (f80e N) f80k n (cAt [1,1,0,1,0,0,1,0,0,1,1,1,1,0,0] f80c) st k) n ⟨[(1, .c (.one (.pt 1 0))), (3, .c (.one (.h 576 0 0 []))), (4, .c (.one (.v (.int .i64 vs4)))), (5, .c (.one (.v (.string (digS vs4))))), (6, .c (.one (.h 2496 0 0 []))), (7, .c (.one (.v (.int .i64 (0 : Int)))))], [(1, ⟨.node, [.v (.int .i64 vb1_0), .v (.int .i64 vb1_1), .v (.string vb1_2), .ro .str vb1_3, .ro .node vb1_4]⟩)], [(576, .live ⟨(.sl .str), .deep, 0, [], vr576⟩), (2496, .live ⟨(.sl .str), .deep, 0, [], (allPtrs (eN (atI (t := .node) vb1_4 (Int.toNat vs4))))⟩)]⟩ (f80K0 N n k'))
            none)
          none))
      none)
    (k' (.exit 0) ⟨[(1, .c (.one (.pt 1 0))), (3, .c (.one (.h 576 0 0 []))), (4, .c (.one (.v (.int .i64 vs4)))), (14, .c (.one (.v (.bool (decide (vs4 < (vb1_4.length : Int)))))))], [(1, ⟨.node, [.v (.int .i64 vb1_0), .v (.int .i64 vb1_1), .v (.string vb1_2), .ro .str vb1_3, .ro .node vb1_4]⟩)], [(576, .live ⟨(.sl .str), .deep, 0, [], vr576⟩)]⟩))) (by kernel_rfl) ?_
  simp only [f80L0_eq, f80K0_x0]
theorem f80L1_eq {R : Type} (N : Nat) (n : Nat) (k' : Ex → St → Option R) (vb1_0 : Int) (vb1_1 : Int) (vb1_2 : ByteArray) (vb1_3 : List ByteArray) (vb1_4 : List NodeT) : ∀ (m : Nat) (vs4 : Int) (vr576 : List (List ByteArray)), iter (fun st k => ev (f80e N) f80k n (cAt [1,1,0,1,0,0] f80c) st k) m ⟨[(1, .c (.one (.pt 1 0))), (3, .c (.one (.h 576 0 0 []))), (4, .c (.one (.v (.int .i64 vs4))))], [(1, ⟨.node, [.v (.int .i64 vb1_0), .v (.int .i64 vb1_1), .v (.string vb1_2), .ro .str vb1_3, .ro .node vb1_4]⟩)], [(576, .live ⟨(.sl .str), .deep, 0, [], vr576⟩)]⟩ k' = f80L1 N n (fun (xvs4 : Int) (xvs14 : Bool) (xvr576 : List (List ByteArray)) => k' (.exit 0) ⟨[(1, .c (.one (.pt 1 0))), (3, .c (.one (.h 576 0 0 []))), (4, .c (.one (.v (.int .i64 xvs4)))), (14, .c (.one (.v (.bool xvs14))))], [(1, ⟨.node, [.v (.int .i64 vb1_0), .v (.int .i64 vb1_1), .v (.string vb1_2), .ro .str vb1_3, .ro .node vb1_4]⟩)], [(576, .live ⟨(.sl .str), .deep, 0, [], xvr576⟩)]⟩) vb1_0 vb1_1 vb1_2 vb1_3 vb1_4 m vs4 vr576 := by
  intro m; induction m with
  | zero => intros; rfl
  | succ m ih =>
    intro vs4 vr576
    simp only [iter]
    rw [f80L1_b]
    simp only [ih, f80L1]

noncomputable def f80K1 {R : Type} (N : Nat) (n : Nat) (k' : Ex → St → Option R) : Ex → St → Option R := (blockK 0 (seqK (f80e N) f80k n (cAt [1,1,1] f80c) k'))
theorem f80K1_x0 {R : Type} (N : Nat) (n : Nat) (k : List Dt → Option R) (a0 : NodeT) (vb1_0 : Int) (vb1_1 : Int) (vb1_2 : ByteArray) (vb1_3 : List ByteArray) (vb1_4 : List NodeT) (xvs4 : Int) (xvs14 : Bool) (xvr576 : List (List ByteArray)) : f80K1 N n (exitK (f80e N) [.ro] [false] true [.tmp 2] [98] [.d .node a0] k) (.exit 0) ⟨[(1, .c (.one (.pt 1 0))), (3, .c (.one (.h 576 0 0 []))), (4, .c (.one (.v (.int .i64 xvs4)))), (14, .c (.one (.v (.bool xvs14))))], [(1, ⟨.node, [.v (.int .i64 vb1_0), .v (.int .i64 vb1_1), .v (.string vb1_2), .ro .str vb1_3, .ro .node vb1_4]⟩)], [(576, .live ⟨(.sl .str), .deep, 0, [], xvr576⟩)]⟩ =
    (k [.d (.sl (.sl .str)) xvr576]) := by kernel_rfl

theorem f80_run {R : Type} (N : Nat) (n : Nat) (k : List Dt → Option R) (a0 : NodeT) : evFn (f80e N) f80k n f80c [.ro] [false] true [.tmp 2] [98] [.d .node a0] k =
    (f80L1 N n (fun (xvs4 : Int) (xvs14 : Bool) (xvr576 : List (List ByteArray)) =>
    (k [.d (.sl (.sl .str)) xvr576])) (NodeT.kind a0) (NodeT.n a0) (NodeT.s a0) (NodeT.keys a0) (NodeT.kids a0) n (0 : Int) [([] : List ByteArray)]) := by
  refine Eq.trans (b := (iter (fun st k => ev (f80e N) f80k n (cAt [1,1,0,1,0,0] f80c) st k) n ⟨[(1, .c (.one (.pt 1 0))), (3, .c (.one (.h 576 0 0 []))), (4, .c (.one (.v (.int .i64 (0 : Int)))))], [(1, ⟨.node, [.v (.int .i64 (NodeT.kind a0)), .v (.int .i64 (NodeT.n a0)), .v (.string (NodeT.s a0)), .ro .str (NodeT.keys a0), .ro .node (NodeT.kids a0)]⟩)], [(576, .live ⟨(.sl .str), .deep, 0, [], ([([] : List ByteArray)] : List (List ByteArray))⟩)]⟩ (f80K1 N n (exitK (f80e N) [.ro] [false] true [.tmp 2] [98] [.d .node a0] k)))) (by kernel_rfl) ?_
  simp only [f80L1_eq, f80K1_x0]
theorem f80_spec (N : Nat) (a0 : NodeT) (hg : gPt a0 = true) (hm : mu80 [.d .node a0] = N) : ∃ keep rounds, ∀ {R : Type} (k : List Dt → Option R), evFn (f80e N) keep rounds f80c [.ro] [false] true [.tmp 2] [98] [.d .node a0] k = k [.d (.sl (.sl .str)) (allPtrs a0)] := by
  have hm : nd_node a0 = N := hm
  subst hm
  have hg0 := hg
  simp only [gPt, Bool.and_eq_true] at hg
  obtain ⟨hg, hnd⟩ := hg
  have hnd := bleN hnd
  rw [sm_node_def] at hg
  simp only [Bool.and_eq_true] at hg
  obtain ⟨_, _, _, hke, hki⟩ := hg
  have nke := smL_len hke
  have nki := smL_len hki
  have hkl : a0.kids.length + 1 ≤ nd_node a0 := by
    rw [nd_node_def]
    have : ∀ l : List NodeT, l.length ≤ ndL nd_node l := fun l => by
      induction l with
      | nil => exact Nat.zero_le _
      | cons y r ih =>
        have e1 : ndL nd_node (y :: r) = nd_node y + ndL nd_node r := by simp [ndL]
        have := nd_node_def y
        rw [List.length_cons]; omega
    have := this a0.kids
    omega
  refine ⟨f80k, nd_node a0 + 1, fun {R} k => ?_⟩
  rw [f80_run]
  show _ = k [.d (.sl (.sl .str)) (allPtrs a0)]
  have hlen := allPtrs_len a0
  rw [allPtrs_def, List.length_cons] at hlen
  have inner : ∀ (x : NodeT) (j : Nat) (part : ByteArray) (out : List (List ByteArray)) (fin : Int → Bool → List (List ByteArray) → Option R), x ∈ a0.kids → out.length + (allPtrs x).length ≤ nd_node a0 →
      f80L0 (nd_node a0) (nd_node a0 + 1) fin (j : Int) part a0.kind a0.n a0.s a0.keys a0.kids (allPtrs x) (nd_node a0 + 1) (0 : Int) out = fin ((allPtrs x).length : Int) false (out ++ (allPtrs x).map fun p => part :: p) := by
    intro x j part out fin hx hB
    have hxl := nd_node_kid hx
    have hxn := allPtrs_len x
    refine Eq.trans (loop_acc (xs := allPtrs x) (F := fun m j' out => f80L0 (nd_node a0) (nd_node a0 + 1) fin (j : Int) part a0.kind a0.n a0.s a0.keys a0.kids (allPtrs x) m (j' : Int) out) (f := fun out p => out ++ [part :: p]) (good := fun out => fin ((allPtrs x).length : Int) false out) (fun j' o => o.length ≤ out.length + j')
      (fun j' o p hp hi => by simp only [List.length_append, List.length_cons, List.length_nil]; omega) (fun m j' o p hp hi => ?_) (fun m o hi => by simp only [f80L0, idxE, cond_false]) (allPtrs x).length 0 (nd_node a0 + 1) out (by omega) (by omega) (by omega)) ?_
    · obtain ⟨h1, h0, hw, ht⟩ := idx (lt_of_get hp) (by omega)
      have hj := lt_of_get hp
      have hway := allPtrs_way x p (List.mem_of_getElem? hp)
      have hlim : Nat.ble (o.length + 1) LIM = true := Nat.ble_eq_true_of_le (by have : (LIM : Nat) = 4294967296 := rfl; omega)
      have hlim2 : Nat.ble (1 + p.length) LIM = true := Nat.ble_eq_true_of_le (by have : (LIM : Nat) = 4294967296 := rfl; omega)
      simp only [f80L0, h1, h0, hw, ht, atI_of (t := .sl .str) hp, Bool.and_self, cond_true, hlim, hlim2]
      rfl
    · rw [List.drop_zero]
      congr 1
      have : ∀ (l : List (List ByteArray)) (o : List (List ByteArray)), l.foldl (fun out p => out ++ [part :: p]) o = o ++ l.map fun p => part :: p := by
        intro l
        induction l with
        | nil => intro o; simp
        | cons y r ih => intro o; rw [List.foldl_cons, ih]; simp
      exact this _ _
  refine Eq.trans (loop_ptr (kids := a0.kids) (kind := a0.kind) (keys := a0.keys) (B := nd_node a0) (F := fun m j out => f80L1 (nd_node a0) (nd_node a0 + 1) _ a0.kind a0.n a0.s a0.keys a0.kids m (j : Int) out) (good := fun out => k [.d (.sl (.sl .str)) out])
    (fun m j out x hx hB => ?_) (fun m out => by simp only [f80L1, idxE, cond_false]) a0.kids.length 0 (nd_node a0 + 1) [[]] (by omega) (by omega) (by rw [List.drop_zero, List.length_cons, List.length_nil]; omega)) ?_
  · obtain ⟨h1, h0, hw, ht⟩ := idx (lt_of_get hx) (by omega)
    have hj := lt_of_get hx
    have hxm := List.mem_of_getElem? hx
    have hb : Nat.blt (nd_node x) (nd_node a0) = true := by
      have := nd_node_kid (x := a0) hxm
      rw [Nat.blt_eq]; exact this
    have hgx := gPt_kid hg0 hxm
    have hoj : okI (j : Int) = true := okI_of (by omega) (by omega)
    simp only [f80L1, h1, h0, hw, ht, hoj, atI_of (t := .node) hx, Bool.and_self, cond_true, eta_node, eN_eq, hgx, hb]
    unfold wayAt
    cases a0.kind == (5 : Int)
    · simp only [cond_false]; exact inner x j _ out _ hxm hB
    by_cases hl : (j : Int) < (a0.keys.length : Int)
    · simp only [decide_eq_true hl, Bool.and_self, cond_true]; exact inner x j _ out _ hxm hB
    · simp only [decide_eq_false hl, cond_true, cond_false]; exact inner x j _ out _ hxm hB
  · rw [List.drop_zero, allPtrs_def]; rfl

noncomputable def s80 : Gm.Spec := Gm.Spec.of [.ro] [false] true q80
theorem good80 : Gm.Good Try.prog (80, s80) := by
  refine ⟨⟨spec_rec mu80 fun N hr => ?_, _, Try.func80, by kernel_rfl, of_decide_eq_true (by kernel_rfl)⟩, Gm.Spec.of_natl _ _ _ _⟩
  have hl : ∀ x ∈ [(59, s59), (80, s80r N)], Gm.Good Try.prog x := List.forall_mem_cons.2 ⟨good59, List.forall_mem_cons.2 ⟨⟨⟨hr, _, Try.func80, by kernel_rfl, of_decide_eq_true (by kernel_rfl)⟩, Gm.Spec.of_natl _ _ _ _⟩, List.forall_mem_nil _⟩⟩
  intro R
  refine spec_ok (E := f80e N) (tab_ok.env hl) (tab.natl hl) Try.func80 (by kernel_rfl : Try.f80.body = some f80c) [98] (by kernel_rfl) ?_
  intro ds outs h
  obtain ⟨h, hm⟩ := qeq_some h
  unfold q80 at h
  split at h
  · simp only [Option.some.injEq, Prod.mk.injEq] at h; obtain ⟨hg, h⟩ := h; cases h; exact f80_spec N _ hg hm
  · cases h
end Go.Proofs.Ytalnkjjnohgjkaa

/- x -/
namespace Go.Proofs.Ytalnkjjnohgjkaa
open Go Go.Gm
/-! ### loop.example/g00465/spec.l22DrawPath -/
noncomputable def f37c : Code := (Try.f37.body).getD .skip
def f37k : Nat → Kp := kat [⟨[0, 3], [], [], []⟩, ⟨[0, 5], [], [], []⟩, ⟨[0, 6], [], [], []⟩, ⟨[0, 6, 19], [], [], []⟩, ⟨[0, 6, 19, 20], [], [], []⟩, ⟨[0, 4], [], [], []⟩, ⟨[0, 6, 27], [], [], []⟩, ⟨[0, 4], [], [], []⟩, ⟨[0, 4], [], [], []⟩]
noncomputable def f37e : Env := tab.env [(52, s52), (79, s79), (80, s80), (81, s81)]
theorem f37_run {R : Type} (n : Nat) (k : List Dt → Option R) (a0 : CurT) (a1 : NodeT) : evFn f37e f37k n f37c [.pmut, .ro] [false] true [.tmp 4] [24] [.d .cur a0, .d .node a1] k =
    (cond (gPt (eN a1))
    (cond ((fun c _ => gCur c) a0 ((allPtrs (eN a1)).length : Int))
      (cond ((decide ((0 : Int) ≤ ((curBelow a0 ((allPtrs (eN a1)).length : Int)).1))) && (decide (((curBelow a0 ((allPtrs (eN a1)).length : Int)).1) < ((allPtrs (eN a1)).length : Int))))
        (cond (Nat.ble (0 + (atI (t := (.sl .str)) (allPtrs (eN a1)) (Int.toNat ((curBelow a0 ((allPtrs (eN a1)).length : Int)).1))).length) LIM)
          (cond ((fun c _ => gCur c) ((curBelow a0 ((allPtrs (eN a1)).length : Int)).2) (5 : Int))
            (cond (((curBelow ((curBelow a0 ((allPtrs (eN a1)).length : Int)).2) (5 : Int)).1) == (0 : Int))
              (cond (gCur ((curBelow ((curBelow a0 ((allPtrs (eN a1)).length : Int)).2) (5 : Int)).2))
                (cond (Nat.ble ((([] : List ByteArray) ++ (atI (t := (.sl .str)) (allPtrs (eN a1)) (Int.toNat ((curBelow a0 ((allPtrs (eN a1)).length : Int)).1)))).length + 1) LIM)
                  (k [.d (.sl .str) ((([] : List ByteArray) ++ (atI (t := (.sl .str)) (allPtrs (eN a1)) (Int.toNat ((curBelow a0 ((allPtrs (eN a1)).length : Int)).1)))) ++ ([((tKey ((curBelow ((curBelow a0 ((allPtrs (eN a1)).length : Int)).2) (5 : Int)).2)).1)] : List ByteArray)), .d .cur ((tKey ((curBelow ((curBelow a0 ((allPtrs (eN a1)).length : Int)).2) (5 : Int)).2)).2)])
                  none)
                none)
              (cond (((curBelow ((curBelow a0 ((allPtrs (eN a1)).length : Int)).2) (5 : Int)).1) == (1 : Int))
                (cond (gPickS ((curBelow ((curBelow a0 ((allPtrs (eN a1)).length : Int)).2) (5 : Int)).2) ([(bs [48]), (bs [49]), (bs [45]), (bs [48,48]), (bs [57])] : List ByteArray))
                  (cond (Nat.ble ((([] : List ByteArray) ++ (atI (t := (.sl .str)) (allPtrs (eN a1)) (Int.toNat ((curBelow a0 ((allPtrs (eN a1)).length : Int)).1)))).length + 1) LIM)
                    (k [.d (.sl .str) ((([] : List ByteArray) ++ (atI (t := (.sl .str)) (allPtrs (eN a1)) (Int.toNat ((curBelow a0 ((allPtrs (eN a1)).length : Int)).1)))) ++ ([((curPick ((curBelow ((curBelow a0 ((allPtrs (eN a1)).length : Int)).2) (5 : Int)).2) ([(bs [48]), (bs [49]), (bs [45]), (bs [48,48]), (bs [57])] : List ByteArray)).1)] : List ByteArray)), .d .cur ((curPick ((curBelow ((curBelow a0 ((allPtrs (eN a1)).length : Int)).2) (5 : Int)).2) ([(bs [48]), (bs [49]), (bs [45]), (bs [48,48]), (bs [57])] : List ByteArray)).2)])
                    none)
                  none)
                (k [.d (.sl .str) (([] : List ByteArray) ++ (atI (t := (.sl .str)) (allPtrs (eN a1)) (Int.toNat ((curBelow a0 ((allPtrs (eN a1)).length : Int)).1)))), .d .cur ((curBelow ((curBelow a0 ((allPtrs (eN a1)).length : Int)).2) (5 : Int)).2)])))
            none)
          none)
        none)
      none)
    none) := by kernel_rfl
def f37_P (a0 : CurT) (a1 : NodeT) (o : List ByteArray × CurT) : Prop := (fun _ _ o => gWay o.1 = true ∧ gCur o.2 = true) a0 a1 o ∧ ∃ n : Nat, ∀ {R : Type} (k : List Dt → Option R), evFn f37e f37k n f37c [.pmut, .ro] [false] true [.tmp 4] [24] [.d .cur a0, .d .node a1] k = k [.d (.sl .str) o.1, .d .cur o.2]
theorem f37_ex (a0 : CurT) (a1 : NodeT) (hg : (fun (c : CurT) (t : NodeT) => gCur c && okT t) a0 a1 = true) : ∃ o : List ByteArray × CurT, (fun _ _ o => gWay o.1 = true ∧ gCur o.2 = true) a0 a1 o ∧ ∃ n : Nat, ∀ {R : Type} (k : List Dt → Option R), evFn f37e f37k n f37c [.pmut, .ro] [false] true [.tmp 4] [24] [.d .cur a0, .d .node a1] k = k [.d (.sl .str) o.1, .d .cur o.2] := by
  obtain ⟨hc, ht⟩ := Bool.and_eq_true_iff.1 (show (gCur a0 && okT a1) = true from hg)
  have hp := gPt_okT ht
  obtain ⟨b0, b1, g1⟩ := curBelow_ok a0 ((allPtrs a1).length : Int) hc
  have b1 := b1 (allPtrs_pos a1)
  have hix := idxOk b0 b1
  have hw := way_ok ht (mem_atI (t := .sl .str) b0 b1)
  have hn := szL_ge ByteArray.size (atI (t := .sl .str) (allPtrs a1) (Int.toNat (curBelow a0 ((allPtrs a1).length : Int)).1))
  have l1 : Nat.ble (0 + (atI (t := .sl .str) (allPtrs a1) (Int.toNat (curBelow a0 ((allPtrs a1).length : Int)).1)).length) LIM = true := Nat.ble_eq_true_of_le (by have : (LIM : Nat) = 4294967296 := rfl; omega)
  have l2 : Nat.ble ((atI (t := .sl .str) (allPtrs a1) (Int.toNat (curBelow a0 ((allPtrs a1).length : Int)).1)).length + 1) LIM = true := Nat.ble_eq_true_of_le (by have : (LIM : Nat) = 4294967296 := rfl; omega)
  obtain ⟨_, _, g2⟩ := curBelow_ok (curBelow a0 ((allPtrs a1).length : Int)).2 5 g1
  cases e0 : ((curBelow (curBelow a0 ((allPtrs a1).length : Int)).2 5).1 == (0 : Int))
  rotate_left
  · obtain ⟨hz, g3⟩ := tKey_ok _ g2
    refine ⟨(?az0, ?bz0), ?gz0, 0, ?rz0⟩
    case rz0 =>
      intro R k
      rw [f37_run]
      simp only [eN_eq, hp, hc, hix, l1, l2, g1, g2, e0, List.nil_append, cond_true, cond_false]
      exact rfl
    case gz0 => exact ⟨gWay_snoc hw (by omega), g3⟩
  cases e1 : ((curBelow (curBelow a0 ((allPtrs a1).length : Int)).2 5).1 == (1 : Int))
  · refine ⟨(?az1, ?bz1), ?gz1, 0, ?rz1⟩
    case rz1 =>
      intro R k
      rw [f37_run]
      simp only [eN_eq, hp, hc, hix, l1, l2, g1, g2, e0, e1, List.nil_append, cond_true, cond_false]
      exact rfl
    case gz1 => exact ⟨gWay_of hw, g2⟩
  · have hk := gPickS_of (l := ([(bs [48]), (bs [49]), (bs [45]), (bs [48,48]), (bs [57])] : List ByteArray)) g2 rfl
    obtain ⟨hmem, g3⟩ := curPick_ok _ _ hk
    have hz := bleN (List.all_eq_true.1 (show (([(bs [48]), (bs [49]), (bs [45]), (bs [48,48]), (bs [57])] : List ByteArray).all fun x => Nat.ble x.size 3) = true from rfl) _ hmem)
    refine ⟨(?az2, ?bz2), ?gz2, 0, ?rz2⟩
    case rz2 =>
      intro R k
      rw [f37_run]
      simp only [eN_eq, hp, hc, hix, l1, l2, g1, g2, e0, e1, hk, List.nil_append, cond_true, cond_false]
      exact rfl
    case gz2 => exact ⟨gWay_snoc hw (by omega), g3⟩

theorem f37_ne (a0 : CurT) (a1 : NodeT) : Nonempty {o : List ByteArray × CurT // (fun (c : CurT) (t : NodeT) => gCur c && okT t) a0 a1 = true → f37_P a0 a1 o} := by
  by_cases hg : (fun (c : CurT) (t : NodeT) => gCur c && okT t) a0 a1 = true
  · obtain ⟨o, ho⟩ := f37_ex a0 a1 hg
    exact ⟨⟨o, fun _ => ho⟩⟩
  · exact ⟨⟨([], (zero .cur)), fun h => absurd h hg⟩⟩
noncomputable def tWay (a0 : CurT) (a1 : NodeT) : List ByteArray × CurT := (Classical.choice (f37_ne a0 a1)).val
theorem f37_sp (a0 : CurT) (a1 : NodeT) (hg : (fun (c : CurT) (t : NodeT) => gCur c && okT t) a0 a1 = true) : f37_P a0 a1 (tWay a0 a1) := (Classical.choice (f37_ne a0 a1)).property hg
theorem tWay_ok (a0 : CurT) (a1 : NodeT) (hg : (fun (c : CurT) (t : NodeT) => gCur c && okT t) a0 a1 = true) : (fun _ _ o => gWay o.1 = true ∧ gCur o.2 = true) a0 a1 (tWay a0 a1) := (f37_sp a0 a1 hg).1
theorem f37_spec (a0 : CurT) (a1 : NodeT) (hg : (fun (c : CurT) (t : NodeT) => gCur c && okT t) a0 a1 = true) : ∃ keep rounds, ∀ {R : Type} (k : List Dt → Option R), evFn f37e keep rounds f37c [.pmut, .ro] [false] true [.tmp 4] [24] [.d .cur a0, .d .node a1] k = k [.d (.sl .str) ((tWay a0 a1).1), .d .cur ((tWay a0 a1).2)] := by
  obtain ⟨n, hn⟩ := (f37_sp a0 a1 hg).2
  exact ⟨f37k, n, hn⟩

noncomputable def q37 : List Dt → Option (Bool × List Dt)
  | [.d .cur a0, .d .node a1] => some (((fun (c : CurT) (t : NodeT) => gCur c && okT t) a0 a1), [.d (.sl .str) ((tWay a0 a1).1), .d .cur ((tWay a0 a1).2)])
  | _ => none
noncomputable def s37 : Gm.Spec := Gm.Spec.of [.pmut, .ro] [false] true q37
theorem good37 : Gm.Good Try.prog (37, s37) := by
  have hl : ∀ x ∈ [(52, s52), (79, s79), (80, s80), (81, s81)], Gm.Good Try.prog x := List.forall_mem_cons.2 ⟨good52, List.forall_mem_cons.2 ⟨good79, List.forall_mem_cons.2 ⟨good80, List.forall_mem_cons.2 ⟨good81, List.forall_mem_nil _⟩⟩⟩⟩
  refine ⟨⟨spec_ok (tab_ok.env hl) (tab.natl hl) Try.func37 (by kernel_rfl : Try.f37.body = some f37c) [24] (by kernel_rfl) ?_, _, Try.func37, by kernel_rfl, of_decide_eq_true (by kernel_rfl)⟩, Gm.Spec.of_natl _ _ _ _⟩
  intro ds outs h
  unfold q37 at h
  split at h
  · simp only [Option.some.injEq, Prod.mk.injEq] at h; obtain ⟨hg, h⟩ := h; cases h; exact f37_spec _ _ hg
  · cases h
/-! ### loop.example/g00465/spec.DrawTree -/
noncomputable def f9c : Code := (Try.f9.body).getD .skip
def f9k : Nat → Kp := kat [⟨[0, 2, 4], [], [], []⟩, ⟨[2, 4, 5], [], [], []⟩, ⟨[2, 4, 5, 6], [], [], []⟩, ⟨[2, 4, 5, 6, 7], [], [], []⟩, ⟨[2, 3, 4], [], [], []⟩]
noncomputable def f9e : Env := tab.env [(35, s35), (36, s36), (37, s37)]
theorem f9_run {R : Type} (n : Nat) (k : List Dt → Option R) (a0 : List Int) : evFn f9e f9k n f9c [.kp] [false, false, false] true [.cell 2 27, .tmp 3, .cell 4 27] [27, 24, 27] [.d (.sl (.i .u8)) a0] k =
    (cond (gCode a0)
    (cond (gDT (curNew a0) (3 : Int))
      (cond ((fun (c : CurT) (t : NodeT) => gCur c && okT t) ((dT (curNew a0) (3 : Int)).2) (eN ((dT (curNew a0) (3 : Int)).1)))
        (cond (gDT ((tWay ((dT (curNew a0) (3 : Int)).2) (eN ((dT (curNew a0) (3 : Int)).1))).2) (2 : Int))
          (k [.d .node (eN ((dT (curNew a0) (3 : Int)).1)), .d (.sl .str) ((tWay ((dT (curNew a0) (3 : Int)).2) (eN ((dT (curNew a0) (3 : Int)).1))).1), .d .node (eN ((dT ((tWay ((dT (curNew a0) (3 : Int)).2) (eN ((dT (curNew a0) (3 : Int)).1))).2) (2 : Int)).1))])
          none)
        none)
      none)
    none) := by kernel_rfl
def f9_P (a0 : List Int) (o : NodeT × List ByteArray × NodeT) : Prop := (fun _ o => GT 3 o.1 ∧ gWay o.2.1 = true ∧ GT 2 o.2.2) a0 o ∧ ∃ n : Nat, ∀ {R : Type} (k : List Dt → Option R), evFn f9e f9k n f9c [.kp] [false, false, false] true [.cell 2 27, .tmp 3, .cell 4 27] [27, 24, 27] [.d (.sl (.i .u8)) a0] k = k [.d .node o.1, .d (.sl .str) o.2.1, .d .node o.2.2]
theorem f9_ex (a0 : List Int) (hg : gCode a0 = true) : ∃ o : NodeT × List ByteArray × NodeT, (fun _ o => GT 3 o.1 ∧ gWay o.2.1 = true ∧ GT 2 o.2.2) a0 o ∧ ∃ n : Nat, ∀ {R : Type} (k : List Dt → Option R), evFn f9e f9k n f9c [.kp] [false, false, false] true [.cell 2 27, .tmp 3, .cell 4 27] [27, 24, 27] [.d (.sl (.i .u8)) a0] k = k [.d .node o.1, .d (.sl .str) o.2.1, .d .node o.2.2] := by
  have g0 := curNew_ok a0 hg
  have d3 := gDT_of (d := 3) g0 rfl
  obtain ⟨t3, g1⟩ := dT_ok d3
  have hok : (gCur (dT (curNew a0) 3).2 && okT (dT (curNew a0) 3).1) = true := by rw [g1, t3.okT]; rfl
  obtain ⟨hw, g2⟩ := tWay_ok _ _ hok
  have d2 := gDT_of (d := 2) g2 rfl
  obtain ⟨t2, _⟩ := dT_ok d2
  refine ⟨(?az0, ?bz0, ?c), ?gz0, 0, ?rz0⟩
  case rz0 =>
    intro R k
    rw [f9_run]
    simp only [eN_eq, hg, d3, hok, d2, cond_true]
    exact rfl
  case gz0 => exact ⟨t3, hw, t2⟩

theorem f9_ne (a0 : List Int) : Nonempty {o : NodeT × List ByteArray × NodeT // gCode a0 = true → f9_P a0 o} := by
  by_cases hg : gCode a0 = true
  · obtain ⟨o, ho⟩ := f9_ex a0 hg
    exact ⟨⟨o, fun _ => ho⟩⟩
  · exact ⟨⟨((zero .node), [], (zero .node)), fun h => absurd h hg⟩⟩
noncomputable def tDrawn (a0 : List Int) : NodeT × List ByteArray × NodeT := (Classical.choice (f9_ne a0)).val
theorem f9_sp (a0 : List Int) (hg : gCode a0 = true) : f9_P a0 (tDrawn a0) := (Classical.choice (f9_ne a0)).property hg
theorem tDrawn_ok (a0 : List Int) (hg : gCode a0 = true) : (fun _ o => GT 3 o.1 ∧ gWay o.2.1 = true ∧ GT 2 o.2.2) a0 (tDrawn a0) := (f9_sp a0 hg).1
theorem f9_spec (a0 : List Int) (hg : gCode a0 = true) : ∃ keep rounds, ∀ {R : Type} (k : List Dt → Option R), evFn f9e keep rounds f9c [.kp] [false, false, false] true [.cell 2 27, .tmp 3, .cell 4 27] [27, 24, 27] [.d (.sl (.i .u8)) a0] k = k [.d .node ((tDrawn a0).1), .d (.sl .str) ((tDrawn a0).2.1), .d .node ((tDrawn a0).2.2)] := by
  obtain ⟨n, hn⟩ := (f9_sp a0 hg).2
  exact ⟨f9k, n, hn⟩

noncomputable def q9 : List Dt → Option (Bool × List Dt)
  | [.d (.sl (.i .u8)) a0] => some ((gCode a0), [.d .node ((tDrawn a0).1), .d (.sl .str) ((tDrawn a0).2.1), .d .node ((tDrawn a0).2.2)])
  | _ => none
noncomputable def s9 : Gm.Spec := Gm.Spec.of [.kp] [false, false, false] true q9
theorem good9 : Gm.Good Try.prog (9, s9) := by
  have hl : ∀ x ∈ [(35, s35), (36, s36), (37, s37)], Gm.Good Try.prog x := List.forall_mem_cons.2 ⟨good35, List.forall_mem_cons.2 ⟨good36, List.forall_mem_cons.2 ⟨good37, List.forall_mem_nil _⟩⟩⟩
  refine ⟨⟨spec_ok (tab_ok.env hl) (tab.natl hl) Try.func9 (by kernel_rfl : Try.f9.body = some f9c) [27, 24, 27] (by kernel_rfl) ?_, _, Try.func9, by kernel_rfl, of_decide_eq_true (by kernel_rfl)⟩, Gm.Spec.of_natl _ _ _ _⟩
  intro ds outs h
  unfold q9 at h
  split at h
  · simp only [Option.some.injEq, Prod.mk.injEq] at h; obtain ⟨hg, h⟩ := h; cases h; exact f9_spec _ hg
  · cases h
end Go.Proofs.Ytalnkjjnohgjkaa

/- x -/
namespace Go.Proofs.Ytalnkjjnohgjkaa
open Go Go.Gm
/-! ### loop.example/g00465/laws.big -/
noncomputable def f8c : Code := (Try.f8.body).getD .skip
def f8k : Nat → Kp := kat [⟨[0], [], [], []⟩, ⟨[2], [], [], []⟩]
noncomputable def f8e : Env := tab.env []
theorem f8_run {R : Type} (n : Nat) (k : List Dt → Option R) (a0 : List Int) : evFn f8e f8k n f8c [.ro] [false] true [.tmp 2] [4] [.d (.sl (.i .u8)) a0] k =
    (k [.d .bool (decide ((a0.length : Int) > (1048576 : Int)))]) := by kernel_rfl
theorem f8_spec (a0 : List Int) : ∃ keep rounds, ∀ {R : Type} (k : List Dt → Option R), evFn f8e keep rounds f8c [.ro] [false] true [.tmp 2] [4] [.d (.sl (.i .u8)) a0] k = k [.d .bool (bigC a0)] := by
  exact ⟨f8k, 0, fun k => f8_run 0 k a0⟩

noncomputable def q8 : List Dt → Option (Bool × List Dt)
  | [.d (.sl (.i .u8)) a0] => some (true, [.d .bool (bigC a0)])
  | _ => none
noncomputable def s8 : Gm.Spec := Gm.Spec.of [.ro] [false] true q8
theorem good8 : Gm.Good Try.prog (8, s8) := by
  have hl : ∀ x ∈ ([] : List (Nat × Gm.Spec)), Gm.Good Try.prog x := fun _ h => by cases h
  refine ⟨⟨spec_ok (tab_ok.env hl) (tab.natl hl) Try.func8 (by kernel_rfl : Try.f8.body = some f8c) [4] (by kernel_rfl) ?_, _, Try.func8, by kernel_rfl, of_decide_eq_true (by kernel_rfl)⟩, Gm.Spec.of_natl _ _ _ _⟩
  intro ds outs h
  unfold q8 at h
  split at h
  · cases h; exact f8_spec _
  · cases h
end Go.Proofs.Ytalnkjjnohgjkaa

/- x -/
namespace Go.Proofs.Ytalnkjjnohgjkaa
open Go Go.Gm
/-! ### slices.Equal[[]string,string] -/
noncomputable def f42c : Code := (Try.f42.body).getD .skip
def f42k : Nat → Kp := kat [⟨[0, 1], [], [], []⟩, ⟨[0, 1, 10], [], [], []⟩, ⟨[4], [], [], []⟩, ⟨[0, 1, 12, 13], [], [], []⟩, ⟨[0, 1, 12, 13, 14], [], [], []⟩, ⟨[0, 1, 5, 12, 13], [], [], []⟩, ⟨[0, 1, 12, 13, 24], [], [], []⟩, ⟨[4], [], [], []⟩, ⟨[0, 1, 12, 13], [], [], []⟩, ⟨[4], [], [], []⟩]
noncomputable def f42e : Env := tab.env []
noncomputable def f42L0 {R : Type} (n : Nat) (x0 : Option R) (x1 : Int → Bool → Option R) (vs0 : List ByteArray) (vs1 : List ByteArray) (vs12 : Int) : Nat → Int → Option R
  | 0, _ => none
  | m + 1, vs13 =>
    (cond (decide (vs13 < vs12))
      (cond ((decide ((0 : Int) ≤ vs13)) && (decide (vs13 < (vs0.length : Int))))
        (cond ((decide ((0 : Int) ≤ vs13)) && (decide (vs13 < (vs1.length : Int))))
          (cond (!(sEq (atI (t := .str) vs0 (Int.toNat vs13)) (atI (t := .str) vs1 (Int.toNat vs13))))
            (x0)
            (f42L0 n x0 x1 vs0 vs1 vs12 m (IntKind.wrap .i64 (vs13 + (1 : Int)))))
          none)
        none)
      (x1 vs13 (decide (vs13 < vs12))))
theorem f42L0_b {R : Type} (n : Nat) (k' : Ex → St → Option R) (vs0 : List ByteArray) (vs1 : List ByteArray) (vs12 : Int) (vs13 : Int) : ev f42e f42k n (cAt [1,1,0,1,0,0] f42c) ⟨[(0, .c (.one (.ro .str vs0))), (1, .c (.one (.ro .str vs1))), (12, .c (.one (.v (.int .i64 vs12)))), (13, .c (.one (.v (.int .i64 vs13))))], [], []⟩ k' =
    (cond (decide (vs13 < vs12))
    (cond ((decide ((0 : Int) ≤ vs13)) && (decide (vs13 < (vs0.length : Int))))
      (cond ((decide ((0 : Int) ≤ vs13)) && (decide (vs13 < (vs1.length : Int))))
        (cond (!(sEq (atI (t := .str) vs0 (Int.toNat vs13)) (atI (t := .str) vs1 (Int.toNat vs13))))
          (k' .ret ⟨[(4, .c (.one (.v (.bool false))))], [], []⟩)
          (k' .normal ⟨[(0, .c (.one (.ro .str vs0))), (1, .c (.one (.ro .str vs1))), (12, .c (.one (.v (.int .i64 vs12)))), (13, .c (.one (.v (.int .i64 (IntKind.wrap .i64 (vs13 + (1 : Int)))))))], [], []⟩))
        none)
      none)
    (k' (.exit 0) ⟨[(0, .c (.one (.ro .str vs0))), (1, .c (.one (.ro .str vs1))), (12, .c (.one (.v (.int .i64 vs12)))), (13, .c (.one (.v (.int .i64 vs13)))), (14, .c (.one (.v (.bool (decide (vs13 < vs12))))))], [], []⟩)) := by kernel_rfl
theorem f42L0_eq {R : Type} (n : Nat) (k' : Ex → St → Option R) (vs0 : List ByteArray) (vs1 : List ByteArray) (vs12 : Int) : ∀ (m : Nat) (vs13 : Int), iter (fun st k => ev f42e f42k n (cAt [1,1,0,1,0,0] f42c) st k) m ⟨[(0, .c (.one (.ro .str vs0))), (1, .c (.one (.ro .str vs1))), (12, .c (.one (.v (.int .i64 vs12)))), (13, .c (.one (.v (.int .i64 vs13))))], [], []⟩ k' = f42L0 n (k' .ret ⟨[(4, .c (.one (.v (.bool false))))], [], []⟩) (fun (xvs13 : Int) (xvs14 : Bool) => k' (.exit 0) ⟨[(0, .c (.one (.ro .str vs0))), (1, .c (.one (.ro .str vs1))), (12, .c (.one (.v (.int .i64 vs12)))), (13, .c (.one (.v (.int .i64 xvs13)))), (14, .c (.one (.v (.bool xvs14))))], [], []⟩) vs0 vs1 vs12 m vs13 := by
  intro m; induction m with
  | zero => intros; rfl
  | succ m ih =>
    intro vs13
    simp only [iter]
    rw [f42L0_b]
    simp only [ih, f42L0]

noncomputable def f42K0 {R : Type} (n : Nat) (k' : Ex → St → Option R) : Ex → St → Option R := (blockK 0 (seqK f42e f42k n (cAt [1,1,1] f42c) k'))
theorem f42K0_x0 {R : Type} (n : Nat) (k : List Dt → Option R) (a0 : List ByteArray) (a1 : List ByteArray)  : f42K0 n (exitK f42e [.ro, .ro] [false] true [.tmp 4] [4] [.d (.sl .str) a0, .d (.sl .str) a1] k) .ret ⟨[(4, .c (.one (.v (.bool false))))], [], []⟩ =
    (k [.d .bool false]) := by kernel_rfl
theorem f42K0_x1 {R : Type} (n : Nat) (k : List Dt → Option R) (a0 : List ByteArray) (a1 : List ByteArray) (vs0 : List ByteArray) (vs1 : List ByteArray) (vs12 : Int) (xvs13 : Int) (xvs14 : Bool) : f42K0 n (exitK f42e [.ro, .ro] [false] true [.tmp 4] [4] [.d (.sl .str) a0, .d (.sl .str) a1] k) (.exit 0) ⟨[(0, .c (.one (.ro .str vs0))), (1, .c (.one (.ro .str vs1))), (12, .c (.one (.v (.int .i64 vs12)))), (13, .c (.one (.v (.int .i64 xvs13)))), (14, .c (.one (.v (.bool xvs14))))], [], []⟩ =
    (k [.d .bool true]) := by kernel_rfl

theorem f42_run {R : Type} (n : Nat) (k : List Dt → Option R) (a0 : List ByteArray) (a1 : List ByteArray) : evFn f42e f42k n f42c [.ro, .ro] [false] true [.tmp 4] [4] [.d (.sl .str) a0, .d (.sl .str) a1] k =
    (cond ((a0.length : Int) != (a1.length : Int))
    (k [.d .bool false])
    (f42L0 n (k [.d .bool false]) (fun (xvs13 : Int) (xvs14 : Bool) =>
      (k [.d .bool true])) a0 a1 (a0.length : Int) n (0 : Int))) := by
  refine Eq.trans (b := (cond ((a0.length : Int) != (a1.length : Int))
    (k [.d .bool false])
    (iter (fun st k => ev f42e f42k n (cAt [1,1,0,1,0,0] f42c) st k) n ⟨[(0, .c (.one (.ro .str a0))), (1, .c (.one (.ro .str a1))), (12, .c (.one (.v (.int .i64 (a0.length : Int))))), (13, .c (.one (.v (.int .i64 (0 : Int)))))], [], []⟩ (f42K0 n (exitK f42e [.ro, .ro] [false] true [.tmp 4] [4] [.d (.sl .str) a0, .d (.sl .str) a1] k))))) (by kernel_rfl) ?_
  simp only [f42L0_eq, f42K0_x0, f42K0_x1]
theorem f42_spec (a0 : List ByteArray) (a1 : List ByteArray) (hg : gLenW a0 = true) : ∃ keep rounds, ∀ {R : Type} (k : List Dt → Option R), evFn f42e keep rounds f42c [.ro, .ro] [false] true [.tmp 4] [4] [.d (.sl .str) a0, .d (.sl .str) a1] k = k [.d .bool (eqD a0 a1)] := by
  have hl := gLenW_le hg
  refine ⟨f42k, a0.length + 1, fun k => ?_⟩
  rw [f42_run]
  by_cases hc : a0.length = a1.length
  · have hc' : ((a0.length : Int) != (a1.length : Int)) = false := by simp [hc]
    simp only [hc', cond_false]
    refine Eq.trans (loop_idx (n := a0.length) (F := fun m i => f42L0 (a0.length + 1) _ _ a0 a1 (a0.length : Int) m i) (p := fun j => sEq (atI (t := .str) a0 j) (atI (t := .str) a1 j)) (good := k [.d .bool true]) (bad := k [.d .bool false])
      (fun m j hj => ?_) (fun m => by simp only [f42L0, idxE, cond_false]) a0.length 0 (a0.length + 1) (by omega) (by omega)) ?_
    · obtain ⟨h1, h0, hw, ht⟩ := idx hj (by omega)
      obtain ⟨h2, _, _, _⟩ := idx (show j < a1.length by omega) (by omega)
      simp only [f42L0, h1, h0, h2, hw, ht, Bool.and_self, cond_true]
      cases sEq (atI (t := .str) a0 j) (atI (t := .str) a1 j) <;> rfl
    · rw [allN_eq hc (fun j x y hx hy => by rw [atI_of (t := .str) hx, atI_of (t := .str) hy, ← eqD_str])]
      cases eqD a0 a1 <;> rfl
  · simp only [bneLen hc, cond_true]
    rw [eqD_ne (fun e => hc (by rw [e]))]

noncomputable def q42 : List Dt → Option (Bool × List Dt)
  | [.d (.sl .str) a0, .d (.sl .str) a1] => some (((fun (x y : List ByteArray) => gLenW x) a0 a1), [.d .bool (eqD a0 a1)])
  | _ => none
noncomputable def s42 : Gm.Spec := Gm.Spec.of [.ro, .ro] [false] true q42
theorem good42 : Gm.Good Try.prog (42, s42) := by
  have hl : ∀ x ∈ ([] : List (Nat × Gm.Spec)), Gm.Good Try.prog x := fun _ h => by cases h
  refine ⟨⟨spec_ok (tab_ok.env hl) (tab.natl hl) Try.func42 (by kernel_rfl : Try.f42.body = some f42c) [4] (by kernel_rfl) ?_, _, Try.func42, by kernel_rfl, of_decide_eq_true (by kernel_rfl)⟩, Gm.Spec.of_natl _ _ _ _⟩
  intro ds outs h
  unfold q42 at h
  split at h
  · simp only [Option.some.injEq, Prod.mk.injEq] at h; obtain ⟨hg, h⟩ := h; cases h; exact f42_spec _ _ hg
  · cases h
noncomputable def q12 : List Dt → Option (Bool × List Dt)
  | [.d .node a0, .d .node a1] => some ((sm2 sm_node a0 a1), [.d .bool (eqD a0 a1)])
  | _ => none
noncomputable def mu12 : List Dt → Nat
  | [.d .node a0, .d .node a1] => me_node a0 a1
  | _ => 0
noncomputable def s12r (N : Nat) : Gm.Spec := Gm.Spec.of [.ro, .ro] [false] true (qlt mu12 N q12)
noncomputable def s12 : Gm.Spec := Gm.Spec.of [.ro, .ro] [false] true q12
noncomputable def q43 : List Dt → Option (Bool × List Dt)
  | [.d (.sl .node) a0, .d (.sl .node) a1, .clo 12 []] => some ((sm2 (smL sm_node) a0 a1), [.d .bool (eqD a0 a1)])
  | _ => none
noncomputable def mu43 : List Dt → Nat
  | [.d (.sl .node) a0, .d (.sl .node) a1, .clo 12 []] => meL_node a0 a1
  | _ => 0
noncomputable def s43r (N : Nat) : Gm.Spec := Gm.Spec.of [.ro, .ro, .fn] [false] true (qlt mu43 N q43)
/-! ### loop.example/g00465/impl.TreeSame -/
noncomputable def f12c : Code := (Try.f12.body).getD .skip
def f12k : Nat → Kp := kat [⟨[2, 3], [], [], []⟩, ⟨[4], [], [], []⟩]
noncomputable def f12e (N : Nat) : Env := tab.env [(12, s12r N), (42, s42), (43, s43r N)]
theorem f12_run {R : Type} (N : Nat) (n : Nat) (k : List Dt → Option R) (a0 : NodeT) (a1 : NodeT) : evFn (f12e N) f12k n f12c [.ro, .ro] [false] true [.tmp 4] [4] [.d .node a0, .d .node a1] k =
    (cond ((NodeT.kind a0) == (NodeT.kind a1))
    (cond ((NodeT.n a0) == (NodeT.n a1))
      (cond (sEq (NodeT.s a0) (NodeT.s a1))
        (cond ((fun (x y : List ByteArray) => gLenW x) (NodeT.keys a0) (NodeT.keys a1))
          (cond (eqD (NodeT.keys a0) (NodeT.keys a1))
            (cond ((sm2 (smL sm_node) (NodeT.kids a0) (NodeT.kids a1)) && (Nat.blt (meL_node (NodeT.kids a0) (NodeT.kids a1)) N))
              (k [.d .bool (eqD (NodeT.kids a0) (NodeT.kids a1))])
              none)
            (k [.d .bool false]))
          none)
        (k [.d .bool false]))
      (k [.d .bool false]))
    (k [.d .bool false])) := by kernel_rfl
theorem f12_spec (N : Nat) (a0 : NodeT) (a1 : NodeT) (hg : sm2 sm_node a0 a1 = true) (hm : mu12 [.d .node a0, .d .node a1] = N) : ∃ keep rounds, ∀ {R : Type} (k : List Dt → Option R), evFn (f12e N) keep rounds f12c [.ro, .ro] [false] true [.tmp 4] [4] [.d .node a0, .d .node a1] k = k [.d .bool (eqD a0 a1)] := by
  have hm : me_node a0 a1 = N := hm
  subst hm
  have m1 : Nat.blt (meL_node a0.kids a1.kids) (me_node a0 a1) = true := by rw [Nat.blt_eq]; simp only [meL_node, me_node, nd_node_def]; omega
  simp only [sm2, sm_node_def, Bool.and_eq_true] at hg
  have gk : gLenW a0.keys = true := gLenW_sm hg.1.2.2.2.1
  refine ⟨f12k, 0, fun {R} k => ?_⟩
  rw [f12_run, eqD_node]
  simp only [sm2, gk, hg, m1, Bool.and_self, Bool.true_and, cond_true]
  cases (a0.kind == a1.kind) <;> cases (a0.n == a1.n) <;> cases sEq a0.s a1.s <;> cases eqD a0.keys a1.keys <;> rfl


/-! ### slices.EqualFunc[[]loop.example/g00465/impl.Node,[]loop.example/g00465/impl.Node,loop.example/g00465/impl.Node,loop.example/g00465/impl.Node] -/
noncomputable def f43c : Code := (Try.f43.body).getD .skip
def f43k : Nat → Kp := kat [⟨[0, 1, 2], [], [], []⟩, ⟨[0, 1, 2, 14], [], [], []⟩, ⟨[6], [], [], []⟩, ⟨[1, 2, 15, 16, 17], [], [], []⟩, ⟨[1, 2, 15, 16, 17, 18], [], [], []⟩, ⟨[1, 2, 7, 8, 15, 16, 17], [], [], []⟩, ⟨[1, 2, 8, 9, 15, 16, 17], [], [], []⟩, ⟨[1, 2, 15, 16, 17, 30], [], [], []⟩, ⟨[6], [], [], []⟩, ⟨[1, 2, 15, 16, 17], [], [], []⟩, ⟨[6], [], [], []⟩]
noncomputable def f43e (N : Nat) : Env := tab.env [(12, s12r N)]
noncomputable def f43L0 {R : Type} (N : Nat) (n : Nat) (x0 : Option R) (x1 : Int → Bool → Option R) (vs1 : List NodeT) (vs15 : List NodeT) (vs16 : Int) : Nat → Int → Option R
  | 0, _ => none
  | m + 1, vs17 =>
    (cond (decide (vs17 < vs16))
      (cond ((decide ((0 : Int) ≤ vs17)) && (decide (vs17 < (vs15.length : Int))))
        (cond ((decide ((0 : Int) ≤ vs17)) && (decide (vs17 < (vs1.length : Int))))
          (cond ((sm2 sm_node (eN (atI (t := .node) vs15 (Int.toNat vs17))) (eN (atI (t := .node) vs1 (Int.toNat vs17)))) && (Nat.blt (me_node (eN (atI (t := .node) vs15 (Int.toNat vs17))) (eN (atI (t := .node) vs1 (Int.toNat vs17)))) N))
            (cond (!(eqD (eN (atI (t := .node) vs15 (Int.toNat vs17))) (eN (atI (t := .node) vs1 (Int.toNat vs17)))))
              (x0)
              (f43L0 N n x0 x1 vs1 vs15 vs16 m (IntKind.wrap .i64 (vs17 + (1 : Int)))))
            none)
          none)
        none)
      (x1 vs17 (decide (vs17 < vs16))))
theorem f43L0_b {R : Type} (N : Nat) (n : Nat) (k' : Ex → St → Option R) (vs1 : List NodeT) (vs15 : List NodeT) (vs16 : Int) (vs17 : Int) : ev (f43e N) f43k n (cAt [1,1,0,1,0,0] f43c) ⟨[(1, .c (.one (.ro .node vs1))), (2, .c (.one (.cloR 12 []))), (15, .c (.one (.ro .node vs15))), (16, .c (.one (.v (.int .i64 vs16)))), (17, .c (.one (.v (.int .i64 vs17))))], [], []⟩ k' =
    (cond (decide (vs17 < vs16))
    (cond ((decide ((0 : Int) ≤ vs17)) && (decide (vs17 < (vs15.length : Int))))
      (cond ((decide ((0 : Int) ≤ vs17)) && (decide (vs17 < (vs1.length : Int))))
        (cond ((sm2 sm_node (eN (atI (t := .node) vs15 (Int.toNat vs17))) (eN (atI (t := .node) vs1 (Int.toNat vs17)))) && (Nat.blt (me_node (eN (atI (t := .node) vs15 (Int.toNat vs17))) (eN (atI (t := .node) vs1 (Int.toNat vs17)))) N))
          (cond (!(eqD (eN (atI (t := .node) vs15 (Int.toNat vs17))) (eN (atI (t := .node) vs1 (Int.toNat vs17)))))
            (k' .ret ⟨[(6, .c (.one (.v (.bool false))))], [], []⟩)
            (k' .normal ⟨[(1, .c (.one (.ro .node vs1))), (2, .c (.one (.cloR 12 []))), (15, .c (.one (.ro .node vs15))), (16, .c (.one (.v (.int .i64 vs16)))), (17, .c (.one (.v (.int .i64 (IntKind.wrap .i64 (vs17 + (1 : Int)))))))], [], []⟩))
          none)
        none)
      none)
    (k' (.exit 0) ⟨[(1, .c (.one (.ro .node vs1))), (2, .c (.one (.cloR 12 []))), (15, .c (.one (.ro .node vs15))), (16, .c (.one (.v (.int .i64 vs16)))), (17, .c (.one (.v (.int .i64 vs17)))), (18, .c (.one (.v (.bool (decide (vs17 < vs16))))))], [], []⟩)) := by kernel_rfl
theorem f43L0_eq {R : Type} (N : Nat) (n : Nat) (k' : Ex → St → Option R) (vs1 : List NodeT) (vs15 : List NodeT) (vs16 : Int) : ∀ (m : Nat) (vs17 : Int), iter (fun st k => ev (f43e N) f43k n (cAt [1,1,0,1,0,0] f43c) st k) m ⟨[(1, .c (.one (.ro .node vs1))), (2, .c (.one (.cloR 12 []))), (15, .c (.one (.ro .node vs15))), (16, .c (.one (.v (.int .i64 vs16)))), (17, .c (.one (.v (.int .i64 vs17))))], [], []⟩ k' = f43L0 N n (k' .ret ⟨[(6, .c (.one (.v (.bool false))))], [], []⟩) (fun (xvs17 : Int) (xvs18 : Bool) => k' (.exit 0) ⟨[(1, .c (.one (.ro .node vs1))), (2, .c (.one (.cloR 12 []))), (15, .c (.one (.ro .node vs15))), (16, .c (.one (.v (.int .i64 vs16)))), (17, .c (.one (.v (.int .i64 xvs17)))), (18, .c (.one (.v (.bool xvs18))))], [], []⟩) vs1 vs15 vs16 m vs17 := by
  intro m; induction m with
  | zero => intros; rfl
  | succ m ih =>
    intro vs17
    simp only [iter]
    rw [f43L0_b]
    simp only [ih, f43L0]

noncomputable def f43K0 {R : Type} (N : Nat) (n : Nat) (k' : Ex → St → Option R) : Ex → St → Option R := (blockK 0 (seqK (f43e N) f43k n (cAt [1,1,1] f43c) k'))
theorem f43K0_x0 {R : Type} (N : Nat) (n : Nat) (k : List Dt → Option R) (a0 : List NodeT) (a1 : List NodeT)  : f43K0 N n (exitK (f43e N) [.ro, .ro, .fn] [false] true [.tmp 6] [4] [.d (.sl .node) a0, .d (.sl .node) a1, .clo 12 []] k) .ret ⟨[(6, .c (.one (.v (.bool false))))], [], []⟩ =
    (k [.d .bool false]) := by kernel_rfl
theorem f43K0_x1 {R : Type} (N : Nat) (n : Nat) (k : List Dt → Option R) (a0 : List NodeT) (a1 : List NodeT) (vs1 : List NodeT) (vs15 : List NodeT) (vs16 : Int) (xvs17 : Int) (xvs18 : Bool) : f43K0 N n (exitK (f43e N) [.ro, .ro, .fn] [false] true [.tmp 6] [4] [.d (.sl .node) a0, .d (.sl .node) a1, .clo 12 []] k) (.exit 0) ⟨[(1, .c (.one (.ro .node vs1))), (2, .c (.one (.cloR 12 []))), (15, .c (.one (.ro .node vs15))), (16, .c (.one (.v (.int .i64 vs16)))), (17, .c (.one (.v (.int .i64 xvs17)))), (18, .c (.one (.v (.bool xvs18))))], [], []⟩ =
    (k [.d .bool true]) := by kernel_rfl

theorem f43_run {R : Type} (N : Nat) (n : Nat) (k : List Dt → Option R) (a0 : List NodeT) (a1 : List NodeT) : evFn (f43e N) f43k n f43c [.ro, .ro, .fn] [false] true [.tmp 6] [4] [.d (.sl .node) a0, .d (.sl .node) a1, .clo 12 []] k =
    (cond ((a0.length : Int) != (a1.length : Int))
    (k [.d .bool false])
    (f43L0 N n (k [.d .bool false]) (fun (xvs17 : Int) (xvs18 : Bool) =>
      (k [.d .bool true])) a1 a0 (a0.length : Int) n (0 : Int))) := by
  refine Eq.trans (b := (cond ((a0.length : Int) != (a1.length : Int))
    (k [.d .bool false])
    (iter (fun st k => ev (f43e N) f43k n (cAt [1,1,0,1,0,0] f43c) st k) n ⟨[(1, .c (.one (.ro .node a1))), (2, .c (.one (.cloR 12 []))), (15, .c (.one (.ro .node a0))), (16, .c (.one (.v (.int .i64 (a0.length : Int))))), (17, .c (.one (.v (.int .i64 (0 : Int)))))], [], []⟩ (f43K0 N n (exitK (f43e N) [.ro, .ro, .fn] [false] true [.tmp 6] [4] [.d (.sl .node) a0, .d (.sl .node) a1, .clo 12 []] k))))) (by kernel_rfl) ?_
  simp only [f43L0_eq, f43K0_x0, f43K0_x1]
theorem f43_spec (N : Nat) (a0 : List NodeT) (a1 : List NodeT) (hg : sm2 (smL sm_node) a0 a1 = true) (hm : mu43 [.d (.sl .node) a0, .d (.sl .node) a1, .clo 12 []] = N) : ∃ keep rounds, ∀ {R : Type} (k : List Dt → Option R), evFn (f43e N) keep rounds f43c [.ro, .ro, .fn] [false] true [.tmp 6] [4] [.d (.sl .node) a0, .d (.sl .node) a1, .clo 12 []] k = k [.d .bool (eqD a0 a1)] := by
  have hm : meL_node a0 a1 = N := hm
  subst hm
  simp only [sm2, Bool.and_eq_true] at hg
  obtain ⟨hg0, hg1⟩ := hg
  have hl : a0.length ≤ 1048576 := smL_len hg0
  refine ⟨f43k, a0.length + 1, fun {R} k => ?_⟩
  rw [f43_run]
  by_cases hc : a0.length = a1.length
  · have hc' : ((a0.length : Int) != (a1.length : Int)) = false := by simp [hc]
    simp only [hc', cond_false]
    refine Eq.trans (loop_idx (n := a0.length) (F := fun m i => f43L0 (meL_node a0 a1) (a0.length + 1) _ _ a1 a0 (a0.length : Int) m i) (p := fun j => eqD (atI (t := .node) a0 j) (atI (t := .node) a1 j)) (good := k [.d .bool true]) (bad := k [.d .bool false])
      (fun m j hj => ?_) (fun m => by simp only [f43L0, idxE, cond_false]) a0.length 0 (a0.length + 1) (by omega) (by omega)) ?_
    · obtain ⟨h1, h0, hw, ht⟩ := idx hj (by omega)
      obtain ⟨h2, _, _, _⟩ := idx (show j < a1.length by omega) (by omega)
      have ha := smL_at (t := .node) hg0 hj
      have hb := smL_at (t := .node) hg1 (show j < a1.length by omega)
      have hm1 : Nat.blt (me_node (atI (t := .node) a0 j) (atI (t := .node) a1 j)) (meL_node a0 a1) = true := by
        obtain ⟨x, hx, _⟩ := drop_get hj
        have := ndL_mem (f := nd_node) (List.mem_of_getElem? hx)
        rw [atI_of (t := .node) hx, Nat.blt_eq]; simp only [me_node, meL_node]; omega
      simp only [f43L0, h1, h0, h2, hw, ht, Bool.and_self, cond_true, sm2, eta_node, eN_eq, ha, hb, hm1]
      cases eqD (atI (t := .node) a0 j) (atI (t := .node) a1 j) <;> rfl
    · rw [allN_eq hc (fun j x y hx hy => by rw [atI_of (t := .node) hx, atI_of (t := .node) hy])]
      cases eqD a0 a1 <;> rfl
  · simp only [bneLen hc, cond_true]
    rw [eqD_ne (fun e => hc (by rw [e]))]


theorem goods12 : ∀ x ∈ ([⟨12, [.ro, .ro], [false], true, mu12, q12⟩, ⟨43, [.ro, .ro, .fn], [false], true, mu43, q43⟩] : List Rc), Gm.SpecOk Try.prog x.f (Gm.Spec.of x.ms x.rs x.ow x.q) := by
  refine spec_recs _ fun N hr => ?_
  have hr1 : Gm.SpecOk Try.prog 12 (Gm.Spec.of [.ro, .ro] [false] true (qlt mu12 N q12)) := fun {R} => hr _ (.head _)
  have hr2 : Gm.SpecOk Try.prog 43 (Gm.Spec.of [.ro, .ro, .fn] [false] true (qlt mu43 N q43)) := fun {R} => hr _ (.tail _ (.head _))
  refine List.forall_mem_cons.2 ⟨?_, List.forall_mem_cons.2 ⟨?_, List.forall_mem_nil _⟩⟩
  · have hl : ∀ x ∈ ([(12, s12r N), (42, s42), (43, s43r N)] : List (Nat × Gm.Spec)), Gm.Good Try.prog x := List.forall_mem_cons.2 ⟨⟨⟨hr1, _, Try.func12, by kernel_rfl, of_decide_eq_true (by kernel_rfl)⟩, Gm.Spec.of_natl _ _ _ _⟩, List.forall_mem_cons.2 ⟨good42, List.forall_mem_cons.2 ⟨⟨⟨hr2, _, Try.func43, by kernel_rfl, of_decide_eq_true (by kernel_rfl)⟩, Gm.Spec.of_natl _ _ _ _⟩, List.forall_mem_nil _⟩⟩⟩
    show Gm.SpecOk Try.prog 12 (Gm.Spec.of [.ro, .ro] [false] true (qeq mu12 N q12))
    intro R
    refine spec_ok (E := f12e N) (tab_ok.env hl) (tab.natl hl) Try.func12 (by kernel_rfl : Try.f12.body = some f12c) [4] (by kernel_rfl) ?_
    intro ds outs h
    obtain ⟨h, hm⟩ := qeq_some h
    unfold q12 at h
    split at h
    · simp only [Option.some.injEq, Prod.mk.injEq] at h; obtain ⟨hg, h⟩ := h; cases h; exact f12_spec N _ _ hg hm
    · cases h
  · have hl : ∀ x ∈ ([(12, s12r N)] : List (Nat × Gm.Spec)), Gm.Good Try.prog x := List.forall_mem_cons.2 ⟨⟨⟨hr1, _, Try.func12, by kernel_rfl, of_decide_eq_true (by kernel_rfl)⟩, Gm.Spec.of_natl _ _ _ _⟩, List.forall_mem_nil _⟩
    show Gm.SpecOk Try.prog 43 (Gm.Spec.of [.ro, .ro, .fn] [false] true (qeq mu43 N q43))
    intro R
    refine spec_ok (E := f43e N) (tab_ok.env hl) (tab.natl hl) Try.func43 (by kernel_rfl : Try.f43.body = some f43c) [4] (by kernel_rfl) ?_
    intro ds outs h
    obtain ⟨h, hm⟩ := qeq_some h
    unfold q43 at h
    split at h
    · simp only [Option.some.injEq, Prod.mk.injEq] at h; obtain ⟨hg, h⟩ := h; cases h; exact f43_spec N _ _ hg hm
    · cases h
theorem good12 : Gm.Good Try.prog (12, s12) := ⟨⟨fun {R} => goods12 _ (.head _), _, Try.func12, by kernel_rfl, of_decide_eq_true (by kernel_rfl)⟩, Gm.Spec.of_natl _ _ _ _⟩
end Go.Proofs.Ytalnkjjnohgjkaa

/- x -/
namespace Go.Proofs.Ytalnkjjnohgjkaa
open Go Go.Gm
/-! ### loop.example/g00465/impl.patched -/
noncomputable def f44c : Code := (Try.f44.body).getD .skip
def f44k : Nat → Kp := kat [⟨[2, 3, 4], [], [], []⟩, ⟨[2, 3, 4, 17], [], [], []⟩, ⟨[2, 3, 4, 17, 18], [], [], []⟩, ⟨[4, 5], [], [], []⟩, ⟨[2, 3, 4, 17, 28], [], [], []⟩, ⟨[4, 5], [], [], []⟩, ⟨[2, 3, 4, 17, 36], [], [], []⟩, ⟨[2, 3, 4, 41], [], [], []⟩, ⟨[4, 5], [], [], []⟩, ⟨[3, 4, 6, 7], [], [], []⟩, ⟨[3, 4, 6, 53], [], [], []⟩, ⟨[4, 5], [], [], []⟩, ⟨[4, 5], [], [], []⟩, ⟨[2, 3, 4, 63], [], [], []⟩, ⟨[2, 3, 4, 8, 9], [], [], []⟩, ⟨[4, 5], [], [], []⟩, ⟨[2, 3, 4, 10, 11], [], [], []⟩, ⟨[2, 3, 4, 10, 99], [], [], []⟩, ⟨[4, 5], [], [], []⟩, ⟨[2, 3, 4, 10, 103], [], [], []⟩, ⟨[2, 3, 4, 10, 12], [], [], []⟩, ⟨[2, 3, 4, 10, 13], [], [], []⟩, ⟨[2, 3, 4, 10, 13, 14, 15], [], [], []⟩, ⟨[2, 3, 4, 10, 14, 132], [], [], []⟩, ⟨[4, 5], [], [], []⟩, ⟨[2, 3, 4, 10], [], [], []⟩, ⟨[4, 5], [], [], []⟩]
noncomputable def f44e : Env := tab.env [(10, s10), (12, s12), (39, s39), (42, s42), (86, s86), (87, s87)]
theorem f44_run {R : Type} (n : Nat) (k : List Dt → Option R) (a0 : NodeT) (a1 : PopT) : evFn f44e f44k n f44c [.ro, .ro] [false, false] true [.cell 4 27, .tmp 5] [27, 4] [.d .node a0, .d .pop a1] k =
    (cond ((PopT.kind a1) == (1 : Int))
    (cond (gP (eN a0) (PopT.path a1) (eN (PopT.x a1)))
      (k [.d .node (eN ((putPtr (eN a0) (PopT.path a1) (eN (PopT.x a1))).1)), .d .bool ((putPtr (eN a0) (PopT.path a1) (eN (PopT.x a1))).2)])
      none)
    (cond ((PopT.kind a1) == (2 : Int))
      (cond ((fun (x : NodeT) (y : List ByteArray) => sm_node x && smL smStr y) (eN a0) (PopT.path a1))
        (k [.d .node (eN ((cutPtr (eN a0) (PopT.path a1)).1)), .d .bool ((cutPtr (eN a0) (PopT.path a1)).2)])
        none)
      (cond ((PopT.kind a1) == (3 : Int))
        (cond (((PopT.path a1).length : Int) == (0 : Int))
          (cond (sm_node (eN (PopT.x a1)))
            (k [.d .node (eN (PopT.x a1)), .d .bool true])
            none)
          (cond ((fun (x : NodeT) (y : List ByteArray) => sm_node x && smL smStr y) (eN a0) (PopT.path a1))
            (cond (!((cutPtr (eN a0) (PopT.path a1)).2))
              (k [.d .node (⟨(0 : Int), (0 : Int), ByteArray.empty, ([] : List ByteArray), ([] : List NodeT)⟩ : NodeT), .d .bool false])
              (cond (gP (eN ((cutPtr (eN a0) (PopT.path a1)).1)) (PopT.path a1) (eN (PopT.x a1)))
                (k [.d .node (eN ((putPtr (eN ((cutPtr (eN a0) (PopT.path a1)).1)) (PopT.path a1) (eN (PopT.x a1))).1)), .d .bool ((putPtr (eN ((cutPtr (eN a0) (PopT.path a1)).1)) (PopT.path a1) (eN (PopT.x a1))).2)])
                none))
            none))
        (cond ((PopT.kind a1) == (4 : Int))
          (cond ((fun (x : NodeT) (y : List ByteArray) => sm_node x && smL smStr y) (eN a0) (PopT.path a1))
            (cond (sm_node (eN a0))
              (cond ((atPtr (eN a0) (PopT.path a1)).2)
                (cond (sm2 sm_node (eN ((atPtr (eN a0) (PopT.path a1)).1)) (eN (PopT.x a1)))
                  (k [.d .node (eN a0), .d .bool (eqD (eN ((atPtr (eN a0) (PopT.path a1)).1)) (eN (PopT.x a1)))])
                  none)
                (k [.d .node (eN a0), .d .bool false]))
              none)
            none)
          (cond ((fun (x : NodeT) (y : List ByteArray) => sm_node x && smL smStr y) (eN a0) (PopT.src a1))
            (cond (!((atPtr (eN a0) (PopT.src a1)).2))
              (k [.d .node (⟨(0 : Int), (0 : Int), ByteArray.empty, ([] : List ByteArray), ([] : List NodeT)⟩ : NodeT), .d .bool false])
              (cond ((PopT.kind a1) != (5 : Int))
                (cond ((PopT.kind a1) != (6 : Int))
                  (k [.d .node (⟨(0 : Int), (0 : Int), ByteArray.empty, ([] : List ByteArray), ([] : List NodeT)⟩ : NodeT), .d .bool false])
                  (cond ((PopT.kind a1) == (5 : Int))
                    (cond (decide (((PopT.path a1).length : Int) > ((PopT.src a1).length : Int)))
                      (cond ((decide ((0 : Int) ≤ ((PopT.src a1).length : Int))) && (decide (((PopT.src a1).length : Int) ≤ ((PopT.path a1).length : Int))))
                        (cond ((fun (x y : List ByteArray) => gLenW x) (((PopT.path a1).take (Int.toNat ((PopT.src a1).length : Int))).drop 0) (PopT.src a1))
                          (cond ((fun (x : NodeT) (y : List ByteArray) => sm_node x && smL smStr y) (eN a0) (PopT.src a1))
                            (cond (eqD (((PopT.path a1).take (Int.toNat ((PopT.src a1).length : Int))).drop 0) (PopT.src a1))
                              (k [.d .node (⟨(0 : Int), (0 : Int), ByteArray.empty, ([] : List ByteArray), ([] : List NodeT)⟩ : NodeT), .d .bool false])
                              (cond (!((cutPtr (eN a0) (PopT.src a1)).2))
                                (k [.d .node (⟨(0 : Int), (0 : Int), ByteArray.empty, ([] : List ByteArray), ([] : List NodeT)⟩ : NodeT), .d .bool false])
                                (cond (gP (eN ((cutPtr (eN a0) (PopT.src a1)).1)) (PopT.path a1) (eN ((atPtr (eN a0) (PopT.src a1)).1)))
                                  (k [.d .node (eN ((putPtr (eN ((cutPtr (eN a0) (PopT.src a1)).1)) (PopT.path a1) (eN ((atPtr (eN a0) (PopT.src a1)).1))).1)), .d .bool ((putPtr (eN ((cutPtr (eN a0) (PopT.src a1)).1)) (PopT.path a1) (eN ((atPtr (eN a0) (PopT.src a1)).1))).2)])
                                  none)))
                            none)
                          none)
                        none)
                      (cond ((fun (x : NodeT) (y : List ByteArray) => sm_node x && smL smStr y) (eN a0) (PopT.src a1))
                        (cond (!((cutPtr (eN a0) (PopT.src a1)).2))
                          (k [.d .node (⟨(0 : Int), (0 : Int), ByteArray.empty, ([] : List ByteArray), ([] : List NodeT)⟩ : NodeT), .d .bool false])
                          (cond (gP (eN ((cutPtr (eN a0) (PopT.src a1)).1)) (PopT.path a1) (eN ((atPtr (eN a0) (PopT.src a1)).1)))
                            (k [.d .node (eN ((putPtr (eN ((cutPtr (eN a0) (PopT.src a1)).1)) (PopT.path a1) (eN ((atPtr (eN a0) (PopT.src a1)).1))).1)), .d .bool ((putPtr (eN ((cutPtr (eN a0) (PopT.src a1)).1)) (PopT.path a1) (eN ((atPtr (eN a0) (PopT.src a1)).1))).2)])
                            none))
                        none))
                    (cond (gP (eN a0) (PopT.path a1) (eN ((atPtr (eN a0) (PopT.src a1)).1)))
                      (k [.d .node (eN ((putPtr (eN a0) (PopT.path a1) (eN ((atPtr (eN a0) (PopT.src a1)).1))).1)), .d .bool ((putPtr (eN a0) (PopT.path a1) (eN ((atPtr (eN a0) (PopT.src a1)).1))).2)])
                      none)))
                (cond ((PopT.kind a1) == (5 : Int))
                  (cond (decide (((PopT.path a1).length : Int) > ((PopT.src a1).length : Int)))
                    (cond ((decide ((0 : Int) ≤ ((PopT.src a1).length : Int))) && (decide (((PopT.src a1).length : Int) ≤ ((PopT.path a1).length : Int))))
                      (cond ((fun (x y : List ByteArray) => gLenW x) (((PopT.path a1).take (Int.toNat ((PopT.src a1).length : Int))).drop 0) (PopT.src a1))
                        (cond ((fun (x : NodeT) (y : List ByteArray) => sm_node x && smL smStr y) (eN a0) (PopT.src a1))
                          (cond (eqD (((PopT.path a1).take (Int.toNat ((PopT.src a1).length : Int))).drop 0) (PopT.src a1))
                            (k [.d .node (⟨(0 : Int), (0 : Int), ByteArray.empty, ([] : List ByteArray), ([] : List NodeT)⟩ : NodeT), .d .bool false])
                            (cond (!((cutPtr (eN a0) (PopT.src a1)).2))
                              (k [.d .node (⟨(0 : Int), (0 : Int), ByteArray.empty, ([] : List ByteArray), ([] : List NodeT)⟩ : NodeT), .d .bool false])
                              (cond (gP (eN ((cutPtr (eN a0) (PopT.src a1)).1)) (PopT.path a1) (eN ((atPtr (eN a0) (PopT.src a1)).1)))
                                (k [.d .node (eN ((putPtr (eN ((cutPtr (eN a0) (PopT.src a1)).1)) (PopT.path a1) (eN ((atPtr (eN a0) (PopT.src a1)).1))).1)), .d .bool ((putPtr (eN ((cutPtr (eN a0) (PopT.src a1)).1)) (PopT.path a1) (eN ((atPtr (eN a0) (PopT.src a1)).1))).2)])
                                none)))
                          none)
                        none)
                      none)
                    (cond ((fun (x : NodeT) (y : List ByteArray) => sm_node x && smL smStr y) (eN a0) (PopT.src a1))
                      (cond (!((cutPtr (eN a0) (PopT.src a1)).2))
                        (k [.d .node (⟨(0 : Int), (0 : Int), ByteArray.empty, ([] : List ByteArray), ([] : List NodeT)⟩ : NodeT), .d .bool false])
                        (cond (gP (eN ((cutPtr (eN a0) (PopT.src a1)).1)) (PopT.path a1) (eN ((atPtr (eN a0) (PopT.src a1)).1)))
                          (k [.d .node (eN ((putPtr (eN ((cutPtr (eN a0) (PopT.src a1)).1)) (PopT.path a1) (eN ((atPtr (eN a0) (PopT.src a1)).1))).1)), .d .bool ((putPtr (eN ((cutPtr (eN a0) (PopT.src a1)).1)) (PopT.path a1) (eN ((atPtr (eN a0) (PopT.src a1)).1))).2)])
                          none))
                      none))
                  (cond (gP (eN a0) (PopT.path a1) (eN ((atPtr (eN a0) (PopT.src a1)).1)))
                    (k [.d .node (eN ((putPtr (eN a0) (PopT.path a1) (eN ((atPtr (eN a0) (PopT.src a1)).1))).1)), .d .bool ((putPtr (eN a0) (PopT.path a1) (eN ((atPtr (eN a0) (PopT.src a1)).1))).2)])
                    none))))
            none))))) := by kernel_rfl
theorem f44_spec (a0 : NodeT) (a1 : PopT) (hg : gP2 a0 a1 = true) : ∃ keep rounds, ∀ {R : Type} (k : List Dt → Option R), evFn f44e keep rounds f44c [.ro, .ro] [false, false] true [.cell 4 27, .tmp 5] [27, 4] [.d .node a0, .d .pop a1] k = k [.d .node ((patchedI a0 a1).1), .d .bool ((patchedI a0 a1).2)] := by
  have hgp := hg
  simp only [gP2, Bool.and_eq_true] at hg
  obtain ⟨hg0, hp⟩ := hg
  obtain ⟨h1, h2, h3⟩ := sm_pop_parts hp
  have c1 : sm_node (cutPtr a0 a1.path).1 = true := (cutPtr_ok hg0).1
  have c2 : sm_node (cutPtr a0 a1.src).1 = true := (cutPtr_ok hg0).1
  have t1 : sm_node (atPtr a0 a1.path).1 = true := atPtr_sm hg0
  have t2 : sm_node (atPtr a0 a1.src).1 = true := atPtr_sm hg0
  have g1 : gP a0 a1.path a1.x = true := by simp only [gP, hg0, h1, h3, Bool.and_self]
  have g2 : gP (cutPtr a0 a1.path).1 a1.path a1.x = true := by simp only [gP, c1, h1, h3, Bool.and_self]
  have g3 : gP (cutPtr a0 a1.src).1 a1.path (atPtr a0 a1.src).1 = true := by simp only [gP, c2, h1, t2, Bool.and_self]
  have g4 : gP a0 a1.path (atPtr a0 a1.src).1 = true := by simp only [gP, hg0, h1, t2, Bool.and_self]
  have l1 := smL_len h1
  have l2 := smL_len h2
  have gl : gLenW (a1.path.take a1.src.length) = true := gLenW_of (by rw [List.length_take]; omega)
  have n0 : decide ((0 : Int) ≤ (a1.src.length : Int)) = true := decide_eq_true (by omega)
  refine ⟨f44k, 0, fun {R} k => ?_⟩
  rw [f44_run]
  simp only [eta_node, eN_eq, hg0, h1, h2, h3, c1, c2, t1, t2, g1, g2, g3, g4, sm2, Bool.and_self, cond_true, Int.toNat_natCast, List.drop_zero, gl, n0, Bool.true_and]
  show _ = k [.d .node (patchedI a0 a1).1, .d .bool (patchedI a0 a1).2]
  unfold patchedI frontOf
  simp only [bne]
  cases a1.kind == (1 : Int)
  rotate_left
  · rfl
  cases a1.kind == (2 : Int)
  rotate_left
  · rfl
  cases a1.kind == (3 : Int)
  rotate_left
  · cases (a1.path.length : Int) == (0 : Int)
    · cases (cutPtr a0 a1.path).2 <;> rfl
    · rfl
  cases a1.kind == (4 : Int)
  rotate_left
  · cases (atPtr a0 a1.path).2 <;> rfl
  cases (atPtr a0 a1.src).2
  · rfl
  cases a1.kind == (5 : Int)
  · cases a1.kind == (6 : Int) <;> rfl
  by_cases hl : (a1.path.length : Int) > (a1.src.length : Int)
  · rw [decide_eq_true hl, decide_eq_true (show (a1.src.length : Int) ≤ (a1.path.length : Int) by omega)]
    simp only [cond_true, cond_false, Bool.not_true, Bool.not_false]
    cases eqD (a1.path.take a1.src.length) a1.src
    · cases (cutPtr a0 a1.src).2 <;> rfl
    · rfl
  · rw [decide_eq_false hl]
    simp only [cond_true, cond_false, Bool.not_true, Bool.not_false]
    cases (cutPtr a0 a1.src).2 <;> rfl

noncomputable def q44 : List Dt → Option (Bool × List Dt)
  | [.d .node a0, .d .pop a1] => some ((gP2 a0 a1), [.d .node ((patchedI a0 a1).1), .d .bool ((patchedI a0 a1).2)])
  | _ => none
noncomputable def s44 : Gm.Spec := Gm.Spec.of [.ro, .ro] [false, false] true q44
theorem good44 : Gm.Good Try.prog (44, s44) := by
  have hl : ∀ x ∈ [(10, s10), (12, s12), (39, s39), (42, s42), (86, s86), (87, s87)], Gm.Good Try.prog x := List.forall_mem_cons.2 ⟨good10, List.forall_mem_cons.2 ⟨good12, List.forall_mem_cons.2 ⟨good39, List.forall_mem_cons.2 ⟨good42, List.forall_mem_cons.2 ⟨good86, List.forall_mem_cons.2 ⟨good87, List.forall_mem_nil _⟩⟩⟩⟩⟩⟩
  refine ⟨⟨spec_ok (tab_ok.env hl) (tab.natl hl) Try.func44 (by kernel_rfl : Try.f44.body = some f44c) [27, 4] (by kernel_rfl) ?_, _, Try.func44, by kernel_rfl, of_decide_eq_true (by kernel_rfl)⟩, Gm.Spec.of_natl _ _ _ _⟩
  intro ds outs h
  unfold q44 at h
  split at h
  · simp only [Option.some.injEq, Prod.mk.injEq] at h; obtain ⟨hg, h⟩ := h; cases h; exact f44_spec _ _ hg
  · cases h
/-! ### loop.example/g00465/impl.PatchOne -/
noncomputable def f13c : Code := (Try.f13.body).getD .skip
def f13k : Nat → Kp := kat [⟨[2, 3, 4], [], [], []⟩, ⟨[2, 4, 6, 7], [], [], []⟩, ⟨[2, 4, 6, 15], [], [], []⟩, ⟨[4, 5], [], [], []⟩, ⟨[4, 5], [], [], []⟩]
noncomputable def f13e : Env := tab.env [(39, s39), (44, s44)]
theorem f13_run {R : Type} (n : Nat) (k : List Dt → Option R) (a0 : NodeT) (a1 : PopT) : evFn f13e f13k n f13c [.ro, .ro] [false, false] true [.cell 4 27, .tmp 5] [27, 4] [.d .node a0, .d .pop a1] k =
    (cond (gP2 (eN a0) (⟨(PopT.kind a1), (PopT.path a1), (PopT.src a1), (eN (PopT.x a1))⟩ : PopT))
    (cond (!((patchedI (eN a0) (⟨(PopT.kind a1), (PopT.path a1), (PopT.src a1), (eN (PopT.x a1))⟩ : PopT)).2))
      (cond (sm_node (eN a0))
        (k [.d .node (eN a0), .d .bool false])
        none)
      (k [.d .node (eN ((patchedI (eN a0) (⟨(PopT.kind a1), (PopT.path a1), (PopT.src a1), (eN (PopT.x a1))⟩ : PopT)).1)), .d .bool true]))
    none) := by kernel_rfl
theorem f13_spec (a0 : NodeT) (a1 : PopT) (hg : gP2 a0 a1 = true) : ∃ keep rounds, ∀ {R : Type} (k : List Dt → Option R), evFn f13e keep rounds f13c [.ro, .ro] [false, false] true [.cell 4 27, .tmp 5] [27, 4] [.d .node a0, .d .pop a1] k = k [.d .node ((patchOne a0 a1).1), .d .bool ((patchOne a0 a1).2)] := by
  have hg0 : sm_node a0 = true := by simp only [gP2, Bool.and_eq_true] at hg; exact hg.1
  refine ⟨f13k, 0, fun {R} k => ?_⟩
  rw [f13_run]
  simp only [eta_node, eN_eq, eta_pop, hg, hg0, cond_true]
  show _ = k [.d .node (patchOne a0 a1).1, .d .bool (patchOne a0 a1).2]
  unfold patchOne
  cases (patchedI a0 a1).2 <;> rfl

noncomputable def q13 : List Dt → Option (Bool × List Dt)
  | [.d .node a0, .d .pop a1] => some ((gP2 a0 a1), [.d .node ((patchOne a0 a1).1), .d .bool ((patchOne a0 a1).2)])
  | _ => none
noncomputable def s13 : Gm.Spec := Gm.Spec.of [.ro, .ro] [false, false] true q13
theorem good13 : Gm.Good Try.prog (13, s13) := by
  have hl : ∀ x ∈ [(39, s39), (44, s44)], Gm.Good Try.prog x := List.forall_mem_cons.2 ⟨good39, List.forall_mem_cons.2 ⟨good44, List.forall_mem_nil _⟩⟩
  refine ⟨⟨spec_ok (tab_ok.env hl) (tab.natl hl) Try.func13 (by kernel_rfl : Try.f13.body = some f13c) [27, 4] (by kernel_rfl) ?_, _, Try.func13, by kernel_rfl, of_decide_eq_true (by kernel_rfl)⟩, Gm.Spec.of_natl _ _ _ _⟩
  intro ds outs h
  unfold q13 at h
  split at h
  · simp only [Option.some.injEq, Prod.mk.injEq] at h; obtain ⟨hg, h⟩ := h; cases h; exact f13_spec _ _ hg
  · cases h
end Go.Proofs.Ytalnkjjnohgjkaa

/- x -/
namespace Go.Proofs.Ytalnkjjnohgjkaa
open Go Go.Gm
/-! ### loop.example/g00465/laws.FnTested -/
noncomputable def f3c : Code := (Try.f3.body).getD .skip
def f3k : Nat → Kp := kat [⟨[0], [], [], []⟩, ⟨[0, 19], [], [], []⟩, ⟨[2], [], [], []⟩, ⟨[3, 4], [], [], []⟩, ⟨[3, 4, 6, 7], [], [], []⟩, ⟨[3, 4, 6, 7, 8, 9], [], [], []⟩, ⟨[3, 4, 6, 7, 49], [], [], []⟩, ⟨[2], [], [], []⟩, ⟨[3, 4, 6, 51], [], [], []⟩, ⟨[11], [], [], []⟩, ⟨[2], [], [], []⟩, ⟨[3, 4, 6, 13], [], [], []⟩, ⟨[3, 4, 13, 14, 15], [], [], []⟩, ⟨[3, 4, 13, 14, 15, 16, 17], [], [], []⟩, ⟨[2], [], [], []⟩]
noncomputable def f3e : Env := tab.env [(8, s8), (9, s9), (10, s10), (11, s11), (12, s12), (13, s13)]
theorem f3_run {R : Type} (n : Nat) (k : List Dt → Option R) (a0 : List Int) : evFn f3e f3k n f3c [.kp] [false] true [.tmp 2] [4] [.d (.sl (.i .u8)) a0] k =
    (cond (bigC a0)
    (k [.d .bool true])
    (cond (gCode a0)
      (cond ((fun (x : NodeT) (y : List ByteArray) => sm_node x && smL smStr y) (eN ((tDrawn a0).1)) ((tDrawn a0).2.1))
        (cond ((fun (x : NodeT) (y : List ByteArray) => sm_node x && smL smStr y) (eN ((tDrawn a0).1)) ((tDrawn a0).2.1))
          (cond (!(((atPtr (eN ((tDrawn a0).1)) ((tDrawn a0).2.1)).2) == ((atPtr (eN ((tDrawn a0).1)) ((tDrawn a0).2.1)).2)))
            (k [.d .bool false])
            (cond ((atPtr (eN ((tDrawn a0).1)) ((tDrawn a0).2.1)).2)
              (cond (sm2 sm_node (eN ((atPtr (eN ((tDrawn a0).1)) ((tDrawn a0).2.1)).1)) (eN ((atPtr (eN ((tDrawn a0).1)) ((tDrawn a0).2.1)).1)))
                (cond (!(eqD (eN ((atPtr (eN ((tDrawn a0).1)) ((tDrawn a0).2.1)).1)) (eN ((atPtr (eN ((tDrawn a0).1)) ((tDrawn a0).2.1)).1))))
                  (k [.d .bool false])
                  (cond (!((atPtr (eN ((tDrawn a0).1)) ((tDrawn a0).2.1)).2))
                    (cond (gP2 (eN ((tDrawn a0).1)) (⟨(4 : Int), ((tDrawn a0).2.1), ([] : List ByteArray), (eN ((atPtr (eN ((tDrawn a0).1)) ((tDrawn a0).2.1)).1))⟩ : PopT))
                      (k [.d .bool (!((patchOne (eN ((tDrawn a0).1)) (⟨(4 : Int), ((tDrawn a0).2.1), ([] : List ByteArray), (eN ((atPtr (eN ((tDrawn a0).1)) ((tDrawn a0).2.1)).1))⟩ : PopT)).2))])
                      none)
                    (cond (gP2 (eN ((tDrawn a0).1)) (⟨(4 : Int), ((tDrawn a0).2.1), ([] : List ByteArray), (eN ((atPtr (eN ((tDrawn a0).1)) ((tDrawn a0).2.1)).1))⟩ : PopT))
                      (cond (gP2 (eN ((tDrawn a0).1)) (⟨(3 : Int), ((tDrawn a0).2.1), ([] : List ByteArray), (eN ((atPtr (eN ((tDrawn a0).1)) ((tDrawn a0).2.1)).1))⟩ : PopT))
                        (cond (gP2 (eN ((tDrawn a0).1)) (⟨(5 : Int), ((tDrawn a0).2.1), ((tDrawn a0).2.1), (⟨(0 : Int), (0 : Int), ByteArray.empty, ([] : List ByteArray), ([] : List NodeT)⟩ : NodeT)⟩ : PopT))
                          (cond ((patchOne (eN ((tDrawn a0).1)) (⟨(4 : Int), ((tDrawn a0).2.1), ([] : List ByteArray), (eN ((atPtr (eN ((tDrawn a0).1)) ((tDrawn a0).2.1)).1))⟩ : PopT)).2)
                            (cond ((patchOne (eN ((tDrawn a0).1)) (⟨(3 : Int), ((tDrawn a0).2.1), ([] : List ByteArray), (eN ((atPtr (eN ((tDrawn a0).1)) ((tDrawn a0).2.1)).1))⟩ : PopT)).2)
                              (cond (sm2 sm_node (eN ((patchOne (eN ((tDrawn a0).1)) (⟨(3 : Int), ((tDrawn a0).2.1), ([] : List ByteArray), (eN ((atPtr (eN ((tDrawn a0).1)) ((tDrawn a0).2.1)).1))⟩ : PopT)).1)) (eN ((tDrawn a0).1)))
                                (cond (eqD (eN ((patchOne (eN ((tDrawn a0).1)) (⟨(3 : Int), ((tDrawn a0).2.1), ([] : List ByteArray), (eN ((atPtr (eN ((tDrawn a0).1)) ((tDrawn a0).2.1)).1))⟩ : PopT)).1)) (eN ((tDrawn a0).1)))
                                  (cond (!(((((tDrawn a0).2.1).length : Int) == (0 : Int)) == ((patchOne (eN ((tDrawn a0).1)) (⟨(5 : Int), ((tDrawn a0).2.1), ((tDrawn a0).2.1), (⟨(0 : Int), (0 : Int), ByteArray.empty, ([] : List ByteArray), ([] : List NodeT)⟩ : NodeT)⟩ : PopT)).2)))
                                    (cond (sm2 sm_node (eN ((patchOne (eN ((tDrawn a0).1)) (⟨(5 : Int), ((tDrawn a0).2.1), ((tDrawn a0).2.1), (⟨(0 : Int), (0 : Int), ByteArray.empty, ([] : List ByteArray), ([] : List NodeT)⟩ : NodeT)⟩ : PopT)).1)) (eN ((tDrawn a0).1)))
                                      (k [.d .bool (eqD (eN ((patchOne (eN ((tDrawn a0).1)) (⟨(5 : Int), ((tDrawn a0).2.1), ((tDrawn a0).2.1), (⟨(0 : Int), (0 : Int), ByteArray.empty, ([] : List ByteArray), ([] : List NodeT)⟩ : NodeT)⟩ : PopT)).1)) (eN ((tDrawn a0).1)))])
                                      none)
                                    (k [.d .bool false]))
                                  (k [.d .bool false]))
                                none)
                              (k [.d .bool false]))
                            (k [.d .bool false]))
                          none)
                        none)
                      none)))
                none)
              (cond (!((atPtr (eN ((tDrawn a0).1)) ((tDrawn a0).2.1)).2))
                (cond (gP2 (eN ((tDrawn a0).1)) (⟨(4 : Int), ((tDrawn a0).2.1), ([] : List ByteArray), (eN ((atPtr (eN ((tDrawn a0).1)) ((tDrawn a0).2.1)).1))⟩ : PopT))
                  (k [.d .bool (!((patchOne (eN ((tDrawn a0).1)) (⟨(4 : Int), ((tDrawn a0).2.1), ([] : List ByteArray), (eN ((atPtr (eN ((tDrawn a0).1)) ((tDrawn a0).2.1)).1))⟩ : PopT)).2))])
                  none)
                (cond (gP2 (eN ((tDrawn a0).1)) (⟨(4 : Int), ((tDrawn a0).2.1), ([] : List ByteArray), (eN ((atPtr (eN ((tDrawn a0).1)) ((tDrawn a0).2.1)).1))⟩ : PopT))
                  (cond (gP2 (eN ((tDrawn a0).1)) (⟨(3 : Int), ((tDrawn a0).2.1), ([] : List ByteArray), (eN ((atPtr (eN ((tDrawn a0).1)) ((tDrawn a0).2.1)).1))⟩ : PopT))
                    (cond (gP2 (eN ((tDrawn a0).1)) (⟨(5 : Int), ((tDrawn a0).2.1), ((tDrawn a0).2.1), (⟨(0 : Int), (0 : Int), ByteArray.empty, ([] : List ByteArray), ([] : List NodeT)⟩ : NodeT)⟩ : PopT))
                      (cond ((patchOne (eN ((tDrawn a0).1)) (⟨(4 : Int), ((tDrawn a0).2.1), ([] : List ByteArray), (eN ((atPtr (eN ((tDrawn a0).1)) ((tDrawn a0).2.1)).1))⟩ : PopT)).2)
                        (cond ((patchOne (eN ((tDrawn a0).1)) (⟨(3 : Int), ((tDrawn a0).2.1), ([] : List ByteArray), (eN ((atPtr (eN ((tDrawn a0).1)) ((tDrawn a0).2.1)).1))⟩ : PopT)).2)
                          (cond (sm2 sm_node (eN ((patchOne (eN ((tDrawn a0).1)) (⟨(3 : Int), ((tDrawn a0).2.1), ([] : List ByteArray), (eN ((atPtr (eN ((tDrawn a0).1)) ((tDrawn a0).2.1)).1))⟩ : PopT)).1)) (eN ((tDrawn a0).1)))
                            (cond (eqD (eN ((patchOne (eN ((tDrawn a0).1)) (⟨(3 : Int), ((tDrawn a0).2.1), ([] : List ByteArray), (eN ((atPtr (eN ((tDrawn a0).1)) ((tDrawn a0).2.1)).1))⟩ : PopT)).1)) (eN ((tDrawn a0).1)))
                              (cond (!(((((tDrawn a0).2.1).length : Int) == (0 : Int)) == ((patchOne (eN ((tDrawn a0).1)) (⟨(5 : Int), ((tDrawn a0).2.1), ((tDrawn a0).2.1), (⟨(0 : Int), (0 : Int), ByteArray.empty, ([] : List ByteArray), ([] : List NodeT)⟩ : NodeT)⟩ : PopT)).2)))
                                (cond (sm2 sm_node (eN ((patchOne (eN ((tDrawn a0).1)) (⟨(5 : Int), ((tDrawn a0).2.1), ((tDrawn a0).2.1), (⟨(0 : Int), (0 : Int), ByteArray.empty, ([] : List ByteArray), ([] : List NodeT)⟩ : NodeT)⟩ : PopT)).1)) (eN ((tDrawn a0).1)))
                                  (k [.d .bool (eqD (eN ((patchOne (eN ((tDrawn a0).1)) (⟨(5 : Int), ((tDrawn a0).2.1), ((tDrawn a0).2.1), (⟨(0 : Int), (0 : Int), ByteArray.empty, ([] : List ByteArray), ([] : List NodeT)⟩ : NodeT)⟩ : PopT)).1)) (eN ((tDrawn a0).1)))])
                                  none)
                                (k [.d .bool false]))
                              (k [.d .bool false]))
                            none)
                          (k [.d .bool false]))
                        (k [.d .bool false]))
                      none)
                    none)
                  none))))
          none)
        none)
      none)) := by kernel_rfl
theorem f3_spec (a0 : List Int) : ∃ keep rounds, ∀ {R : Type} (k : List Dt → Option R), evFn f3e keep rounds f3c [.kp] [false] true [.tmp 2] [4] [.d (.sl (.i .u8)) a0] k = k [.d .bool ((fun (_ : List Int) => true) a0)] := by
  refine ⟨f3k, 0, fun {R} k => ?_⟩
  rw [f3_run]
  show _ = k [.d .bool true]
  cases hbig : bigC a0
  rotate_left
  · simp only [cond_true]
  have hc := gCode_of hbig
  obtain ⟨⟨s1, z1, w1⟩, hw, -⟩ := tDrawn_ok a0 hc
  revert s1 z1 w1 hw
  generalize (tDrawn a0).1 = t, (tDrawn a0).2.1 = p
  intro s1 z1 w1 hw
  obtain ⟨hp, hz⟩ := gWay_iff.1 hw
  have s2 := atPtr_sm (path := p) s1
  have z2 := atPtr_sz t p
  have g1 : ∀ (k : Int) (q : List ByteArray) (x : NodeT), okI k = true → smL smStr q = true → sm_node x = true → gP2 t ⟨k, p, q, x⟩ = true := by
    intro k q x hk hq hx
    simp only [gP2, s1, sm_pop, hk, hp, hq, hx, Bool.and_self]
  have n0 : sm_node ⟨0, 0, ByteArray.empty, [], []⟩ = true := by decide
  have ga := g1 4 [] (atPtr t p).1 rfl rfl s2
  have gb := g1 3 [] (atPtr t p).1 rfl rfl s2
  have gc := g1 5 p ⟨0, 0, ByteArray.empty, [], []⟩ rfl hp n0
  cases ha : (atPtr t p).2
  · simp only [eN_eq, hc, s1, s2, hp, ha, ga, test_no ha, beq_self_eq_true, Bool.and_self, Bool.not_true, Bool.not_false, cond_true, cond_false]
  · simp only [eN_eq, hc, s1, s2, hp, ha, ga, gb, gc, sm2, test_yes ha, replace_yes w1 ha, move_yes w1 ha, eqD_self, beq_self_eq_true, Bool.and_self, Bool.not_true, Bool.not_false, cond_true, cond_false]
    cases ((p.length : Int) == (0 : Int)) <;> rfl

noncomputable def q3 : List Dt → Option (Bool × List Dt)
  | [.d (.sl (.i .u8)) a0] => some (true, [.d .bool ((fun (_ : List Int) => true) a0)])
  | _ => none
noncomputable def s3 : Gm.Spec := Gm.Spec.of [.kp] [false] true q3
theorem good3 : Gm.Good Try.prog (3, s3) := by
  have hl : ∀ x ∈ [(8, s8), (9, s9), (10, s10), (11, s11), (12, s12), (13, s13)], Gm.Good Try.prog x := List.forall_mem_cons.2 ⟨good8, List.forall_mem_cons.2 ⟨good9, List.forall_mem_cons.2 ⟨good10, List.forall_mem_cons.2 ⟨good11, List.forall_mem_cons.2 ⟨good12, List.forall_mem_cons.2 ⟨good13, List.forall_mem_nil _⟩⟩⟩⟩⟩⟩
  refine ⟨⟨spec_ok (tab_ok.env hl) (tab.natl hl) Try.func3 (by kernel_rfl : Try.f3.body = some f3c) [4] (by kernel_rfl) ?_, _, Try.func3, by kernel_rfl, of_decide_eq_true (by kernel_rfl)⟩, Gm.Spec.of_natl _ _ _ _⟩
  intro ds outs h
  unfold q3 at h
  split at h
  · cases h; exact f3_spec _
  · cases h
end Go.Proofs.Ytalnkjjnohgjkaa

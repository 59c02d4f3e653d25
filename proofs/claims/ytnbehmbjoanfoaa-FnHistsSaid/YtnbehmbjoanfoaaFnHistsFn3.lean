/- What the functions compute, part 3. No conditions. -/
import Derived.Test.YtnbehmbjoanfoaaFnHistsFn2
namespace Go.Proofs.Ytnbehmbjoanfoaa
open Go Go.Gm
noncomputable def f38c : Code := (Try.f38.body).getD .skip
def f38k : Nat → Kp := kat [⟨[1, 2], [], [], []⟩, ⟨[1, 2, 21], [], [], []⟩, ⟨[4, 5], [], [], []⟩, ⟨[4, 5], [], [], []⟩]
noncomputable def f38e : Env := tab.env [(11, s11), (54, s54), (84, s84)]
theorem f38_run {R : Type} (n : Nat) (k : List Dt → Option R) (a0 : HistT) (a1 : Int) : evFn f38e f38k n f38c [.ro, .ro] [false, false] true [.tmp 4, .tmp 5] [27, 4] [.d .hist a0, .d (.i .i64) a1] k =
    (cond (sm_hist a0)
  (cond (!(histOk a0))
   (k [.d (.sl .event) ([] : List EventT), .d .bool false])
   (cond (!(inR a1 (HistT.base a0) (IntKind.wrap .i64 ((HistT.base a0) + ((HistT.list a0).length : Int)))))
    (k [.d (.sl .event) ([] : List EventT), .d .bool false])
    (cond ((decide ((0 : Int) ≤ (IntKind.wrap .i64 (a1 - (HistT.base a0))))) && ((decide ((IntKind.wrap .i64 (a1 - (HistT.base a0))) ≤ ((HistT.list a0).length : Int))) && (decide (((HistT.list a0).length : Int) ≤ ((HistT.list a0).length : Int)))))
     (cond (smL sm_event (((HistT.list a0).take (Int.toNat ((HistT.list a0).length : Int))).drop (Int.toNat (IntKind.wrap .i64 (a1 - (HistT.base a0))))))
      (k [.d (.sl .event) (((HistT.list a0).take (Int.toNat ((HistT.list a0).length : Int))).drop (Int.toNat (IntKind.wrap .i64 (a1 - (HistT.base a0))))), .d .bool true])
      none)
     none)))
  none) := by kernel_rfl
theorem f38_spec (a0 : HistT) (a1 : Int) (hg : gHistN a0 a1 = true) : ∃ keep rounds, ∀ {R : Type} (k : List Dt → Option R), evFn f38e keep rounds f38c [.ro, .ro] [false, false] true [.tmp 4, .tmp 5] [27, 4] [.d .hist a0, .d (.i .i64) a1] k = k [.d (.sl .event) ((since a0 a1).1), .d .bool ((since a0 a1).2)] := by
  simp only [gHistN, Bool.and_eq_true, okI_iff] at hg
  obtain ⟨hg, hn⟩ := hg
  have hg1 := hg
  simp only [sm_hist, Bool.and_eq_true] at hg1
  refine ⟨f38k, 0, fun {R} k => ?_⟩
  rw [f38_run]
  simp only [hg, cond_true]
  show _ = k [.d (.sl .event) (since a0 a1).1, .d .bool (since a0 a1).2]
  unfold since
  cases ho : histOk a0
  · rfl
  obtain ⟨h1, h2, h3, _⟩ := histOk_b ho
  rw [wrap_id (x := a0.base + (a0.list.length : Int)) (by omega) (by omega)]
  cases hr : inR a1 a0.base (a0.base + (a0.list.length : Int))
  · rfl
  rw [inR_iff] at hr
  rw [wrap_id (x := a1 - a0.base) (by omega) (by omega)]
  have d1 : decide ((0 : Int) ≤ a1 - a0.base) = true := decide_eq_true (by omega)
  have d2 : decide (a1 - a0.base ≤ (a0.list.length : Int)) = true := decide_eq_true (by omega)
  have d3 : decide ((a0.list.length : Int) ≤ (a0.list.length : Int)) = true := decide_eq_true (Int.le_refl _)
  simp only [d1, d2, d3, Bool.not_true, cond_true, cond_false, Bool.and_self, Int.toNat_natCast, List.take_length, smL_drop hg1.2]
noncomputable def q38 : List Dt → Option (Bool × List Dt)
  | [.d .hist a0, .d (.i .i64) a1] => some ((gHistN a0 a1), [.d (.sl .event) ((since a0 a1).1), .d .bool ((since a0 a1).2)])
  | _ => none
noncomputable def s38 : Gm.Spec := Gm.Spec.of [.ro, .ro] [false, false] true q38
theorem good38 : Gm.Good Try.prog (38, s38) := by
  have hl : ∀ x ∈ [(11, s11), (54, s54), (84, s84)], Gm.Good Try.prog x := List.forall_mem_cons.2 ⟨good11, List.forall_mem_cons.2 ⟨good54, List.forall_mem_cons.2 ⟨good84, List.forall_mem_nil _⟩⟩⟩
  refine ⟨⟨spec_ok (tab_ok.env hl) (tab.natl hl) Try.func38 (by kernel_rfl : Try.f38.body = some f38c) [27, 4] (by kernel_rfl) ?_, _, Try.func38, by kernel_rfl, of_decide_eq_true (by kernel_rfl)⟩, Gm.Spec.of_natl _ _ _ _⟩
  intro ds outs h
  unfold q38 at h
  split at h
  · simp only [Option.some.injEq, Prod.mk.injEq] at h; obtain ⟨hg, h⟩ := h; cases h; exact f38_spec _ _ hg
  · cases h
noncomputable def f23c : Code := (Try.f23.body).getD .skip
def f23k : Nat → Kp := kat [⟨[1, 2], [], [], []⟩, ⟨[1, 2, 21], [], [], []⟩, ⟨[4, 5], [], [], []⟩, ⟨[4, 5], [], [], []⟩]
noncomputable def f23e : Env := tab.env [(13, s13), (56, s56), (67, s67)]
theorem f23_run {R : Type} (n : Nat) (k : List Dt → Option R) (a0 : HistT) (a1 : Int) : evFn f23e f23k n f23c [.ro, .ro] [false, false] true [.tmp 4, .tmp 5] [27, 4] [.d .hist a0, .d (.i .i64) a1] k =
    (cond (sm_hist a0)
  (cond (!(histOk a0))
   (k [.d (.sl .event) ([] : List EventT), .d .bool false])
   (cond (!(inR a1 (HistT.base a0) (IntKind.wrap .i64 ((HistT.base a0) + ((HistT.list a0).length : Int)))))
    (k [.d (.sl .event) ([] : List EventT), .d .bool false])
    (cond ((decide ((0 : Int) ≤ (IntKind.wrap .i64 (a1 - (HistT.base a0))))) && ((decide ((IntKind.wrap .i64 (a1 - (HistT.base a0))) ≤ ((HistT.list a0).length : Int))) && (decide (((HistT.list a0).length : Int) ≤ ((HistT.list a0).length : Int)))))
     (cond (smL sm_event (((HistT.list a0).take (Int.toNat ((HistT.list a0).length : Int))).drop (Int.toNat (IntKind.wrap .i64 (a1 - (HistT.base a0))))))
      (k [.d (.sl .event) (((HistT.list a0).take (Int.toNat ((HistT.list a0).length : Int))).drop (Int.toNat (IntKind.wrap .i64 (a1 - (HistT.base a0))))), .d .bool true])
      none)
     none)))
  none) := by kernel_rfl
theorem f23_spec (a0 : HistT) (a1 : Int) (hg : gHistN a0 a1 = true) : ∃ keep rounds, ∀ {R : Type} (k : List Dt → Option R), evFn f23e keep rounds f23c [.ro, .ro] [false, false] true [.tmp 4, .tmp 5] [27, 4] [.d .hist a0, .d (.i .i64) a1] k = k [.d (.sl .event) ((since a0 a1).1), .d .bool ((since a0 a1).2)] := by
  simp only [gHistN, Bool.and_eq_true, okI_iff] at hg
  obtain ⟨hg, hn⟩ := hg
  have hg1 := hg
  simp only [sm_hist, Bool.and_eq_true] at hg1
  refine ⟨f23k, 0, fun {R} k => ?_⟩
  rw [f23_run]
  simp only [hg, cond_true]
  show _ = k [.d (.sl .event) (since a0 a1).1, .d .bool (since a0 a1).2]
  unfold since
  cases ho : histOk a0
  · rfl
  obtain ⟨h1, h2, h3, _⟩ := histOk_b ho
  rw [wrap_id (x := a0.base + (a0.list.length : Int)) (by omega) (by omega)]
  cases hr : inR a1 a0.base (a0.base + (a0.list.length : Int))
  · rfl
  rw [inR_iff] at hr
  rw [wrap_id (x := a1 - a0.base) (by omega) (by omega)]
  have d1 : decide ((0 : Int) ≤ a1 - a0.base) = true := decide_eq_true (by omega)
  have d2 : decide (a1 - a0.base ≤ (a0.list.length : Int)) = true := decide_eq_true (by omega)
  have d3 : decide ((a0.list.length : Int) ≤ (a0.list.length : Int)) = true := decide_eq_true (Int.le_refl _)
  simp only [d1, d2, d3, Bool.not_true, cond_true, cond_false, Bool.and_self, Int.toNat_natCast, List.take_length, smL_drop hg1.2]
noncomputable def q23 : List Dt → Option (Bool × List Dt)
  | [.d .hist a0, .d (.i .i64) a1] => some ((gHistN a0 a1), [.d (.sl .event) ((since a0 a1).1), .d .bool ((since a0 a1).2)])
  | _ => none
noncomputable def s23 : Gm.Spec := Gm.Spec.of [.ro, .ro] [false, false] true q23
theorem good23 : Gm.Good Try.prog (23, s23) := by
  have hl : ∀ x ∈ [(13, s13), (56, s56), (67, s67)], Gm.Good Try.prog x := List.forall_mem_cons.2 ⟨good13, List.forall_mem_cons.2 ⟨good56, List.forall_mem_cons.2 ⟨good67, List.forall_mem_nil _⟩⟩⟩
  refine ⟨⟨spec_ok (tab_ok.env hl) (tab.natl hl) Try.func23 (by kernel_rfl : Try.f23.body = some f23c) [27, 4] (by kernel_rfl) ?_, _, Try.func23, by kernel_rfl, of_decide_eq_true (by kernel_rfl)⟩, Gm.Spec.of_natl _ _ _ _⟩
  intro ds outs h
  unfold q23 at h
  split at h
  · simp only [Option.some.injEq, Prod.mk.injEq] at h; obtain ⟨hg, h⟩ := h; cases h; exact f23_spec _ _ hg
  · cases h
noncomputable def f46c : Code := (Try.f46.body).getD .skip
def f46k : Nat → Kp := kat [⟨[1, 2, 4], [], [], []⟩, ⟨[1, 2, 4, 5, 6], [], [], []⟩, ⟨[1, 2, 4, 5, 18], [], [], []⟩, ⟨[4], [], [], []⟩, ⟨[4], [], [], []⟩]
noncomputable def f46e : Env := tab.env [(38, s38), (86, s86)]
theorem f46_run {R : Type} (n : Nat) (k : List Dt → Option R) (a0 : HistT) (a1 : Int) : evFn f46e f46k n f46c [.ro, .ro] [false] true [.cell 4 29] [29] [.d .hist a0, .d (.i .i64) a1] k =
    (cond (gHistN a0 a1)
  (cond (!((since a0 a1).2))
   (cond (sm_hist a0)
    (k [.d .hist a0])
    none)
   (cond (decide (a1 > (100000 : Int)))
    (cond (sm_hist a0)
     (k [.d .hist a0])
     none)
    (k [.d .hist (⟨a1, ((since a0 a1).1)⟩ : HistT)])))
  none) := by kernel_rfl
theorem f46_spec (a0 : HistT) (a1 : Int) (hg : gHistN a0 a1 = true) : ∃ keep rounds, ∀ {R : Type} (k : List Dt → Option R), evFn f46e keep rounds f46c [.ro, .ro] [false] true [.cell 4 29] [29] [.d .hist a0, .d (.i .i64) a1] k = k [.d .hist (compact a0 a1)] := by
  have hg0 := hg
  simp only [gHistN, Bool.and_eq_true] at hg
  refine ⟨f46k, 0, fun {R} k => ?_⟩
  rw [f46_run]
  simp only [hg0, hg.1, cond_true]
  unfold compact
  cases (since a0 a1).2 <;> cases decide (a1 > 100000) <;> rfl
noncomputable def q46 : List Dt → Option (Bool × List Dt)
  | [.d .hist a0, .d (.i .i64) a1] => some ((gHistN a0 a1), [.d .hist (compact a0 a1)])
  | _ => none
noncomputable def s46 : Gm.Spec := Gm.Spec.of [.ro, .ro] [false] true q46
theorem good46 : Gm.Good Try.prog (46, s46) := by
  have hl : ∀ x ∈ [(38, s38), (86, s86)], Gm.Good Try.prog x := List.forall_mem_cons.2 ⟨good38, List.forall_mem_cons.2 ⟨good86, List.forall_mem_nil _⟩⟩
  refine ⟨⟨spec_ok (tab_ok.env hl) (tab.natl hl) Try.func46 (by kernel_rfl : Try.f46.body = some f46c) [29] (by kernel_rfl) ?_, _, Try.func46, by kernel_rfl, of_decide_eq_true (by kernel_rfl)⟩, Gm.Spec.of_natl _ _ _ _⟩
  intro ds outs h
  unfold q46 at h
  split at h
  · simp only [Option.some.injEq, Prod.mk.injEq] at h; obtain ⟨hg, h⟩ := h; cases h; exact f46_spec _ _ hg
  · cases h
noncomputable def f45c : Code := (Try.f45.body).getD .skip
def f45k : Nat → Kp := kat [⟨[1, 2, 4], [], [], []⟩, ⟨[1, 2, 4, 5], [], [], []⟩, ⟨[1, 2, 4, 5, 24], [], [], []⟩, ⟨[4], [], [], []⟩, ⟨[1, 4, 5], [], [], []⟩, ⟨[4, 5], [], [], []⟩, ⟨[4], [], [], []⟩]
noncomputable def f45e : Env := tab.env [(13, s13), (56, s56), (65, s65)]
theorem f45_run {R : Type} (n : Nat) (k : List Dt → Option R) (a0 : HistT) (a1 : Int) : evFn f45e f45k n f45c [.ro, .ro] [false] true [.cell 4 29] [29] [.d .hist a0, .d (.i .i64) a1] k =
    (cond (sm_hist a0)
  (cond (sm_hist a0)
   (cond (!(histOk a0))
    (k [.d .hist a0])
    (cond (!(inR a1 (HistT.base a0) (if (100000 : Int) < (IntKind.wrap .i64 ((HistT.base a0) + ((HistT.list a0).length : Int))) then (100000 : Int) else (IntKind.wrap .i64 ((HistT.base a0) + ((HistT.list a0).length : Int))))))
     (k [.d .hist a0])
     (cond ((decide ((0 : Int) ≤ (IntKind.wrap .i64 (a1 - (HistT.base a0))))) && ((decide ((IntKind.wrap .i64 (a1 - (HistT.base a0))) ≤ ((HistT.list a0).length : Int))) && (decide (((HistT.list a0).length : Int) ≤ ((HistT.list a0).length : Int)))))
      (k [.d .hist (⟨a1, (((HistT.list a0).take (Int.toNat ((HistT.list a0).length : Int))).drop (Int.toNat (IntKind.wrap .i64 (a1 - (HistT.base a0)))))⟩ : HistT)])
      none)))
   none)
  none) := by kernel_rfl
theorem f45_spec (a0 : HistT) (a1 : Int) (hg : gHistN a0 a1 = true) : ∃ keep rounds, ∀ {R : Type} (k : List Dt → Option R), evFn f45e keep rounds f45c [.ro, .ro] [false] true [.cell 4 29] [29] [.d .hist a0, .d (.i .i64) a1] k = k [.d .hist (compact a0 a1)] := by
  simp only [gHistN, Bool.and_eq_true, okI_iff] at hg
  obtain ⟨hg, hn⟩ := hg
  refine ⟨f45k, 0, fun {R} k => ?_⟩
  rw [f45_run]
  simp only [hg, cond_true]
  unfold compact since
  cases ho : histOk a0
  · rfl
  obtain ⟨h1, h2, h3, _⟩ := histOk_b ho
  rw [wrap_id (x := a0.base + (a0.list.length : Int)) (by omega) (by omega)]
  have hm : inR a1 a0.base (if (100000 : Int) < a0.base + (a0.list.length : Int) then (100000 : Int) else a0.base + (a0.list.length : Int)) = (inR a1 a0.base (a0.base + (a0.list.length : Int)) && !(decide (a1 > 100000))) := by
    rw [Bool.eq_iff_iff]
    simp only [inR_iff, Bool.and_eq_true, Bool.not_eq_true', decide_eq_false_iff_not]
    split <;> omega
  rw [hm]
  cases hr : inR a1 a0.base (a0.base + (a0.list.length : Int))
  · rfl
  rw [inR_iff] at hr
  by_cases hv : a1 > 100000
  · simp only [hv, decide_true, Bool.not_true, Bool.not_false, Bool.and_false, cond_true, cond_false]
  rw [wrap_id (x := a1 - a0.base) (by omega) (by omega)]
  have d1 : decide ((0 : Int) ≤ a1 - a0.base) = true := decide_eq_true (by omega)
  have d2 : decide (a1 - a0.base ≤ (a0.list.length : Int)) = true := decide_eq_true (by omega)
  have d3 : decide ((a0.list.length : Int) ≤ (a0.list.length : Int)) = true := decide_eq_true (Int.le_refl _)
  simp only [hv, decide_false, d1, d2, d3, Bool.not_true, Bool.not_false, cond_true, cond_false, Bool.and_self, Int.toNat_natCast, List.take_length]
noncomputable def q45 : List Dt → Option (Bool × List Dt)
  | [.d .hist a0, .d (.i .i64) a1] => some ((gHistN a0 a1), [.d .hist (compact a0 a1)])
  | _ => none
noncomputable def s45 : Gm.Spec := Gm.Spec.of [.ro, .ro] [false] true q45
theorem good45 : Gm.Good Try.prog (45, s45) := by
  have hl : ∀ x ∈ [(13, s13), (56, s56), (65, s65)], Gm.Good Try.prog x := List.forall_mem_cons.2 ⟨good13, List.forall_mem_cons.2 ⟨good56, List.forall_mem_cons.2 ⟨good65, List.forall_mem_nil _⟩⟩⟩
  refine ⟨⟨spec_ok (tab_ok.env hl) (tab.natl hl) Try.func45 (by kernel_rfl : Try.f45.body = some f45c) [29] (by kernel_rfl) ?_, _, Try.func45, by kernel_rfl, of_decide_eq_true (by kernel_rfl)⟩, Gm.Spec.of_natl _ _ _ _⟩
  intro ds outs h
  unfold q45 at h
  split at h
  · simp only [Option.some.injEq, Prod.mk.injEq] at h; obtain ⟨hg, h⟩ := h; cases h; exact f45_spec _ _ hg
  · cases h
noncomputable def f43c : Code := (Try.f43.body).getD .skip
def f43k : Nat → Kp := kat [⟨[1, 3, 5, 6], [], [], []⟩, ⟨[1, 3, 5, 6, 10], [], [], []⟩, ⟨[6], [], [], []⟩, ⟨[1, 3, 5, 6, 7], [], [], []⟩, ⟨[3, 6, 7], [], [], []⟩, ⟨[3, 6, 7, 34], [], [], []⟩, ⟨[3, 6, 7], [], [], []⟩, ⟨[3, 6, 7, 44], [], [], []⟩, ⟨[6], [], [], []⟩, ⟨[6], [], [], []⟩]
noncomputable def f43e : Env := tab.env [(11, s11), (71, s71), (86, s86)]
theorem f43_run {R : Type} (n : Nat) (k : List Dt → Option R) (a0 : HistT) (a1 : Int) (a2 : ItemT) : evFn f43e f43k n f43c [.ro, .ro, .ro] [false] true [.cell 6 29] [29] [.d .hist a0, .d (.i .i64) a1, .d .item a2] k =
    (cond (sm_hist a0)
  (cond (!(histOk a0))
   (cond (sm_hist a0)
    (k [.d .hist a0])
    none)
   (cond (sm_hist a0)
    (cond (sm_item a2)
     (cond (Nat.ble ((HistT.list a0).length + 1) LIM)
      (cond (decide ((((HistT.list a0) ++ ([(⟨(IntKind.wrap .i64 ((IntKind.wrap .i64 ((HistT.base a0) + (1 : Int))) + ((HistT.list a0).length : Int))), a1, a2⟩ : EventT)] : List EventT)).length : Int) > (60 : Int)))
       (cond ((decide ((1 : Int) ≤ (((HistT.list a0) ++ ([(⟨(IntKind.wrap .i64 ((IntKind.wrap .i64 ((HistT.base a0) + (1 : Int))) + ((HistT.list a0).length : Int))), a1, a2⟩ : EventT)] : List EventT)).length : Int))) && (decide ((((HistT.list a0) ++ ([(⟨(IntKind.wrap .i64 ((IntKind.wrap .i64 ((HistT.base a0) + (1 : Int))) + ((HistT.list a0).length : Int))), a1, a2⟩ : EventT)] : List EventT)).length : Int) ≤ (((HistT.list a0) ++ ([(⟨(IntKind.wrap .i64 ((IntKind.wrap .i64 ((HistT.base a0) + (1 : Int))) + ((HistT.list a0).length : Int))), a1, a2⟩ : EventT)] : List EventT)).length : Int))))
        (cond (sm_hist (⟨(IntKind.wrap .i64 ((HistT.base a0) + (1 : Int))), ((((HistT.list a0) ++ ([(⟨(IntKind.wrap .i64 ((IntKind.wrap .i64 ((HistT.base a0) + (1 : Int))) + ((HistT.list a0).length : Int))), a1, a2⟩ : EventT)] : List EventT)).take (Int.toNat (((HistT.list a0) ++ ([(⟨(IntKind.wrap .i64 ((IntKind.wrap .i64 ((HistT.base a0) + (1 : Int))) + ((HistT.list a0).length : Int))), a1, a2⟩ : EventT)] : List EventT)).length : Int))).drop 1)⟩ : HistT))
         (cond (!(histOk (⟨(IntKind.wrap .i64 ((HistT.base a0) + (1 : Int))), ((((HistT.list a0) ++ ([(⟨(IntKind.wrap .i64 ((IntKind.wrap .i64 ((HistT.base a0) + (1 : Int))) + ((HistT.list a0).length : Int))), a1, a2⟩ : EventT)] : List EventT)).take (Int.toNat (((HistT.list a0) ++ ([(⟨(IntKind.wrap .i64 ((IntKind.wrap .i64 ((HistT.base a0) + (1 : Int))) + ((HistT.list a0).length : Int))), a1, a2⟩ : EventT)] : List EventT)).length : Int))).drop 1)⟩ : HistT)))
          (cond (sm_hist a0)
           (k [.d .hist a0])
           none)
          (k [.d .hist (⟨(IntKind.wrap .i64 ((HistT.base a0) + (1 : Int))), ((((HistT.list a0) ++ ([(⟨(IntKind.wrap .i64 ((IntKind.wrap .i64 ((HistT.base a0) + (1 : Int))) + ((HistT.list a0).length : Int))), a1, a2⟩ : EventT)] : List EventT)).take (Int.toNat (((HistT.list a0) ++ ([(⟨(IntKind.wrap .i64 ((IntKind.wrap .i64 ((HistT.base a0) + (1 : Int))) + ((HistT.list a0).length : Int))), a1, a2⟩ : EventT)] : List EventT)).length : Int))).drop 1)⟩ : HistT)]))
         none)
        none)
       (cond (sm_hist (⟨(HistT.base a0), ((HistT.list a0) ++ ([(⟨(IntKind.wrap .i64 ((IntKind.wrap .i64 ((HistT.base a0) + (1 : Int))) + ((HistT.list a0).length : Int))), a1, a2⟩ : EventT)] : List EventT))⟩ : HistT))
        (cond (!(histOk (⟨(HistT.base a0), ((HistT.list a0) ++ ([(⟨(IntKind.wrap .i64 ((IntKind.wrap .i64 ((HistT.base a0) + (1 : Int))) + ((HistT.list a0).length : Int))), a1, a2⟩ : EventT)] : List EventT))⟩ : HistT)))
         (cond (sm_hist a0)
          (k [.d .hist a0])
          none)
         (k [.d .hist (⟨(HistT.base a0), ((HistT.list a0) ++ ([(⟨(IntKind.wrap .i64 ((IntKind.wrap .i64 ((HistT.base a0) + (1 : Int))) + ((HistT.list a0).length : Int))), a1, a2⟩ : EventT)] : List EventT))⟩ : HistT)]))
        none))
      none)
     none)
    none))
  none) := by kernel_rfl
theorem f43_spec (a0 : HistT) (a1 : Int) (a2 : ItemT) (hg : gHistAdd a0 a1 a2 = true) : ∃ keep rounds, ∀ {R : Type} (k : List Dt → Option R), evFn f43e keep rounds f43c [.ro, .ro, .ro] [false] true [.cell 6 29] [29] [.d .hist a0, .d (.i .i64) a1, .d .item a2] k = k [.d .hist (histAdd a0 a1 a2)] := by
  simp only [gHistAdd, Bool.and_eq_true] at hg
  obtain ⟨hg, hk, hx⟩ := hg
  have hg1 := hg
  simp only [sm_hist, Bool.and_eq_true] at hg1
  refine ⟨f43k, 0, fun {R} k => ?_⟩
  rw [f43_run]
  simp only [hg, hx, cond_true]
  unfold histAdd
  cases ho : histOk a0
  · rfl
  obtain ⟨h1, h2, h3, h4⟩ := histOk_b ho
  have e0 : (⟨a0.base + 1 + (a0.list.length : Int), a1, a2⟩ : EventT) = evNew a0 a1 a2 := rfl
  have hl := smL_snoc hg1.2 (evNew_sm hk hx ho) (by omega)
  have s1 : sm_hist ⟨a0.base + 1, (a0.list ++ [evNew a0 a1 a2]).drop 1⟩ = true := by
    simp only [sm_hist, Bool.and_eq_true]; exact ⟨okI_small (by omega) (by omega), smL_drop hl 1⟩
  have s2 : sm_hist ⟨a0.base, a0.list ++ [evNew a0 a1 a2]⟩ = true := by
    simp only [sm_hist, Bool.and_eq_true]; exact ⟨hg1.1, hl⟩
  have hlen : ((a0.list ++ [evNew a0 a1 a2]).length : Int) = (a0.list.length : Int) + 1 := by rw [List.length_append, List.length_cons, List.length_nil]; omega
  rw [wrap_id (x := a0.base + 1) (by omega) (by omega), wrap_id (x := a0.base + 1 + (a0.list.length : Int)) (by omega) (by omega)]
  simp only [Bool.not_true, cond_true, cond_false, limLe1 (smL_len hg1.2), e0]
  have hc : decide (((a0.list ++ [evNew a0 a1 a2]).length : Int) > 60) = decide (a0.list.length ≥ 60) := by
    rw [Bool.eq_iff_iff]; simp only [decide_eq_true_eq, hlen]; omega
  have d1 : decide ((1 : Int) ≤ ((a0.list ++ [evNew a0 a1 a2]).length : Int)) = true := decide_eq_true (by omega)
  have d2 : decide ((0 : Int) < ((a0.list ++ [evNew a0 a1 a2]).length : Int)) = true := decide_eq_true (by omega)
  have d3 : decide (((a0.list ++ [evNew a0 a1 a2]).length : Int) ≤ ((a0.list ++ [evNew a0 a1 a2]).length : Int)) = true := decide_eq_true (Int.le_refl _)
  rw [hc]
  by_cases h60 : a0.list.length ≥ 60
  · have hs : (atI (t := .event) (a0.list ++ [evNew a0 a1 a2]) 0).seq = a0.base + 1 := by
      have h0 : (a0.list ++ [evNew a0 a1 a2])[0]? = a0.list[0]? := List.getElem?_append_left (by omega)
      have := h4 0 (by omega)
      simp only [eventC, Bool.and_eq_true, beq_iff_eq] at this
      have h5 := this.1
      unfold atI at h5 ⊢
      rw [List.getD, h0]
      rw [List.getD] at h5
      rw [h5]; omega
    simp only [h60, hs, d1, d2, d3, decide_true, cond_true, Bool.and_self, Int.toNat_natCast, List.take_length, s1]
    cases histOk ⟨a0.base + 1, (a0.list ++ [evNew a0 a1 a2]).drop 1⟩ <;> rfl
  · simp only [h60, decide_false, cond_false, s2, cond_true]
    cases histOk ⟨a0.base, a0.list ++ [evNew a0 a1 a2]⟩ <;> rfl
noncomputable def q43 : List Dt → Option (Bool × List Dt)
  | [.d .hist a0, .d (.i .i64) a1, .d .item a2] => some ((gHistAdd a0 a1 a2), [.d .hist (histAdd a0 a1 a2)])
  | _ => none
noncomputable def s43 : Gm.Spec := Gm.Spec.of [.ro, .ro, .ro] [false] true q43
theorem good43 : Gm.Good Try.prog (43, s43) := by
  have hl : ∀ x ∈ [(11, s11), (71, s71), (86, s86)], Gm.Good Try.prog x := List.forall_mem_cons.2 ⟨good11, List.forall_mem_cons.2 ⟨good71, List.forall_mem_cons.2 ⟨good86, List.forall_mem_nil _⟩⟩⟩
  refine ⟨⟨spec_ok (tab_ok.env hl) (tab.natl hl) Try.func43 (by kernel_rfl : Try.f43.body = some f43c) [29] (by kernel_rfl) ?_, _, Try.func43, by kernel_rfl, of_decide_eq_true (by kernel_rfl)⟩, Gm.Spec.of_natl _ _ _ _⟩
  intro ds outs h
  unfold q43 at h
  split at h
  · simp only [Option.some.injEq, Prod.mk.injEq] at h; obtain ⟨hg, h⟩ := h; cases h; exact f43_spec _ _ _ hg
  · cases h
noncomputable def f21c : Code := (Try.f21.body).getD .skip
def f21k : Nat → Kp := kat [⟨[1, 3, 5, 6], [], [], []⟩, ⟨[1, 3, 5, 6, 10], [], [], []⟩, ⟨[6], [], [], []⟩, ⟨[1, 3, 5, 6, 7], [], [], []⟩, ⟨[3, 6, 7], [], [], []⟩, ⟨[3, 6, 7, 34], [], [], []⟩, ⟨[3, 6, 7], [], [], []⟩, ⟨[3, 6, 7], [], [], []⟩, ⟨[3, 6, 7, 47], [], [], []⟩, ⟨[6], [], [], []⟩, ⟨[6], [], [], []⟩]
noncomputable def f21e : Env := tab.env [(13, s13), (61, s61), (65, s65)]
theorem f21_run {R : Type} (n : Nat) (k : List Dt → Option R) (a0 : HistT) (a1 : Int) (a2 : ItemT) : evFn f21e f21k n f21c [.ro, .ro, .ro] [false] true [.cell 6 29] [29] [.d .hist a0, .d (.i .i64) a1, .d .item a2] k =
    (cond (sm_hist a0)
  (cond (!(histOk a0))
   (cond (sm_hist a0)
    (k [.d .hist a0])
    none)
   (cond (sm_hist a0)
    (cond (sm_item a2)
     (cond (Nat.ble ((HistT.list a0).length + 1) LIM)
      (cond (decide ((((HistT.list a0) ++ ([(⟨(IntKind.wrap .i64 ((IntKind.wrap .i64 ((HistT.base a0) + ((HistT.list a0).length : Int))) + (1 : Int))), a1, a2⟩ : EventT)] : List EventT)).length : Int) > (60 : Int)))
       (cond (decide ((0 : Int) < (((HistT.list a0) ++ ([(⟨(IntKind.wrap .i64 ((IntKind.wrap .i64 ((HistT.base a0) + ((HistT.list a0).length : Int))) + (1 : Int))), a1, a2⟩ : EventT)] : List EventT)).length : Int)))
        (cond ((decide ((1 : Int) ≤ (((HistT.list a0) ++ ([(⟨(IntKind.wrap .i64 ((IntKind.wrap .i64 ((HistT.base a0) + ((HistT.list a0).length : Int))) + (1 : Int))), a1, a2⟩ : EventT)] : List EventT)).length : Int))) && (decide ((((HistT.list a0) ++ ([(⟨(IntKind.wrap .i64 ((IntKind.wrap .i64 ((HistT.base a0) + ((HistT.list a0).length : Int))) + (1 : Int))), a1, a2⟩ : EventT)] : List EventT)).length : Int) ≤ (((HistT.list a0) ++ ([(⟨(IntKind.wrap .i64 ((IntKind.wrap .i64 ((HistT.base a0) + ((HistT.list a0).length : Int))) + (1 : Int))), a1, a2⟩ : EventT)] : List EventT)).length : Int))))
         (cond (sm_hist (⟨(EventT.seq (atI (t := .event) ((HistT.list a0) ++ ([(⟨(IntKind.wrap .i64 ((IntKind.wrap .i64 ((HistT.base a0) + ((HistT.list a0).length : Int))) + (1 : Int))), a1, a2⟩ : EventT)] : List EventT)) 0)), ((((HistT.list a0) ++ ([(⟨(IntKind.wrap .i64 ((IntKind.wrap .i64 ((HistT.base a0) + ((HistT.list a0).length : Int))) + (1 : Int))), a1, a2⟩ : EventT)] : List EventT)).take (Int.toNat (((HistT.list a0) ++ ([(⟨(IntKind.wrap .i64 ((IntKind.wrap .i64 ((HistT.base a0) + ((HistT.list a0).length : Int))) + (1 : Int))), a1, a2⟩ : EventT)] : List EventT)).length : Int))).drop 1)⟩ : HistT))
          (cond (!(histOk (⟨(EventT.seq (atI (t := .event) ((HistT.list a0) ++ ([(⟨(IntKind.wrap .i64 ((IntKind.wrap .i64 ((HistT.base a0) + ((HistT.list a0).length : Int))) + (1 : Int))), a1, a2⟩ : EventT)] : List EventT)) 0)), ((((HistT.list a0) ++ ([(⟨(IntKind.wrap .i64 ((IntKind.wrap .i64 ((HistT.base a0) + ((HistT.list a0).length : Int))) + (1 : Int))), a1, a2⟩ : EventT)] : List EventT)).take (Int.toNat (((HistT.list a0) ++ ([(⟨(IntKind.wrap .i64 ((IntKind.wrap .i64 ((HistT.base a0) + ((HistT.list a0).length : Int))) + (1 : Int))), a1, a2⟩ : EventT)] : List EventT)).length : Int))).drop 1)⟩ : HistT)))
           (cond (sm_hist a0)
            (k [.d .hist a0])
            none)
           (k [.d .hist (⟨(EventT.seq (atI (t := .event) ((HistT.list a0) ++ ([(⟨(IntKind.wrap .i64 ((IntKind.wrap .i64 ((HistT.base a0) + ((HistT.list a0).length : Int))) + (1 : Int))), a1, a2⟩ : EventT)] : List EventT)) 0)), ((((HistT.list a0) ++ ([(⟨(IntKind.wrap .i64 ((IntKind.wrap .i64 ((HistT.base a0) + ((HistT.list a0).length : Int))) + (1 : Int))), a1, a2⟩ : EventT)] : List EventT)).take (Int.toNat (((HistT.list a0) ++ ([(⟨(IntKind.wrap .i64 ((IntKind.wrap .i64 ((HistT.base a0) + ((HistT.list a0).length : Int))) + (1 : Int))), a1, a2⟩ : EventT)] : List EventT)).length : Int))).drop 1)⟩ : HistT)]))
          none)
         none)
        none)
       (cond (sm_hist (⟨(HistT.base a0), ((HistT.list a0) ++ ([(⟨(IntKind.wrap .i64 ((IntKind.wrap .i64 ((HistT.base a0) + ((HistT.list a0).length : Int))) + (1 : Int))), a1, a2⟩ : EventT)] : List EventT))⟩ : HistT))
        (cond (!(histOk (⟨(HistT.base a0), ((HistT.list a0) ++ ([(⟨(IntKind.wrap .i64 ((IntKind.wrap .i64 ((HistT.base a0) + ((HistT.list a0).length : Int))) + (1 : Int))), a1, a2⟩ : EventT)] : List EventT))⟩ : HistT)))
         (cond (sm_hist a0)
          (k [.d .hist a0])
          none)
         (k [.d .hist (⟨(HistT.base a0), ((HistT.list a0) ++ ([(⟨(IntKind.wrap .i64 ((IntKind.wrap .i64 ((HistT.base a0) + ((HistT.list a0).length : Int))) + (1 : Int))), a1, a2⟩ : EventT)] : List EventT))⟩ : HistT)]))
        none))
      none)
     none)
    none))
  none) := by kernel_rfl
theorem f21_spec (a0 : HistT) (a1 : Int) (a2 : ItemT) (hg : gHistAdd a0 a1 a2 = true) : ∃ keep rounds, ∀ {R : Type} (k : List Dt → Option R), evFn f21e keep rounds f21c [.ro, .ro, .ro] [false] true [.cell 6 29] [29] [.d .hist a0, .d (.i .i64) a1, .d .item a2] k = k [.d .hist (histAdd a0 a1 a2)] := by
  simp only [gHistAdd, Bool.and_eq_true] at hg
  obtain ⟨hg, hk, hx⟩ := hg
  have hg1 := hg
  simp only [sm_hist, Bool.and_eq_true] at hg1
  refine ⟨f21k, 0, fun {R} k => ?_⟩
  rw [f21_run]
  simp only [hg, hx, cond_true]
  unfold histAdd
  cases ho : histOk a0
  · rfl
  obtain ⟨h1, h2, h3, h4⟩ := histOk_b ho
  have e0 : (⟨a0.base + 1 + (a0.list.length : Int), a1, a2⟩ : EventT) = evNew a0 a1 a2 := rfl
  have hl := smL_snoc hg1.2 (evNew_sm hk hx ho) (by omega)
  have s1 : sm_hist ⟨a0.base + 1, (a0.list ++ [evNew a0 a1 a2]).drop 1⟩ = true := by
    simp only [sm_hist, Bool.and_eq_true]; exact ⟨okI_small (by omega) (by omega), smL_drop hl 1⟩
  have s2 : sm_hist ⟨a0.base, a0.list ++ [evNew a0 a1 a2]⟩ = true := by
    simp only [sm_hist, Bool.and_eq_true]; exact ⟨hg1.1, hl⟩
  have hlen : ((a0.list ++ [evNew a0 a1 a2]).length : Int) = (a0.list.length : Int) + 1 := by rw [List.length_append, List.length_cons, List.length_nil]; omega
  rw [wrap_id (x := a0.base + (a0.list.length : Int)) (by omega) (by omega), wrap_id (x := a0.base + (a0.list.length : Int) + 1) (by omega) (by omega), show a0.base + (a0.list.length : Int) + 1 = a0.base + 1 + (a0.list.length : Int) by omega]
  simp only [Bool.not_true, cond_true, cond_false, limLe1 (smL_len hg1.2), e0]
  have hc : decide (((a0.list ++ [evNew a0 a1 a2]).length : Int) > 60) = decide (a0.list.length ≥ 60) := by
    rw [Bool.eq_iff_iff]; simp only [decide_eq_true_eq, hlen]; omega
  have d1 : decide ((1 : Int) ≤ ((a0.list ++ [evNew a0 a1 a2]).length : Int)) = true := decide_eq_true (by omega)
  have d2 : decide ((0 : Int) < ((a0.list ++ [evNew a0 a1 a2]).length : Int)) = true := decide_eq_true (by omega)
  have d3 : decide (((a0.list ++ [evNew a0 a1 a2]).length : Int) ≤ ((a0.list ++ [evNew a0 a1 a2]).length : Int)) = true := decide_eq_true (Int.le_refl _)
  rw [hc]
  by_cases h60 : a0.list.length ≥ 60
  · have hs : (atI (t := .event) (a0.list ++ [evNew a0 a1 a2]) 0).seq = a0.base + 1 := by
      have h0 : (a0.list ++ [evNew a0 a1 a2])[0]? = a0.list[0]? := List.getElem?_append_left (by omega)
      have := h4 0 (by omega)
      simp only [eventC, Bool.and_eq_true, beq_iff_eq] at this
      have h5 := this.1
      unfold atI at h5 ⊢
      rw [List.getD, h0]
      rw [List.getD] at h5
      rw [h5]; omega
    simp only [h60, hs, d1, d2, d3, decide_true, cond_true, Bool.and_self, Int.toNat_natCast, List.take_length, s1]
    cases histOk ⟨a0.base + 1, (a0.list ++ [evNew a0 a1 a2]).drop 1⟩ <;> rfl
  · simp only [h60, decide_false, cond_false, s2, cond_true]
    cases histOk ⟨a0.base, a0.list ++ [evNew a0 a1 a2]⟩ <;> rfl
noncomputable def q21 : List Dt → Option (Bool × List Dt)
  | [.d .hist a0, .d (.i .i64) a1, .d .item a2] => some ((gHistAdd a0 a1 a2), [.d .hist (histAdd a0 a1 a2)])
  | _ => none
noncomputable def s21 : Gm.Spec := Gm.Spec.of [.ro, .ro, .ro] [false] true q21
theorem good21 : Gm.Good Try.prog (21, s21) := by
  have hl : ∀ x ∈ [(13, s13), (61, s61), (65, s65)], Gm.Good Try.prog x := List.forall_mem_cons.2 ⟨good13, List.forall_mem_cons.2 ⟨good61, List.forall_mem_cons.2 ⟨good65, List.forall_mem_nil _⟩⟩⟩
  refine ⟨⟨spec_ok (tab_ok.env hl) (tab.natl hl) Try.func21 (by kernel_rfl : Try.f21.body = some f21c) [29] (by kernel_rfl) ?_, _, Try.func21, by kernel_rfl, of_decide_eq_true (by kernel_rfl)⟩, Gm.Spec.of_natl _ _ _ _⟩
  intro ds outs h
  unfold q21 at h
  split at h
  · simp only [Option.some.injEq, Prod.mk.injEq] at h; obtain ⟨hg, h⟩ := h; cases h; exact f21_spec _ _ _ hg
  · cases h
end Go.Proofs.Ytnbehmbjoanfoaa

namespace Go.Proofs.Ytnbehmbjoanfoaa
open Go Go.Gm
noncomputable def f81c : Code := (Try.f81.body).getD .skip
def f81k : Nat → Kp := kat [⟨[0, 2], [], [], []⟩, ⟨[0, 2, 3], [], [], []⟩, ⟨[0, 2, 3], [], [], []⟩, ⟨[0, 2], [], [], []⟩]
noncomputable def f81e : Env := tab.env [(80, s80), (99, s99), (114, s114)]
theorem f81_run {R : Type} (n : Nat) (k : List Dt → Option R) (a0 : CurT) : evFn f81e f81k n f81c [.pmut] [false] true [.cell 2 50] [50] [.d .cur a0] k =
    (cond (gCur a0)
  (cond (gCur ((oRight a0).2))
   (cond ((fun c _ => gCur c) ((sName ((oRight a0).2)).2) (9 : Int))
    (k [.d .item (⟨(⟨((sName ((oRight a0).2)).1), (OrderT.target ((oRight a0).1)), (OrderT.low ((oRight a0).1)), (OrderT.high ((oRight a0).1)), (OrderT.metrics ((oRight a0).1)), (OrderT.pace ((oRight a0).1)), (OrderT.notes ((oRight a0).1))⟩ : OrderT), (IntKind.wrap .i64 ((1 : Int) + ((curBelow ((sName ((oRight a0).2)).2) (9 : Int)).1)))⟩ : ItemT), .d .cur ((curBelow ((sName ((oRight a0).2)).2) (9 : Int)).2)])
    none)
   none)
  none) := by kernel_rfl
def f81_P (a0 : CurT) (o : ItemT × CurT) : Prop := (fun _ o => sm_item o.1 = true ∧ gCur o.2 = true) a0 o ∧ ∃ n : Nat, ∀ {R : Type} (k : List Dt → Option R), evFn f81e f81k n f81c [.pmut] [false] true [.cell 2 50] [50] [.d .cur a0] k = k [.d .item o.1, .d .cur o.2]
theorem f81_ex (a0 : CurT) (hg : gCur a0 = true) : ∃ o : ItemT × CurT, (fun _ o => sm_item o.1 = true ∧ gCur o.2 = true) a0 o ∧ ∃ n : Nat, ∀ {R : Type} (k : List Dt → Option R), evFn f81e f81k n f81c [.pmut] [false] true [.cell 2 50] [50] [.d .cur a0] k = k [.d .item o.1, .d .cur o.2] := by
  obtain ⟨r1, r2, r3, g1⟩ := oRight_ok a0 hg
  obtain ⟨n1, g2⟩ := sName_ok _ g1
  obtain ⟨b0, b1, g3⟩ := curBelow_ok (sName (oRight a0).2).2 9 g2
  simp only [sm_order, Bool.and_eq_true] at r1
  refine ⟨(?az0, ?bz0), ?gz0, 0, ?rz0⟩
  case rz0 =>
    intro R k
    rw [f81_run]
    simp only [hg, g1, g2, Bool.not_true, Bool.not_false, cond_true, cond_false]
    exact rfl
  case gz0 => exact ⟨item_mk (by simp only [sm_order, Bool.and_eq_true]; exact ⟨n1, r1.2⟩) (okI_wrap _), g3⟩
theorem f81_ne (a0 : CurT) : Nonempty {o : ItemT × CurT // gCur a0 = true → f81_P a0 o} := by
  by_cases hg : gCur a0 = true
  · obtain ⟨o, ho⟩ := f81_ex a0 hg
    exact ⟨⟨o, fun _ => ho⟩⟩
  · exact ⟨⟨((zero .item), (zero .cur)), fun h => absurd h hg⟩⟩
noncomputable def hItem (a0 : CurT) : ItemT × CurT := (Classical.choice (f81_ne a0)).val
theorem f81_sp (a0 : CurT) (hg : gCur a0 = true) : f81_P a0 (hItem a0) := (Classical.choice (f81_ne a0)).property hg
theorem hItem_ok (a0 : CurT) (hg : gCur a0 = true) : (fun _ o => sm_item o.1 = true ∧ gCur o.2 = true) a0 (hItem a0) := (f81_sp a0 hg).1
theorem f81_spec (a0 : CurT) (hg : gCur a0 = true) : ∃ keep rounds, ∀ {R : Type} (k : List Dt → Option R), evFn f81e keep rounds f81c [.pmut] [false] true [.cell 2 50] [50] [.d .cur a0] k = k [.d .item ((hItem a0).1), .d .cur ((hItem a0).2)] := by
  obtain ⟨n, hn⟩ := (f81_sp a0 hg).2
  exact ⟨f81k, n, hn⟩
noncomputable def q81 : List Dt → Option (Bool × List Dt)
  | [.d .cur a0] => some ((gCur a0), [.d .item ((hItem a0).1), .d .cur ((hItem a0).2)])
  | _ => none
noncomputable def s81 : Gm.Spec := Gm.Spec.of [.pmut] [false] true q81
theorem good81 : Gm.Good Try.prog (81, s81) := by
  have hl : ∀ x ∈ [(80, s80), (99, s99), (114, s114)], Gm.Good Try.prog x := List.forall_mem_cons.2 ⟨good80, List.forall_mem_cons.2 ⟨good99, List.forall_mem_cons.2 ⟨good114, List.forall_mem_nil _⟩⟩⟩
  refine ⟨⟨spec_ok (tab_ok.env hl) (tab.natl hl) Try.func81 (by kernel_rfl : Try.f81.body = some f81c) [50] (by kernel_rfl) ?_, _, Try.func81, by kernel_rfl, of_decide_eq_true (by kernel_rfl)⟩, Gm.Spec.of_natl _ _ _ _⟩
  intro ds outs h
  unfold q81 at h
  split at h
  · simp only [Option.some.injEq, Prod.mk.injEq] at h; obtain ⟨hg, h⟩ := h; cases h; exact f81_spec _ hg
  · cases h
noncomputable def f112S0 (y0 : Int) (y1 : List Int) (y2 : Int) (y3 : Int) (y5 : Int) (y6 : List EventT) : St := ⟨[(0, .c (.one (.pt 0 0))), (2, .c (.one (.pt 2 0))), (3, .c (.one (.pt 3 0))), (4, .c (.one (.v (.int .i64 y0))))], [(0, ⟨.cur, [.rk (.i .u8) y1, .v (.int .i64 y2), .v (.int .i64 y3)]⟩), (2, ⟨.hist, [.v (.int .i64 (0 : Int)), .nl]⟩), (3, ⟨.hist, [.v (.int .i64 y5), .h 193 0 0 []]⟩)], [(193, .live ⟨.event, .deep, 0, [], y6⟩)]⟩
noncomputable def f112S1 (y0 : Int) (y1 : Bool) (y2 : List Int) (y3 : Int) (y4 : Int) (y6 : Int) (y7 : List EventT) : St := ⟨[(0, .c (.one (.pt 0 0))), (2, .c (.one (.pt 2 0))), (3, .c (.one (.pt 3 0))), (4, .c (.one (.v (.int .i64 y0)))), (12, .c (.one (.v (.bool y1))))], [(0, ⟨.cur, [.rk (.i .u8) y2, .v (.int .i64 y3), .v (.int .i64 y4)]⟩), (2, ⟨.hist, [.v (.int .i64 (0 : Int)), .nl]⟩), (3, ⟨.hist, [.v (.int .i64 y6), .h 193 0 0 []]⟩)], [(193, .live ⟨.event, .deep, 0, [], y7⟩)]⟩
noncomputable def f112c : Code := (Try.f112.body).getD .skip
def f112k : Nat → Kp := kat [⟨[0, 2], [], [], []⟩, ⟨[0, 2, 3], [], [], []⟩, ⟨[0, 2, 3, 4], [⟨true, false, 3, 1, .event⟩], [], []⟩, ⟨[0, 2, 3, 4, 12], [], [], []⟩, ⟨[0, 2, 3, 4], [], [], [(1344, 193)]⟩, ⟨[0, 2, 3, 4], [], [], []⟩, ⟨[0, 2], [], [], []⟩]
noncomputable def f112e : Env := tab.env [(43, s43), (80, s80), (81, s81), (83, s83)]
noncomputable def f112L0 {R : Type} (n : Nat) (x0 : Int → Bool → (List Int) → Int → Int → Int → (List EventT) → Option R)  : Nat → Int → (List Int) → Int → Int → Int → (List EventT) → Option R
  | 0, _, _, _, _, _, _ => none
  | m + 1, vs4, vb0_0, vb0_1, vb0_2, vb3_0, vr193 =>
    (cond ((fun c _ => gCur c) (⟨vb0_0, vb0_1, vb0_2⟩ : CurT) (6 : Int))
   (cond (decide (vs4 < ((curBelow (⟨vb0_0, vb0_1, vb0_2⟩ : CurT) (6 : Int)).1)))
    (cond ((fun c _ => gCur c) ((curBelow (⟨vb0_0, vb0_1, vb0_2⟩ : CurT) (6 : Int)).2) (2 : Int))
     (cond (gCur ((curBelow ((curBelow (⟨vb0_0, vb0_1, vb0_2⟩ : CurT) (6 : Int)).2) (2 : Int)).2))
      (cond (gHistAdd (⟨vb3_0, vr193⟩ : HistT) (IntKind.wrap .i64 ((1 : Int) + ((curBelow ((curBelow (⟨vb0_0, vb0_1, vb0_2⟩ : CurT) (6 : Int)).2) (2 : Int)).1))) ((hItem ((curBelow ((curBelow (⟨vb0_0, vb0_1, vb0_2⟩ : CurT) (6 : Int)).2) (2 : Int)).2)).1))
       (f112L0 n x0 m (IntKind.wrap .i64 (vs4 + (1 : Int))) (CurT.b ((hItem ((curBelow ((curBelow (⟨vb0_0, vb0_1, vb0_2⟩ : CurT) (6 : Int)).2) (2 : Int)).2)).2)) (CurT.i ((hItem ((curBelow ((curBelow (⟨vb0_0, vb0_1, vb0_2⟩ : CurT) (6 : Int)).2) (2 : Int)).2)).2)) (CurT.h ((hItem ((curBelow ((curBelow (⟨vb0_0, vb0_1, vb0_2⟩ : CurT) (6 : Int)).2) (2 : Int)).2)).2)) (HistT.base (histAdd (⟨vb3_0, vr193⟩ : HistT) (IntKind.wrap .i64 ((1 : Int) + ((curBelow ((curBelow (⟨vb0_0, vb0_1, vb0_2⟩ : CurT) (6 : Int)).2) (2 : Int)).1))) ((hItem ((curBelow ((curBelow (⟨vb0_0, vb0_1, vb0_2⟩ : CurT) (6 : Int)).2) (2 : Int)).2)).1))) (HistT.list (histAdd (⟨vb3_0, vr193⟩ : HistT) (IntKind.wrap .i64 ((1 : Int) + ((curBelow ((curBelow (⟨vb0_0, vb0_1, vb0_2⟩ : CurT) (6 : Int)).2) (2 : Int)).1))) ((hItem ((curBelow ((curBelow (⟨vb0_0, vb0_1, vb0_2⟩ : CurT) (6 : Int)).2) (2 : Int)).2)).1))))
       none)
      none)
     none)
    (x0 vs4 (decide (vs4 < ((curBelow (⟨vb0_0, vb0_1, vb0_2⟩ : CurT) (6 : Int)).1))) (CurT.b ((curBelow (⟨vb0_0, vb0_1, vb0_2⟩ : CurT) (6 : Int)).2)) (CurT.i ((curBelow (⟨vb0_0, vb0_1, vb0_2⟩ : CurT) (6 : Int)).2)) (CurT.h ((curBelow (⟨vb0_0, vb0_1, vb0_2⟩ : CurT) (6 : Int)).2)) vb3_0 vr193))
   none)
theorem f112L0_b {R : Type} (n : Nat) (k' : Ex → St → Option R) (vs4 : Int) (vb0_0 : List Int) (vb0_1 : Int) (vb0_2 : Int) (vb3_0 : Int) (vr193 : List EventT) : ev f112e f112k n (cAt [1,1,0,1,0,0] f112c) (f112S0 vs4 vb0_0 vb0_1 vb0_2 vb3_0 vr193) k' =
    (cond ((fun c _ => gCur c) (⟨vb0_0, vb0_1, vb0_2⟩ : CurT) (6 : Int))
  (cond (decide (vs4 < ((curBelow (⟨vb0_0, vb0_1, vb0_2⟩ : CurT) (6 : Int)).1)))
   (cond ((fun c _ => gCur c) ((curBelow (⟨vb0_0, vb0_1, vb0_2⟩ : CurT) (6 : Int)).2) (2 : Int))
    (cond (gCur ((curBelow ((curBelow (⟨vb0_0, vb0_1, vb0_2⟩ : CurT) (6 : Int)).2) (2 : Int)).2))
     (cond (gHistAdd (⟨vb3_0, vr193⟩ : HistT) (IntKind.wrap .i64 ((1 : Int) + ((curBelow ((curBelow (⟨vb0_0, vb0_1, vb0_2⟩ : CurT) (6 : Int)).2) (2 : Int)).1))) ((hItem ((curBelow ((curBelow (⟨vb0_0, vb0_1, vb0_2⟩ : CurT) (6 : Int)).2) (2 : Int)).2)).1))
      (k' .normal (f112S0 (IntKind.wrap .i64 (vs4 + (1 : Int))) (CurT.b ((hItem ((curBelow ((curBelow (⟨vb0_0, vb0_1, vb0_2⟩ : CurT) (6 : Int)).2) (2 : Int)).2)).2)) (CurT.i ((hItem ((curBelow ((curBelow (⟨vb0_0, vb0_1, vb0_2⟩ : CurT) (6 : Int)).2) (2 : Int)).2)).2)) (CurT.h ((hItem ((curBelow ((curBelow (⟨vb0_0, vb0_1, vb0_2⟩ : CurT) (6 : Int)).2) (2 : Int)).2)).2)) (HistT.base (histAdd (⟨vb3_0, vr193⟩ : HistT) (IntKind.wrap .i64 ((1 : Int) + ((curBelow ((curBelow (⟨vb0_0, vb0_1, vb0_2⟩ : CurT) (6 : Int)).2) (2 : Int)).1))) ((hItem ((curBelow ((curBelow (⟨vb0_0, vb0_1, vb0_2⟩ : CurT) (6 : Int)).2) (2 : Int)).2)).1))) (HistT.list (histAdd (⟨vb3_0, vr193⟩ : HistT) (IntKind.wrap .i64 ((1 : Int) + ((curBelow ((curBelow (⟨vb0_0, vb0_1, vb0_2⟩ : CurT) (6 : Int)).2) (2 : Int)).1))) ((hItem ((curBelow ((curBelow (⟨vb0_0, vb0_1, vb0_2⟩ : CurT) (6 : Int)).2) (2 : Int)).2)).1)))))
      none)
     none)
    none)
   (k' (.exit 0) (f112S1 vs4 (decide (vs4 < ((curBelow (⟨vb0_0, vb0_1, vb0_2⟩ : CurT) (6 : Int)).1))) (CurT.b ((curBelow (⟨vb0_0, vb0_1, vb0_2⟩ : CurT) (6 : Int)).2)) (CurT.i ((curBelow (⟨vb0_0, vb0_1, vb0_2⟩ : CurT) (6 : Int)).2)) (CurT.h ((curBelow (⟨vb0_0, vb0_1, vb0_2⟩ : CurT) (6 : Int)).2)) vb3_0 vr193)))
  none) := by kernel_rfl
theorem f112L0_eq {R : Type} (n : Nat) (k' : Ex → St → Option R)  : ∀ (m : Nat) (vs4 : Int) (vb0_0 : List Int) (vb0_1 : Int) (vb0_2 : Int) (vb3_0 : Int) (vr193 : List EventT), iter (fun st k => ev f112e f112k n (cAt [1,1,0,1,0,0] f112c) st k) m (f112S0 vs4 vb0_0 vb0_1 vb0_2 vb3_0 vr193) k' = f112L0 n (fun (xvs4 : Int) (xvs12 : Bool) (xvb0_0 : List Int) (xvb0_1 : Int) (xvb0_2 : Int) (xvb3_0 : Int) (xvr193 : List EventT) => k' (.exit 0) (f112S1 xvs4 xvs12 xvb0_0 xvb0_1 xvb0_2 xvb3_0 xvr193)) m vs4 vb0_0 vb0_1 vb0_2 vb3_0 vr193 := by
  intro m; induction m with
  | zero => intros; rfl
  | succ m ih =>
    intro vs4 vb0_0 vb0_1 vb0_2 vb3_0 vr193
    simp only [iter]
    rw [f112L0_b]
    simp only [ih, f112L0]
noncomputable def f112K0 {R : Type} (n : Nat) (k' : Ex → St → Option R) : Ex → St → Option R := (blockK 0 (seqK f112e f112k n (cAt [1,1,1] f112c) k'))
theorem f112K0_x0 {R : Type} (n : Nat) (k : List Dt → Option R) (a0 : CurT) (xvs4 : Int) (xvs12 : Bool) (xvb0_0 : List Int) (xvb0_1 : Int) (xvb0_2 : Int) (xvb3_0 : Int) (xvr193 : List EventT) : f112K0 n (exitK f112e [.pmut] [false] true [.cell 2 29] [29] [.d .cur a0] k) (.exit 0) (f112S1 xvs4 xvs12 xvb0_0 xvb0_1 xvb0_2 xvb3_0 xvr193) =
    (k [.d .hist (⟨xvb3_0, xvr193⟩ : HistT), .d .cur (⟨xvb0_0, xvb0_1, xvb0_2⟩ : CurT)]) := by kernel_rfl
theorem f112_run {R : Type} (n : Nat) (k : List Dt → Option R) (a0 : CurT) : evFn f112e f112k n f112c [.pmut] [false] true [.cell 2 29] [29] [.d .cur a0] k =
    (cond (gPickI a0 ([(0 : Int), (0 : Int), (5 : Int), (99998 : Int)] : List Int))
  (f112L0 n (fun (xvs4 : Int) (xvs12 : Bool) (xvb0_0 : List Int) (xvb0_1 : Int) (xvb0_2 : Int) (xvb3_0 : Int) (xvr193 : List EventT) =>
   (k [.d .hist (⟨xvb3_0, xvr193⟩ : HistT), .d .cur (⟨xvb0_0, xvb0_1, xvb0_2⟩ : CurT)])) n (0 : Int) (CurT.b ((curPickI a0 ([(0 : Int), (0 : Int), (5 : Int), (99998 : Int)] : List Int)).2)) (CurT.i ((curPickI a0 ([(0 : Int), (0 : Int), (5 : Int), (99998 : Int)] : List Int)).2)) (CurT.h ((curPickI a0 ([(0 : Int), (0 : Int), (5 : Int), (99998 : Int)] : List Int)).2)) ((curPickI a0 ([(0 : Int), (0 : Int), (5 : Int), (99998 : Int)] : List Int)).1) ([] : List EventT))
  none) := by
  refine Eq.trans (b := (cond (gPickI a0 ([(0 : Int), (0 : Int), (5 : Int), (99998 : Int)] : List Int))
  (iter (fun st k => ev f112e f112k n (cAt [1,1,0,1,0,0] f112c) st k) n (f112S0 (0 : Int) (CurT.b ((curPickI a0 ([(0 : Int), (0 : Int), (5 : Int), (99998 : Int)] : List Int)).2)) (CurT.i ((curPickI a0 ([(0 : Int), (0 : Int), (5 : Int), (99998 : Int)] : List Int)).2)) (CurT.h ((curPickI a0 ([(0 : Int), (0 : Int), (5 : Int), (99998 : Int)] : List Int)).2)) ((curPickI a0 ([(0 : Int), (0 : Int), (5 : Int), (99998 : Int)] : List Int)).1) ([] : List EventT)) (f112K0 n (exitK f112e [.pmut] [false] true [.cell 2 29] [29] [.d .cur a0] k)))
  none)) (by kernel_rfl) ?_
  simp only [f112L0_eq, f112K0_x0]
def f112_P (a0 : CurT) (o : HistT × CurT) : Prop := (fun _ o => sm_hist o.1 = true ∧ o.1.list.length ≤ 6 ∧ gCur o.2 = true) a0 o ∧ ∃ n : Nat, ∀ {R : Type} (k : List Dt → Option R), evFn f112e f112k n f112c [.pmut] [false] true [.cell 2 29] [29] [.d .cur a0] k = k [.d .hist o.1, .d .cur o.2]
theorem f112_ex (a0 : CurT) (hg : gCur a0 = true) : ∃ o : HistT × CurT, (fun _ o => sm_hist o.1 = true ∧ o.1.list.length ≤ 6 ∧ gCur o.2 = true) a0 o ∧ ∃ n : Nat, ∀ {R : Type} (k : List Dt → Option R), evFn f112e f112k n f112c [.pmut] [false] true [.cell 2 29] [29] [.d .cur a0] k = k [.d .hist o.1, .d .cur o.2] := by
  have key : ∀ (d m : Nat) (i : Int) (s : HistT) (c : CurT), 0 ≤ i → 6 ≤ i + d → i ≤ 6 → d < m → sm_hist s = true → (s.list.length : Int) ≤ i → gCur c = true →
      ∃ o : HistT × CurT, (sm_hist o.1 = true ∧ o.1.list.length ≤ 6 ∧ gCur o.2 = true) ∧ ∀ {R : Type} (X : Int → Bool → (List Int) → Int → Int → Int → (List EventT) → Option R) (Z : HistT → CurT → Option R), (∀ i b c1 c2 c3 n l, X i b c1 c2 c3 n l = Z ⟨n, l⟩ ⟨c1, c2, c3⟩) → f112L0 7 X m i c.b c.i c.h s.base s.list = Z o.1 o.2 := by
    intro d
    induction d with
    | zero =>
      intro m i s c h0 hi hi2 hm hs hl hc
      obtain ⟨m, rfl⟩ : ∃ m', m = m' + 1 := ⟨m - 1, by omega⟩
      obtain ⟨b0, b1, g1⟩ := curBelow_ok c 6 hc
      have b1 := b1 (by omega)
      refine ⟨(s, (curBelow c 6).2), ⟨hs, by show s.list.length ≤ 6; omega, g1⟩, fun {R} X Z hX => ?_⟩
      simp only [f112L0, eta_cur, hc, decide_eq_false (show ¬ i < (curBelow c 6).1 by omega), cond_true, cond_false, hX]
    | succ d ih =>
      intro m i s c h0 hi hi2 hm hs hl hc
      obtain ⟨m, rfl⟩ : ∃ m', m = m' + 1 := ⟨m - 1, by omega⟩
      obtain ⟨b0, b1, g1⟩ := curBelow_ok c 6 hc
      have b1 := b1 (by omega)
      cases hd : decide (i < (curBelow c 6).1)
      · refine ⟨(s, (curBelow c 6).2), ⟨hs, by show s.list.length ≤ 6; omega, g1⟩, fun {R} X Z hX => ?_⟩
        simp only [f112L0, eta_cur, hc, hd, cond_true, cond_false, hX]
      have hlt := of_decide_eq_true hd
      have hw : IntKind.wrap .i64 (i + 1) = i + 1 := wrap_id (by omega) (by omega)
      obtain ⟨_, _, g2⟩ := curBelow_ok (curBelow c 6).2 2 g1
      obtain ⟨hx, g3⟩ := hItem_ok _ g2
      generalize hK : IntKind.wrap .i64 ((1 : Int) + (curBelow (curBelow c 6).2 2).1) = kk
      have hk : okI kk = true := by rw [← hK]; exact okI_wrap _
      have hga : gHistAdd s kk (hItem (curBelow (curBelow c 6).2 2).2).1 = true := by simp only [gHistAdd, hs, hk, hx, Bool.and_self]
      have hlen := histAdd_len (h := s) (k := kk) (x := (hItem (curBelow (curBelow c 6).2 2).2).1)
      obtain ⟨o1, ho1, hh1⟩ := ih m (i + 1) (histAdd s kk (hItem (curBelow (curBelow c 6).2 2).2).1) (hItem (curBelow (curBelow c 6).2 2).2).2 (by omega) (by omega) (by omega) (by omega) (histAdd_sm hs hk hx) (by omega) g3
      exact ⟨o1, ho1, fun {R} X Z hX => by
        simp only [f112L0, eta_cur, hc, hd, g1, g2, hK, hga, hw, cond_true, cond_false]
        exact hh1 X Z hX⟩
  have hp := gPickI_of (l := ([(0 : Int), (0 : Int), (5 : Int), (99998 : Int)] : List Int)) hg rfl
  obtain ⟨hm, g1⟩ := curPickI_ok _ _ hp
  obtain ⟨o, ho, hh⟩ := key 6 7 0 ⟨(curPickI a0 ([(0 : Int), (0 : Int), (5 : Int), (99998 : Int)] : List Int)).1, []⟩ (curPickI a0 ([(0 : Int), (0 : Int), (5 : Int), (99998 : Int)] : List Int)).2 (by omega) (by omega) (by omega) (by omega)
    (by simp only [sm_hist, Bool.and_eq_true]; exact ⟨List.all_eq_true.1 (show (([(0 : Int), (0 : Int), (5 : Int), (99998 : Int)] : List Int).all okI) = true from rfl) _ hm, rfl⟩) (by simp) g1
  refine ⟨o, ho, 7, fun {R} k => ?_⟩
  rw [f112_run]
  simp only [hp, cond_true]
  exact hh _ (fun s c => k [.d .hist s, .d .cur c]) (fun _ _ _ _ _ _ _ => rfl)
theorem f112_ne (a0 : CurT) : Nonempty {o : HistT × CurT // gCur a0 = true → f112_P a0 o} := by
  by_cases hg : gCur a0 = true
  · obtain ⟨o, ho⟩ := f112_ex a0 hg
    exact ⟨⟨o, fun _ => ho⟩⟩
  · exact ⟨⟨((zero .hist), (zero .cur)), fun h => absurd h hg⟩⟩
noncomputable def hRight (a0 : CurT) : HistT × CurT := (Classical.choice (f112_ne a0)).val
theorem f112_sp (a0 : CurT) (hg : gCur a0 = true) : f112_P a0 (hRight a0) := (Classical.choice (f112_ne a0)).property hg
theorem hRight_ok (a0 : CurT) (hg : gCur a0 = true) : (fun _ o => sm_hist o.1 = true ∧ o.1.list.length ≤ 6 ∧ gCur o.2 = true) a0 (hRight a0) := (f112_sp a0 hg).1
theorem f112_spec (a0 : CurT) (hg : gCur a0 = true) : ∃ keep rounds, ∀ {R : Type} (k : List Dt → Option R), evFn f112e keep rounds f112c [.pmut] [false] true [.cell 2 29] [29] [.d .cur a0] k = k [.d .hist ((hRight a0).1), .d .cur ((hRight a0).2)] := by
  obtain ⟨n, hn⟩ := (f112_sp a0 hg).2
  exact ⟨f112k, n, hn⟩
noncomputable def q112 : List Dt → Option (Bool × List Dt)
  | [.d .cur a0] => some ((gCur a0), [.d .hist ((hRight a0).1), .d .cur ((hRight a0).2)])
  | _ => none
noncomputable def s112 : Gm.Spec := Gm.Spec.of [.pmut] [false] true q112
theorem good112 : Gm.Good Try.prog (112, s112) := by
  have hl : ∀ x ∈ [(43, s43), (80, s80), (81, s81), (83, s83)], Gm.Good Try.prog x := List.forall_mem_cons.2 ⟨good43, List.forall_mem_cons.2 ⟨good80, List.forall_mem_cons.2 ⟨good81, List.forall_mem_cons.2 ⟨good83, List.forall_mem_nil _⟩⟩⟩⟩
  refine ⟨⟨spec_ok (tab_ok.env hl) (tab.natl hl) Try.func112 (by kernel_rfl : Try.f112.body = some f112c) [29] (by kernel_rfl) ?_, _, Try.func112, by kernel_rfl, of_decide_eq_true (by kernel_rfl)⟩, Gm.Spec.of_natl _ _ _ _⟩
  intro ds outs h
  unfold q112 at h
  split at h
  · simp only [Option.some.injEq, Prod.mk.injEq] at h; obtain ⟨hg, h⟩ := h; cases h; exact f112_spec _ hg
  · cases h
noncomputable def f79c : Code := (Try.f79.body).getD .skip
def f79k : Nat → Kp := kat [⟨[0, 2], [], [], []⟩, ⟨[0, 2, 3], [], [], []⟩, ⟨[0, 2, 3, 7], [], [], []⟩, ⟨[0, 2, 3, 7, 8], [], [], []⟩, ⟨[0, 2, 3], [], [], []⟩, ⟨[0, 2, 3, 7, 14], [], [], []⟩, ⟨[0, 2, 3, 19], [], [], []⟩, ⟨[0, 2, 3], [], [], []⟩, ⟨[0, 2, 3, 27], [], [], []⟩, ⟨[0, 2, 3, 32], [], [], []⟩, ⟨[0, 2, 3], [], [], []⟩, ⟨[0, 2], [], [], []⟩]
noncomputable def f79e : Env := tab.env [(80, s80), (83, s83), (112, s112)]
noncomputable def f79v0 (a0 : CurT) : List EventT :=
  ((HistT.list ((hRight a0).1)).set 0 (⟨(EventT.seq (atI (t := .event) (HistT.list ((hRight a0).1)) 0)), ((curPickI ((curBelow ((hRight a0).2) (10 : Int)).2) ([(0 : Int), (1 : Int), (3 : Int)] : List Int)).1), (EventT.item (atI (t := .event) (HistT.list ((hRight a0).1)) 0))⟩ : EventT))
noncomputable def f79v1 (a0 : CurT) : List EventT :=
  ((HistT.list ((hRight a0).1)).set 0 (⟨(EventT.seq (atI (t := .event) (HistT.list ((hRight a0).1)) 0)), (EventT.kind (atI (t := .event) (HistT.list ((hRight a0).1)) 0)), (⟨(ItemT.order (EventT.item (atI (t := .event) (HistT.list ((hRight a0).1)) 0))), ((curPickI ((curBelow ((hRight a0).2) (10 : Int)).2) ([(0 : Int), (1 : Int), (100001 : Int)] : List Int)).1)⟩ : ItemT)⟩ : EventT))
theorem f79_run {R : Type} (n : Nat) (k : List Dt → Option R) (a0 : CurT) : evFn f79e f79k n f79c [.pmut] [false] true [.cell 2 29] [29] [.d .cur a0] k =
    (cond (gCur a0)
  (cond ((fun c _ => gCur c) ((hRight a0).2) (10 : Int))
   (cond (((curBelow ((hRight a0).2) (10 : Int)).1) == (0 : Int))
    (cond (gPickI ((curBelow ((hRight a0).2) (10 : Int)).2) ([(-1 : Int), (1 : Int), (100001 : Int)] : List Int))
     (k [.d .hist (⟨((curPickI ((curBelow ((hRight a0).2) (10 : Int)).2) ([(-1 : Int), (1 : Int), (100001 : Int)] : List Int)).1), (HistT.list ((hRight a0).1))⟩ : HistT), .d .cur ((curPickI ((curBelow ((hRight a0).2) (10 : Int)).2) ([(-1 : Int), (1 : Int), (100001 : Int)] : List Int)).2)])
     none)
    (cond (((curBelow ((hRight a0).2) (10 : Int)).1) == (1 : Int))
     (cond (decide (((HistT.list ((hRight a0).1)).length : Int) > (0 : Int)))
      (cond (gPickI ((curBelow ((hRight a0).2) (10 : Int)).2) ([(0 : Int), (1 : Int), (3 : Int)] : List Int))
       (cond (decide ((0 : Int) < ((HistT.list ((hRight a0).1)).length : Int)))
        (k [.d .hist (⟨(HistT.base ((hRight a0).1)), (f79v0 a0)⟩ : HistT), .d .cur ((curPickI ((curBelow ((hRight a0).2) (10 : Int)).2) ([(0 : Int), (1 : Int), (3 : Int)] : List Int)).2)])
        none)
       none)
      (k [.d .hist ((hRight a0).1), .d .cur ((curBelow ((hRight a0).2) (10 : Int)).2)]))
     (cond (((curBelow ((hRight a0).2) (10 : Int)).1) == (2 : Int))
      (cond (decide (((HistT.list ((hRight a0).1)).length : Int) > (0 : Int)))
       (cond (gPickI ((curBelow ((hRight a0).2) (10 : Int)).2) ([(0 : Int), (1 : Int), (100001 : Int)] : List Int))
        (cond (decide ((0 : Int) < ((HistT.list ((hRight a0).1)).length : Int)))
         (k [.d .hist (⟨(HistT.base ((hRight a0).1)), (f79v1 a0)⟩ : HistT), .d .cur ((curPickI ((curBelow ((hRight a0).2) (10 : Int)).2) ([(0 : Int), (1 : Int), (100001 : Int)] : List Int)).2)])
         none)
        none)
       (k [.d .hist ((hRight a0).1), .d .cur ((curBelow ((hRight a0).2) (10 : Int)).2)]))
      (k [.d .hist ((hRight a0).1), .d .cur ((curBelow ((hRight a0).2) (10 : Int)).2)]))))
   none)
  none) := by kernel_rfl
def f79_P (a0 : CurT) (o : HistT × CurT) : Prop := (fun _ o => sm_hist o.1 = true ∧ o.1.list.length ≤ 6 ∧ gCur o.2 = true) a0 o ∧ ∃ n : Nat, ∀ {R : Type} (k : List Dt → Option R), evFn f79e f79k n f79c [.pmut] [false] true [.cell 2 29] [29] [.d .cur a0] k = k [.d .hist o.1, .d .cur o.2]
theorem f79_ex (a0 : CurT) (hg : gCur a0 = true) : ∃ o : HistT × CurT, (fun _ o => sm_hist o.1 = true ∧ o.1.list.length ≤ 6 ∧ gCur o.2 = true) a0 o ∧ ∃ n : Nat, ∀ {R : Type} (k : List Dt → Option R), evFn f79e f79k n f79c [.pmut] [false] true [.cell 2 29] [29] [.d .cur a0] k = k [.d .hist o.1, .d .cur o.2] := by
  obtain ⟨hs, hl, g1⟩ := hRight_ok a0 hg
  have hs' := hs
  simp only [sm_hist, Bool.and_eq_true] at hs'
  obtain ⟨hb, hls⟩ := hs'
  obtain ⟨b0, b1, g2⟩ := curBelow_ok (hRight a0).2 10 g1
  have h0 := event_at hls 0
  have h0' := h0
  simp only [sm_event, sm_item, Bool.and_eq_true] at h0'
  cases e0 : ((curBelow (hRight a0).2 10).1 == (0 : Int))
  rotate_left
  · have hp := gPickI_of (l := ([(-1 : Int), (1 : Int), (100001 : Int)] : List Int)) g2 rfl
    obtain ⟨hm, g3⟩ := curPickI_ok _ _ hp
    refine ⟨(?az0, ?bz0), ?gz0, 0, ?rz0⟩
    case rz0 =>
      intro R k
      rw [f79_run]
      simp only [hg, g1, e0, hp, Bool.not_true, Bool.not_false, cond_true, cond_false]
      exact rfl
    case gz0 => exact ⟨hist_mk (List.all_eq_true.1 (show (([(-1 : Int), (1 : Int), (100001 : Int)] : List Int).all okI) = true from rfl) _ hm) hls, hl, g3⟩
  cases e1 : ((curBelow (hRight a0).2 10).1 == (1 : Int))
  rotate_left
  · cases e3 : decide (((hRight a0).1.list.length : Int) > (0 : Int))
    · refine ⟨(?az1, ?bz1), ?gz1, 0, ?rz1⟩
      case rz1 =>
        intro R k
        rw [f79_run]
        simp only [hg, g1, e0, e1, e3, Bool.not_true, Bool.not_false, cond_true, cond_false]
        exact rfl
      case gz1 => exact ⟨hs, hl, g2⟩
    have e4 : decide ((0 : Int) < ((hRight a0).1.list.length : Int)) = true := e3
    have hp := gPickI_of (l := ([(0 : Int), (1 : Int), (3 : Int)] : List Int)) g2 rfl
    obtain ⟨hm, g3⟩ := curPickI_ok _ _ hp
    refine ⟨(?az2, ?bz2), ?gz2, 0, ?rz2⟩
    case rz2 =>
      intro R k
      rw [f79_run]
      simp only [hg, g1, e0, e1, e3, e4, hp, Bool.not_true, Bool.not_false, cond_true, cond_false]
      exact rfl
    case gz2 => exact ⟨hist_mk hb (events_set hls (event_mk h0'.1 (List.all_eq_true.1 (show (([(0 : Int), (1 : Int), (3 : Int)] : List Int).all okI) = true from rfl) _ hm) (by simp only [sm_item, Bool.and_eq_true]; exact h0'.2.2)) 0), by simp only [f79v0, List.length_set]; omega, g3⟩
  cases e2 : ((curBelow (hRight a0).2 10).1 == (2 : Int))
  · refine ⟨(?az3, ?bz3), ?gz3, 0, ?rz3⟩
    case rz3 =>
      intro R k
      rw [f79_run]
      simp only [hg, g1, e0, e1, e2, Bool.not_true, Bool.not_false, cond_true, cond_false]
      exact rfl
    case gz3 => exact ⟨hs, hl, g2⟩
  cases e3 : decide (((hRight a0).1.list.length : Int) > (0 : Int))
  · refine ⟨(?az4, ?bz4), ?gz4, 0, ?rz4⟩
    case rz4 =>
      intro R k
      rw [f79_run]
      simp only [hg, g1, e0, e1, e2, e3, Bool.not_true, Bool.not_false, cond_true, cond_false]
      exact rfl
    case gz4 => exact ⟨hs, hl, g2⟩
  have e4 : decide ((0 : Int) < ((hRight a0).1.list.length : Int)) = true := e3
  have hp := gPickI_of (l := ([(0 : Int), (1 : Int), (100001 : Int)] : List Int)) g2 rfl
  obtain ⟨hm, g3⟩ := curPickI_ok _ _ hp
  refine ⟨(?az5, ?bz5), ?gz5, 0, ?rz5⟩
  case rz5 =>
    intro R k
    rw [f79_run]
    simp only [hg, g1, e0, e1, e2, e3, e4, hp, Bool.not_true, Bool.not_false, cond_true, cond_false]
    exact rfl
  case gz5 => exact ⟨hist_mk hb (events_set hls (event_mk h0'.1 h0'.2.1 (item_mk h0'.2.2.1 (List.all_eq_true.1 (show (([(0 : Int), (1 : Int), (100001 : Int)] : List Int).all okI) = true from rfl) _ hm))) 0), by simp only [f79v1, List.length_set]; omega, g3⟩
theorem f79_ne (a0 : CurT) : Nonempty {o : HistT × CurT // gCur a0 = true → f79_P a0 o} := by
  by_cases hg : gCur a0 = true
  · obtain ⟨o, ho⟩ := f79_ex a0 hg
    exact ⟨⟨o, fun _ => ho⟩⟩
  · exact ⟨⟨((zero .hist), (zero .cur)), fun h => absurd h hg⟩⟩
noncomputable def hDraw (a0 : CurT) : HistT × CurT := (Classical.choice (f79_ne a0)).val
theorem f79_sp (a0 : CurT) (hg : gCur a0 = true) : f79_P a0 (hDraw a0) := (Classical.choice (f79_ne a0)).property hg
theorem hDraw_ok (a0 : CurT) (hg : gCur a0 = true) : (fun _ o => sm_hist o.1 = true ∧ o.1.list.length ≤ 6 ∧ gCur o.2 = true) a0 (hDraw a0) := (f79_sp a0 hg).1
theorem f79_spec (a0 : CurT) (hg : gCur a0 = true) : ∃ keep rounds, ∀ {R : Type} (k : List Dt → Option R), evFn f79e keep rounds f79c [.pmut] [false] true [.cell 2 29] [29] [.d .cur a0] k = k [.d .hist ((hDraw a0).1), .d .cur ((hDraw a0).2)] := by
  obtain ⟨n, hn⟩ := (f79_sp a0 hg).2
  exact ⟨f79k, n, hn⟩
noncomputable def q79 : List Dt → Option (Bool × List Dt)
  | [.d .cur a0] => some ((gCur a0), [.d .hist ((hDraw a0).1), .d .cur ((hDraw a0).2)])
  | _ => none
noncomputable def s79 : Gm.Spec := Gm.Spec.of [.pmut] [false] true q79
theorem good79 : Gm.Good Try.prog (79, s79) := by
  have hl : ∀ x ∈ [(80, s80), (83, s83), (112, s112)], Gm.Good Try.prog x := List.forall_mem_cons.2 ⟨good80, List.forall_mem_cons.2 ⟨good83, List.forall_mem_cons.2 ⟨good112, List.forall_mem_nil _⟩⟩⟩
  refine ⟨⟨spec_ok (tab_ok.env hl) (tab.natl hl) Try.func79 (by kernel_rfl : Try.f79.body = some f79c) [29] (by kernel_rfl) ?_, _, Try.func79, by kernel_rfl, of_decide_eq_true (by kernel_rfl)⟩, Gm.Spec.of_natl _ _ _ _⟩
  intro ds outs h
  unfold q79 at h
  split at h
  · simp only [Option.some.injEq, Prod.mk.injEq] at h; obtain ⟨hg, h⟩ := h; cases h; exact f79_spec _ hg
  · cases h
noncomputable def f41c : Code := (Try.f41.body).getD .skip
def f41k : Nat → Kp := kat [⟨[0, 2], [], [], []⟩, ⟨[2], [], [], []⟩]
noncomputable def f41e : Env := tab.env [(59, s59), (79, s79)]
theorem f41_run {R : Type} (n : Nat) (k : List Dt → Option R) (a0 : List Int) : evFn f41e f41k n f41c [.kp] [false] true [.cell 2 29] [29] [.d (.sl (.i .u8)) a0] k =
    (cond (gCode a0)
  (cond (gCur (curNew a0))
   (k [.d .hist ((hDraw (curNew a0)).1)])
   none)
  none) := by kernel_rfl
def f41_P (a0 : List Int) (o : HistT) : Prop := (fun _ o => sm_hist o = true) a0 o ∧ ∃ n : Nat, ∀ {R : Type} (k : List Dt → Option R), evFn f41e f41k n f41c [.kp] [false] true [.cell 2 29] [29] [.d (.sl (.i .u8)) a0] k = k [.d .hist o]
theorem f41_ex (a0 : List Int) (hg : gCode a0 = true) : ∃ o : HistT, (fun _ o => sm_hist o = true) a0 o ∧ ∃ n : Nat, ∀ {R : Type} (k : List Dt → Option R), evFn f41e f41k n f41c [.kp] [false] true [.cell 2 29] [29] [.d (.sl (.i .u8)) a0] k = k [.d .hist o] := by
  have g0 := curNew_ok a0 hg
  obtain ⟨h1, h2, g1⟩ := hDraw_ok _ g0
  refine ⟨?az0, ?gz0, 0, ?rz0⟩
  case rz0 =>
    intro R k
    rw [f41_run]
    simp only [hg, g0, cond_true]
    exact rfl
  case gz0 => exact h1
theorem f41_ne (a0 : List Int) : Nonempty {o : HistT // gCode a0 = true → f41_P a0 o} := by
  by_cases hg : gCode a0 = true
  · obtain ⟨o, ho⟩ := f41_ex a0 hg
    exact ⟨⟨o, fun _ => ho⟩⟩
  · exact ⟨⟨((zero .hist)), fun h => absurd h hg⟩⟩
noncomputable def dHistOk (a0 : List Int) : HistT := (Classical.choice (f41_ne a0)).val
theorem f41_sp (a0 : List Int) (hg : gCode a0 = true) : f41_P a0 (dHistOk a0) := (Classical.choice (f41_ne a0)).property hg
theorem dHistOk_ok (a0 : List Int) (hg : gCode a0 = true) : (fun _ o => sm_hist o = true) a0 (dHistOk a0) := (f41_sp a0 hg).1
theorem f41_spec (a0 : List Int) (hg : gCode a0 = true) : ∃ keep rounds, ∀ {R : Type} (k : List Dt → Option R), evFn f41e keep rounds f41c [.kp] [false] true [.cell 2 29] [29] [.d (.sl (.i .u8)) a0] k = k [.d .hist (dHistOk a0)] := by
  obtain ⟨n, hn⟩ := (f41_sp a0 hg).2
  exact ⟨f41k, n, hn⟩
noncomputable def q41 : List Dt → Option (Bool × List Dt)
  | [.d (.sl (.i .u8)) a0] => some ((gCode a0), [.d .hist (dHistOk a0)])
  | _ => none
noncomputable def s41 : Gm.Spec := Gm.Spec.of [.kp] [false] true q41
theorem good41 : Gm.Good Try.prog (41, s41) := by
  have hl : ∀ x ∈ [(59, s59), (79, s79)], Gm.Good Try.prog x := List.forall_mem_cons.2 ⟨good59, List.forall_mem_cons.2 ⟨good79, List.forall_mem_nil _⟩⟩
  refine ⟨⟨spec_ok (tab_ok.env hl) (tab.natl hl) Try.func41 (by kernel_rfl : Try.f41.body = some f41c) [29] (by kernel_rfl) ?_, _, Try.func41, by kernel_rfl, of_decide_eq_true (by kernel_rfl)⟩, Gm.Spec.of_natl _ _ _ _⟩
  intro ds outs h
  unfold q41 at h
  split at h
  · simp only [Option.some.injEq, Prod.mk.injEq] at h; obtain ⟨hg, h⟩ := h; cases h; exact f41_spec _ hg
  · cases h
noncomputable def f36c : Code := (Try.f36.body).getD .skip
def f36k : Nat → Kp := kat [⟨[0, 2, 4], [], [], []⟩, ⟨[2, 4, 5], [], [], []⟩, ⟨[2, 4, 5, 6], [], [], []⟩, ⟨[2, 4, 5, 6, 7], [], [], []⟩, ⟨[2, 3, 4], [], [], []⟩]
noncomputable def f36e : Env := tab.env [(59, s59), (79, s79), (80, s80), (81, s81)]
theorem f36_run {R : Type} (n : Nat) (k : List Dt → Option R) (a0 : List Int) : evFn f36e f36k n f36c [.kp] [false, false, false] true [.cell 2 29, .tmp 3, .cell 4 50] [29, 3, 50] [.d (.sl (.i .u8)) a0] k =
    (cond (gCode a0)
  (cond (gCur (curNew a0))
   (cond ((fun c _ => gCur c) ((hDraw (curNew a0)).2) (4 : Int))
    (cond (gCur ((curBelow ((hDraw (curNew a0)).2) (4 : Int)).2))
     (k [.d .hist ((hDraw (curNew a0)).1), .d (.i .i64) ((curBelow ((hDraw (curNew a0)).2) (4 : Int)).1), .d .item ((hItem ((curBelow ((hDraw (curNew a0)).2) (4 : Int)).2)).1)])
     none)
    none)
   none)
  none) := by kernel_rfl
def f36_P (a0 : List Int) (o : HistT × Int × ItemT) : Prop := (fun _ o => sm_hist o.1 = true ∧ okI o.2.1 = true ∧ sm_item o.2.2 = true) a0 o ∧ ∃ n : Nat, ∀ {R : Type} (k : List Dt → Option R), evFn f36e f36k n f36c [.kp] [false, false, false] true [.cell 2 29, .tmp 3, .cell 4 50] [29, 3, 50] [.d (.sl (.i .u8)) a0] k = k [.d .hist o.1, .d (.i .i64) o.2.1, .d .item o.2.2]
theorem f36_ex (a0 : List Int) (hg : gCode a0 = true) : ∃ o : HistT × Int × ItemT, (fun _ o => sm_hist o.1 = true ∧ okI o.2.1 = true ∧ sm_item o.2.2 = true) a0 o ∧ ∃ n : Nat, ∀ {R : Type} (k : List Dt → Option R), evFn f36e f36k n f36c [.kp] [false, false, false] true [.cell 2 29, .tmp 3, .cell 4 50] [29, 3, 50] [.d (.sl (.i .u8)) a0] k = k [.d .hist o.1, .d (.i .i64) o.2.1, .d .item o.2.2] := by
  have g0 := curNew_ok a0 hg
  obtain ⟨h1, h2, g1⟩ := hDraw_ok _ g0
  obtain ⟨b0, b1, g2⟩ := curBelow_ok (hDraw (curNew a0)).2 4 g1
  have b1 := b1 (by omega)
  have ob : okI (curBelow (hDraw (curNew a0)).2 4).1 = true := okI_of (by omega) (by omega)
  obtain ⟨h3, g3⟩ := hItem_ok _ g2
  refine ⟨(?az0, ?bz0, ?c), ?gz0, 0, ?rz0⟩
  case rz0 =>
    intro R k
    rw [f36_run]
    simp only [hg, g0, g1, g2, cond_true]
    exact rfl
  case gz0 => exact ⟨h1, ob, h3⟩
theorem f36_ne (a0 : List Int) : Nonempty {o : HistT × Int × ItemT // gCode a0 = true → f36_P a0 o} := by
  by_cases hg : gCode a0 = true
  · obtain ⟨o, ho⟩ := f36_ex a0 hg
    exact ⟨⟨o, fun _ => ho⟩⟩
  · exact ⟨⟨((zero .hist), (zero (.i .i64)), (zero .item)), fun h => absurd h hg⟩⟩
noncomputable def dHistAdd (a0 : List Int) : HistT × Int × ItemT := (Classical.choice (f36_ne a0)).val
theorem f36_sp (a0 : List Int) (hg : gCode a0 = true) : f36_P a0 (dHistAdd a0) := (Classical.choice (f36_ne a0)).property hg
theorem dHistAdd_ok (a0 : List Int) (hg : gCode a0 = true) : (fun _ o => sm_hist o.1 = true ∧ okI o.2.1 = true ∧ sm_item o.2.2 = true) a0 (dHistAdd a0) := (f36_sp a0 hg).1
theorem f36_spec (a0 : List Int) (hg : gCode a0 = true) : ∃ keep rounds, ∀ {R : Type} (k : List Dt → Option R), evFn f36e keep rounds f36c [.kp] [false, false, false] true [.cell 2 29, .tmp 3, .cell 4 50] [29, 3, 50] [.d (.sl (.i .u8)) a0] k = k [.d .hist ((dHistAdd a0).1), .d (.i .i64) ((dHistAdd a0).2.1), .d .item ((dHistAdd a0).2.2)] := by
  obtain ⟨n, hn⟩ := (f36_sp a0 hg).2
  exact ⟨f36k, n, hn⟩
noncomputable def q36 : List Dt → Option (Bool × List Dt)
  | [.d (.sl (.i .u8)) a0] => some ((gCode a0), [.d .hist ((dHistAdd a0).1), .d (.i .i64) ((dHistAdd a0).2.1), .d .item ((dHistAdd a0).2.2)])
  | _ => none
noncomputable def s36 : Gm.Spec := Gm.Spec.of [.kp] [false, false, false] true q36
theorem good36 : Gm.Good Try.prog (36, s36) := by
  have hl : ∀ x ∈ [(59, s59), (79, s79), (80, s80), (81, s81)], Gm.Good Try.prog x := List.forall_mem_cons.2 ⟨good59, List.forall_mem_cons.2 ⟨good79, List.forall_mem_cons.2 ⟨good80, List.forall_mem_cons.2 ⟨good81, List.forall_mem_nil _⟩⟩⟩⟩
  refine ⟨⟨spec_ok (tab_ok.env hl) (tab.natl hl) Try.func36 (by kernel_rfl : Try.f36.body = some f36c) [29, 3, 50] (by kernel_rfl) ?_, _, Try.func36, by kernel_rfl, of_decide_eq_true (by kernel_rfl)⟩, Gm.Spec.of_natl _ _ _ _⟩
  intro ds outs h
  unfold q36 at h
  split at h
  · simp only [Option.some.injEq, Prod.mk.injEq] at h; obtain ⟨hg, h⟩ := h; cases h; exact f36_spec _ hg
  · cases h
noncomputable def f37c : Code := (Try.f37.body).getD .skip
def f37k : Nat → Kp := kat [⟨[0, 2], [], [], []⟩, ⟨[2, 4], [], [], []⟩, ⟨[2, 4, 5], [], [], []⟩, ⟨[2, 4, 5, 11], [], [], []⟩, ⟨[2, 3], [], [], []⟩, ⟨[2, 3], [], [], []⟩]
noncomputable def f37e : Env := tab.env [(59, s59), (79, s79), (80, s80), (82, s82), (83, s83)]
theorem f37_run {R : Type} (n : Nat) (k : List Dt → Option R) (a0 : List Int) : evFn f37e f37k n f37c [.kp] [false, false] true [.cell 2 29, .tmp 3] [29, 3] [.d (.sl (.i .u8)) a0] k =
    (cond (gCode a0)
  (cond (gCur (curNew a0))
   (cond ((fun c _ => gCur c) ((hDraw (curNew a0)).2) (4 : Int))
    (cond ((curOnce ((hDraw (curNew a0)).2) (4 : Int)).1)
     (cond (gPickI ((curOnce ((hDraw (curNew a0)).2) (4 : Int)).2) ([(-1 : Int), (0 : Int), (99 : Int), (9223372036854775807 : Int)] : List Int))
      (k [.d .hist ((hDraw (curNew a0)).1), .d (.i .i64) ((curPickI ((curOnce ((hDraw (curNew a0)).2) (4 : Int)).2) ([(-1 : Int), (0 : Int), (99 : Int), (9223372036854775807 : Int)] : List Int)).1)])
      none)
     (cond ((fun c _ => gCur c) ((curOnce ((hDraw (curNew a0)).2) (4 : Int)).2) (IntKind.wrap .i64 (((HistT.list ((hDraw (curNew a0)).1)).length : Int) + (2 : Int))))
      (k [.d .hist ((hDraw (curNew a0)).1), .d (.i .i64) (IntKind.wrap .i64 ((HistT.base ((hDraw (curNew a0)).1)) + ((curBelow ((curOnce ((hDraw (curNew a0)).2) (4 : Int)).2) (IntKind.wrap .i64 (((HistT.list ((hDraw (curNew a0)).1)).length : Int) + (2 : Int)))).1)))])
      none))
    none)
   none)
  none) := by kernel_rfl
def f37_P (a0 : List Int) (o : HistT × Int) : Prop := (fun _ o => sm_hist o.1 = true ∧ okI o.2 = true) a0 o ∧ ∃ n : Nat, ∀ {R : Type} (k : List Dt → Option R), evFn f37e f37k n f37c [.kp] [false, false] true [.cell 2 29, .tmp 3] [29, 3] [.d (.sl (.i .u8)) a0] k = k [.d .hist o.1, .d (.i .i64) o.2]
theorem f37_ex (a0 : List Int) (hg : gCode a0 = true) : ∃ o : HistT × Int, (fun _ o => sm_hist o.1 = true ∧ okI o.2 = true) a0 o ∧ ∃ n : Nat, ∀ {R : Type} (k : List Dt → Option R), evFn f37e f37k n f37c [.kp] [false, false] true [.cell 2 29, .tmp 3] [29, 3] [.d (.sl (.i .u8)) a0] k = k [.d .hist o.1, .d (.i .i64) o.2] := by
  have g0 := curNew_ok a0 hg
  obtain ⟨h1, h2, g1⟩ := hDraw_ok _ g0
  have g2 := curOnce_ok (hDraw (curNew a0)).2 4 g1
  cases e0 : (curOnce (hDraw (curNew a0)).2 4).1
  · refine ⟨(?az0, ?bz0), ?gz0, 0, ?rz0⟩
    case rz0 =>
      intro R k
      rw [f37_run]
      simp only [hg, g0, g1, e0, g2, Bool.not_true, Bool.not_false, cond_true, cond_false]
      exact rfl
    case gz0 => exact ⟨h1, okI_wrap _⟩
  have hp := gPickI_of (l := ([(-1 : Int), (0 : Int), (99 : Int), (9223372036854775807 : Int)] : List Int)) g2 rfl
  obtain ⟨hm, g3⟩ := curPickI_ok _ _ hp
  refine ⟨(?az1, ?bz1), ?gz1, 0, ?rz1⟩
  case rz1 =>
    intro R k
    rw [f37_run]
    simp only [hg, g0, g1, e0, g2, hp, Bool.not_true, Bool.not_false, cond_true, cond_false]
    exact rfl
  case gz1 => exact ⟨h1, (List.all_eq_true.1 (show (([(-1 : Int), (0 : Int), (99 : Int), (9223372036854775807 : Int)] : List Int).all okI) = true from rfl) _ hm)⟩
theorem f37_ne (a0 : List Int) : Nonempty {o : HistT × Int // gCode a0 = true → f37_P a0 o} := by
  by_cases hg : gCode a0 = true
  · obtain ⟨o, ho⟩ := f37_ex a0 hg
    exact ⟨⟨o, fun _ => ho⟩⟩
  · exact ⟨⟨((zero .hist), (zero (.i .i64))), fun h => absurd h hg⟩⟩
noncomputable def dSince (a0 : List Int) : HistT × Int := (Classical.choice (f37_ne a0)).val
theorem f37_sp (a0 : List Int) (hg : gCode a0 = true) : f37_P a0 (dSince a0) := (Classical.choice (f37_ne a0)).property hg
theorem dSince_ok (a0 : List Int) (hg : gCode a0 = true) : (fun _ o => sm_hist o.1 = true ∧ okI o.2 = true) a0 (dSince a0) := (f37_sp a0 hg).1
theorem f37_spec (a0 : List Int) (hg : gCode a0 = true) : ∃ keep rounds, ∀ {R : Type} (k : List Dt → Option R), evFn f37e keep rounds f37c [.kp] [false, false] true [.cell 2 29, .tmp 3] [29, 3] [.d (.sl (.i .u8)) a0] k = k [.d .hist ((dSince a0).1), .d (.i .i64) ((dSince a0).2)] := by
  obtain ⟨n, hn⟩ := (f37_sp a0 hg).2
  exact ⟨f37k, n, hn⟩
noncomputable def q37 : List Dt → Option (Bool × List Dt)
  | [.d (.sl (.i .u8)) a0] => some ((gCode a0), [.d .hist ((dSince a0).1), .d (.i .i64) ((dSince a0).2)])
  | _ => none
noncomputable def s37 : Gm.Spec := Gm.Spec.of [.kp] [false, false] true q37
theorem good37 : Gm.Good Try.prog (37, s37) := by
  have hl : ∀ x ∈ [(59, s59), (79, s79), (80, s80), (82, s82), (83, s83)], Gm.Good Try.prog x := List.forall_mem_cons.2 ⟨good59, List.forall_mem_cons.2 ⟨good79, List.forall_mem_cons.2 ⟨good80, List.forall_mem_cons.2 ⟨good82, List.forall_mem_cons.2 ⟨good83, List.forall_mem_nil _⟩⟩⟩⟩⟩
  refine ⟨⟨spec_ok (tab_ok.env hl) (tab.natl hl) Try.func37 (by kernel_rfl : Try.f37.body = some f37c) [29, 3] (by kernel_rfl) ?_, _, Try.func37, by kernel_rfl, of_decide_eq_true (by kernel_rfl)⟩, Gm.Spec.of_natl _ _ _ _⟩
  intro ds outs h
  unfold q37 at h
  split at h
  · simp only [Option.some.injEq, Prod.mk.injEq] at h; obtain ⟨hg, h⟩ := h; cases h; exact f37_spec _ hg
  · cases h
noncomputable def f39c : Code := (Try.f39.body).getD .skip
def f39k : Nat → Kp := kat [⟨[0, 2], [], [], []⟩, ⟨[2, 4], [], [], []⟩, ⟨[2, 4, 5], [], [], []⟩, ⟨[2, 4, 5, 11], [], [], []⟩, ⟨[2, 3], [], [], []⟩, ⟨[2, 3], [], [], []⟩]
noncomputable def f39e : Env := tab.env [(59, s59), (79, s79), (80, s80), (82, s82), (83, s83)]
theorem f39_run {R : Type} (n : Nat) (k : List Dt → Option R) (a0 : List Int) : evFn f39e f39k n f39c [.kp] [false, false] true [.cell 2 29, .tmp 3] [29, 3] [.d (.sl (.i .u8)) a0] k =
    (cond (gCode a0)
  (cond (gCur (curNew a0))
   (cond ((fun c _ => gCur c) ((hDraw (curNew a0)).2) (4 : Int))
    (cond ((curOnce ((hDraw (curNew a0)).2) (4 : Int)).1)
     (cond (gPickI ((curOnce ((hDraw (curNew a0)).2) (4 : Int)).2) ([(-1 : Int), (0 : Int), (99 : Int), (9223372036854775807 : Int)] : List Int))
      (k [.d .hist ((hDraw (curNew a0)).1), .d (.i .i64) ((curPickI ((curOnce ((hDraw (curNew a0)).2) (4 : Int)).2) ([(-1 : Int), (0 : Int), (99 : Int), (9223372036854775807 : Int)] : List Int)).1)])
      none)
     (cond ((fun c _ => gCur c) ((curOnce ((hDraw (curNew a0)).2) (4 : Int)).2) (IntKind.wrap .i64 (((HistT.list ((hDraw (curNew a0)).1)).length : Int) + (2 : Int))))
      (k [.d .hist ((hDraw (curNew a0)).1), .d (.i .i64) (IntKind.wrap .i64 ((HistT.base ((hDraw (curNew a0)).1)) + ((curBelow ((curOnce ((hDraw (curNew a0)).2) (4 : Int)).2) (IntKind.wrap .i64 (((HistT.list ((hDraw (curNew a0)).1)).length : Int) + (2 : Int)))).1)))])
      none))
    none)
   none)
  none) := by kernel_rfl
def f39_P (a0 : List Int) (o : HistT × Int) : Prop := (fun _ o => sm_hist o.1 = true ∧ okI o.2 = true) a0 o ∧ ∃ n : Nat, ∀ {R : Type} (k : List Dt → Option R), evFn f39e f39k n f39c [.kp] [false, false] true [.cell 2 29, .tmp 3] [29, 3] [.d (.sl (.i .u8)) a0] k = k [.d .hist o.1, .d (.i .i64) o.2]
theorem f39_ex (a0 : List Int) (hg : gCode a0 = true) : ∃ o : HistT × Int, (fun _ o => sm_hist o.1 = true ∧ okI o.2 = true) a0 o ∧ ∃ n : Nat, ∀ {R : Type} (k : List Dt → Option R), evFn f39e f39k n f39c [.kp] [false, false] true [.cell 2 29, .tmp 3] [29, 3] [.d (.sl (.i .u8)) a0] k = k [.d .hist o.1, .d (.i .i64) o.2] := by
  have g0 := curNew_ok a0 hg
  obtain ⟨h1, h2, g1⟩ := hDraw_ok _ g0
  have g2 := curOnce_ok (hDraw (curNew a0)).2 4 g1
  cases e0 : (curOnce (hDraw (curNew a0)).2 4).1
  · refine ⟨(?az0, ?bz0), ?gz0, 0, ?rz0⟩
    case rz0 =>
      intro R k
      rw [f39_run]
      simp only [hg, g0, g1, e0, g2, Bool.not_true, Bool.not_false, cond_true, cond_false]
      exact rfl
    case gz0 => exact ⟨h1, okI_wrap _⟩
  have hp := gPickI_of (l := ([(-1 : Int), (0 : Int), (99 : Int), (9223372036854775807 : Int)] : List Int)) g2 rfl
  obtain ⟨hm, g3⟩ := curPickI_ok _ _ hp
  refine ⟨(?az1, ?bz1), ?gz1, 0, ?rz1⟩
  case rz1 =>
    intro R k
    rw [f39_run]
    simp only [hg, g0, g1, e0, g2, hp, Bool.not_true, Bool.not_false, cond_true, cond_false]
    exact rfl
  case gz1 => exact ⟨h1, (List.all_eq_true.1 (show (([(-1 : Int), (0 : Int), (99 : Int), (9223372036854775807 : Int)] : List Int).all okI) = true from rfl) _ hm)⟩
theorem f39_ne (a0 : List Int) : Nonempty {o : HistT × Int // gCode a0 = true → f39_P a0 o} := by
  by_cases hg : gCode a0 = true
  · obtain ⟨o, ho⟩ := f39_ex a0 hg
    exact ⟨⟨o, fun _ => ho⟩⟩
  · exact ⟨⟨((zero .hist), (zero (.i .i64))), fun h => absurd h hg⟩⟩
noncomputable def dCompact (a0 : List Int) : HistT × Int := (Classical.choice (f39_ne a0)).val
theorem f39_sp (a0 : List Int) (hg : gCode a0 = true) : f39_P a0 (dCompact a0) := (Classical.choice (f39_ne a0)).property hg
theorem dCompact_ok (a0 : List Int) (hg : gCode a0 = true) : (fun _ o => sm_hist o.1 = true ∧ okI o.2 = true) a0 (dCompact a0) := (f39_sp a0 hg).1
theorem f39_spec (a0 : List Int) (hg : gCode a0 = true) : ∃ keep rounds, ∀ {R : Type} (k : List Dt → Option R), evFn f39e keep rounds f39c [.kp] [false, false] true [.cell 2 29, .tmp 3] [29, 3] [.d (.sl (.i .u8)) a0] k = k [.d .hist ((dCompact a0).1), .d (.i .i64) ((dCompact a0).2)] := by
  obtain ⟨n, hn⟩ := (f39_sp a0 hg).2
  exact ⟨f39k, n, hn⟩
noncomputable def q39 : List Dt → Option (Bool × List Dt)
  | [.d (.sl (.i .u8)) a0] => some ((gCode a0), [.d .hist ((dCompact a0).1), .d (.i .i64) ((dCompact a0).2)])
  | _ => none
noncomputable def s39 : Gm.Spec := Gm.Spec.of [.kp] [false, false] true q39
theorem good39 : Gm.Good Try.prog (39, s39) := by
  have hl : ∀ x ∈ [(59, s59), (79, s79), (80, s80), (82, s82), (83, s83)], Gm.Good Try.prog x := List.forall_mem_cons.2 ⟨good59, List.forall_mem_cons.2 ⟨good79, List.forall_mem_cons.2 ⟨good80, List.forall_mem_cons.2 ⟨good82, List.forall_mem_cons.2 ⟨good83, List.forall_mem_nil _⟩⟩⟩⟩⟩
  refine ⟨⟨spec_ok (tab_ok.env hl) (tab.natl hl) Try.func39 (by kernel_rfl : Try.f39.body = some f39c) [29, 3] (by kernel_rfl) ?_, _, Try.func39, by kernel_rfl, of_decide_eq_true (by kernel_rfl)⟩, Gm.Spec.of_natl _ _ _ _⟩
  intro ds outs h
  unfold q39 at h
  split at h
  · simp only [Option.some.injEq, Prod.mk.injEq] at h; obtain ⟨hg, h⟩ := h; cases h; exact f39_spec _ hg
  · cases h
noncomputable def f40c : Code := (Try.f40.body).getD .skip
def f40k : Nat → Kp := kat [⟨[0], [], [], []⟩, ⟨[4], [], [], []⟩, ⟨[4, 5], [], [], []⟩, ⟨[2, 3], [], [], []⟩]
noncomputable def f40e : Env := tab.env [(59, s59), (79, s79), (85, s85)]
theorem f40_run {R : Type} (n : Nat) (k : List Dt → Option R) (a0 : List Int) : evFn f40e f40k n f40c [.kp] [false, false] true [.tmp 2, .tmp 3] [35, 27] [.d (.sl (.i .u8)) a0] k =
    (cond (gCode a0)
  (cond (gCur (curNew a0))
   (cond (gCur ((sDraw (curNew a0)).2))
    (k [.d (.sl .item) (StoreT.items ((sDraw (curNew a0)).1)), .d (.sl .event) (HistT.list ((hDraw ((sDraw (curNew a0)).2)).1))])
    none)
   none)
  none) := by kernel_rfl
def f40_P (a0 : List Int) (o : List ItemT × List EventT) : Prop := (fun _ o => smL sm_item o.1 = true ∧ o.1.length ≤ 7 ∧ smL sm_event o.2 = true ∧ o.2.length ≤ 6) a0 o ∧ ∃ n : Nat, ∀ {R : Type} (k : List Dt → Option R), evFn f40e f40k n f40c [.kp] [false, false] true [.tmp 2, .tmp 3] [35, 27] [.d (.sl (.i .u8)) a0] k = k [.d (.sl .item) o.1, .d (.sl .event) o.2]
theorem f40_ex (a0 : List Int) (hg : gCode a0 = true) : ∃ o : List ItemT × List EventT, (fun _ o => smL sm_item o.1 = true ∧ o.1.length ≤ 7 ∧ smL sm_event o.2 = true ∧ o.2.length ≤ 6) a0 o ∧ ∃ n : Nat, ∀ {R : Type} (k : List Dt → Option R), evFn f40e f40k n f40c [.kp] [false, false] true [.tmp 2, .tmp 3] [35, 27] [.d (.sl (.i .u8)) a0] k = k [.d (.sl .item) o.1, .d (.sl .event) o.2] := by
  have g0 := curNew_ok a0 hg
  obtain ⟨h1, h2, g1⟩ := sDraw_ok _ g0
  obtain ⟨h3, h4, g2⟩ := hDraw_ok _ g1
  have h3' := h3
  simp only [sm_hist, Bool.and_eq_true] at h3'
  refine ⟨(?az0, ?bz0), ?gz0, 0, ?rz0⟩
  case rz0 =>
    intro R k
    rw [f40_run]
    simp only [hg, g0, g1, Bool.not_true, Bool.not_false, cond_true, cond_false]
    exact rfl
  case gz0 => exact ⟨(store_parts h1).1, h2, h3'.2, h4⟩
theorem f40_ne (a0 : List Int) : Nonempty {o : List ItemT × List EventT // gCode a0 = true → f40_P a0 o} := by
  by_cases hg : gCode a0 = true
  · obtain ⟨o, ho⟩ := f40_ex a0 hg
    exact ⟨⟨o, fun _ => ho⟩⟩
  · exact ⟨⟨([], []), fun h => absurd h hg⟩⟩
noncomputable def dReplay (a0 : List Int) : List ItemT × List EventT := (Classical.choice (f40_ne a0)).val
theorem f40_sp (a0 : List Int) (hg : gCode a0 = true) : f40_P a0 (dReplay a0) := (Classical.choice (f40_ne a0)).property hg
theorem dReplay_ok (a0 : List Int) (hg : gCode a0 = true) : (fun _ o => smL sm_item o.1 = true ∧ o.1.length ≤ 7 ∧ smL sm_event o.2 = true ∧ o.2.length ≤ 6) a0 (dReplay a0) := (f40_sp a0 hg).1
theorem f40_spec (a0 : List Int) (hg : gCode a0 = true) : ∃ keep rounds, ∀ {R : Type} (k : List Dt → Option R), evFn f40e keep rounds f40c [.kp] [false, false] true [.tmp 2, .tmp 3] [35, 27] [.d (.sl (.i .u8)) a0] k = k [.d (.sl .item) ((dReplay a0).1), .d (.sl .event) ((dReplay a0).2)] := by
  obtain ⟨n, hn⟩ := (f40_sp a0 hg).2
  exact ⟨f40k, n, hn⟩
noncomputable def q40 : List Dt → Option (Bool × List Dt)
  | [.d (.sl (.i .u8)) a0] => some ((gCode a0), [.d (.sl .item) ((dReplay a0).1), .d (.sl .event) ((dReplay a0).2)])
  | _ => none
noncomputable def s40 : Gm.Spec := Gm.Spec.of [.kp] [false, false] true q40
theorem good40 : Gm.Good Try.prog (40, s40) := by
  have hl : ∀ x ∈ [(59, s59), (79, s79), (85, s85)], Gm.Good Try.prog x := List.forall_mem_cons.2 ⟨good59, List.forall_mem_cons.2 ⟨good79, List.forall_mem_cons.2 ⟨good85, List.forall_mem_nil _⟩⟩⟩
  refine ⟨⟨spec_ok (tab_ok.env hl) (tab.natl hl) Try.func40 (by kernel_rfl : Try.f40.body = some f40c) [35, 27] (by kernel_rfl) ?_, _, Try.func40, by kernel_rfl, of_decide_eq_true (by kernel_rfl)⟩, Gm.Spec.of_natl _ _ _ _⟩
  intro ds outs h
  unfold q40 at h
  split at h
  · simp only [Option.some.injEq, Prod.mk.injEq] at h; obtain ⟨hg, h⟩ := h; cases h; exact f40_spec _ hg
  · cases h
end Go.Proofs.Ytnbehmbjoanfoaa

namespace Go.Proofs.Ytnbehmbjoanfoaa
open Go Go.Gm
noncomputable def f15c : Code := (Try.f15.body).getD .skip
def f15k : Nat → Kp := kat [⟨[0], [], [], []⟩, ⟨[2], [], [], []⟩]
noncomputable def f15e : Env := tab.env []
theorem f15_run {R : Type} (n : Nat) (k : List Dt → Option R) (a0 : List Int) : evFn f15e f15k n f15c [.ro] [false] true [.tmp 2] [4] [.d (.sl (.i .u8)) a0] k =
    (k [.d .bool (decide ((a0.length : Int) > (1048576 : Int)))]) := by kernel_rfl
theorem f15_spec (a0 : List Int) : ∃ keep rounds, ∀ {R : Type} (k : List Dt → Option R), evFn f15e keep rounds f15c [.ro] [false] true [.tmp 2] [4] [.d (.sl (.i .u8)) a0] k = k [.d .bool (bigC a0)] := by
  exact ⟨f15k, 0, fun k => f15_run 0 k a0⟩
noncomputable def q15 : List Dt → Option (Bool × List Dt)
  | [.d (.sl (.i .u8)) a0] => some (true, [.d .bool (bigC a0)])
  | _ => none
noncomputable def s15 : Gm.Spec := Gm.Spec.of [.ro] [false] true q15
theorem good15 : Gm.Good Try.prog (15, s15) := by
  have hl : ∀ x ∈ ([] : List (Nat × Gm.Spec)), Gm.Good Try.prog x := fun _ h => by cases h
  refine ⟨⟨spec_ok (tab_ok.env hl) (tab.natl hl) Try.func15 (by kernel_rfl : Try.f15.body = some f15c) [4] (by kernel_rfl) ?_, _, Try.func15, by kernel_rfl, of_decide_eq_true (by kernel_rfl)⟩, Gm.Spec.of_natl _ _ _ _⟩
  intro ds outs h
  unfold q15 at h
  split at h
  · cases h; exact f15_spec _
  · cases h
noncomputable def f68S0 (y0 : Int) (y1 : ByteArray) (y2 : ByteArray) (y3 : Int) (y4 : Int) (y5 : List MetricT) (y6 : Int) (y7 : Int) (y8 : Int) (y9 : Int) (y10 : List NoteT) (y11 : ByteArray) (y12 : ByteArray) (y13 : Int) (y14 : Int) (y15 : List MetricT) (y16 : Int) (y17 : Int) (y18 : Int) (y19 : Int) (y20 : List NoteT) : St := ⟨[(2, .c (.one (.pt 2 0))), (3, .c (.one (.pt 3 0))), (5, .c (.one (.v (.int .i64 y0))))], [(2, ⟨.order, [.v (.string y1), .v (.string y2), .v (.int .i64 y3), .v (.int .i64 y4), .ro .metric y5, .v (.int .i64 y6), .v (.int .i64 y7), .v (.int .i64 y8), .v (.int .i64 y9), .ro .note y10]⟩), (3, ⟨.order, [.v (.string y11), .v (.string y12), .v (.int .i64 y13), .v (.int .i64 y14), .ro .metric y15, .v (.int .i64 y16), .v (.int .i64 y17), .v (.int .i64 y18), .v (.int .i64 y19), .ro .note y20]⟩)], []⟩
noncomputable def f68S1 : St := ⟨[(4, .c (.one (.v (.bool false))))], [], []⟩
noncomputable def f68S2 (y0 : Int) (y1 : Bool) (y2 : ByteArray) (y3 : ByteArray) (y4 : Int) (y5 : Int) (y6 : List MetricT) (y7 : Int) (y8 : Int) (y9 : Int) (y10 : Int) (y11 : List NoteT) (y12 : ByteArray) (y13 : ByteArray) (y14 : Int) (y15 : Int) (y16 : List MetricT) (y17 : Int) (y18 : Int) (y19 : Int) (y20 : Int) (y21 : List NoteT) : St := ⟨[(2, .c (.one (.pt 2 0))), (3, .c (.one (.pt 3 0))), (5, .c (.one (.v (.int .i64 y0)))), (62, .c (.one (.v (.bool y1))))], [(2, ⟨.order, [.v (.string y2), .v (.string y3), .v (.int .i64 y4), .v (.int .i64 y5), .ro .metric y6, .v (.int .i64 y7), .v (.int .i64 y8), .v (.int .i64 y9), .v (.int .i64 y10), .ro .note y11]⟩), (3, ⟨.order, [.v (.string y12), .v (.string y13), .v (.int .i64 y14), .v (.int .i64 y15), .ro .metric y16, .v (.int .i64 y17), .v (.int .i64 y18), .v (.int .i64 y19), .v (.int .i64 y20), .ro .note y21]⟩)], []⟩
noncomputable def f68S3 (y0 : Int) (y1 : ByteArray) (y2 : ByteArray) (y3 : Int) (y4 : Int) (y5 : List MetricT) (y6 : Int) (y7 : Int) (y8 : Int) (y9 : Int) (y10 : List NoteT) (y11 : ByteArray) (y12 : ByteArray) (y13 : Int) (y14 : Int) (y15 : List MetricT) (y16 : Int) (y17 : Int) (y18 : Int) (y19 : Int) (y20 : List NoteT) : St := ⟨[(2, .c (.one (.pt 2 0))), (3, .c (.one (.pt 3 0))), (6, .c (.one (.v (.int .i64 y0))))], [(2, ⟨.order, [.v (.string y1), .v (.string y2), .v (.int .i64 y3), .v (.int .i64 y4), .ro .metric y5, .v (.int .i64 y6), .v (.int .i64 y7), .v (.int .i64 y8), .v (.int .i64 y9), .ro .note y10]⟩), (3, ⟨.order, [.v (.string y11), .v (.string y12), .v (.int .i64 y13), .v (.int .i64 y14), .ro .metric y15, .v (.int .i64 y16), .v (.int .i64 y17), .v (.int .i64 y18), .v (.int .i64 y19), .ro .note y20]⟩)], []⟩
noncomputable def f68S4 (y0 : Int) (y1 : Bool) (y2 : ByteArray) (y3 : ByteArray) (y4 : Int) (y5 : Int) (y6 : List MetricT) (y7 : Int) (y8 : Int) (y9 : Int) (y10 : Int) (y11 : List NoteT) (y12 : ByteArray) (y13 : ByteArray) (y14 : Int) (y15 : Int) (y16 : List MetricT) (y17 : Int) (y18 : Int) (y19 : Int) (y20 : Int) (y21 : List NoteT) : St := ⟨[(2, .c (.one (.pt 2 0))), (3, .c (.one (.pt 3 0))), (6, .c (.one (.v (.int .i64 y0)))), (80, .c (.one (.v (.bool y1))))], [(2, ⟨.order, [.v (.string y2), .v (.string y3), .v (.int .i64 y4), .v (.int .i64 y5), .ro .metric y6, .v (.int .i64 y7), .v (.int .i64 y8), .v (.int .i64 y9), .v (.int .i64 y10), .ro .note y11]⟩), (3, ⟨.order, [.v (.string y12), .v (.string y13), .v (.int .i64 y14), .v (.int .i64 y15), .ro .metric y16, .v (.int .i64 y17), .v (.int .i64 y18), .v (.int .i64 y19), .v (.int .i64 y20), .ro .note y21]⟩)], []⟩
noncomputable def f68c : Code := (Try.f68.body).getD .skip
def f68k : Nat → Kp := kat [⟨[2, 3], [], [], []⟩, ⟨[2, 3, 57], [], [], []⟩, ⟨[4], [], [], []⟩, ⟨[2, 3, 5], [], [], []⟩, ⟨[2, 3, 5, 62], [], [], []⟩, ⟨[2, 3, 5], [], [], []⟩, ⟨[2, 3, 5, 75], [], [], []⟩, ⟨[4], [], [], []⟩, ⟨[2, 3, 6], [], [], []⟩, ⟨[2, 3, 6, 80], [], [], []⟩, ⟨[2, 3, 6], [], [], []⟩, ⟨[2, 3, 6, 93], [], [], []⟩, ⟨[4], [], [], []⟩, ⟨[4], [], [], []⟩]
noncomputable def f68e : Env := tab.env []
noncomputable def f68L0 {R : Type} (n : Nat) (x0 : Option R) (x1 : Int → Bool → Option R) (vb2_0 : ByteArray) (vb2_1 : ByteArray) (vb2_2 : Int) (vb2_3 : Int) (vb2_4 : List MetricT) (vb2_5 : Int) (vb2_6 : Int) (vb2_7 : Int) (vb2_8 : Int) (vb2_9 : List NoteT) (vb3_0 : ByteArray) (vb3_1 : ByteArray) (vb3_2 : Int) (vb3_3 : Int) (vb3_4 : List MetricT) (vb3_5 : Int) (vb3_6 : Int) (vb3_7 : Int) (vb3_8 : Int) (vb3_9 : List NoteT) : Nat → Int → Option R
  | 0, _ => none
  | m + 1, vs5 =>
    (cond (decide (vs5 < (vb2_4.length : Int)))
   (cond ((decide ((0 : Int) ≤ vs5)) && (decide (vs5 < (vb2_4.length : Int))))
    (cond ((decide ((0 : Int) ≤ vs5)) && (decide (vs5 < (vb3_4.length : Int))))
     (cond (!(((MetricT.name (atI (t := .metric) vb2_4 (Int.toNat vs5))) == (MetricT.name (atI (t := .metric) vb3_4 (Int.toNat vs5)))) && (((MetricT.kind (atI (t := .metric) vb2_4 (Int.toNat vs5))) == (MetricT.kind (atI (t := .metric) vb3_4 (Int.toNat vs5)))) && (((MetricT.goal (atI (t := .metric) vb2_4 (Int.toNat vs5))) == (MetricT.goal (atI (t := .metric) vb3_4 (Int.toNat vs5)))) && true))))
      (x0)
      (f68L0 n x0 x1 vb2_0 vb2_1 vb2_2 vb2_3 vb2_4 vb2_5 vb2_6 vb2_7 vb2_8 vb2_9 vb3_0 vb3_1 vb3_2 vb3_3 vb3_4 vb3_5 vb3_6 vb3_7 vb3_8 vb3_9 m (IntKind.wrap .i64 (vs5 + (1 : Int)))))
     none)
    none)
   (x1 vs5 (decide (vs5 < (vb2_4.length : Int)))))
theorem f68L0_b {R : Type} (n : Nat) (k' : Ex → St → Option R) (vs5 : Int) (vb2_0 : ByteArray) (vb2_1 : ByteArray) (vb2_2 : Int) (vb2_3 : Int) (vb2_4 : List MetricT) (vb2_5 : Int) (vb2_6 : Int) (vb2_7 : Int) (vb2_8 : Int) (vb2_9 : List NoteT) (vb3_0 : ByteArray) (vb3_1 : ByteArray) (vb3_2 : Int) (vb3_3 : Int) (vb3_4 : List MetricT) (vb3_5 : Int) (vb3_6 : Int) (vb3_7 : Int) (vb3_8 : Int) (vb3_9 : List NoteT) : ev f68e f68k n (cAt [1,1,0,1,0,0] f68c) (f68S0 vs5 vb2_0 vb2_1 vb2_2 vb2_3 vb2_4 vb2_5 vb2_6 vb2_7 vb2_8 vb2_9 vb3_0 vb3_1 vb3_2 vb3_3 vb3_4 vb3_5 vb3_6 vb3_7 vb3_8 vb3_9) k' =
    (cond (decide (vs5 < (vb2_4.length : Int)))
  (cond ((decide ((0 : Int) ≤ vs5)) && (decide (vs5 < (vb2_4.length : Int))))
   (cond ((decide ((0 : Int) ≤ vs5)) && (decide (vs5 < (vb3_4.length : Int))))
    (cond (!(((MetricT.name (atI (t := .metric) vb2_4 (Int.toNat vs5))) == (MetricT.name (atI (t := .metric) vb3_4 (Int.toNat vs5)))) && (((MetricT.kind (atI (t := .metric) vb2_4 (Int.toNat vs5))) == (MetricT.kind (atI (t := .metric) vb3_4 (Int.toNat vs5)))) && (((MetricT.goal (atI (t := .metric) vb2_4 (Int.toNat vs5))) == (MetricT.goal (atI (t := .metric) vb3_4 (Int.toNat vs5)))) && true))))
     (k' .ret f68S1)
     (k' .normal (f68S0 (IntKind.wrap .i64 (vs5 + (1 : Int))) vb2_0 vb2_1 vb2_2 vb2_3 vb2_4 vb2_5 vb2_6 vb2_7 vb2_8 vb2_9 vb3_0 vb3_1 vb3_2 vb3_3 vb3_4 vb3_5 vb3_6 vb3_7 vb3_8 vb3_9)))
    none)
   none)
  (k' (.exit 0) (f68S2 vs5 (decide (vs5 < (vb2_4.length : Int))) vb2_0 vb2_1 vb2_2 vb2_3 vb2_4 vb2_5 vb2_6 vb2_7 vb2_8 vb2_9 vb3_0 vb3_1 vb3_2 vb3_3 vb3_4 vb3_5 vb3_6 vb3_7 vb3_8 vb3_9))) := by kernel_rfl
theorem f68L0_eq {R : Type} (n : Nat) (k' : Ex → St → Option R) (vb2_0 : ByteArray) (vb2_1 : ByteArray) (vb2_2 : Int) (vb2_3 : Int) (vb2_4 : List MetricT) (vb2_5 : Int) (vb2_6 : Int) (vb2_7 : Int) (vb2_8 : Int) (vb2_9 : List NoteT) (vb3_0 : ByteArray) (vb3_1 : ByteArray) (vb3_2 : Int) (vb3_3 : Int) (vb3_4 : List MetricT) (vb3_5 : Int) (vb3_6 : Int) (vb3_7 : Int) (vb3_8 : Int) (vb3_9 : List NoteT) : ∀ (m : Nat) (vs5 : Int), iter (fun st k => ev f68e f68k n (cAt [1,1,0,1,0,0] f68c) st k) m (f68S0 vs5 vb2_0 vb2_1 vb2_2 vb2_3 vb2_4 vb2_5 vb2_6 vb2_7 vb2_8 vb2_9 vb3_0 vb3_1 vb3_2 vb3_3 vb3_4 vb3_5 vb3_6 vb3_7 vb3_8 vb3_9) k' = f68L0 n (k' .ret f68S1) (fun (xvs5 : Int) (xvs62 : Bool) => k' (.exit 0) (f68S2 xvs5 xvs62 vb2_0 vb2_1 vb2_2 vb2_3 vb2_4 vb2_5 vb2_6 vb2_7 vb2_8 vb2_9 vb3_0 vb3_1 vb3_2 vb3_3 vb3_4 vb3_5 vb3_6 vb3_7 vb3_8 vb3_9)) vb2_0 vb2_1 vb2_2 vb2_3 vb2_4 vb2_5 vb2_6 vb2_7 vb2_8 vb2_9 vb3_0 vb3_1 vb3_2 vb3_3 vb3_4 vb3_5 vb3_6 vb3_7 vb3_8 vb3_9 m vs5 := by
  intro m; induction m with
  | zero => intros; rfl
  | succ m ih =>
    intro vs5
    simp only [iter]
    rw [f68L0_b]
    simp only [ih, f68L0]
noncomputable def f68L1 {R : Type} (n : Nat) (x0 : Option R) (x1 : Int → Bool → Option R) (vb2_0 : ByteArray) (vb2_1 : ByteArray) (vb2_2 : Int) (vb2_3 : Int) (vb2_4 : List MetricT) (vb2_5 : Int) (vb2_6 : Int) (vb2_7 : Int) (vb2_8 : Int) (vb2_9 : List NoteT) (vb3_0 : ByteArray) (vb3_1 : ByteArray) (vb3_2 : Int) (vb3_3 : Int) (vb3_4 : List MetricT) (vb3_5 : Int) (vb3_6 : Int) (vb3_7 : Int) (vb3_8 : Int) (vb3_9 : List NoteT) : Nat → Int → Option R
  | 0, _ => none
  | m + 1, vs6 =>
    (cond (decide (vs6 < (vb2_9.length : Int)))
   (cond ((decide ((0 : Int) ≤ vs6)) && (decide (vs6 < (vb2_9.length : Int))))
    (cond ((decide ((0 : Int) ≤ vs6)) && (decide (vs6 < (vb3_9.length : Int))))
     (cond (!(((NoteT.key (atI (t := .note) vb2_9 (Int.toNat vs6))) == (NoteT.key (atI (t := .note) vb3_9 (Int.toNat vs6)))) && (((NoteT.text (atI (t := .note) vb2_9 (Int.toNat vs6))) == (NoteT.text (atI (t := .note) vb3_9 (Int.toNat vs6)))) && true)))
      (x0)
      (f68L1 n x0 x1 vb2_0 vb2_1 vb2_2 vb2_3 vb2_4 vb2_5 vb2_6 vb2_7 vb2_8 vb2_9 vb3_0 vb3_1 vb3_2 vb3_3 vb3_4 vb3_5 vb3_6 vb3_7 vb3_8 vb3_9 m (IntKind.wrap .i64 (vs6 + (1 : Int)))))
     none)
    none)
   (x1 vs6 (decide (vs6 < (vb2_9.length : Int)))))
theorem f68L1_b {R : Type} (n : Nat) (k' : Ex → St → Option R) (vs6 : Int) (vb2_0 : ByteArray) (vb2_1 : ByteArray) (vb2_2 : Int) (vb2_3 : Int) (vb2_4 : List MetricT) (vb2_5 : Int) (vb2_6 : Int) (vb2_7 : Int) (vb2_8 : Int) (vb2_9 : List NoteT) (vb3_0 : ByteArray) (vb3_1 : ByteArray) (vb3_2 : Int) (vb3_3 : Int) (vb3_4 : List MetricT) (vb3_5 : Int) (vb3_6 : Int) (vb3_7 : Int) (vb3_8 : Int) (vb3_9 : List NoteT) : ev f68e f68k n (cAt [1,1,1,0,1,0,0] f68c) (f68S3 vs6 vb2_0 vb2_1 vb2_2 vb2_3 vb2_4 vb2_5 vb2_6 vb2_7 vb2_8 vb2_9 vb3_0 vb3_1 vb3_2 vb3_3 vb3_4 vb3_5 vb3_6 vb3_7 vb3_8 vb3_9) k' =
    (cond (decide (vs6 < (vb2_9.length : Int)))
  (cond ((decide ((0 : Int) ≤ vs6)) && (decide (vs6 < (vb2_9.length : Int))))
   (cond ((decide ((0 : Int) ≤ vs6)) && (decide (vs6 < (vb3_9.length : Int))))
    (cond (!(((NoteT.key (atI (t := .note) vb2_9 (Int.toNat vs6))) == (NoteT.key (atI (t := .note) vb3_9 (Int.toNat vs6)))) && (((NoteT.text (atI (t := .note) vb2_9 (Int.toNat vs6))) == (NoteT.text (atI (t := .note) vb3_9 (Int.toNat vs6)))) && true)))
     (k' .ret f68S1)
     (k' .normal (f68S3 (IntKind.wrap .i64 (vs6 + (1 : Int))) vb2_0 vb2_1 vb2_2 vb2_3 vb2_4 vb2_5 vb2_6 vb2_7 vb2_8 vb2_9 vb3_0 vb3_1 vb3_2 vb3_3 vb3_4 vb3_5 vb3_6 vb3_7 vb3_8 vb3_9)))
    none)
   none)
  (k' (.exit 2) (f68S4 vs6 (decide (vs6 < (vb2_9.length : Int))) vb2_0 vb2_1 vb2_2 vb2_3 vb2_4 vb2_5 vb2_6 vb2_7 vb2_8 vb2_9 vb3_0 vb3_1 vb3_2 vb3_3 vb3_4 vb3_5 vb3_6 vb3_7 vb3_8 vb3_9))) := by kernel_rfl
theorem f68L1_eq {R : Type} (n : Nat) (k' : Ex → St → Option R) (vb2_0 : ByteArray) (vb2_1 : ByteArray) (vb2_2 : Int) (vb2_3 : Int) (vb2_4 : List MetricT) (vb2_5 : Int) (vb2_6 : Int) (vb2_7 : Int) (vb2_8 : Int) (vb2_9 : List NoteT) (vb3_0 : ByteArray) (vb3_1 : ByteArray) (vb3_2 : Int) (vb3_3 : Int) (vb3_4 : List MetricT) (vb3_5 : Int) (vb3_6 : Int) (vb3_7 : Int) (vb3_8 : Int) (vb3_9 : List NoteT) : ∀ (m : Nat) (vs6 : Int), iter (fun st k => ev f68e f68k n (cAt [1,1,1,0,1,0,0] f68c) st k) m (f68S3 vs6 vb2_0 vb2_1 vb2_2 vb2_3 vb2_4 vb2_5 vb2_6 vb2_7 vb2_8 vb2_9 vb3_0 vb3_1 vb3_2 vb3_3 vb3_4 vb3_5 vb3_6 vb3_7 vb3_8 vb3_9) k' = f68L1 n (k' .ret f68S1) (fun (xvs6 : Int) (xvs80 : Bool) => k' (.exit 2) (f68S4 xvs6 xvs80 vb2_0 vb2_1 vb2_2 vb2_3 vb2_4 vb2_5 vb2_6 vb2_7 vb2_8 vb2_9 vb3_0 vb3_1 vb3_2 vb3_3 vb3_4 vb3_5 vb3_6 vb3_7 vb3_8 vb3_9)) vb2_0 vb2_1 vb2_2 vb2_3 vb2_4 vb2_5 vb2_6 vb2_7 vb2_8 vb2_9 vb3_0 vb3_1 vb3_2 vb3_3 vb3_4 vb3_5 vb3_6 vb3_7 vb3_8 vb3_9 m vs6 := by
  intro m; induction m with
  | zero => intros; rfl
  | succ m ih =>
    intro vs6
    simp only [iter]
    rw [f68L1_b]
    simp only [ih, f68L1]
noncomputable def f68K1 {R : Type} (n : Nat) (k' : Ex → St → Option R) : Ex → St → Option R := (blockK 2 (seqK f68e f68k n (cAt [1,1,1,1] f68c) k'))
theorem f68K1_x0 {R : Type} (n : Nat) (k : List Dt → Option R) (a0 : OrderT) (a1 : OrderT)  : f68K1 n (exitK f68e [.ro, .ro] [false] true [.tmp 4] [4] [.d .order a0, .d .order a1] k) .ret f68S1 =
    (k [.d .bool false]) := by kernel_rfl
theorem f68K1_x1 {R : Type} (n : Nat) (k : List Dt → Option R) (a0 : OrderT) (a1 : OrderT) (vb2_0 : ByteArray) (vb2_1 : ByteArray) (vb2_2 : Int) (vb2_3 : Int) (vb2_4 : List MetricT) (vb2_5 : Int) (vb2_6 : Int) (vb2_7 : Int) (vb2_8 : Int) (vb2_9 : List NoteT) (vb3_0 : ByteArray) (vb3_1 : ByteArray) (vb3_2 : Int) (vb3_3 : Int) (vb3_4 : List MetricT) (vb3_5 : Int) (vb3_6 : Int) (vb3_7 : Int) (vb3_8 : Int) (vb3_9 : List NoteT) (xvs6 : Int) (xvs80 : Bool) : f68K1 n (exitK f68e [.ro, .ro] [false] true [.tmp 4] [4] [.d .order a0, .d .order a1] k) (.exit 2) (f68S4 xvs6 xvs80 vb2_0 vb2_1 vb2_2 vb2_3 vb2_4 vb2_5 vb2_6 vb2_7 vb2_8 vb2_9 vb3_0 vb3_1 vb3_2 vb3_3 vb3_4 vb3_5 vb3_6 vb3_7 vb3_8 vb3_9) =
    (k [.d .bool true]) := by kernel_rfl
noncomputable def f68K0 {R : Type} (n : Nat) (k' : Ex → St → Option R) : Ex → St → Option R := (blockK 0 (seqK f68e f68k n (cAt [1,1,1] f68c) k'))
theorem f68K0_x0 {R : Type} (n : Nat) (k : List Dt → Option R) (a0 : OrderT) (a1 : OrderT)  : f68K0 n (exitK f68e [.ro, .ro] [false] true [.tmp 4] [4] [.d .order a0, .d .order a1] k) .ret f68S1 =
    (k [.d .bool false]) := by kernel_rfl
theorem f68K0_x1 {R : Type} (n : Nat) (k : List Dt → Option R) (a0 : OrderT) (a1 : OrderT) (vb2_0 : ByteArray) (vb2_1 : ByteArray) (vb2_2 : Int) (vb2_3 : Int) (vb2_4 : List MetricT) (vb2_5 : Int) (vb2_6 : Int) (vb2_7 : Int) (vb2_8 : Int) (vb2_9 : List NoteT) (vb3_0 : ByteArray) (vb3_1 : ByteArray) (vb3_2 : Int) (vb3_3 : Int) (vb3_4 : List MetricT) (vb3_5 : Int) (vb3_6 : Int) (vb3_7 : Int) (vb3_8 : Int) (vb3_9 : List NoteT) (xvs5 : Int) (xvs62 : Bool) : f68K0 n (exitK f68e [.ro, .ro] [false] true [.tmp 4] [4] [.d .order a0, .d .order a1] k) (.exit 0) (f68S2 xvs5 xvs62 vb2_0 vb2_1 vb2_2 vb2_3 vb2_4 vb2_5 vb2_6 vb2_7 vb2_8 vb2_9 vb3_0 vb3_1 vb3_2 vb3_3 vb3_4 vb3_5 vb3_6 vb3_7 vb3_8 vb3_9) =
    (f68L1 n (k [.d .bool false]) (fun (xvs6 : Int) (xvs80 : Bool) =>
  (k [.d .bool true])) vb2_0 vb2_1 vb2_2 vb2_3 vb2_4 vb2_5 vb2_6 vb2_7 vb2_8 vb2_9 vb3_0 vb3_1 vb3_2 vb3_3 vb3_4 vb3_5 vb3_6 vb3_7 vb3_8 vb3_9 n (0 : Int)) := by
  refine Eq.trans (b := (iter (fun st k => ev f68e f68k n (cAt [1,1,1,0,1,0,0] f68c) st k) n (f68S3 (0 : Int) vb2_0 vb2_1 vb2_2 vb2_3 vb2_4 vb2_5 vb2_6 vb2_7 vb2_8 vb2_9 vb3_0 vb3_1 vb3_2 vb3_3 vb3_4 vb3_5 vb3_6 vb3_7 vb3_8 vb3_9) (f68K1 n (exitK f68e [.ro, .ro] [false] true [.tmp 4] [4] [.d .order a0, .d .order a1] k)))) (by kernel_rfl) ?_
  simp only [f68L1_eq, f68K1_x0, f68K1_x1]
theorem f68_run {R : Type} (n : Nat) (k : List Dt → Option R) (a0 : OrderT) (a1 : OrderT) : evFn f68e f68k n f68c [.ro, .ro] [false] true [.tmp 4] [4] [.d .order a0, .d .order a1] k =
    (cond (!(sEq (OrderT.name a0) (OrderT.name a1)))
  (k [.d .bool false])
  (cond (!(sEq (OrderT.target a0) (OrderT.target a1)))
   (k [.d .bool false])
   (cond ((OrderT.low a0) != (OrderT.low a1))
    (k [.d .bool false])
    (cond ((OrderT.high a0) != (OrderT.high a1))
     (k [.d .bool false])
     (cond (!(((PaceT.up (OrderT.pace a0)) == (PaceT.up (OrderT.pace a1))) && (((PaceT.down (OrderT.pace a0)) == (PaceT.down (OrderT.pace a1))) && (((PaceT.upSpan (OrderT.pace a0)) == (PaceT.upSpan (OrderT.pace a1))) && (((PaceT.downSpan (OrderT.pace a0)) == (PaceT.downSpan (OrderT.pace a1))) && true)))))
      (k [.d .bool false])
      (cond (((OrderT.metrics a0).length : Int) != ((OrderT.metrics a1).length : Int))
       (k [.d .bool false])
       (cond (((OrderT.notes a0).length : Int) != ((OrderT.notes a1).length : Int))
        (k [.d .bool false])
        (f68L0 n (k [.d .bool false]) (fun (xvs5 : Int) (xvs62 : Bool) =>
         (f68L1 n (k [.d .bool false]) (fun (xvs6 : Int) (xvs80 : Bool) =>
          (k [.d .bool true])) (OrderT.name a0) (OrderT.target a0) (OrderT.low a0) (OrderT.high a0) (OrderT.metrics a0) (PaceT.up (OrderT.pace a0)) (PaceT.down (OrderT.pace a0)) (PaceT.upSpan (OrderT.pace a0)) (PaceT.downSpan (OrderT.pace a0)) (OrderT.notes a0) (OrderT.name a1) (OrderT.target a1) (OrderT.low a1) (OrderT.high a1) (OrderT.metrics a1) (PaceT.up (OrderT.pace a1)) (PaceT.down (OrderT.pace a1)) (PaceT.upSpan (OrderT.pace a1)) (PaceT.downSpan (OrderT.pace a1)) (OrderT.notes a1) n (0 : Int))) (OrderT.name a0) (OrderT.target a0) (OrderT.low a0) (OrderT.high a0) (OrderT.metrics a0) (PaceT.up (OrderT.pace a0)) (PaceT.down (OrderT.pace a0)) (PaceT.upSpan (OrderT.pace a0)) (PaceT.downSpan (OrderT.pace a0)) (OrderT.notes a0) (OrderT.name a1) (OrderT.target a1) (OrderT.low a1) (OrderT.high a1) (OrderT.metrics a1) (PaceT.up (OrderT.pace a1)) (PaceT.down (OrderT.pace a1)) (PaceT.upSpan (OrderT.pace a1)) (PaceT.downSpan (OrderT.pace a1)) (OrderT.notes a1) n (0 : Int))))))))) := by
  refine Eq.trans (b := (cond (!(sEq (OrderT.name a0) (OrderT.name a1)))
  (k [.d .bool false])
  (cond (!(sEq (OrderT.target a0) (OrderT.target a1)))
   (k [.d .bool false])
   (cond ((OrderT.low a0) != (OrderT.low a1))
    (k [.d .bool false])
    (cond ((OrderT.high a0) != (OrderT.high a1))
     (k [.d .bool false])
     (cond (!(((PaceT.up (OrderT.pace a0)) == (PaceT.up (OrderT.pace a1))) && (((PaceT.down (OrderT.pace a0)) == (PaceT.down (OrderT.pace a1))) && (((PaceT.upSpan (OrderT.pace a0)) == (PaceT.upSpan (OrderT.pace a1))) && (((PaceT.downSpan (OrderT.pace a0)) == (PaceT.downSpan (OrderT.pace a1))) && true)))))
      (k [.d .bool false])
      (cond (((OrderT.metrics a0).length : Int) != ((OrderT.metrics a1).length : Int))
       (k [.d .bool false])
       (cond (((OrderT.notes a0).length : Int) != ((OrderT.notes a1).length : Int))
        (k [.d .bool false])
        (iter (fun st k => ev f68e f68k n (cAt [1,1,0,1,0,0] f68c) st k) n (f68S0 (0 : Int) (OrderT.name a0) (OrderT.target a0) (OrderT.low a0) (OrderT.high a0) (OrderT.metrics a0) (PaceT.up (OrderT.pace a0)) (PaceT.down (OrderT.pace a0)) (PaceT.upSpan (OrderT.pace a0)) (PaceT.downSpan (OrderT.pace a0)) (OrderT.notes a0) (OrderT.name a1) (OrderT.target a1) (OrderT.low a1) (OrderT.high a1) (OrderT.metrics a1) (PaceT.up (OrderT.pace a1)) (PaceT.down (OrderT.pace a1)) (PaceT.upSpan (OrderT.pace a1)) (PaceT.downSpan (OrderT.pace a1)) (OrderT.notes a1)) (f68K0 n (exitK f68e [.ro, .ro] [false] true [.tmp 4] [4] [.d .order a0, .d .order a1] k))))))))))) (by kernel_rfl) ?_
  simp only [f68L0_eq, f68K0_x0, f68K0_x1, f68L1_eq, f68K1_x0, f68K1_x1]
theorem f68_spec (a0 : OrderT) (a1 : OrderT) (hg : gSame sm_order a0 a1 = true) : ∃ keep rounds, ∀ {R : Type} (k : List Dt → Option R), evFn f68e keep rounds f68c [.ro, .ro] [false] true [.tmp 4] [4] [.d .order a0, .d .order a1] k = k [.d .bool ((fun (_ _ : OrderT) => true) a0 a1)] := by
  obtain ⟨hs, rfl⟩ := gSame_iff.1 hg
  simp only [sm_order, Bool.and_eq_true] at hs
  obtain ⟨_, _, _, _, s5, _, s7⟩ := hs
  have l1 := smL_len s5
  have l2 := smL_len s7
  obtain ⟨N, hN⟩ : ∃ N, N = a0.metrics.length + a0.notes.length + 1 := ⟨_, rfl⟩
  refine ⟨f68k, N, fun {R} k => ?_⟩
  rw [f68_run]
  simp only [sEq_self, bne_self_eq_false, beq_self_eq_true, Bool.and_self, Bool.not_true, cond_false]
  show _ = k [.d .bool true]
  have key0 : ∀ (X : Option R) (Y : Int → Bool → Option R) (good : Option R), (∀ i b, Y i b = good) → ∀ d j m, j + d = a0.metrics.length → d < m → f68L0 N X Y a0.name a0.target a0.low a0.high a0.metrics a0.pace.up a0.pace.down a0.pace.upSpan a0.pace.downSpan a0.notes a0.name a0.target a0.low a0.high a0.metrics a0.pace.up a0.pace.down a0.pace.upSpan a0.pace.downSpan a0.notes m (j : Int) = good := by
    intro X Y good hY d
    induction d with
    | zero =>
      intro j m hj hm
      obtain ⟨m, rfl⟩ : ∃ m', m = m' + 1 := ⟨m - 1, by omega⟩
      simp only [f68L0, decide_eq_false (show ¬ ((j : Int) < (a0.metrics.length : Int)) by omega), cond_false, hY]
    | succ d ih =>
      intro j m hj hm
      obtain ⟨m, rfl⟩ : ∃ m', m = m' + 1 := ⟨m - 1, by omega⟩
      have hj' : j < a0.metrics.length := by omega
      obtain ⟨h1, h0, hw, ht⟩ := idx hj' (by omega)
      simp only [f68L0, h1, h0, hw, ht, sEq_self, bab_self, beq_self_eq_true, bne_self_eq_false, Bool.and_self, Bool.not_true, cond_true, cond_false]
      exact ih (j + 1) m (by omega) (by omega)
  have key1 : ∀ (X : Option R) (Y : Int → Bool → Option R) (good : Option R), (∀ i b, Y i b = good) → ∀ d j m, j + d = a0.notes.length → d < m → f68L1 N X Y a0.name a0.target a0.low a0.high a0.metrics a0.pace.up a0.pace.down a0.pace.upSpan a0.pace.downSpan a0.notes a0.name a0.target a0.low a0.high a0.metrics a0.pace.up a0.pace.down a0.pace.upSpan a0.pace.downSpan a0.notes m (j : Int) = good := by
    intro X Y good hY d
    induction d with
    | zero =>
      intro j m hj hm
      obtain ⟨m, rfl⟩ : ∃ m', m = m' + 1 := ⟨m - 1, by omega⟩
      simp only [f68L1, decide_eq_false (show ¬ ((j : Int) < (a0.notes.length : Int)) by omega), cond_false, hY]
    | succ d ih =>
      intro j m hj hm
      obtain ⟨m, rfl⟩ : ∃ m', m = m' + 1 := ⟨m - 1, by omega⟩
      have hj' : j < a0.notes.length := by omega
      obtain ⟨h1, h0, hw, ht⟩ := idx hj' (by omega)
      simp only [f68L1, h1, h0, hw, ht, sEq_self, bab_self, beq_self_eq_true, bne_self_eq_false, Bool.and_self, Bool.not_true, cond_true, cond_false]
      exact ih (j + 1) m (by omega) (by omega)
  exact key0 _ _ _ (fun _ _ => key1 _ _ _ (fun _ _ => rfl) a0.notes.length 0 N (by omega) (by omega)) a0.metrics.length 0 N (by omega) (by omega)
noncomputable def q68 : List Dt → Option (Bool × List Dt)
  | [.d .order a0, .d .order a1] => some (((gSame sm_order) a0 a1), [.d .bool ((fun (_ _ : OrderT) => true) a0 a1)])
  | _ => none
noncomputable def s68 : Gm.Spec := Gm.Spec.of [.ro, .ro] [false] true q68
theorem good68 : Gm.Good Try.prog (68, s68) := by
  have hl : ∀ x ∈ ([] : List (Nat × Gm.Spec)), Gm.Good Try.prog x := fun _ h => by cases h
  refine ⟨⟨spec_ok (tab_ok.env hl) (tab.natl hl) Try.func68 (by kernel_rfl : Try.f68.body = some f68c) [4] (by kernel_rfl) ?_, _, Try.func68, by kernel_rfl, of_decide_eq_true (by kernel_rfl)⟩, Gm.Spec.of_natl _ _ _ _⟩
  intro ds outs h
  unfold q68 at h
  split at h
  · simp only [Option.some.injEq, Prod.mk.injEq] at h; obtain ⟨hg, h⟩ := h; cases h; exact f68_spec _ _ hg
  · cases h
noncomputable def f24S0 (y0 : List ItemT) (y1 : List ItemT) (y2 : Int) : St := ⟨[(0, .c (.one (.ro .item y0))), (1, .c (.one (.ro .item y1))), (5, .c (.one (.v (.int .i64 y2))))], [], []⟩
noncomputable def f24S1 : St := ⟨[(4, .c (.one (.v (.bool false))))], [], []⟩
noncomputable def f24S2 (y0 : List ItemT) (y1 : List ItemT) (y2 : Int) (y3 : Bool) : St := ⟨[(0, .c (.one (.ro .item y0))), (1, .c (.one (.ro .item y1))), (5, .c (.one (.v (.int .i64 y2)))), (14, .c (.one (.v (.bool y3))))], [], []⟩
noncomputable def f24c : Code := (Try.f24.body).getD .skip
def f24k : Nat → Kp := kat [⟨[0, 1], [], [], []⟩, ⟨[0, 1, 10], [], [], []⟩, ⟨[4], [], [], []⟩, ⟨[0, 1, 5], [], [], []⟩, ⟨[0, 1, 5, 14], [], [], []⟩, ⟨[0, 1, 5], [], [], []⟩, ⟨[0, 1, 5, 41], [], [], []⟩, ⟨[4], [], [], []⟩, ⟨[4], [], [], []⟩]
noncomputable def f24e : Env := tab.env [(68, s68)]
noncomputable def f24L0 {R : Type} (n : Nat) (x0 : Option R) (x1 : Int → Bool → Option R) (vs0 : List ItemT) (vs1 : List ItemT) : Nat → Int → Option R
  | 0, _ => none
  | m + 1, vs5 =>
    (cond (decide (vs5 < (vs0.length : Int)))
   (cond ((decide ((0 : Int) ≤ vs5)) && (decide (vs5 < (vs0.length : Int))))
    (cond ((decide ((0 : Int) ≤ vs5)) && (decide (vs5 < (vs1.length : Int))))
     (cond ((ItemT.ver (atI (t := .item) vs0 (Int.toNat vs5))) != (ItemT.ver (atI (t := .item) vs1 (Int.toNat vs5))))
      (x0)
      (cond ((decide ((0 : Int) ≤ vs5)) && (decide (vs5 < (vs0.length : Int))))
       (cond ((decide ((0 : Int) ≤ vs5)) && (decide (vs5 < (vs1.length : Int))))
        (cond ((gSame sm_order) (ItemT.order (atI (t := .item) vs0 (Int.toNat vs5))) (ItemT.order (atI (t := .item) vs1 (Int.toNat vs5))))
         (cond (!((fun (_ _ : OrderT) => true) (ItemT.order (atI (t := .item) vs0 (Int.toNat vs5))) (ItemT.order (atI (t := .item) vs1 (Int.toNat vs5)))))
          (x0)
          (f24L0 n x0 x1 vs0 vs1 m (IntKind.wrap .i64 (vs5 + (1 : Int)))))
         none)
        none)
       none))
     none)
    none)
   (x1 vs5 (decide (vs5 < (vs0.length : Int)))))
theorem f24L0_b {R : Type} (n : Nat) (k' : Ex → St → Option R) (vs0 : List ItemT) (vs1 : List ItemT) (vs5 : Int) : ev f24e f24k n (cAt [1,1,0,1,0,0] f24c) (f24S0 vs0 vs1 vs5) k' =
    (cond (decide (vs5 < (vs0.length : Int)))
  (cond ((decide ((0 : Int) ≤ vs5)) && (decide (vs5 < (vs0.length : Int))))
   (cond ((decide ((0 : Int) ≤ vs5)) && (decide (vs5 < (vs1.length : Int))))
    (cond ((ItemT.ver (atI (t := .item) vs0 (Int.toNat vs5))) != (ItemT.ver (atI (t := .item) vs1 (Int.toNat vs5))))
     (k' .ret f24S1)
     (cond ((decide ((0 : Int) ≤ vs5)) && (decide (vs5 < (vs0.length : Int))))
      (cond ((decide ((0 : Int) ≤ vs5)) && (decide (vs5 < (vs1.length : Int))))
       (cond ((gSame sm_order) (ItemT.order (atI (t := .item) vs0 (Int.toNat vs5))) (ItemT.order (atI (t := .item) vs1 (Int.toNat vs5))))
        (cond (!((fun (_ _ : OrderT) => true) (ItemT.order (atI (t := .item) vs0 (Int.toNat vs5))) (ItemT.order (atI (t := .item) vs1 (Int.toNat vs5)))))
         (k' .ret f24S1)
         (k' .normal (f24S0 vs0 vs1 (IntKind.wrap .i64 (vs5 + (1 : Int))))))
        none)
       none)
      none))
    none)
   none)
  (k' (.exit 0) (f24S2 vs0 vs1 vs5 (decide (vs5 < (vs0.length : Int)))))) := by kernel_rfl
theorem f24L0_eq {R : Type} (n : Nat) (k' : Ex → St → Option R) (vs0 : List ItemT) (vs1 : List ItemT) : ∀ (m : Nat) (vs5 : Int), iter (fun st k => ev f24e f24k n (cAt [1,1,0,1,0,0] f24c) st k) m (f24S0 vs0 vs1 vs5) k' = f24L0 n (k' .ret f24S1) (fun (xvs5 : Int) (xvs14 : Bool) => k' (.exit 0) (f24S2 vs0 vs1 xvs5 xvs14)) vs0 vs1 m vs5 := by
  intro m; induction m with
  | zero => intros; rfl
  | succ m ih =>
    intro vs5
    simp only [iter]
    rw [f24L0_b]
    simp only [ih, f24L0]
noncomputable def f24K0 {R : Type} (n : Nat) (k' : Ex → St → Option R) : Ex → St → Option R := (blockK 0 (seqK f24e f24k n (cAt [1,1,1] f24c) k'))
theorem f24K0_x0 {R : Type} (n : Nat) (k : List Dt → Option R) (a0 : List ItemT) (a1 : List ItemT)  : f24K0 n (exitK f24e [.ro, .ro] [false] true [.tmp 4] [4] [.d (.sl .item) a0, .d (.sl .item) a1] k) .ret f24S1 =
    (k [.d .bool false]) := by kernel_rfl
theorem f24K0_x1 {R : Type} (n : Nat) (k : List Dt → Option R) (a0 : List ItemT) (a1 : List ItemT) (vs0 : List ItemT) (vs1 : List ItemT) (xvs5 : Int) (xvs14 : Bool) : f24K0 n (exitK f24e [.ro, .ro] [false] true [.tmp 4] [4] [.d (.sl .item) a0, .d (.sl .item) a1] k) (.exit 0) (f24S2 vs0 vs1 xvs5 xvs14) =
    (k [.d .bool true]) := by kernel_rfl
theorem f24_run {R : Type} (n : Nat) (k : List Dt → Option R) (a0 : List ItemT) (a1 : List ItemT) : evFn f24e f24k n f24c [.ro, .ro] [false] true [.tmp 4] [4] [.d (.sl .item) a0, .d (.sl .item) a1] k =
    (cond ((a0.length : Int) != (a1.length : Int))
  (k [.d .bool false])
  (f24L0 n (k [.d .bool false]) (fun (xvs5 : Int) (xvs14 : Bool) =>
   (k [.d .bool true])) a0 a1 n (0 : Int))) := by
  refine Eq.trans (b := (cond ((a0.length : Int) != (a1.length : Int))
  (k [.d .bool false])
  (iter (fun st k => ev f24e f24k n (cAt [1,1,0,1,0,0] f24c) st k) n (f24S0 a0 a1 (0 : Int)) (f24K0 n (exitK f24e [.ro, .ro] [false] true [.tmp 4] [4] [.d (.sl .item) a0, .d (.sl .item) a1] k))))) (by kernel_rfl) ?_
  simp only [f24L0_eq, f24K0_x0, f24K0_x1]
theorem f24_spec (a0 : List ItemT) (a1 : List ItemT) (hg : gSame (smL sm_item) a0 a1 = true) : ∃ keep rounds, ∀ {R : Type} (k : List Dt → Option R), evFn f24e keep rounds f24c [.ro, .ro] [false] true [.tmp 4] [4] [.d (.sl .item) a0, .d (.sl .item) a1] k = k [.d .bool ((fun (_ _ : List ItemT) => true) a0 a1)] := by
  obtain ⟨hs, rfl⟩ := gSame_iff.1 hg
  have l1 := smL_len hs
  obtain ⟨N, hN⟩ : ∃ N, N = a0.length + 1 := ⟨_, rfl⟩
  refine ⟨f24k, N, fun {R} k => ?_⟩
  rw [f24_run]
  simp only [bne_self_eq_false, cond_false]
  show _ = k [.d .bool true]
  have key0 : ∀ (X : Option R) (Y : Int → Bool → Option R) (good : Option R), (∀ i b, Y i b = good) → ∀ d j m, j + d = a0.length → d < m → f24L0 N X Y a0 a0 m (j : Int) = good := by
    intro X Y good hY d
    induction d with
    | zero =>
      intro j m hj hm
      obtain ⟨m, rfl⟩ : ∃ m', m = m' + 1 := ⟨m - 1, by omega⟩
      simp only [f24L0, decide_eq_false (show ¬ ((j : Int) < (a0.length : Int)) by omega), cond_false, hY]
    | succ d ih =>
      intro j m hj hm
      obtain ⟨m, rfl⟩ : ∃ m', m = m' + 1 := ⟨m - 1, by omega⟩
      have hj' : j < a0.length := by omega
      obtain ⟨h1, h0, hw, ht⟩ := idx hj' (by omega)
      have ho : gSame sm_order (atI (t := .item) a0 j).order (atI (t := .item) a0 j).order = true := gSame_self (by
        have := item_at hs j
        simp only [sm_item, Bool.and_eq_true] at this
        exact this.1)
      simp only [f24L0, h1, h0, hw, ht, sEq_self, bab_self, beq_self_eq_true, bne_self_eq_false, Bool.and_self, Bool.not_true, cond_true, cond_false, ho]
      exact ih (j + 1) m (by omega) (by omega)
  exact key0 _ _ _ (fun _ _ => rfl) a0.length 0 N (by omega) (by omega)
noncomputable def q24 : List Dt → Option (Bool × List Dt)
  | [.d (.sl .item) a0, .d (.sl .item) a1] => some (((gSame (smL sm_item)) a0 a1), [.d .bool ((fun (_ _ : List ItemT) => true) a0 a1)])
  | _ => none
noncomputable def s24 : Gm.Spec := Gm.Spec.of [.ro, .ro] [false] true q24
theorem good24 : Gm.Good Try.prog (24, s24) := by
  have hl : ∀ x ∈ [(68, s68)], Gm.Good Try.prog x := List.forall_mem_cons.2 ⟨good68, List.forall_mem_nil _⟩
  refine ⟨⟨spec_ok (tab_ok.env hl) (tab.natl hl) Try.func24 (by kernel_rfl : Try.f24.body = some f24c) [4] (by kernel_rfl) ?_, _, Try.func24, by kernel_rfl, of_decide_eq_true (by kernel_rfl)⟩, Gm.Spec.of_natl _ _ _ _⟩
  intro ds outs h
  unfold q24 at h
  split at h
  · simp only [Option.some.injEq, Prod.mk.injEq] at h; obtain ⟨hg, h⟩ := h; cases h; exact f24_spec _ _ hg
  · cases h
noncomputable def f44S0 (y0 : List EventT) (y1 : List EventT) (y2 : Int) : St := ⟨[(0, .c (.one (.ro .event y0))), (1, .c (.one (.ro .event y1))), (5, .c (.one (.v (.int .i64 y2))))], [], []⟩
noncomputable def f44S1 : St := ⟨[(4, .c (.one (.v (.bool false))))], [], []⟩
noncomputable def f44S2 (y0 : List EventT) (y1 : List EventT) (y2 : Int) (y3 : Bool) : St := ⟨[(0, .c (.one (.ro .event y0))), (1, .c (.one (.ro .event y1))), (5, .c (.one (.v (.int .i64 y2)))), (14, .c (.one (.v (.bool y3))))], [], []⟩
noncomputable def f44c : Code := (Try.f44.body).getD .skip
def f44k : Nat → Kp := kat [⟨[0, 1], [], [], []⟩, ⟨[0, 1, 10], [], [], []⟩, ⟨[4], [], [], []⟩, ⟨[0, 1, 5], [], [], []⟩, ⟨[0, 1, 5, 14], [], [], []⟩, ⟨[0, 1, 5], [], [], []⟩, ⟨[0, 1, 5, 71], [], [], []⟩, ⟨[4], [], [], []⟩, ⟨[4], [], [], []⟩]
noncomputable def f44e : Env := tab.env [(68, s68)]
noncomputable def f44L0 {R : Type} (n : Nat) (x0 : Option R) (x1 : Int → Bool → Option R) (vs0 : List EventT) (vs1 : List EventT) : Nat → Int → Option R
  | 0, _ => none
  | m + 1, vs5 =>
    (cond (decide (vs5 < (vs0.length : Int)))
   (cond ((decide ((0 : Int) ≤ vs5)) && (decide (vs5 < (vs0.length : Int))))
    (cond ((decide ((0 : Int) ≤ vs5)) && (decide (vs5 < (vs1.length : Int))))
     (cond ((EventT.seq (atI (t := .event) vs0 (Int.toNat vs5))) != (EventT.seq (atI (t := .event) vs1 (Int.toNat vs5))))
      (x0)
      (cond ((decide ((0 : Int) ≤ vs5)) && (decide (vs5 < (vs0.length : Int))))
       (cond ((decide ((0 : Int) ≤ vs5)) && (decide (vs5 < (vs1.length : Int))))
        (cond ((EventT.kind (atI (t := .event) vs0 (Int.toNat vs5))) != (EventT.kind (atI (t := .event) vs1 (Int.toNat vs5))))
         (x0)
         (cond ((decide ((0 : Int) ≤ vs5)) && (decide (vs5 < (vs0.length : Int))))
          (cond ((decide ((0 : Int) ≤ vs5)) && (decide (vs5 < (vs1.length : Int))))
           (cond ((ItemT.ver (EventT.item (atI (t := .event) vs0 (Int.toNat vs5)))) != (ItemT.ver (EventT.item (atI (t := .event) vs1 (Int.toNat vs5)))))
            (x0)
            (cond ((decide ((0 : Int) ≤ vs5)) && (decide (vs5 < (vs0.length : Int))))
             (cond ((decide ((0 : Int) ≤ vs5)) && (decide (vs5 < (vs1.length : Int))))
              (cond ((gSame sm_order) (ItemT.order (EventT.item (atI (t := .event) vs0 (Int.toNat vs5)))) (ItemT.order (EventT.item (atI (t := .event) vs1 (Int.toNat vs5)))))
               (cond (!((fun (_ _ : OrderT) => true) (ItemT.order (EventT.item (atI (t := .event) vs0 (Int.toNat vs5)))) (ItemT.order (EventT.item (atI (t := .event) vs1 (Int.toNat vs5))))))
                (x0)
                (f44L0 n x0 x1 vs0 vs1 m (IntKind.wrap .i64 (vs5 + (1 : Int)))))
               none)
              none)
             none))
           none)
          none))
        none)
       none))
     none)
    none)
   (x1 vs5 (decide (vs5 < (vs0.length : Int)))))
theorem f44L0_b {R : Type} (n : Nat) (k' : Ex → St → Option R) (vs0 : List EventT) (vs1 : List EventT) (vs5 : Int) : ev f44e f44k n (cAt [1,1,0,1,0,0] f44c) (f44S0 vs0 vs1 vs5) k' =
    (cond (decide (vs5 < (vs0.length : Int)))
  (cond ((decide ((0 : Int) ≤ vs5)) && (decide (vs5 < (vs0.length : Int))))
   (cond ((decide ((0 : Int) ≤ vs5)) && (decide (vs5 < (vs1.length : Int))))
    (cond ((EventT.seq (atI (t := .event) vs0 (Int.toNat vs5))) != (EventT.seq (atI (t := .event) vs1 (Int.toNat vs5))))
     (k' .ret f44S1)
     (cond ((decide ((0 : Int) ≤ vs5)) && (decide (vs5 < (vs0.length : Int))))
      (cond ((decide ((0 : Int) ≤ vs5)) && (decide (vs5 < (vs1.length : Int))))
       (cond ((EventT.kind (atI (t := .event) vs0 (Int.toNat vs5))) != (EventT.kind (atI (t := .event) vs1 (Int.toNat vs5))))
        (k' .ret f44S1)
        (cond ((decide ((0 : Int) ≤ vs5)) && (decide (vs5 < (vs0.length : Int))))
         (cond ((decide ((0 : Int) ≤ vs5)) && (decide (vs5 < (vs1.length : Int))))
          (cond ((ItemT.ver (EventT.item (atI (t := .event) vs0 (Int.toNat vs5)))) != (ItemT.ver (EventT.item (atI (t := .event) vs1 (Int.toNat vs5)))))
           (k' .ret f44S1)
           (cond ((decide ((0 : Int) ≤ vs5)) && (decide (vs5 < (vs0.length : Int))))
            (cond ((decide ((0 : Int) ≤ vs5)) && (decide (vs5 < (vs1.length : Int))))
             (cond ((gSame sm_order) (ItemT.order (EventT.item (atI (t := .event) vs0 (Int.toNat vs5)))) (ItemT.order (EventT.item (atI (t := .event) vs1 (Int.toNat vs5)))))
              (cond (!((fun (_ _ : OrderT) => true) (ItemT.order (EventT.item (atI (t := .event) vs0 (Int.toNat vs5)))) (ItemT.order (EventT.item (atI (t := .event) vs1 (Int.toNat vs5))))))
               (k' .ret f44S1)
               (k' .normal (f44S0 vs0 vs1 (IntKind.wrap .i64 (vs5 + (1 : Int))))))
              none)
             none)
            none))
          none)
         none))
       none)
      none))
    none)
   none)
  (k' (.exit 0) (f44S2 vs0 vs1 vs5 (decide (vs5 < (vs0.length : Int)))))) := by kernel_rfl
theorem f44L0_eq {R : Type} (n : Nat) (k' : Ex → St → Option R) (vs0 : List EventT) (vs1 : List EventT) : ∀ (m : Nat) (vs5 : Int), iter (fun st k => ev f44e f44k n (cAt [1,1,0,1,0,0] f44c) st k) m (f44S0 vs0 vs1 vs5) k' = f44L0 n (k' .ret f44S1) (fun (xvs5 : Int) (xvs14 : Bool) => k' (.exit 0) (f44S2 vs0 vs1 xvs5 xvs14)) vs0 vs1 m vs5 := by
  intro m; induction m with
  | zero => intros; rfl
  | succ m ih =>
    intro vs5
    simp only [iter]
    rw [f44L0_b]
    simp only [ih, f44L0]
noncomputable def f44K0 {R : Type} (n : Nat) (k' : Ex → St → Option R) : Ex → St → Option R := (blockK 0 (seqK f44e f44k n (cAt [1,1,1] f44c) k'))
theorem f44K0_x0 {R : Type} (n : Nat) (k : List Dt → Option R) (a0 : List EventT) (a1 : List EventT)  : f44K0 n (exitK f44e [.ro, .ro] [false] true [.tmp 4] [4] [.d (.sl .event) a0, .d (.sl .event) a1] k) .ret f44S1 =
    (k [.d .bool false]) := by kernel_rfl
theorem f44K0_x1 {R : Type} (n : Nat) (k : List Dt → Option R) (a0 : List EventT) (a1 : List EventT) (vs0 : List EventT) (vs1 : List EventT) (xvs5 : Int) (xvs14 : Bool) : f44K0 n (exitK f44e [.ro, .ro] [false] true [.tmp 4] [4] [.d (.sl .event) a0, .d (.sl .event) a1] k) (.exit 0) (f44S2 vs0 vs1 xvs5 xvs14) =
    (k [.d .bool true]) := by kernel_rfl
theorem f44_run {R : Type} (n : Nat) (k : List Dt → Option R) (a0 : List EventT) (a1 : List EventT) : evFn f44e f44k n f44c [.ro, .ro] [false] true [.tmp 4] [4] [.d (.sl .event) a0, .d (.sl .event) a1] k =
    (cond ((a0.length : Int) != (a1.length : Int))
  (k [.d .bool false])
  (f44L0 n (k [.d .bool false]) (fun (xvs5 : Int) (xvs14 : Bool) =>
   (k [.d .bool true])) a0 a1 n (0 : Int))) := by
  refine Eq.trans (b := (cond ((a0.length : Int) != (a1.length : Int))
  (k [.d .bool false])
  (iter (fun st k => ev f44e f44k n (cAt [1,1,0,1,0,0] f44c) st k) n (f44S0 a0 a1 (0 : Int)) (f44K0 n (exitK f44e [.ro, .ro] [false] true [.tmp 4] [4] [.d (.sl .event) a0, .d (.sl .event) a1] k))))) (by kernel_rfl) ?_
  simp only [f44L0_eq, f44K0_x0, f44K0_x1]
theorem f44_spec (a0 : List EventT) (a1 : List EventT) (hg : gSame (smL sm_event) a0 a1 = true) : ∃ keep rounds, ∀ {R : Type} (k : List Dt → Option R), evFn f44e keep rounds f44c [.ro, .ro] [false] true [.tmp 4] [4] [.d (.sl .event) a0, .d (.sl .event) a1] k = k [.d .bool ((fun (_ _ : List EventT) => true) a0 a1)] := by
  obtain ⟨hs, rfl⟩ := gSame_iff.1 hg
  have l1 := smL_len hs
  obtain ⟨N, hN⟩ : ∃ N, N = a0.length + 1 := ⟨_, rfl⟩
  refine ⟨f44k, N, fun {R} k => ?_⟩
  rw [f44_run]
  simp only [bne_self_eq_false, cond_false]
  show _ = k [.d .bool true]
  have key0 : ∀ (X : Option R) (Y : Int → Bool → Option R) (good : Option R), (∀ i b, Y i b = good) → ∀ d j m, j + d = a0.length → d < m → f44L0 N X Y a0 a0 m (j : Int) = good := by
    intro X Y good hY d
    induction d with
    | zero =>
      intro j m hj hm
      obtain ⟨m, rfl⟩ : ∃ m', m = m' + 1 := ⟨m - 1, by omega⟩
      simp only [f44L0, decide_eq_false (show ¬ ((j : Int) < (a0.length : Int)) by omega), cond_false, hY]
    | succ d ih =>
      intro j m hj hm
      obtain ⟨m, rfl⟩ : ∃ m', m = m' + 1 := ⟨m - 1, by omega⟩
      have hj' : j < a0.length := by omega
      obtain ⟨h1, h0, hw, ht⟩ := idx hj' (by omega)
      have ho : gSame sm_order (atI (t := .event) a0 j).item.order (atI (t := .event) a0 j).item.order = true := gSame_self (by
        have := event_at hs j
        simp only [sm_event, sm_item, Bool.and_eq_true] at this
        exact this.2.2.1)
      simp only [f44L0, h1, h0, hw, ht, sEq_self, bab_self, beq_self_eq_true, bne_self_eq_false, Bool.and_self, Bool.not_true, cond_true, cond_false, ho]
      exact ih (j + 1) m (by omega) (by omega)
  exact key0 _ _ _ (fun _ _ => rfl) a0.length 0 N (by omega) (by omega)
noncomputable def q44 : List Dt → Option (Bool × List Dt)
  | [.d (.sl .event) a0, .d (.sl .event) a1] => some (((gSame (smL sm_event)) a0 a1), [.d .bool ((fun (_ _ : List EventT) => true) a0 a1)])
  | _ => none
noncomputable def s44 : Gm.Spec := Gm.Spec.of [.ro, .ro] [false] true q44
theorem good44 : Gm.Good Try.prog (44, s44) := by
  have hl : ∀ x ∈ [(68, s68)], Gm.Good Try.prog x := List.forall_mem_cons.2 ⟨good68, List.forall_mem_nil _⟩
  refine ⟨⟨spec_ok (tab_ok.env hl) (tab.natl hl) Try.func44 (by kernel_rfl : Try.f44.body = some f44c) [4] (by kernel_rfl) ?_, _, Try.func44, by kernel_rfl, of_decide_eq_true (by kernel_rfl)⟩, Gm.Spec.of_natl _ _ _ _⟩
  intro ds outs h
  unfold q44 at h
  split at h
  · simp only [Option.some.injEq, Prod.mk.injEq] at h; obtain ⟨hg, h⟩ := h; cases h; exact f44_spec _ _ hg
  · cases h
noncomputable def f42c : Code := (Try.f42.body).getD .skip
def f42k : Nat → Kp := kat [⟨[2, 3], [], [], []⟩, ⟨[4], [], [], []⟩]
noncomputable def f42e : Env := tab.env [(44, s44)]
theorem f42_run {R : Type} (n : Nat) (k : List Dt → Option R) (a0 : HistT) (a1 : HistT) : evFn f42e f42k n f42c [.ro, .ro] [false] true [.tmp 4] [4] [.d .hist a0, .d .hist a1] k =
    (cond ((HistT.base a0) == (HistT.base a1))
  (cond ((gSame (smL sm_event)) (HistT.list a0) (HistT.list a1))
   (k [.d .bool ((fun (_ _ : List EventT) => true) (HistT.list a0) (HistT.list a1))])
   none)
  (k [.d .bool false])) := by kernel_rfl
theorem f42_spec (a0 : HistT) (a1 : HistT) (hg : gSame sm_hist a0 a1 = true) : ∃ keep rounds, ∀ {R : Type} (k : List Dt → Option R), evFn f42e keep rounds f42c [.ro, .ro] [false] true [.tmp 4] [4] [.d .hist a0, .d .hist a1] k = k [.d .bool ((fun (_ _ : HistT) => true) a0 a1)] := by
  obtain ⟨hs, rfl⟩ := gSame_iff.1 hg
  simp only [sm_hist, Bool.and_eq_true] at hs
  refine ⟨f42k, 0, fun {R} k => ?_⟩
  rw [f42_run]
  simp only [beq_self_eq_true, gSame_self hs.2, cond_true]
noncomputable def q42 : List Dt → Option (Bool × List Dt)
  | [.d .hist a0, .d .hist a1] => some (((gSame sm_hist) a0 a1), [.d .bool ((fun (_ _ : HistT) => true) a0 a1)])
  | _ => none
noncomputable def s42 : Gm.Spec := Gm.Spec.of [.ro, .ro] [false] true q42
theorem good42 : Gm.Good Try.prog (42, s42) := by
  have hl : ∀ x ∈ [(44, s44)], Gm.Good Try.prog x := List.forall_mem_cons.2 ⟨good44, List.forall_mem_nil _⟩
  refine ⟨⟨spec_ok (tab_ok.env hl) (tab.natl hl) Try.func42 (by kernel_rfl : Try.f42.body = some f42c) [4] (by kernel_rfl) ?_, _, Try.func42, by kernel_rfl, of_decide_eq_true (by kernel_rfl)⟩, Gm.Spec.of_natl _ _ _ _⟩
  intro ds outs h
  unfold q42 at h
  split at h
  · simp only [Option.some.injEq, Prod.mk.injEq] at h; obtain ⟨hg, h⟩ := h; cases h; exact f42_spec _ _ hg
  · cases h
end Go.Proofs.Ytnbehmbjoanfoaa

namespace Go.Proofs.Ytnbehmbjoanfoaa
open Go Go.Gm
noncomputable def f28S0 (y0 : List ItemT) (y1 : List EventT) (y2 : Int) (y3 : List ItemT) : St := ⟨[(0, .c (.one (.ro .item y0))), (1, .c (.one (.ro .event y1))), (5, .c (.one (.h 768 0 0 []))), (6, .c (.one (.v (.int .i64 y2))))], [], [(768, .live ⟨.item, .deep, 0, [], y3⟩)]⟩
noncomputable def f28S1 (y0 : List ItemT) (y1 : List EventT) (y2 : Int) (y3 : Bool) (y4 : List ItemT) : St := ⟨[(0, .c (.one (.ro .item y0))), (1, .c (.one (.ro .event y1))), (5, .c (.one (.h 768 0 0 []))), (6, .c (.one (.v (.int .i64 y2)))), (16, .c (.one (.v (.bool y3))))], [], [(768, .live ⟨.item, .deep, 0, [], y4⟩)]⟩
noncomputable def f28S2 (y0 : List EventT) (y1 : Int) (y2 : Bool) (y3 : Int) (y4 : ByteArray) (y5 : ByteArray) (y6 : Int) (y7 : Int) (y8 : List MetricT) (y9 : Int) (y10 : Int) (y11 : Int) (y12 : Int) (y13 : List NoteT) (y14 : Int) (y15 : Nat) (y16 : List ItemT) (y17 : List ItemT) : St := ⟨[(1, .c (.one (.ro .event y0))), (5, .c (.one (.h 768 0 0 []))), (7, .c (.one (.v (.int .i64 y1)))), (8, .c (.one (.pt 8 0))), (9, .c (.one (.h 2432 0 0 []))), (10, .c (.one (.v (.bool y2)))), (11, .c (.one (.v (.int .i64 y3))))], [(8, ⟨.item, [.v (.string y4), .v (.string y5), .v (.int .i64 y6), .v (.int .i64 y7), .ro .metric y8, .v (.int .i64 y9), .v (.int .i64 y10), .v (.int .i64 y11), .v (.int .i64 y12), .ro .note y13, .v (.int .i64 y14)]⟩)], [(768, .live ⟨.item, (.part (.cur y15 0)), 0, [], y16⟩), (2432, .live ⟨.item, .deep, 0, [], y17⟩)]⟩
noncomputable def f28S3 (y0 : List EventT) (y1 : Int) (y2 : Bool) (y3 : Int) (y4 : Bool) (y5 : ByteArray) (y6 : ByteArray) (y7 : Int) (y8 : Int) (y9 : List MetricT) (y10 : Int) (y11 : Int) (y12 : Int) (y13 : Int) (y14 : List NoteT) (y15 : Int) (y16 : Nat) (y17 : List ItemT) (y18 : List ItemT) : St := ⟨[(1, .c (.one (.ro .event y0))), (5, .c (.one (.h 768 0 0 []))), (7, .c (.one (.v (.int .i64 y1)))), (8, .c (.one (.pt 8 0))), (9, .c (.one (.h 2432 0 0 []))), (10, .c (.one (.v (.bool y2)))), (11, .c (.one (.v (.int .i64 y3)))), (48, .c (.one (.v (.bool y4))))], [(8, ⟨.item, [.v (.string y5), .v (.string y6), .v (.int .i64 y7), .v (.int .i64 y8), .ro .metric y9, .v (.int .i64 y10), .v (.int .i64 y11), .v (.int .i64 y12), .v (.int .i64 y13), .ro .note y14, .v (.int .i64 y15)]⟩)], [(768, .live ⟨.item, (.part (.cur y16 0)), 0, [], y17⟩), (2432, .live ⟨.item, .deep, 0, [], y18⟩)]⟩
noncomputable def f28S4 (y0 : List EventT) (y1 : Int) (y2 : List ItemT) : St := ⟨[(1, .c (.one (.ro .event y0))), (5, .c (.one (.h 768 0 0 []))), (7, .c (.one (.v (.int .i64 y1))))], [], [(768, .live ⟨.item, .deep, 0, [], y2⟩)]⟩
noncomputable def f28S5 (y0 : List EventT) (y1 : Int) (y2 : Bool) (y3 : List ItemT) : St := ⟨[(1, .c (.one (.ro .event y0))), (5, .c (.one (.h 768 0 0 []))), (7, .c (.one (.v (.int .i64 y1)))), (30, .c (.one (.v (.bool y2))))], [], [(768, .live ⟨.item, .deep, 0, [], y3⟩)]⟩
noncomputable def f28c : Code := (Try.f28.body).getD .skip
def f28k : Nat → Kp := kat [⟨[0, 1], [], [], []⟩, ⟨[0, 1, 5], [], [], []⟩, ⟨[0, 1, 5, 6], [], [], []⟩, ⟨[0, 1, 5, 6, 16], [], [], []⟩, ⟨[0, 1, 5, 6], [], [], []⟩, ⟨[0, 1, 5, 6], [], [], []⟩, ⟨[1, 5, 7], [], [], []⟩, ⟨[1, 5, 7, 30], [], [], []⟩, ⟨[1, 5, 7], [], [], [(2432, 768)]⟩, ⟨[1, 5, 7, 8], [], [], []⟩, ⟨[1, 5, 7, 8, 9], [], [], []⟩, ⟨[1, 5, 7, 8, 9, 10], [], [], []⟩, ⟨[1, 5, 7, 8, 9, 10, 11], [], [2000000768], []⟩, ⟨[1, 5, 7, 8, 9, 10, 11, 48], [], [], []⟩, ⟨[1, 5, 7, 8, 9, 10, 11], [], [], []⟩, ⟨[1, 5, 7, 8, 9, 10, 11, 64], [], [], []⟩, ⟨[1, 5, 7, 8, 9, 11], [], [], []⟩, ⟨[1, 5, 7, 8, 9, 10, 11], [], [], []⟩, ⟨[1, 5, 7, 8, 9, 10, 11, 79], [], [], []⟩, ⟨[1, 5, 7, 8, 9, 10, 11], [], [], []⟩, ⟨[1, 7, 8, 9, 88], [], [], []⟩, ⟨[1, 7, 9], [], [], []⟩, ⟨[1, 5, 7], [], [], []⟩, ⟨[4], [], [], []⟩]
noncomputable def f28e : Env := tab.env [(71, s71)]
noncomputable def f28L0 {R : Type} (n : Nat) (x0 : Int → Bool → (List ItemT) → Option R) (vs0 : List ItemT) (vs1 : List EventT) : Nat → Int → (List ItemT) → Option R
  | 0, _, _ => none
  | m + 1, vs6, vr768 =>
    (cond (decide (vs6 < (vs0.length : Int)))
   (cond ((decide ((0 : Int) ≤ vs6)) && (decide (vs6 < (vs0.length : Int))))
    (cond (sm_item (atI (t := .item) vs0 (Int.toNat vs6)))
     (cond (Nat.ble (vr768.length + 1) LIM)
      (f28L0 n x0 vs0 vs1 m (IntKind.wrap .i64 (vs6 + (1 : Int))) (vr768 ++ ([(atI (t := .item) vs0 (Int.toNat vs6))] : List ItemT)))
      none)
     none)
    none)
   (x0 vs6 (decide (vs6 < (vs0.length : Int))) vr768))
theorem f28L0_b {R : Type} (n : Nat) (k' : Ex → St → Option R) (vs0 : List ItemT) (vs1 : List EventT) (vs6 : Int) (vr768 : List ItemT) : ev f28e f28k n (cAt [1,1,0,1,0,0] f28c) (f28S0 vs0 vs1 vs6 vr768) k' =
    (cond (decide (vs6 < (vs0.length : Int)))
  (cond ((decide ((0 : Int) ≤ vs6)) && (decide (vs6 < (vs0.length : Int))))
   (cond (sm_item (atI (t := .item) vs0 (Int.toNat vs6)))
    (cond (Nat.ble (vr768.length + 1) LIM)
     (k' .normal (f28S0 vs0 vs1 (IntKind.wrap .i64 (vs6 + (1 : Int))) (vr768 ++ ([(atI (t := .item) vs0 (Int.toNat vs6))] : List ItemT))))
     none)
    none)
   none)
  (k' (.exit 0) (f28S1 vs0 vs1 vs6 (decide (vs6 < (vs0.length : Int))) vr768))) := by kernel_rfl
theorem f28L0_eq {R : Type} (n : Nat) (k' : Ex → St → Option R) (vs0 : List ItemT) (vs1 : List EventT) : ∀ (m : Nat) (vs6 : Int) (vr768 : List ItemT), iter (fun st k => ev f28e f28k n (cAt [1,1,0,1,0,0] f28c) st k) m (f28S0 vs0 vs1 vs6 vr768) k' = f28L0 n (fun (xvs6 : Int) (xvs16 : Bool) (xvr768 : List ItemT) => k' (.exit 0) (f28S1 vs0 vs1 xvs6 xvs16 xvr768)) vs0 vs1 m vs6 vr768 := by
  intro m; induction m with
  | zero => intros; rfl
  | succ m ih =>
    intro vs6 vr768
    simp only [iter]
    rw [f28L0_b]
    simp only [ih, f28L0]
noncomputable def f28L1 {R : Type} (n : Nat) (x0 : Bool → Int → Bool → Nat → (List ItemT) → Option R) (vs1 : List EventT) (vs7 : Int) (vb8_0 : ByteArray) (vb8_1 : ByteArray) (vb8_2 : Int) (vb8_3 : Int) (vb8_4 : List MetricT) (vb8_5 : Int) (vb8_6 : Int) (vb8_7 : Int) (vb8_8 : Int) (vb8_9 : List NoteT) (vb8_10 : Int) (vr768 : List ItemT) : Nat → Bool → Int → Nat → (List ItemT) → Option R
  | 0, _, _, _, _ => none
  | m + 1, vs10, vs11, vr768m, vr2432 =>
    (cond (decide (vs11 < (vr768.length : Int)))
   (cond (!vs10)
    (cond ((decide ((0 : Int) ≤ vs11)) && (decide (vs11 < (vr768.length : Int))))
     (cond (!(sLt (OrderT.name (ItemT.order (atI (t := .item) vr768 (Int.toNat vs11)))) vb8_0))
      (cond (sm_item (⟨(⟨vb8_0, vb8_1, vb8_2, vb8_3, vb8_4, (⟨vb8_5, vb8_6, vb8_7, vb8_8⟩ : PaceT), vb8_9⟩ : OrderT), vb8_10⟩ : ItemT))
       (cond (Nat.ble (vr2432.length + 1) LIM)
        (cond ((decide ((0 : Int) ≤ vs11)) && (decide (vs11 < (vr768.length : Int))))
         (cond (!(sEq (OrderT.name (ItemT.order (atI (t := .item) vr768 (Int.toNat vs11)))) vb8_0))
          (cond ((decide ((0 : Int) ≤ vs11)) && (decide (vs11 < (vr768.length : Int))))
           (cond (leC vr768m 0 (Int.toNat vs11) 4)
            (cond (leC (Int.toNat vs11) 5 (Int.toNat vs11) 9)
             (cond (Nat.ble ((vr2432 ++ ([(⟨(⟨vb8_0, vb8_1, vb8_2, vb8_3, vb8_4, (⟨vb8_5, vb8_6, vb8_7, vb8_8⟩ : PaceT), vb8_9⟩ : OrderT), vb8_10⟩ : ItemT)] : List ItemT)).length + 1) LIM)
              (f28L1 n x0 vs1 vs7 vb8_0 vb8_1 vb8_2 vb8_3 vb8_4 vb8_5 vb8_6 vb8_7 vb8_8 vb8_9 vb8_10 vr768 m true (IntKind.wrap .i64 (vs11 + (1 : Int))) ((Int.toNat vs11) + 1) ((vr2432 ++ ([(⟨(⟨vb8_0, vb8_1, vb8_2, vb8_3, vb8_4, (⟨vb8_5, vb8_6, vb8_7, vb8_8⟩ : PaceT), vb8_9⟩ : OrderT), vb8_10⟩ : ItemT)] : List ItemT)) ++ ([(atI (t := .item) vr768 (Int.toNat vs11))] : List ItemT)))
              none)
             none)
            none)
           none)
          (f28L1 n x0 vs1 vs7 vb8_0 vb8_1 vb8_2 vb8_3 vb8_4 vb8_5 vb8_6 vb8_7 vb8_8 vb8_9 vb8_10 vr768 m true (IntKind.wrap .i64 (vs11 + (1 : Int))) vr768m (vr2432 ++ ([(⟨(⟨vb8_0, vb8_1, vb8_2, vb8_3, vb8_4, (⟨vb8_5, vb8_6, vb8_7, vb8_8⟩ : PaceT), vb8_9⟩ : OrderT), vb8_10⟩ : ItemT)] : List ItemT))))
         none)
        none)
       none)
      (cond ((decide ((0 : Int) ≤ vs11)) && (decide (vs11 < (vr768.length : Int))))
       (cond (!(sEq (OrderT.name (ItemT.order (atI (t := .item) vr768 (Int.toNat vs11)))) vb8_0))
        (cond ((decide ((0 : Int) ≤ vs11)) && (decide (vs11 < (vr768.length : Int))))
         (cond (leC vr768m 0 (Int.toNat vs11) 4)
          (cond (leC (Int.toNat vs11) 5 (Int.toNat vs11) 9)
           (cond (Nat.ble (vr2432.length + 1) LIM)
            (f28L1 n x0 vs1 vs7 vb8_0 vb8_1 vb8_2 vb8_3 vb8_4 vb8_5 vb8_6 vb8_7 vb8_8 vb8_9 vb8_10 vr768 m vs10 (IntKind.wrap .i64 (vs11 + (1 : Int))) ((Int.toNat vs11) + 1) (vr2432 ++ ([(atI (t := .item) vr768 (Int.toNat vs11))] : List ItemT)))
            none)
           none)
          none)
         none)
        (f28L1 n x0 vs1 vs7 vb8_0 vb8_1 vb8_2 vb8_3 vb8_4 vb8_5 vb8_6 vb8_7 vb8_8 vb8_9 vb8_10 vr768 m vs10 (IntKind.wrap .i64 (vs11 + (1 : Int))) vr768m vr2432))
       none))
     none)
    (cond ((decide ((0 : Int) ≤ vs11)) && (decide (vs11 < (vr768.length : Int))))
     (cond (!(sEq (OrderT.name (ItemT.order (atI (t := .item) vr768 (Int.toNat vs11)))) vb8_0))
      (cond ((decide ((0 : Int) ≤ vs11)) && (decide (vs11 < (vr768.length : Int))))
       (cond (leC vr768m 0 (Int.toNat vs11) 4)
        (cond (leC (Int.toNat vs11) 5 (Int.toNat vs11) 9)
         (cond (Nat.ble (vr2432.length + 1) LIM)
          (f28L1 n x0 vs1 vs7 vb8_0 vb8_1 vb8_2 vb8_3 vb8_4 vb8_5 vb8_6 vb8_7 vb8_8 vb8_9 vb8_10 vr768 m vs10 (IntKind.wrap .i64 (vs11 + (1 : Int))) ((Int.toNat vs11) + 1) (vr2432 ++ ([(atI (t := .item) vr768 (Int.toNat vs11))] : List ItemT)))
          none)
         none)
        none)
       none)
      (f28L1 n x0 vs1 vs7 vb8_0 vb8_1 vb8_2 vb8_3 vb8_4 vb8_5 vb8_6 vb8_7 vb8_8 vb8_9 vb8_10 vr768 m vs10 (IntKind.wrap .i64 (vs11 + (1 : Int))) vr768m vr2432))
     none))
   (x0 vs10 vs11 (decide (vs11 < (vr768.length : Int))) vr768m vr2432))
theorem f28L1_b {R : Type} (n : Nat) (k' : Ex → St → Option R) (vs1 : List EventT) (vs7 : Int) (vs10 : Bool) (vs11 : Int) (vb8_0 : ByteArray) (vb8_1 : ByteArray) (vb8_2 : Int) (vb8_3 : Int) (vb8_4 : List MetricT) (vb8_5 : Int) (vb8_6 : Int) (vb8_7 : Int) (vb8_8 : Int) (vb8_9 : List NoteT) (vb8_10 : Int) (vr768m : Nat) (vr768 : List ItemT) (vr2432 : List ItemT) : ev f28e f28k n (cAt [1,1,1,0,1,0,0,1,0,0,1,1,1,0,1,0,0] f28c) (f28S2 vs1 vs7 vs10 vs11 vb8_0 vb8_1 vb8_2 vb8_3 vb8_4 vb8_5 vb8_6 vb8_7 vb8_8 vb8_9 vb8_10 vr768m vr768 vr2432) k' =
    (cond (decide (vs11 < (vr768.length : Int)))
  (cond (!vs10)
   (cond ((decide ((0 : Int) ≤ vs11)) && (decide (vs11 < (vr768.length : Int))))
    (cond (!(sLt (OrderT.name (ItemT.order (atI (t := .item) vr768 (Int.toNat vs11)))) vb8_0))
     (cond (sm_item (⟨(⟨vb8_0, vb8_1, vb8_2, vb8_3, vb8_4, (⟨vb8_5, vb8_6, vb8_7, vb8_8⟩ : PaceT), vb8_9⟩ : OrderT), vb8_10⟩ : ItemT))
      (cond (Nat.ble (vr2432.length + 1) LIM)
       (cond ((decide ((0 : Int) ≤ vs11)) && (decide (vs11 < (vr768.length : Int))))
        (cond (!(sEq (OrderT.name (ItemT.order (atI (t := .item) vr768 (Int.toNat vs11)))) vb8_0))
         (cond ((decide ((0 : Int) ≤ vs11)) && (decide (vs11 < (vr768.length : Int))))
          (cond (leC vr768m 0 (Int.toNat vs11) 4)
           (cond (leC (Int.toNat vs11) 5 (Int.toNat vs11) 9)
            (cond (Nat.ble ((vr2432 ++ ([(⟨(⟨vb8_0, vb8_1, vb8_2, vb8_3, vb8_4, (⟨vb8_5, vb8_6, vb8_7, vb8_8⟩ : PaceT), vb8_9⟩ : OrderT), vb8_10⟩ : ItemT)] : List ItemT)).length + 1) LIM)
             (k' .normal (f28S2 vs1 vs7 true (IntKind.wrap .i64 (vs11 + (1 : Int))) vb8_0 vb8_1 vb8_2 vb8_3 vb8_4 vb8_5 vb8_6 vb8_7 vb8_8 vb8_9 vb8_10 ((Int.toNat vs11) + 1) vr768 ((vr2432 ++ ([(⟨(⟨vb8_0, vb8_1, vb8_2, vb8_3, vb8_4, (⟨vb8_5, vb8_6, vb8_7, vb8_8⟩ : PaceT), vb8_9⟩ : OrderT), vb8_10⟩ : ItemT)] : List ItemT)) ++ ([(atI (t := .item) vr768 (Int.toNat vs11))] : List ItemT))))
             none)
            none)
           none)
          none)
         (k' .normal (f28S2 vs1 vs7 true (IntKind.wrap .i64 (vs11 + (1 : Int))) vb8_0 vb8_1 vb8_2 vb8_3 vb8_4 vb8_5 vb8_6 vb8_7 vb8_8 vb8_9 vb8_10 vr768m vr768 (vr2432 ++ ([(⟨(⟨vb8_0, vb8_1, vb8_2, vb8_3, vb8_4, (⟨vb8_5, vb8_6, vb8_7, vb8_8⟩ : PaceT), vb8_9⟩ : OrderT), vb8_10⟩ : ItemT)] : List ItemT)))))
        none)
       none)
      none)
     (cond ((decide ((0 : Int) ≤ vs11)) && (decide (vs11 < (vr768.length : Int))))
      (cond (!(sEq (OrderT.name (ItemT.order (atI (t := .item) vr768 (Int.toNat vs11)))) vb8_0))
       (cond ((decide ((0 : Int) ≤ vs11)) && (decide (vs11 < (vr768.length : Int))))
        (cond (leC vr768m 0 (Int.toNat vs11) 4)
         (cond (leC (Int.toNat vs11) 5 (Int.toNat vs11) 9)
          (cond (Nat.ble (vr2432.length + 1) LIM)
           (k' .normal (f28S2 vs1 vs7 vs10 (IntKind.wrap .i64 (vs11 + (1 : Int))) vb8_0 vb8_1 vb8_2 vb8_3 vb8_4 vb8_5 vb8_6 vb8_7 vb8_8 vb8_9 vb8_10 ((Int.toNat vs11) + 1) vr768 (vr2432 ++ ([(atI (t := .item) vr768 (Int.toNat vs11))] : List ItemT))))
           none)
          none)
         none)
        none)
       (k' .normal (f28S2 vs1 vs7 vs10 (IntKind.wrap .i64 (vs11 + (1 : Int))) vb8_0 vb8_1 vb8_2 vb8_3 vb8_4 vb8_5 vb8_6 vb8_7 vb8_8 vb8_9 vb8_10 vr768m vr768 vr2432)))
      none))
    none)
   (cond ((decide ((0 : Int) ≤ vs11)) && (decide (vs11 < (vr768.length : Int))))
    (cond (!(sEq (OrderT.name (ItemT.order (atI (t := .item) vr768 (Int.toNat vs11)))) vb8_0))
     (cond ((decide ((0 : Int) ≤ vs11)) && (decide (vs11 < (vr768.length : Int))))
      (cond (leC vr768m 0 (Int.toNat vs11) 4)
       (cond (leC (Int.toNat vs11) 5 (Int.toNat vs11) 9)
        (cond (Nat.ble (vr2432.length + 1) LIM)
         (k' .normal (f28S2 vs1 vs7 vs10 (IntKind.wrap .i64 (vs11 + (1 : Int))) vb8_0 vb8_1 vb8_2 vb8_3 vb8_4 vb8_5 vb8_6 vb8_7 vb8_8 vb8_9 vb8_10 ((Int.toNat vs11) + 1) vr768 (vr2432 ++ ([(atI (t := .item) vr768 (Int.toNat vs11))] : List ItemT))))
         none)
        none)
       none)
      none)
     (k' .normal (f28S2 vs1 vs7 vs10 (IntKind.wrap .i64 (vs11 + (1 : Int))) vb8_0 vb8_1 vb8_2 vb8_3 vb8_4 vb8_5 vb8_6 vb8_7 vb8_8 vb8_9 vb8_10 vr768m vr768 vr2432)))
    none))
  (k' (.exit 4) (f28S3 vs1 vs7 vs10 vs11 (decide (vs11 < (vr768.length : Int))) vb8_0 vb8_1 vb8_2 vb8_3 vb8_4 vb8_5 vb8_6 vb8_7 vb8_8 vb8_9 vb8_10 vr768m vr768 vr2432))) := by kernel_rfl
theorem f28L1_eq {R : Type} (n : Nat) (k' : Ex → St → Option R) (vs1 : List EventT) (vs7 : Int) (vb8_0 : ByteArray) (vb8_1 : ByteArray) (vb8_2 : Int) (vb8_3 : Int) (vb8_4 : List MetricT) (vb8_5 : Int) (vb8_6 : Int) (vb8_7 : Int) (vb8_8 : Int) (vb8_9 : List NoteT) (vb8_10 : Int) (vr768 : List ItemT) : ∀ (m : Nat) (vs10 : Bool) (vs11 : Int) (vr768m : Nat) (vr2432 : List ItemT), iter (fun st k => ev f28e f28k n (cAt [1,1,1,0,1,0,0,1,0,0,1,1,1,0,1,0,0] f28c) st k) m (f28S2 vs1 vs7 vs10 vs11 vb8_0 vb8_1 vb8_2 vb8_3 vb8_4 vb8_5 vb8_6 vb8_7 vb8_8 vb8_9 vb8_10 vr768m vr768 vr2432) k' = f28L1 n (fun (xvs10 : Bool) (xvs11 : Int) (xvs48 : Bool) (xvr768m : Nat) (xvr2432 : List ItemT) => k' (.exit 4) (f28S3 vs1 vs7 xvs10 xvs11 xvs48 vb8_0 vb8_1 vb8_2 vb8_3 vb8_4 vb8_5 vb8_6 vb8_7 vb8_8 vb8_9 vb8_10 xvr768m vr768 xvr2432)) vs1 vs7 vb8_0 vb8_1 vb8_2 vb8_3 vb8_4 vb8_5 vb8_6 vb8_7 vb8_8 vb8_9 vb8_10 vr768 m vs10 vs11 vr768m vr2432 := by
  intro m; induction m with
  | zero => intros; rfl
  | succ m ih =>
    intro vs10 vs11 vr768m vr2432
    simp only [iter]
    rw [f28L1_b]
    simp only [ih, f28L1]
noncomputable def f28K1 {R : Type} (n : Nat) (k' : Ex → St → Option R) : Ex → St → Option R := (blockK 4 (seqK f28e f28k n (cAt [1,1,1,0,1,0,0,1,0,0,1,1,1,1] f28c) (blockK 3 (seqK f28e f28k n (cAt [1,1,1,0,1,0,0,1,1] f28c) k'))))
theorem f28K1_x0 {R : Type} (n : Nat) (k' : Ex → St → Option R) (vs1 : List EventT) (vs7 : Int) (vb8_0 : ByteArray) (vb8_1 : ByteArray) (vb8_2 : Int) (vb8_3 : Int) (vb8_4 : List MetricT) (vb8_5 : Int) (vb8_6 : Int) (vb8_7 : Int) (vb8_8 : Int) (vb8_9 : List NoteT) (vb8_10 : Int) (vr768 : List ItemT) (xvs10 : Bool) (xvs11 : Int) (xvs48 : Bool) (xvr768m : Nat) (xvr2432 : List ItemT) : f28K1 n k' (.exit 4) (f28S3 vs1 vs7 xvs10 xvs11 xvs48 vb8_0 vb8_1 vb8_2 vb8_3 vb8_4 vb8_5 vb8_6 vb8_7 vb8_8 vb8_9 vb8_10 xvr768m vr768 xvr2432) =
    (cond (!xvs10)
  (cond (sm_item (⟨(⟨vb8_0, vb8_1, vb8_2, vb8_3, vb8_4, (⟨vb8_5, vb8_6, vb8_7, vb8_8⟩ : PaceT), vb8_9⟩ : OrderT), vb8_10⟩ : ItemT))
   (cond (Nat.ble (xvr2432.length + 1) LIM)
    (k' .normal (f28S4 vs1 (IntKind.wrap .i64 (vs7 + (1 : Int))) (xvr2432 ++ ([(⟨(⟨vb8_0, vb8_1, vb8_2, vb8_3, vb8_4, (⟨vb8_5, vb8_6, vb8_7, vb8_8⟩ : PaceT), vb8_9⟩ : OrderT), vb8_10⟩ : ItemT)] : List ItemT))))
    none)
   none)
  (k' .normal (f28S4 vs1 (IntKind.wrap .i64 (vs7 + (1 : Int))) xvr2432))) := by kernel_rfl
noncomputable def f28L2 {R : Type} (n : Nat) (x0 : Int → Bool → (List ItemT) → Option R) (vs1 : List EventT) : Nat → Int → (List ItemT) → Option R
  | 0, _, _ => none
  | m + 1, vs7, vr768 =>
    (cond (decide (vs7 < (vs1.length : Int)))
   (cond ((decide ((0 : Int) ≤ vs7)) && (decide (vs7 < (vs1.length : Int))))
    (cond ((decide ((0 : Int) ≤ vs7)) && (decide (vs7 < (vs1.length : Int))))
     (f28L1 n (fun (xvs10 : Bool) (xvs11 : Int) (xvs48 : Bool) (xvr768m : Nat) (xvr2432 : List ItemT) =>
      (cond (!xvs10)
       (cond (sm_item (⟨(⟨(OrderT.name (ItemT.order (EventT.item (atI (t := .event) vs1 (Int.toNat vs7))))), (OrderT.target (ItemT.order (EventT.item (atI (t := .event) vs1 (Int.toNat vs7))))), (OrderT.low (ItemT.order (EventT.item (atI (t := .event) vs1 (Int.toNat vs7))))), (OrderT.high (ItemT.order (EventT.item (atI (t := .event) vs1 (Int.toNat vs7))))), (OrderT.metrics (ItemT.order (EventT.item (atI (t := .event) vs1 (Int.toNat vs7))))), (⟨(PaceT.up (OrderT.pace (ItemT.order (EventT.item (atI (t := .event) vs1 (Int.toNat vs7)))))), (PaceT.down (OrderT.pace (ItemT.order (EventT.item (atI (t := .event) vs1 (Int.toNat vs7)))))), (PaceT.upSpan (OrderT.pace (ItemT.order (EventT.item (atI (t := .event) vs1 (Int.toNat vs7)))))), (PaceT.downSpan (OrderT.pace (ItemT.order (EventT.item (atI (t := .event) vs1 (Int.toNat vs7))))))⟩ : PaceT), (OrderT.notes (ItemT.order (EventT.item (atI (t := .event) vs1 (Int.toNat vs7)))))⟩ : OrderT), (ItemT.ver (EventT.item (atI (t := .event) vs1 (Int.toNat vs7))))⟩ : ItemT))
        (cond (Nat.ble (xvr2432.length + 1) LIM)
         (f28L2 n x0 vs1 m (IntKind.wrap .i64 (vs7 + (1 : Int))) (xvr2432 ++ ([(⟨(⟨(OrderT.name (ItemT.order (EventT.item (atI (t := .event) vs1 (Int.toNat vs7))))), (OrderT.target (ItemT.order (EventT.item (atI (t := .event) vs1 (Int.toNat vs7))))), (OrderT.low (ItemT.order (EventT.item (atI (t := .event) vs1 (Int.toNat vs7))))), (OrderT.high (ItemT.order (EventT.item (atI (t := .event) vs1 (Int.toNat vs7))))), (OrderT.metrics (ItemT.order (EventT.item (atI (t := .event) vs1 (Int.toNat vs7))))), (⟨(PaceT.up (OrderT.pace (ItemT.order (EventT.item (atI (t := .event) vs1 (Int.toNat vs7)))))), (PaceT.down (OrderT.pace (ItemT.order (EventT.item (atI (t := .event) vs1 (Int.toNat vs7)))))), (PaceT.upSpan (OrderT.pace (ItemT.order (EventT.item (atI (t := .event) vs1 (Int.toNat vs7)))))), (PaceT.downSpan (OrderT.pace (ItemT.order (EventT.item (atI (t := .event) vs1 (Int.toNat vs7))))))⟩ : PaceT), (OrderT.notes (ItemT.order (EventT.item (atI (t := .event) vs1 (Int.toNat vs7)))))⟩ : OrderT), (ItemT.ver (EventT.item (atI (t := .event) vs1 (Int.toNat vs7))))⟩ : ItemT)] : List ItemT)))
         none)
        none)
       (f28L2 n x0 vs1 m (IntKind.wrap .i64 (vs7 + (1 : Int))) xvr2432))) vs1 vs7 (OrderT.name (ItemT.order (EventT.item (atI (t := .event) vs1 (Int.toNat vs7))))) (OrderT.target (ItemT.order (EventT.item (atI (t := .event) vs1 (Int.toNat vs7))))) (OrderT.low (ItemT.order (EventT.item (atI (t := .event) vs1 (Int.toNat vs7))))) (OrderT.high (ItemT.order (EventT.item (atI (t := .event) vs1 (Int.toNat vs7))))) (OrderT.metrics (ItemT.order (EventT.item (atI (t := .event) vs1 (Int.toNat vs7))))) (PaceT.up (OrderT.pace (ItemT.order (EventT.item (atI (t := .event) vs1 (Int.toNat vs7)))))) (PaceT.down (OrderT.pace (ItemT.order (EventT.item (atI (t := .event) vs1 (Int.toNat vs7)))))) (PaceT.upSpan (OrderT.pace (ItemT.order (EventT.item (atI (t := .event) vs1 (Int.toNat vs7)))))) (PaceT.downSpan (OrderT.pace (ItemT.order (EventT.item (atI (t := .event) vs1 (Int.toNat vs7)))))) (OrderT.notes (ItemT.order (EventT.item (atI (t := .event) vs1 (Int.toNat vs7))))) (ItemT.ver (EventT.item (atI (t := .event) vs1 (Int.toNat vs7)))) vr768 n ((EventT.kind (atI (t := .event) vs1 (Int.toNat vs7))) != (1 : Int)) (0 : Int) (0 : Nat) ([] : List ItemT))
     none)
    none)
   (x0 vs7 (decide (vs7 < (vs1.length : Int))) vr768))
theorem f28L2_b {R : Type} (n : Nat) (k' : Ex → St → Option R) (vs1 : List EventT) (vs7 : Int) (vr768 : List ItemT) : ev f28e f28k n (cAt [1,1,1,0,1,0,0] f28c) (f28S4 vs1 vs7 vr768) k' =
    (cond (decide (vs7 < (vs1.length : Int)))
  (cond ((decide ((0 : Int) ≤ vs7)) && (decide (vs7 < (vs1.length : Int))))
   (cond ((decide ((0 : Int) ≤ vs7)) && (decide (vs7 < (vs1.length : Int))))
    (f28L1 n (fun (xvs10 : Bool) (xvs11 : Int) (xvs48 : Bool) (xvr768m : Nat) (xvr2432 : List ItemT) =>
     (cond (!xvs10)
      (cond (sm_item (⟨(⟨(OrderT.name (ItemT.order (EventT.item (atI (t := .event) vs1 (Int.toNat vs7))))), (OrderT.target (ItemT.order (EventT.item (atI (t := .event) vs1 (Int.toNat vs7))))), (OrderT.low (ItemT.order (EventT.item (atI (t := .event) vs1 (Int.toNat vs7))))), (OrderT.high (ItemT.order (EventT.item (atI (t := .event) vs1 (Int.toNat vs7))))), (OrderT.metrics (ItemT.order (EventT.item (atI (t := .event) vs1 (Int.toNat vs7))))), (⟨(PaceT.up (OrderT.pace (ItemT.order (EventT.item (atI (t := .event) vs1 (Int.toNat vs7)))))), (PaceT.down (OrderT.pace (ItemT.order (EventT.item (atI (t := .event) vs1 (Int.toNat vs7)))))), (PaceT.upSpan (OrderT.pace (ItemT.order (EventT.item (atI (t := .event) vs1 (Int.toNat vs7)))))), (PaceT.downSpan (OrderT.pace (ItemT.order (EventT.item (atI (t := .event) vs1 (Int.toNat vs7))))))⟩ : PaceT), (OrderT.notes (ItemT.order (EventT.item (atI (t := .event) vs1 (Int.toNat vs7)))))⟩ : OrderT), (ItemT.ver (EventT.item (atI (t := .event) vs1 (Int.toNat vs7))))⟩ : ItemT))
       (cond (Nat.ble (xvr2432.length + 1) LIM)
        (k' .normal (f28S4 vs1 (IntKind.wrap .i64 (vs7 + (1 : Int))) (xvr2432 ++ ([(⟨(⟨(OrderT.name (ItemT.order (EventT.item (atI (t := .event) vs1 (Int.toNat vs7))))), (OrderT.target (ItemT.order (EventT.item (atI (t := .event) vs1 (Int.toNat vs7))))), (OrderT.low (ItemT.order (EventT.item (atI (t := .event) vs1 (Int.toNat vs7))))), (OrderT.high (ItemT.order (EventT.item (atI (t := .event) vs1 (Int.toNat vs7))))), (OrderT.metrics (ItemT.order (EventT.item (atI (t := .event) vs1 (Int.toNat vs7))))), (⟨(PaceT.up (OrderT.pace (ItemT.order (EventT.item (atI (t := .event) vs1 (Int.toNat vs7)))))), (PaceT.down (OrderT.pace (ItemT.order (EventT.item (atI (t := .event) vs1 (Int.toNat vs7)))))), (PaceT.upSpan (OrderT.pace (ItemT.order (EventT.item (atI (t := .event) vs1 (Int.toNat vs7)))))), (PaceT.downSpan (OrderT.pace (ItemT.order (EventT.item (atI (t := .event) vs1 (Int.toNat vs7))))))⟩ : PaceT), (OrderT.notes (ItemT.order (EventT.item (atI (t := .event) vs1 (Int.toNat vs7)))))⟩ : OrderT), (ItemT.ver (EventT.item (atI (t := .event) vs1 (Int.toNat vs7))))⟩ : ItemT)] : List ItemT))))
        none)
       none)
      (k' .normal (f28S4 vs1 (IntKind.wrap .i64 (vs7 + (1 : Int))) xvr2432)))) vs1 vs7 (OrderT.name (ItemT.order (EventT.item (atI (t := .event) vs1 (Int.toNat vs7))))) (OrderT.target (ItemT.order (EventT.item (atI (t := .event) vs1 (Int.toNat vs7))))) (OrderT.low (ItemT.order (EventT.item (atI (t := .event) vs1 (Int.toNat vs7))))) (OrderT.high (ItemT.order (EventT.item (atI (t := .event) vs1 (Int.toNat vs7))))) (OrderT.metrics (ItemT.order (EventT.item (atI (t := .event) vs1 (Int.toNat vs7))))) (PaceT.up (OrderT.pace (ItemT.order (EventT.item (atI (t := .event) vs1 (Int.toNat vs7)))))) (PaceT.down (OrderT.pace (ItemT.order (EventT.item (atI (t := .event) vs1 (Int.toNat vs7)))))) (PaceT.upSpan (OrderT.pace (ItemT.order (EventT.item (atI (t := .event) vs1 (Int.toNat vs7)))))) (PaceT.downSpan (OrderT.pace (ItemT.order (EventT.item (atI (t := .event) vs1 (Int.toNat vs7)))))) (OrderT.notes (ItemT.order (EventT.item (atI (t := .event) vs1 (Int.toNat vs7))))) (ItemT.ver (EventT.item (atI (t := .event) vs1 (Int.toNat vs7)))) vr768 n ((EventT.kind (atI (t := .event) vs1 (Int.toNat vs7))) != (1 : Int)) (0 : Int) (0 : Nat) ([] : List ItemT))
    none)
   none)
  (k' (.exit 2) (f28S5 vs1 vs7 (decide (vs7 < (vs1.length : Int))) vr768))) := by
  refine Eq.trans (b := (cond (decide (vs7 < (vs1.length : Int)))
  (cond ((decide ((0 : Int) ≤ vs7)) && (decide (vs7 < (vs1.length : Int))))
   (cond ((decide ((0 : Int) ≤ vs7)) && (decide (vs7 < (vs1.length : Int))))
    (iter (fun st k => ev f28e f28k n (cAt [1,1,1,0,1,0,0,1,0,0,1,1,1,0,1,0,0] f28c) st k) n (f28S2 vs1 vs7 ((EventT.kind (atI (t := .event) vs1 (Int.toNat vs7))) != (1 : Int)) (0 : Int) (OrderT.name (ItemT.order (EventT.item (atI (t := .event) vs1 (Int.toNat vs7))))) (OrderT.target (ItemT.order (EventT.item (atI (t := .event) vs1 (Int.toNat vs7))))) (OrderT.low (ItemT.order (EventT.item (atI (t := .event) vs1 (Int.toNat vs7))))) (OrderT.high (ItemT.order (EventT.item (atI (t := .event) vs1 (Int.toNat vs7))))) (OrderT.metrics (ItemT.order (EventT.item (atI (t := .event) vs1 (Int.toNat vs7))))) (PaceT.up (OrderT.pace (ItemT.order (EventT.item (atI (t := .event) vs1 (Int.toNat vs7)))))) (PaceT.down (OrderT.pace (ItemT.order (EventT.item (atI (t := .event) vs1 (Int.toNat vs7)))))) (PaceT.upSpan (OrderT.pace (ItemT.order (EventT.item (atI (t := .event) vs1 (Int.toNat vs7)))))) (PaceT.downSpan (OrderT.pace (ItemT.order (EventT.item (atI (t := .event) vs1 (Int.toNat vs7)))))) (OrderT.notes (ItemT.order (EventT.item (atI (t := .event) vs1 (Int.toNat vs7))))) (ItemT.ver (EventT.item (atI (t := .event) vs1 (Int.toNat vs7)))) (0 : Nat) vr768 ([] : List ItemT)) (f28K1 n k'))
    none)
   none)
  (k' (.exit 2) (f28S5 vs1 vs7 (decide (vs7 < (vs1.length : Int))) vr768)))) (by kernel_rfl) ?_
  simp only [f28L1_eq, f28K1_x0]
theorem f28L2_eq {R : Type} (n : Nat) (k' : Ex → St → Option R) (vs1 : List EventT) : ∀ (m : Nat) (vs7 : Int) (vr768 : List ItemT), iter (fun st k => ev f28e f28k n (cAt [1,1,1,0,1,0,0] f28c) st k) m (f28S4 vs1 vs7 vr768) k' = f28L2 n (fun (xvs7 : Int) (xvs30 : Bool) (xvr768 : List ItemT) => k' (.exit 2) (f28S5 vs1 xvs7 xvs30 xvr768)) vs1 m vs7 vr768 := by
  intro m; induction m with
  | zero => intros; rfl
  | succ m ih =>
    intro vs7 vr768
    simp only [iter]
    rw [f28L2_b]
    simp only [ih, f28L2]
noncomputable def f28K2 {R : Type} (n : Nat) (k' : Ex → St → Option R) : Ex → St → Option R := (blockK 2 (seqK f28e f28k n (cAt [1,1,1,1] f28c) k'))
theorem f28K2_x0 {R : Type} (n : Nat) (k : List Dt → Option R) (a0 : List ItemT) (a1 : List EventT) (vs1 : List EventT) (xvs7 : Int) (xvs30 : Bool) (xvr768 : List ItemT) : f28K2 n (exitK f28e [.ro, .ro] [false] true [.tmp 4] [35] [.d (.sl .item) a0, .d (.sl .event) a1] k) (.exit 2) (f28S5 vs1 xvs7 xvs30 xvr768) =
    (k [.d (.sl .item) xvr768]) := by kernel_rfl
noncomputable def f28K0 {R : Type} (n : Nat) (k' : Ex → St → Option R) : Ex → St → Option R := (blockK 0 (seqK f28e f28k n (cAt [1,1,1] f28c) k'))
theorem f28K0_x0 {R : Type} (n : Nat) (k : List Dt → Option R) (a0 : List ItemT) (a1 : List EventT) (vs0 : List ItemT) (vs1 : List EventT) (xvs6 : Int) (xvs16 : Bool) (xvr768 : List ItemT) : f28K0 n (exitK f28e [.ro, .ro] [false] true [.tmp 4] [35] [.d (.sl .item) a0, .d (.sl .event) a1] k) (.exit 0) (f28S1 vs0 vs1 xvs6 xvs16 xvr768) =
    (f28L2 n (fun (xvs7 : Int) (xvs30 : Bool) (xvr768 : List ItemT) =>
  (k [.d (.sl .item) xvr768])) vs1 n (0 : Int) xvr768) := by
  refine Eq.trans (b := (iter (fun st k => ev f28e f28k n (cAt [1,1,1,0,1,0,0] f28c) st k) n (f28S4 vs1 (0 : Int) xvr768) (f28K2 n (exitK f28e [.ro, .ro] [false] true [.tmp 4] [35] [.d (.sl .item) a0, .d (.sl .event) a1] k)))) (by kernel_rfl) ?_
  simp only [f28L2_eq, f28K2_x0]
theorem f28_run {R : Type} (n : Nat) (k : List Dt → Option R) (a0 : List ItemT) (a1 : List EventT) : evFn f28e f28k n f28c [.ro, .ro] [false] true [.tmp 4] [35] [.d (.sl .item) a0, .d (.sl .event) a1] k =
    (f28L0 n (fun (xvs6 : Int) (xvs16 : Bool) (xvr768 : List ItemT) =>
  (f28L2 n (fun (xvs7 : Int) (xvs30 : Bool) (xvr768 : List ItemT) =>
   (k [.d (.sl .item) xvr768])) a1 n (0 : Int) xvr768)) a0 a1 n (0 : Int) ([] : List ItemT)) := by
  refine Eq.trans (b := (iter (fun st k => ev f28e f28k n (cAt [1,1,0,1,0,0] f28c) st k) n (f28S0 a0 a1 (0 : Int) ([] : List ItemT)) (f28K0 n (exitK f28e [.ro, .ro] [false] true [.tmp 4] [35] [.d (.sl .item) a0, .d (.sl .event) a1] k)))) (by kernel_rfl) ?_
  simp only [f28L0_eq, f28K0_x0, f28L2_eq, f28K2_x0]
theorem f28_spec (a0 : List ItemT) (a1 : List EventT) (hg : gReplay a0 a1 = true) : ∃ keep rounds, ∀ {R : Type} (k : List Dt → Option R), evFn f28e keep rounds f28c [.ro, .ro] [false] true [.tmp 4] [35] [.d (.sl .item) a0, .d (.sl .event) a1] k = k [.d (.sl .item) (replayW a0 a1)] := by
  simp only [gReplay, Bool.and_eq_true] at hg
  obtain ⟨hi, he, hl⟩ := hg
  have hl := bleN hl
  have hev := smL_all he
  have hit := smL_all hi
  refine ⟨f28k, 1048578, fun {R} k => ?_⟩
  rw [f28_run]
  have inner : ∀ (vs : Int) (x : ItemT), sm_item x = true → ∀ (out : List ItemT), out.length ≤ 1048576 → ∀ (X : Bool → Int → Bool → Nat → List ItemT → Option R) (Y : Bool × List ItemT → Option R), (∀ p i b cu l, repL (p, l) ≤ out.length + 1 → X p i b cu l = Y (p, l)) → ∀ (d k m : Nat) (p : Bool) (cu : Nat) (acc : List ItemT),
      k + d = out.length → d < m → cu ≤ k → repL (p, acc) ≤ k + 1 → f28L1 1048578 X a1 vs x.order.name x.order.target x.order.low x.order.high x.order.metrics x.order.pace.up x.order.pace.down x.order.pace.upSpan x.order.pace.downSpan x.order.notes x.ver out m p (k : Int) cu acc = Y ((out.drop k).foldl (repStep x) (p, acc)) := by
    intro vs x hx out hol X Y hX d
    induction d with
    | zero =>
      intro k m p cu acc hk hm hcu ha
      obtain ⟨m, rfl⟩ : ∃ m', m = m' + 1 := ⟨m - 1, by omega⟩
      simp only [f28L1, decide_eq_false (show ¬ ((k : Int) < (out.length : Int)) by omega), cond_false]
      rw [List.drop_eq_nil_of_le (by omega)]
      exact hX _ _ _ _ _ (by omega)
    | succ d ih =>
      intro k m p cu acc hk hm hcu ha
      obtain ⟨m, rfl⟩ : ∃ m', m = m' + 1 := ⟨m - 1, by omega⟩
      have hkl : k < out.length := by omega
      obtain ⟨h1, h0, hw, ht⟩ := idx hkl (by omega)
      have hat := atI_lt (t := .item) hkl
      have hdrop : out.drop k = atI (t := .item) out k :: out.drop (k + 1) := by
        rw [List.drop_eq_getElem_cons hkl]
        rw [List.getElem?_eq_getElem hkl] at hat
        rw [Option.some.inj hat]
      rw [hdrop, List.foldl_cons]
      have hal : acc.length ≤ k + 1 := Nat.le_trans (Nat.le_add_right _ _) ha
      have l1 := limN (n := acc.length + 1) (by omega)
      have l2 := limN (n := (acc ++ [x]).length + 1) (by simp only [List.length_append, List.length_cons, List.length_nil]; omega)
      have q1 : leC cu 0 k 4 = true := leC_0 hcu
      have q2 : leC k 5 k 9 = true := by rw [leC_same]; rfl
      cases hp : p <;> cases hlt : sLt (atI (t := .item) out k).order.name x.order.name <;> cases heq : sEq (atI (t := .item) out k).order.name x.order.name
      all_goals
        simp only [f28L1, h1, h0, hw, ht, hlt, heq, hx, l1, l2, q1, q2, eta_order2, eta_order, eta_item, Bool.and_self, Bool.not_true, Bool.not_false, cond_true, cond_false]
        refine (ih (k + 1) m _ _ _ (by omega) (by omega) (by omega) ?_).trans ?_
        · simp only [hp, repL, cond_true, cond_false, List.length_append, List.length_cons, List.length_nil] at ha ⊢; omega
        · simp only [repStep, hlt, heq, Bool.not_true, Bool.not_false, cond_true, cond_false]
  have outer : ∀ (X : Int → Bool → List ItemT → Option R), (∀ i b l, X i b l = k [.d (.sl .item) l]) → ∀ (d j m : Nat) (out : List ItemT), j + d = a1.length → d < m → out.length + d ≤ 1048576 →
      f28L2 1048578 X a1 m (j : Int) out = k [.d (.sl .item) ((a1.drop j).foldl repOne out)] := by
    intro X hX d
    induction d with
    | zero =>
      intro j m out hj hm hl
      obtain ⟨m, rfl⟩ : ∃ m', m = m' + 1 := ⟨m - 1, by omega⟩
      simp only [f28L2, decide_eq_false (show ¬ ((j : Int) < (a1.length : Int)) by omega), cond_false, hX]
      rw [List.drop_eq_nil_of_le (by omega)]; rfl
    | succ d ih =>
      intro j m out hj hm hl
      obtain ⟨m, rfl⟩ : ∃ m', m = m' + 1 := ⟨m - 1, by omega⟩
      have hjl : j < a1.length := by omega
      obtain ⟨h1, h0, hw, ht⟩ := idx hjl (by omega)
      have hat := atI_lt (t := .event) hjl
      have he := List.all_eq_true.1 hev _ (List.mem_of_getElem? hat)
      have hx : sm_item (atI (t := .event) a1 j).item = true := by simp only [sm_event, Bool.and_eq_true] at he; exact he.2.2
      have hdrop : a1.drop j = atI (t := .event) a1 j :: a1.drop (j + 1) := by
        rw [List.drop_eq_getElem_cons hjl]
        rw [List.getElem?_eq_getElem hjl] at hat
        rw [Option.some.inj hat]
      have hlen := repFold_len (atI (t := .event) a1 j).item out ((atI (t := .event) a1 j).kind != (1 : Int), [])
      have hL : repL ((atI (t := .event) a1 j).kind != (1 : Int), []) ≤ 1 := by unfold repL; cases ((atI (t := .event) a1 j).kind != (1 : Int)) <;> simp
      rw [hdrop, List.foldl_cons]
      simp only [f28L2, h1, h0, hw, ht, Bool.and_self, cond_true]
      refine (inner _ _ hx out (by omega) _ (fun s => k [.d (.sl .item) ((a1.drop (j + 1)).foldl repOne (repEnd (atI (t := .event) a1 j).item s))]) ?_ out.length 0 1048578 _ 0 [] (by omega) (by omega) (by omega) hL).trans ?_
      · intro p i b cu l hpl
        have hE := repEnd_len (atI (t := .event) a1 j).item (p, l)
        have hb := limN (n := l.length + 1) (by have : l.length ≤ repL (p, l) := Nat.le_add_right _ _; omega)
        have := ih (j + 1) m (repEnd (atI (t := .event) a1 j).item (p, l)) (by omega) (by omega) (by omega)
        cases p
        · simp only [Bool.not_false, cond_true, eta_order2, eta_order, eta_item, hx, hb, hw, ht]; exact this
        · simp only [Bool.not_true, cond_false, hw]; exact this
      · rfl
  refine Eq.trans (loop_acc (xs := a0) (F := fun m j out => f28L0 1048578 _ a0 a1 m (j : Int) out) (f := fun out x => out ++ [x]) (good := fun out => k [.d (.sl .item) (replayW out a1)]) (fun j out => out.length ≤ j)
    (fun j out x hx hi => by simp only [List.length_append, List.length_cons, List.length_nil]; omega) (fun m j out x hx hi => ?_) (fun m out hi => ?_) a0.length 0 1048578 [] (by omega) (by omega) (by simp)) ?_
  · obtain ⟨h1, h0, hw, ht⟩ := idx (lt_of_get hx) (by omega)
    have hj := lt_of_get hx
    have hs := List.all_eq_true.1 hit x (List.mem_of_getElem? hx)
    have hlim := limN (n := out.length + 1) (by omega)
    simp only [f28L0, h1, h0, hw, ht, atI_of (t := .item) hx, Bool.and_self, cond_true, hlim, hs, eta_order2, eta_order, eta_item]
  · simp only [f28L0, idxE, cond_false]
    exact outer _ (fun _ _ _ => rfl) a1.length 0 1048578 out (by omega) (by omega) (by omega)
  · rw [List.drop_zero, foldl_snoc, List.nil_append]
noncomputable def q28 : List Dt → Option (Bool × List Dt)
  | [.d (.sl .item) a0, .d (.sl .event) a1] => some ((gReplay a0 a1), [.d (.sl .item) (replayW a0 a1)])
  | _ => none
noncomputable def s28 : Gm.Spec := Gm.Spec.of [.ro, .ro] [false] true q28
theorem good28 : Gm.Good Try.prog (28, s28) := by
  have hl : ∀ x ∈ [(71, s71)], Gm.Good Try.prog x := List.forall_mem_cons.2 ⟨good71, List.forall_mem_nil _⟩
  refine ⟨⟨spec_ok (tab_ok.env hl) (tab.natl hl) Try.func28 (by kernel_rfl : Try.f28.body = some f28c) [35] (by kernel_rfl) ?_, _, Try.func28, by kernel_rfl, of_decide_eq_true (by kernel_rfl)⟩, Gm.Spec.of_natl _ _ _ _⟩
  intro ds outs h
  unfold q28 at h
  split at h
  · simp only [Option.some.injEq, Prod.mk.injEq] at h; obtain ⟨hg, h⟩ := h; cases h; exact f28_spec _ _ hg
  · cases h
noncomputable def f25S0 (y0 : Bool) (y1 : List EventT) (y2 : Int) (y3 : Int) (y4 : Int) (y5 : Int) (y6 : Int) (y7 : Int) (y8 : ByteArray) (y9 : ByteArray) (y10 : Int) (y11 : Int) (y12 : List MetricT) (y13 : Int) (y14 : Int) (y15 : Int) (y16 : Int) (y17 : List NoteT) (y18 : Int) (y19 : Nat) (y20 : List ItemT) (y21 : List ItemT) : St := ⟨[(7, .c (.one (.pt 7 0))), (8, .c (.one (.h 1280 0 0 []))), (9, .c (.one (.v (.bool y0)))), (14, .c (.one (.ro .event y1))), (15, .c (.one (.v (.int .i64 y2)))), (16, .c (.one (.v (.int .i64 y3)))), (24, .c (.one (.h 832 0 0 []))), (25, .c (.one (.v (.int .i64 y4)))), (26, .c (.one (.v (.int .i64 y5))))], [(7, ⟨.event, [.v (.int .i64 y6), .v (.int .i64 y7), .v (.string y8), .v (.string y9), .v (.int .i64 y10), .v (.int .i64 y11), .ro .metric y12, .v (.int .i64 y13), .v (.int .i64 y14), .v (.int .i64 y15), .v (.int .i64 y16), .ro .note y17, .v (.int .i64 y18)]⟩)], [(832, .live ⟨.item, (.part (.cur y19 0)), 0, [], y20⟩), (1280, .live ⟨.item, .deep, 0, [], y21⟩)]⟩
noncomputable def f25S1 (y0 : Bool) (y1 : List EventT) (y2 : Int) (y3 : Int) (y4 : Int) (y5 : Int) (y6 : Bool) (y7 : Int) (y8 : Int) (y9 : ByteArray) (y10 : ByteArray) (y11 : Int) (y12 : Int) (y13 : List MetricT) (y14 : Int) (y15 : Int) (y16 : Int) (y17 : Int) (y18 : List NoteT) (y19 : Int) (y20 : Nat) (y21 : List ItemT) (y22 : List ItemT) : St := ⟨[(7, .c (.one (.pt 7 0))), (8, .c (.one (.h 1280 0 0 []))), (9, .c (.one (.v (.bool y0)))), (14, .c (.one (.ro .event y1))), (15, .c (.one (.v (.int .i64 y2)))), (16, .c (.one (.v (.int .i64 y3)))), (24, .c (.one (.h 832 0 0 []))), (25, .c (.one (.v (.int .i64 y4)))), (26, .c (.one (.v (.int .i64 y5)))), (27, .c (.one (.v (.bool y6))))], [(7, ⟨.event, [.v (.int .i64 y7), .v (.int .i64 y8), .v (.string y9), .v (.string y10), .v (.int .i64 y11), .v (.int .i64 y12), .ro .metric y13, .v (.int .i64 y14), .v (.int .i64 y15), .v (.int .i64 y16), .v (.int .i64 y17), .ro .note y18, .v (.int .i64 y19)]⟩)], [(832, .live ⟨.item, (.part (.cur y20 0)), 0, [], y21⟩), (1280, .live ⟨.item, .deep, 0, [], y22⟩)]⟩
noncomputable def f25S2 (y0 : List EventT) (y1 : Int) (y2 : Int) (y3 : List ItemT) : St := ⟨[(5, .c (.one (.h 832 0 0 []))), (14, .c (.one (.ro .event y0))), (15, .c (.one (.v (.int .i64 y1)))), (16, .c (.one (.v (.int .i64 y2))))], [], [(832, .live ⟨.item, .deep, 0, [], y3⟩)]⟩
noncomputable def f25S3 (y0 : List EventT) (y1 : Int) (y2 : Int) (y3 : Bool) (y4 : List ItemT) : St := ⟨[(5, .c (.one (.h 832 0 0 []))), (14, .c (.one (.ro .event y0))), (15, .c (.one (.v (.int .i64 y1)))), (16, .c (.one (.v (.int .i64 y2)))), (17, .c (.one (.v (.bool y3))))], [], [(832, .live ⟨.item, .deep, 0, [], y4⟩)]⟩
noncomputable def f25c : Code := (Try.f25.body).getD .skip
def f25k : Nat → Kp := kat [⟨[0, 1], [], [], []⟩, ⟨[1, 5], [], [], []⟩, ⟨[5, 14, 15, 16], [], [], []⟩, ⟨[5, 14, 15, 16, 17], [], [], []⟩, ⟨[5, 7, 14, 15, 16], [], [], []⟩, ⟨[5, 7, 8, 9, 14, 15, 16], [], [], []⟩, ⟨[7, 8, 9, 14, 15, 16, 24, 25, 26], [], [2000000832], []⟩, ⟨[7, 8, 9, 14, 15, 16, 24, 25, 26, 27], [], [], []⟩, ⟨[7, 8, 9, 11, 14, 15, 16, 24, 25, 26], [], [], []⟩, ⟨[7, 8, 9, 11, 14, 15, 16, 24, 25, 26, 41], [], [], []⟩, ⟨[7, 8, 9, 11, 14, 15, 16, 24, 25, 26], [], [], []⟩, ⟨[7, 8, 9, 11, 14, 15, 16, 24, 25, 26, 55], [], [], []⟩, ⟨[7, 8, 9, 14, 15, 16, 24, 25, 26], [], [], []⟩, ⟨[7, 8, 9, 14, 15, 16, 24, 25, 26], [], [], []⟩, ⟨[7, 8, 14, 15, 16, 62], [], [], []⟩, ⟨[8, 14, 15, 16], [], [], []⟩, ⟨[5, 14, 15, 16], [], [], []⟩, ⟨[5, 14, 15, 16], [], [], [(1280, 832)]⟩, ⟨[4], [], [], []⟩]
noncomputable def f25e : Env := tab.env [(61, s61), (69, s69)]
noncomputable def f25L0 {R : Type} (n : Nat) (x0 : Bool → Int → Bool → Nat → (List ItemT) → Option R) (vs14 : List EventT) (vs15 : Int) (vs16 : Int) (vs25 : Int) (vb7_0 : Int) (vb7_1 : Int) (vb7_2 : ByteArray) (vb7_3 : ByteArray) (vb7_4 : Int) (vb7_5 : Int) (vb7_6 : List MetricT) (vb7_7 : Int) (vb7_8 : Int) (vb7_9 : Int) (vb7_10 : Int) (vb7_11 : List NoteT) (vb7_12 : Int) (vr832 : List ItemT) : Nat → Bool → Int → Nat → (List ItemT) → Option R
  | 0, _, _, _, _ => none
  | m + 1, vs9, vs26, vr832m, vr1280 =>
    (cond (decide (vs26 < vs25))
   (cond ((decide ((0 : Int) ≤ vs26)) && (decide (vs26 < (vr832.length : Int))))
    (cond (!vs9)
     (cond (!(sLt (OrderT.name (ItemT.order (atI (t := .item) vr832 (Int.toNat vs26)))) vb7_2))
      (cond (sm_item (⟨(⟨vb7_2, vb7_3, vb7_4, vb7_5, vb7_6, (⟨vb7_7, vb7_8, vb7_9, vb7_10⟩ : PaceT), vb7_11⟩ : OrderT), vb7_12⟩ : ItemT))
       (cond (Nat.ble (vr1280.length + 1) LIM)
        (cond (!(sEq (OrderT.name (ItemT.order (atI (t := .item) vr832 (Int.toNat vs26)))) vb7_2))
         (cond (leC vr832m 0 (Int.toNat vs26) 4)
          (cond (leC (Int.toNat vs26) 5 (Int.toNat vs26) 9)
           (cond (Nat.ble ((vr1280 ++ ([(⟨(⟨vb7_2, vb7_3, vb7_4, vb7_5, vb7_6, (⟨vb7_7, vb7_8, vb7_9, vb7_10⟩ : PaceT), vb7_11⟩ : OrderT), vb7_12⟩ : ItemT)] : List ItemT)).length + 1) LIM)
            (f25L0 n x0 vs14 vs15 vs16 vs25 vb7_0 vb7_1 vb7_2 vb7_3 vb7_4 vb7_5 vb7_6 vb7_7 vb7_8 vb7_9 vb7_10 vb7_11 vb7_12 vr832 m true (IntKind.wrap .i64 (vs26 + (1 : Int))) ((Int.toNat vs26) + 1) ((vr1280 ++ ([(⟨(⟨vb7_2, vb7_3, vb7_4, vb7_5, vb7_6, (⟨vb7_7, vb7_8, vb7_9, vb7_10⟩ : PaceT), vb7_11⟩ : OrderT), vb7_12⟩ : ItemT)] : List ItemT)) ++ ([(atI (t := .item) vr832 (Int.toNat vs26))] : List ItemT)))
            none)
           none)
          none)
         (f25L0 n x0 vs14 vs15 vs16 vs25 vb7_0 vb7_1 vb7_2 vb7_3 vb7_4 vb7_5 vb7_6 vb7_7 vb7_8 vb7_9 vb7_10 vb7_11 vb7_12 vr832 m true (IntKind.wrap .i64 (vs26 + (1 : Int))) vr832m (vr1280 ++ ([(⟨(⟨vb7_2, vb7_3, vb7_4, vb7_5, vb7_6, (⟨vb7_7, vb7_8, vb7_9, vb7_10⟩ : PaceT), vb7_11⟩ : OrderT), vb7_12⟩ : ItemT)] : List ItemT))))
        none)
       none)
      (cond (!(sEq (OrderT.name (ItemT.order (atI (t := .item) vr832 (Int.toNat vs26)))) vb7_2))
       (cond (leC vr832m 0 (Int.toNat vs26) 4)
        (cond (leC (Int.toNat vs26) 5 (Int.toNat vs26) 9)
         (cond (Nat.ble (vr1280.length + 1) LIM)
          (f25L0 n x0 vs14 vs15 vs16 vs25 vb7_0 vb7_1 vb7_2 vb7_3 vb7_4 vb7_5 vb7_6 vb7_7 vb7_8 vb7_9 vb7_10 vb7_11 vb7_12 vr832 m vs9 (IntKind.wrap .i64 (vs26 + (1 : Int))) ((Int.toNat vs26) + 1) (vr1280 ++ ([(atI (t := .item) vr832 (Int.toNat vs26))] : List ItemT)))
          none)
         none)
        none)
       (f25L0 n x0 vs14 vs15 vs16 vs25 vb7_0 vb7_1 vb7_2 vb7_3 vb7_4 vb7_5 vb7_6 vb7_7 vb7_8 vb7_9 vb7_10 vb7_11 vb7_12 vr832 m vs9 (IntKind.wrap .i64 (vs26 + (1 : Int))) vr832m vr1280)))
     (cond (!(sEq (OrderT.name (ItemT.order (atI (t := .item) vr832 (Int.toNat vs26)))) vb7_2))
      (cond (leC vr832m 0 (Int.toNat vs26) 4)
       (cond (leC (Int.toNat vs26) 5 (Int.toNat vs26) 9)
        (cond (Nat.ble (vr1280.length + 1) LIM)
         (f25L0 n x0 vs14 vs15 vs16 vs25 vb7_0 vb7_1 vb7_2 vb7_3 vb7_4 vb7_5 vb7_6 vb7_7 vb7_8 vb7_9 vb7_10 vb7_11 vb7_12 vr832 m vs9 (IntKind.wrap .i64 (vs26 + (1 : Int))) ((Int.toNat vs26) + 1) (vr1280 ++ ([(atI (t := .item) vr832 (Int.toNat vs26))] : List ItemT)))
         none)
        none)
       none)
      (f25L0 n x0 vs14 vs15 vs16 vs25 vb7_0 vb7_1 vb7_2 vb7_3 vb7_4 vb7_5 vb7_6 vb7_7 vb7_8 vb7_9 vb7_10 vb7_11 vb7_12 vr832 m vs9 (IntKind.wrap .i64 (vs26 + (1 : Int))) vr832m vr1280)))
    none)
   (x0 vs9 vs26 (decide (vs26 < vs25)) vr832m vr1280))
theorem f25L0_b {R : Type} (n : Nat) (k' : Ex → St → Option R) (vs9 : Bool) (vs14 : List EventT) (vs15 : Int) (vs16 : Int) (vs25 : Int) (vs26 : Int) (vb7_0 : Int) (vb7_1 : Int) (vb7_2 : ByteArray) (vb7_3 : ByteArray) (vb7_4 : Int) (vb7_5 : Int) (vb7_6 : List MetricT) (vb7_7 : Int) (vb7_8 : Int) (vb7_9 : Int) (vb7_10 : Int) (vb7_11 : List NoteT) (vb7_12 : Int) (vr832m : Nat) (vr832 : List ItemT) (vr1280 : List ItemT) : ev f25e f25k n (cAt [1,1,0,1,0,0,1,1,0,0,1,1,0,1,0,0] f25c) (f25S0 vs9 vs14 vs15 vs16 vs25 vs26 vb7_0 vb7_1 vb7_2 vb7_3 vb7_4 vb7_5 vb7_6 vb7_7 vb7_8 vb7_9 vb7_10 vb7_11 vb7_12 vr832m vr832 vr1280) k' =
    (cond (decide (vs26 < vs25))
  (cond ((decide ((0 : Int) ≤ vs26)) && (decide (vs26 < (vr832.length : Int))))
   (cond (!vs9)
    (cond (!(sLt (OrderT.name (ItemT.order (atI (t := .item) vr832 (Int.toNat vs26)))) vb7_2))
     (cond (sm_item (⟨(⟨vb7_2, vb7_3, vb7_4, vb7_5, vb7_6, (⟨vb7_7, vb7_8, vb7_9, vb7_10⟩ : PaceT), vb7_11⟩ : OrderT), vb7_12⟩ : ItemT))
      (cond (Nat.ble (vr1280.length + 1) LIM)
       (cond (!(sEq (OrderT.name (ItemT.order (atI (t := .item) vr832 (Int.toNat vs26)))) vb7_2))
        (cond (leC vr832m 0 (Int.toNat vs26) 4)
         (cond (leC (Int.toNat vs26) 5 (Int.toNat vs26) 9)
          (cond (Nat.ble ((vr1280 ++ ([(⟨(⟨vb7_2, vb7_3, vb7_4, vb7_5, vb7_6, (⟨vb7_7, vb7_8, vb7_9, vb7_10⟩ : PaceT), vb7_11⟩ : OrderT), vb7_12⟩ : ItemT)] : List ItemT)).length + 1) LIM)
           (k' .normal (f25S0 true vs14 vs15 vs16 vs25 (IntKind.wrap .i64 (vs26 + (1 : Int))) vb7_0 vb7_1 vb7_2 vb7_3 vb7_4 vb7_5 vb7_6 vb7_7 vb7_8 vb7_9 vb7_10 vb7_11 vb7_12 ((Int.toNat vs26) + 1) vr832 ((vr1280 ++ ([(⟨(⟨vb7_2, vb7_3, vb7_4, vb7_5, vb7_6, (⟨vb7_7, vb7_8, vb7_9, vb7_10⟩ : PaceT), vb7_11⟩ : OrderT), vb7_12⟩ : ItemT)] : List ItemT)) ++ ([(atI (t := .item) vr832 (Int.toNat vs26))] : List ItemT))))
           none)
          none)
         none)
        (k' .normal (f25S0 true vs14 vs15 vs16 vs25 (IntKind.wrap .i64 (vs26 + (1 : Int))) vb7_0 vb7_1 vb7_2 vb7_3 vb7_4 vb7_5 vb7_6 vb7_7 vb7_8 vb7_9 vb7_10 vb7_11 vb7_12 vr832m vr832 (vr1280 ++ ([(⟨(⟨vb7_2, vb7_3, vb7_4, vb7_5, vb7_6, (⟨vb7_7, vb7_8, vb7_9, vb7_10⟩ : PaceT), vb7_11⟩ : OrderT), vb7_12⟩ : ItemT)] : List ItemT)))))
       none)
      none)
     (cond (!(sEq (OrderT.name (ItemT.order (atI (t := .item) vr832 (Int.toNat vs26)))) vb7_2))
      (cond (leC vr832m 0 (Int.toNat vs26) 4)
       (cond (leC (Int.toNat vs26) 5 (Int.toNat vs26) 9)
        (cond (Nat.ble (vr1280.length + 1) LIM)
         (k' .normal (f25S0 vs9 vs14 vs15 vs16 vs25 (IntKind.wrap .i64 (vs26 + (1 : Int))) vb7_0 vb7_1 vb7_2 vb7_3 vb7_4 vb7_5 vb7_6 vb7_7 vb7_8 vb7_9 vb7_10 vb7_11 vb7_12 ((Int.toNat vs26) + 1) vr832 (vr1280 ++ ([(atI (t := .item) vr832 (Int.toNat vs26))] : List ItemT))))
         none)
        none)
       none)
      (k' .normal (f25S0 vs9 vs14 vs15 vs16 vs25 (IntKind.wrap .i64 (vs26 + (1 : Int))) vb7_0 vb7_1 vb7_2 vb7_3 vb7_4 vb7_5 vb7_6 vb7_7 vb7_8 vb7_9 vb7_10 vb7_11 vb7_12 vr832m vr832 vr1280))))
    (cond (!(sEq (OrderT.name (ItemT.order (atI (t := .item) vr832 (Int.toNat vs26)))) vb7_2))
     (cond (leC vr832m 0 (Int.toNat vs26) 4)
      (cond (leC (Int.toNat vs26) 5 (Int.toNat vs26) 9)
       (cond (Nat.ble (vr1280.length + 1) LIM)
        (k' .normal (f25S0 vs9 vs14 vs15 vs16 vs25 (IntKind.wrap .i64 (vs26 + (1 : Int))) vb7_0 vb7_1 vb7_2 vb7_3 vb7_4 vb7_5 vb7_6 vb7_7 vb7_8 vb7_9 vb7_10 vb7_11 vb7_12 ((Int.toNat vs26) + 1) vr832 (vr1280 ++ ([(atI (t := .item) vr832 (Int.toNat vs26))] : List ItemT))))
        none)
       none)
      none)
     (k' .normal (f25S0 vs9 vs14 vs15 vs16 vs25 (IntKind.wrap .i64 (vs26 + (1 : Int))) vb7_0 vb7_1 vb7_2 vb7_3 vb7_4 vb7_5 vb7_6 vb7_7 vb7_8 vb7_9 vb7_10 vb7_11 vb7_12 vr832m vr832 vr1280))))
   none)
  (k' (.exit 2) (f25S1 vs9 vs14 vs15 vs16 vs25 vs26 (decide (vs26 < vs25)) vb7_0 vb7_1 vb7_2 vb7_3 vb7_4 vb7_5 vb7_6 vb7_7 vb7_8 vb7_9 vb7_10 vb7_11 vb7_12 vr832m vr832 vr1280))) := by kernel_rfl
theorem f25L0_eq {R : Type} (n : Nat) (k' : Ex → St → Option R) (vs14 : List EventT) (vs15 : Int) (vs16 : Int) (vs25 : Int) (vb7_0 : Int) (vb7_1 : Int) (vb7_2 : ByteArray) (vb7_3 : ByteArray) (vb7_4 : Int) (vb7_5 : Int) (vb7_6 : List MetricT) (vb7_7 : Int) (vb7_8 : Int) (vb7_9 : Int) (vb7_10 : Int) (vb7_11 : List NoteT) (vb7_12 : Int) (vr832 : List ItemT) : ∀ (m : Nat) (vs9 : Bool) (vs26 : Int) (vr832m : Nat) (vr1280 : List ItemT), iter (fun st k => ev f25e f25k n (cAt [1,1,0,1,0,0,1,1,0,0,1,1,0,1,0,0] f25c) st k) m (f25S0 vs9 vs14 vs15 vs16 vs25 vs26 vb7_0 vb7_1 vb7_2 vb7_3 vb7_4 vb7_5 vb7_6 vb7_7 vb7_8 vb7_9 vb7_10 vb7_11 vb7_12 vr832m vr832 vr1280) k' = f25L0 n (fun (xvs9 : Bool) (xvs26 : Int) (xvs27 : Bool) (xvr832m : Nat) (xvr1280 : List ItemT) => k' (.exit 2) (f25S1 xvs9 vs14 vs15 vs16 vs25 xvs26 xvs27 vb7_0 vb7_1 vb7_2 vb7_3 vb7_4 vb7_5 vb7_6 vb7_7 vb7_8 vb7_9 vb7_10 vb7_11 vb7_12 xvr832m vr832 xvr1280)) vs14 vs15 vs16 vs25 vb7_0 vb7_1 vb7_2 vb7_3 vb7_4 vb7_5 vb7_6 vb7_7 vb7_8 vb7_9 vb7_10 vb7_11 vb7_12 vr832 m vs9 vs26 vr832m vr1280 := by
  intro m; induction m with
  | zero => intros; rfl
  | succ m ih =>
    intro vs9 vs26 vr832m vr1280
    simp only [iter]
    rw [f25L0_b]
    simp only [ih, f25L0]
noncomputable def f25K0 {R : Type} (n : Nat) (k' : Ex → St → Option R) : Ex → St → Option R := (blockK 2 (seqK f25e f25k n (cAt [1,1,0,1,0,0,1,1,0,0,1,1,1] f25c) (blockK 1 (seqK f25e f25k n (cAt [1,1,0,1,0,0,1,1,1] f25c) k'))))
theorem f25K0_x0 {R : Type} (n : Nat) (k' : Ex → St → Option R) (vs14 : List EventT) (vs15 : Int) (vs16 : Int) (vs25 : Int) (vb7_0 : Int) (vb7_1 : Int) (vb7_2 : ByteArray) (vb7_3 : ByteArray) (vb7_4 : Int) (vb7_5 : Int) (vb7_6 : List MetricT) (vb7_7 : Int) (vb7_8 : Int) (vb7_9 : Int) (vb7_10 : Int) (vb7_11 : List NoteT) (vb7_12 : Int) (vr832 : List ItemT) (xvs9 : Bool) (xvs26 : Int) (xvs27 : Bool) (xvr832m : Nat) (xvr1280 : List ItemT) : f25K0 n k' (.exit 2) (f25S1 xvs9 vs14 vs15 vs16 vs25 xvs26 xvs27 vb7_0 vb7_1 vb7_2 vb7_3 vb7_4 vb7_5 vb7_6 vb7_7 vb7_8 vb7_9 vb7_10 vb7_11 vb7_12 xvr832m vr832 xvr1280) =
    (cond (!xvs9)
  (cond (sm_item (⟨(⟨vb7_2, vb7_3, vb7_4, vb7_5, vb7_6, (⟨vb7_7, vb7_8, vb7_9, vb7_10⟩ : PaceT), vb7_11⟩ : OrderT), vb7_12⟩ : ItemT))
   (cond (Nat.ble (xvr1280.length + 1) LIM)
    (k' .normal (f25S2 vs14 vs15 (IntKind.wrap .i64 (vs16 + (1 : Int))) (xvr1280 ++ ([(⟨(⟨vb7_2, vb7_3, vb7_4, vb7_5, vb7_6, (⟨vb7_7, vb7_8, vb7_9, vb7_10⟩ : PaceT), vb7_11⟩ : OrderT), vb7_12⟩ : ItemT)] : List ItemT))))
    none)
   none)
  (k' .normal (f25S2 vs14 vs15 (IntKind.wrap .i64 (vs16 + (1 : Int))) xvr1280))) := by kernel_rfl
noncomputable def f25L1 {R : Type} (n : Nat) (x0 : Int → Bool → (List ItemT) → Option R) (vs14 : List EventT) (vs15 : Int) : Nat → Int → (List ItemT) → Option R
  | 0, _, _ => none
  | m + 1, vs16, vr832 =>
    (cond (decide (vs16 < vs15))
   (cond ((decide ((0 : Int) ≤ vs16)) && (decide (vs16 < (vs14.length : Int))))
    (f25L0 n (fun (xvs9 : Bool) (xvs26 : Int) (xvs27 : Bool) (xvr832m : Nat) (xvr1280 : List ItemT) =>
     (cond (!xvs9)
      (cond (sm_item (⟨(⟨(OrderT.name (ItemT.order (EventT.item (atI (t := .event) vs14 (Int.toNat vs16))))), (OrderT.target (ItemT.order (EventT.item (atI (t := .event) vs14 (Int.toNat vs16))))), (OrderT.low (ItemT.order (EventT.item (atI (t := .event) vs14 (Int.toNat vs16))))), (OrderT.high (ItemT.order (EventT.item (atI (t := .event) vs14 (Int.toNat vs16))))), (OrderT.metrics (ItemT.order (EventT.item (atI (t := .event) vs14 (Int.toNat vs16))))), (⟨(PaceT.up (OrderT.pace (ItemT.order (EventT.item (atI (t := .event) vs14 (Int.toNat vs16)))))), (PaceT.down (OrderT.pace (ItemT.order (EventT.item (atI (t := .event) vs14 (Int.toNat vs16)))))), (PaceT.upSpan (OrderT.pace (ItemT.order (EventT.item (atI (t := .event) vs14 (Int.toNat vs16)))))), (PaceT.downSpan (OrderT.pace (ItemT.order (EventT.item (atI (t := .event) vs14 (Int.toNat vs16))))))⟩ : PaceT), (OrderT.notes (ItemT.order (EventT.item (atI (t := .event) vs14 (Int.toNat vs16)))))⟩ : OrderT), (ItemT.ver (EventT.item (atI (t := .event) vs14 (Int.toNat vs16))))⟩ : ItemT))
       (cond (Nat.ble (xvr1280.length + 1) LIM)
        (f25L1 n x0 vs14 vs15 m (IntKind.wrap .i64 (vs16 + (1 : Int))) (xvr1280 ++ ([(⟨(⟨(OrderT.name (ItemT.order (EventT.item (atI (t := .event) vs14 (Int.toNat vs16))))), (OrderT.target (ItemT.order (EventT.item (atI (t := .event) vs14 (Int.toNat vs16))))), (OrderT.low (ItemT.order (EventT.item (atI (t := .event) vs14 (Int.toNat vs16))))), (OrderT.high (ItemT.order (EventT.item (atI (t := .event) vs14 (Int.toNat vs16))))), (OrderT.metrics (ItemT.order (EventT.item (atI (t := .event) vs14 (Int.toNat vs16))))), (⟨(PaceT.up (OrderT.pace (ItemT.order (EventT.item (atI (t := .event) vs14 (Int.toNat vs16)))))), (PaceT.down (OrderT.pace (ItemT.order (EventT.item (atI (t := .event) vs14 (Int.toNat vs16)))))), (PaceT.upSpan (OrderT.pace (ItemT.order (EventT.item (atI (t := .event) vs14 (Int.toNat vs16)))))), (PaceT.downSpan (OrderT.pace (ItemT.order (EventT.item (atI (t := .event) vs14 (Int.toNat vs16))))))⟩ : PaceT), (OrderT.notes (ItemT.order (EventT.item (atI (t := .event) vs14 (Int.toNat vs16)))))⟩ : OrderT), (ItemT.ver (EventT.item (atI (t := .event) vs14 (Int.toNat vs16))))⟩ : ItemT)] : List ItemT)))
        none)
       none)
      (f25L1 n x0 vs14 vs15 m (IntKind.wrap .i64 (vs16 + (1 : Int))) xvr1280))) vs14 vs15 vs16 (vr832.length : Int) (EventT.seq (atI (t := .event) vs14 (Int.toNat vs16))) (EventT.kind (atI (t := .event) vs14 (Int.toNat vs16))) (OrderT.name (ItemT.order (EventT.item (atI (t := .event) vs14 (Int.toNat vs16))))) (OrderT.target (ItemT.order (EventT.item (atI (t := .event) vs14 (Int.toNat vs16))))) (OrderT.low (ItemT.order (EventT.item (atI (t := .event) vs14 (Int.toNat vs16))))) (OrderT.high (ItemT.order (EventT.item (atI (t := .event) vs14 (Int.toNat vs16))))) (OrderT.metrics (ItemT.order (EventT.item (atI (t := .event) vs14 (Int.toNat vs16))))) (PaceT.up (OrderT.pace (ItemT.order (EventT.item (atI (t := .event) vs14 (Int.toNat vs16)))))) (PaceT.down (OrderT.pace (ItemT.order (EventT.item (atI (t := .event) vs14 (Int.toNat vs16)))))) (PaceT.upSpan (OrderT.pace (ItemT.order (EventT.item (atI (t := .event) vs14 (Int.toNat vs16)))))) (PaceT.downSpan (OrderT.pace (ItemT.order (EventT.item (atI (t := .event) vs14 (Int.toNat vs16)))))) (OrderT.notes (ItemT.order (EventT.item (atI (t := .event) vs14 (Int.toNat vs16))))) (ItemT.ver (EventT.item (atI (t := .event) vs14 (Int.toNat vs16)))) vr832 n ((EventT.kind (atI (t := .event) vs14 (Int.toNat vs16))) != (1 : Int)) (0 : Int) (0 : Nat) ([] : List ItemT))
    none)
   (x0 vs16 (decide (vs16 < vs15)) vr832))
theorem f25L1_b {R : Type} (n : Nat) (k' : Ex → St → Option R) (vs14 : List EventT) (vs15 : Int) (vs16 : Int) (vr832 : List ItemT) : ev f25e f25k n (cAt [1,1,0,1,0,0] f25c) (f25S2 vs14 vs15 vs16 vr832) k' =
    (cond (decide (vs16 < vs15))
  (cond ((decide ((0 : Int) ≤ vs16)) && (decide (vs16 < (vs14.length : Int))))
   (f25L0 n (fun (xvs9 : Bool) (xvs26 : Int) (xvs27 : Bool) (xvr832m : Nat) (xvr1280 : List ItemT) =>
    (cond (!xvs9)
     (cond (sm_item (⟨(⟨(OrderT.name (ItemT.order (EventT.item (atI (t := .event) vs14 (Int.toNat vs16))))), (OrderT.target (ItemT.order (EventT.item (atI (t := .event) vs14 (Int.toNat vs16))))), (OrderT.low (ItemT.order (EventT.item (atI (t := .event) vs14 (Int.toNat vs16))))), (OrderT.high (ItemT.order (EventT.item (atI (t := .event) vs14 (Int.toNat vs16))))), (OrderT.metrics (ItemT.order (EventT.item (atI (t := .event) vs14 (Int.toNat vs16))))), (⟨(PaceT.up (OrderT.pace (ItemT.order (EventT.item (atI (t := .event) vs14 (Int.toNat vs16)))))), (PaceT.down (OrderT.pace (ItemT.order (EventT.item (atI (t := .event) vs14 (Int.toNat vs16)))))), (PaceT.upSpan (OrderT.pace (ItemT.order (EventT.item (atI (t := .event) vs14 (Int.toNat vs16)))))), (PaceT.downSpan (OrderT.pace (ItemT.order (EventT.item (atI (t := .event) vs14 (Int.toNat vs16))))))⟩ : PaceT), (OrderT.notes (ItemT.order (EventT.item (atI (t := .event) vs14 (Int.toNat vs16)))))⟩ : OrderT), (ItemT.ver (EventT.item (atI (t := .event) vs14 (Int.toNat vs16))))⟩ : ItemT))
      (cond (Nat.ble (xvr1280.length + 1) LIM)
       (k' .normal (f25S2 vs14 vs15 (IntKind.wrap .i64 (vs16 + (1 : Int))) (xvr1280 ++ ([(⟨(⟨(OrderT.name (ItemT.order (EventT.item (atI (t := .event) vs14 (Int.toNat vs16))))), (OrderT.target (ItemT.order (EventT.item (atI (t := .event) vs14 (Int.toNat vs16))))), (OrderT.low (ItemT.order (EventT.item (atI (t := .event) vs14 (Int.toNat vs16))))), (OrderT.high (ItemT.order (EventT.item (atI (t := .event) vs14 (Int.toNat vs16))))), (OrderT.metrics (ItemT.order (EventT.item (atI (t := .event) vs14 (Int.toNat vs16))))), (⟨(PaceT.up (OrderT.pace (ItemT.order (EventT.item (atI (t := .event) vs14 (Int.toNat vs16)))))), (PaceT.down (OrderT.pace (ItemT.order (EventT.item (atI (t := .event) vs14 (Int.toNat vs16)))))), (PaceT.upSpan (OrderT.pace (ItemT.order (EventT.item (atI (t := .event) vs14 (Int.toNat vs16)))))), (PaceT.downSpan (OrderT.pace (ItemT.order (EventT.item (atI (t := .event) vs14 (Int.toNat vs16))))))⟩ : PaceT), (OrderT.notes (ItemT.order (EventT.item (atI (t := .event) vs14 (Int.toNat vs16)))))⟩ : OrderT), (ItemT.ver (EventT.item (atI (t := .event) vs14 (Int.toNat vs16))))⟩ : ItemT)] : List ItemT))))
       none)
      none)
     (k' .normal (f25S2 vs14 vs15 (IntKind.wrap .i64 (vs16 + (1 : Int))) xvr1280)))) vs14 vs15 vs16 (vr832.length : Int) (EventT.seq (atI (t := .event) vs14 (Int.toNat vs16))) (EventT.kind (atI (t := .event) vs14 (Int.toNat vs16))) (OrderT.name (ItemT.order (EventT.item (atI (t := .event) vs14 (Int.toNat vs16))))) (OrderT.target (ItemT.order (EventT.item (atI (t := .event) vs14 (Int.toNat vs16))))) (OrderT.low (ItemT.order (EventT.item (atI (t := .event) vs14 (Int.toNat vs16))))) (OrderT.high (ItemT.order (EventT.item (atI (t := .event) vs14 (Int.toNat vs16))))) (OrderT.metrics (ItemT.order (EventT.item (atI (t := .event) vs14 (Int.toNat vs16))))) (PaceT.up (OrderT.pace (ItemT.order (EventT.item (atI (t := .event) vs14 (Int.toNat vs16)))))) (PaceT.down (OrderT.pace (ItemT.order (EventT.item (atI (t := .event) vs14 (Int.toNat vs16)))))) (PaceT.upSpan (OrderT.pace (ItemT.order (EventT.item (atI (t := .event) vs14 (Int.toNat vs16)))))) (PaceT.downSpan (OrderT.pace (ItemT.order (EventT.item (atI (t := .event) vs14 (Int.toNat vs16)))))) (OrderT.notes (ItemT.order (EventT.item (atI (t := .event) vs14 (Int.toNat vs16))))) (ItemT.ver (EventT.item (atI (t := .event) vs14 (Int.toNat vs16)))) vr832 n ((EventT.kind (atI (t := .event) vs14 (Int.toNat vs16))) != (1 : Int)) (0 : Int) (0 : Nat) ([] : List ItemT))
   none)
  (k' (.exit 0) (f25S3 vs14 vs15 vs16 (decide (vs16 < vs15)) vr832))) := by
  refine Eq.trans (b := (cond (decide (vs16 < vs15))
  (cond ((decide ((0 : Int) ≤ vs16)) && (decide (vs16 < (vs14.length : Int))))
   (iter (fun st k => ev f25e f25k n (cAt [1,1,0,1,0,0,1,1,0,0,1,1,0,1,0,0] f25c) st k) n (f25S0 ((EventT.kind (atI (t := .event) vs14 (Int.toNat vs16))) != (1 : Int)) vs14 vs15 vs16 (vr832.length : Int) (0 : Int) (EventT.seq (atI (t := .event) vs14 (Int.toNat vs16))) (EventT.kind (atI (t := .event) vs14 (Int.toNat vs16))) (OrderT.name (ItemT.order (EventT.item (atI (t := .event) vs14 (Int.toNat vs16))))) (OrderT.target (ItemT.order (EventT.item (atI (t := .event) vs14 (Int.toNat vs16))))) (OrderT.low (ItemT.order (EventT.item (atI (t := .event) vs14 (Int.toNat vs16))))) (OrderT.high (ItemT.order (EventT.item (atI (t := .event) vs14 (Int.toNat vs16))))) (OrderT.metrics (ItemT.order (EventT.item (atI (t := .event) vs14 (Int.toNat vs16))))) (PaceT.up (OrderT.pace (ItemT.order (EventT.item (atI (t := .event) vs14 (Int.toNat vs16)))))) (PaceT.down (OrderT.pace (ItemT.order (EventT.item (atI (t := .event) vs14 (Int.toNat vs16)))))) (PaceT.upSpan (OrderT.pace (ItemT.order (EventT.item (atI (t := .event) vs14 (Int.toNat vs16)))))) (PaceT.downSpan (OrderT.pace (ItemT.order (EventT.item (atI (t := .event) vs14 (Int.toNat vs16)))))) (OrderT.notes (ItemT.order (EventT.item (atI (t := .event) vs14 (Int.toNat vs16))))) (ItemT.ver (EventT.item (atI (t := .event) vs14 (Int.toNat vs16)))) (0 : Nat) vr832 ([] : List ItemT)) (f25K0 n k'))
   none)
  (k' (.exit 0) (f25S3 vs14 vs15 vs16 (decide (vs16 < vs15)) vr832)))) (by kernel_rfl) ?_
  simp only [f25L0_eq, f25K0_x0]
theorem f25L1_eq {R : Type} (n : Nat) (k' : Ex → St → Option R) (vs14 : List EventT) (vs15 : Int) : ∀ (m : Nat) (vs16 : Int) (vr832 : List ItemT), iter (fun st k => ev f25e f25k n (cAt [1,1,0,1,0,0] f25c) st k) m (f25S2 vs14 vs15 vs16 vr832) k' = f25L1 n (fun (xvs16 : Int) (xvs17 : Bool) (xvr832 : List ItemT) => k' (.exit 0) (f25S3 vs14 vs15 xvs16 xvs17 xvr832)) vs14 vs15 m vs16 vr832 := by
  intro m; induction m with
  | zero => intros; rfl
  | succ m ih =>
    intro vs16 vr832
    simp only [iter]
    rw [f25L1_b]
    simp only [ih, f25L1]
noncomputable def f25K1 {R : Type} (n : Nat) (k' : Ex → St → Option R) : Ex → St → Option R := (blockK 0 (seqK f25e f25k n (cAt [1,1,1] f25c) k'))
theorem f25K1_x0 {R : Type} (n : Nat) (k : List Dt → Option R) (a0 : List ItemT) (a1 : List EventT) (vs14 : List EventT) (vs15 : Int) (xvs16 : Int) (xvs17 : Bool) (xvr832 : List ItemT) : f25K1 n (exitK f25e [.ro, .ro] [false] true [.tmp 4] [35] [.d (.sl .item) a0, .d (.sl .event) a1] k) (.exit 0) (f25S3 vs14 vs15 xvs16 xvs17 xvr832) =
    (k [.d (.sl .item) xvr832]) := by kernel_rfl
theorem f25_run {R : Type} (n : Nat) (k : List Dt → Option R) (a0 : List ItemT) (a1 : List EventT) : evFn f25e f25k n f25c [.ro, .ro] [false] true [.tmp 4] [35] [.d (.sl .item) a0, .d (.sl .event) a1] k =
    (cond (smL sm_item a0)
  (f25L1 n (fun (xvs16 : Int) (xvs17 : Bool) (xvr832 : List ItemT) =>
   (k [.d (.sl .item) xvr832])) a1 (a1.length : Int) n (0 : Int) a0)
  none) := by
  refine Eq.trans (b := (cond (smL sm_item a0)
  (iter (fun st k => ev f25e f25k n (cAt [1,1,0,1,0,0] f25c) st k) n (f25S2 a1 (a1.length : Int) (0 : Int) a0) (f25K1 n (exitK f25e [.ro, .ro] [false] true [.tmp 4] [35] [.d (.sl .item) a0, .d (.sl .event) a1] k)))
  none)) (by kernel_rfl) ?_
  simp only [f25L1_eq, f25K1_x0]
theorem f25_spec (a0 : List ItemT) (a1 : List EventT) (hg : gReplay a0 a1 = true) : ∃ keep rounds, ∀ {R : Type} (k : List Dt → Option R), evFn f25e keep rounds f25c [.ro, .ro] [false] true [.tmp 4] [35] [.d (.sl .item) a0, .d (.sl .event) a1] k = k [.d (.sl .item) (replayW a0 a1)] := by
  simp only [gReplay, Bool.and_eq_true] at hg
  obtain ⟨hi, he, hl⟩ := hg
  have hl := bleN hl
  have hev := smL_all he
  refine ⟨f25k, 1048578, fun {R} k => ?_⟩
  rw [f25_run, hi, cond_true]
  have inner : ∀ (vs : Int) (sq kd : Int) (x : ItemT), sm_item x = true → ∀ (out : List ItemT), out.length ≤ 1048576 → ∀ (X : Bool → Int → Bool → Nat → List ItemT → Option R) (Y : Bool × List ItemT → Option R), (∀ p i b cu l, repL (p, l) ≤ out.length + 1 → X p i b cu l = Y (p, l)) → ∀ (d k m : Nat) (p : Bool) (cu : Nat) (acc : List ItemT),
      k + d = out.length → d < m → cu ≤ k → repL (p, acc) ≤ k + 1 → f25L0 1048578 X a1 (a1.length : Int) vs (out.length : Int) sq kd x.order.name x.order.target x.order.low x.order.high x.order.metrics x.order.pace.up x.order.pace.down x.order.pace.upSpan x.order.pace.downSpan x.order.notes x.ver out m p (k : Int) cu acc = Y ((out.drop k).foldl (repStep x) (p, acc)) := by
    intro vs sq kd x hx out hol X Y hX d
    induction d with
    | zero =>
      intro k m p cu acc hk hm hcu ha
      obtain ⟨m, rfl⟩ : ∃ m', m = m' + 1 := ⟨m - 1, by omega⟩
      simp only [f25L0, decide_eq_false (show ¬ ((k : Int) < (out.length : Int)) by omega), cond_false]
      rw [List.drop_eq_nil_of_le (by omega)]
      exact hX _ _ _ _ _ (by omega)
    | succ d ih =>
      intro k m p cu acc hk hm hcu ha
      obtain ⟨m, rfl⟩ : ∃ m', m = m' + 1 := ⟨m - 1, by omega⟩
      have hkl : k < out.length := by omega
      obtain ⟨h1, h0, hw, ht⟩ := idx hkl (by omega)
      have hat := atI_lt (t := .item) hkl
      have hdrop : out.drop k = atI (t := .item) out k :: out.drop (k + 1) := by
        rw [List.drop_eq_getElem_cons hkl]
        rw [List.getElem?_eq_getElem hkl] at hat
        rw [Option.some.inj hat]
      rw [hdrop, List.foldl_cons]
      have hal : acc.length ≤ k + 1 := Nat.le_trans (Nat.le_add_right _ _) ha
      have l1 := limN (n := acc.length + 1) (by omega)
      have l2 := limN (n := (acc ++ [x]).length + 1) (by simp only [List.length_append, List.length_cons, List.length_nil]; omega)
      have q1 : leC cu 0 k 4 = true := leC_0 hcu
      have q2 : leC k 5 k 9 = true := by rw [leC_same]; rfl
      cases hp : p <;> cases hlt : sLt (atI (t := .item) out k).order.name x.order.name <;> cases heq : sEq (atI (t := .item) out k).order.name x.order.name
      all_goals
        simp only [f25L0, h1, h0, hw, ht, hlt, heq, hx, l1, l2, q1, q2, eta_order2, eta_order, eta_item, Bool.and_self, Bool.not_true, Bool.not_false, cond_true, cond_false]
        refine (ih (k + 1) m _ _ _ (by omega) (by omega) (by omega) ?_).trans ?_
        · simp only [hp, repL, cond_true, cond_false, List.length_append, List.length_cons, List.length_nil] at ha ⊢; omega
        · simp only [repStep, hlt, heq, Bool.not_true, Bool.not_false, cond_true, cond_false]
  have outer : ∀ (X : Int → Bool → List ItemT → Option R), (∀ i b l, X i b l = k [.d (.sl .item) l]) → ∀ (d j m : Nat) (out : List ItemT), j + d = a1.length → d < m → out.length + d ≤ 1048576 →
      f25L1 1048578 X a1 (a1.length : Int) m (j : Int) out = k [.d (.sl .item) ((a1.drop j).foldl repOne out)] := by
    intro X hX d
    induction d with
    | zero =>
      intro j m out hj hm hl
      obtain ⟨m, rfl⟩ : ∃ m', m = m' + 1 := ⟨m - 1, by omega⟩
      simp only [f25L1, decide_eq_false (show ¬ ((j : Int) < (a1.length : Int)) by omega), cond_false, hX]
      rw [List.drop_eq_nil_of_le (by omega)]; rfl
    | succ d ih =>
      intro j m out hj hm hl
      obtain ⟨m, rfl⟩ : ∃ m', m = m' + 1 := ⟨m - 1, by omega⟩
      have hjl : j < a1.length := by omega
      obtain ⟨h1, h0, hw, ht⟩ := idx hjl (by omega)
      have hat := atI_lt (t := .event) hjl
      have he := List.all_eq_true.1 hev _ (List.mem_of_getElem? hat)
      have hx : sm_item (atI (t := .event) a1 j).item = true := by simp only [sm_event, Bool.and_eq_true] at he; exact he.2.2
      have hdrop : a1.drop j = atI (t := .event) a1 j :: a1.drop (j + 1) := by
        rw [List.drop_eq_getElem_cons hjl]
        rw [List.getElem?_eq_getElem hjl] at hat
        rw [Option.some.inj hat]
      have hlen := repFold_len (atI (t := .event) a1 j).item out ((atI (t := .event) a1 j).kind != (1 : Int), [])
      have hL : repL ((atI (t := .event) a1 j).kind != (1 : Int), []) ≤ 1 := by unfold repL; cases ((atI (t := .event) a1 j).kind != (1 : Int)) <;> simp
      rw [hdrop, List.foldl_cons]
      simp only [f25L1, h1, h0, hw, ht, Bool.and_self, cond_true]
      refine (inner _ _ _ _ hx out (by omega) _ (fun s => k [.d (.sl .item) ((a1.drop (j + 1)).foldl repOne (repEnd (atI (t := .event) a1 j).item s))]) ?_ out.length 0 1048578 _ 0 [] (by omega) (by omega) (by omega) hL).trans ?_
      · intro p i b cu l hpl
        have hE := repEnd_len (atI (t := .event) a1 j).item (p, l)
        have hb := limN (n := l.length + 1) (by have : l.length ≤ repL (p, l) := Nat.le_add_right _ _; omega)
        have := ih (j + 1) m (repEnd (atI (t := .event) a1 j).item (p, l)) (by omega) (by omega) (by omega)
        cases p
        · simp only [Bool.not_false, cond_true, eta_order2, eta_order, eta_item, hx, hb, hw, ht]; exact this
        · simp only [Bool.not_true, cond_false, hw]; exact this
      · rfl
  exact outer _ (fun _ _ _ => rfl) a1.length 0 1048578 a0 (by omega) (by omega) (by omega)
noncomputable def q25 : List Dt → Option (Bool × List Dt)
  | [.d (.sl .item) a0, .d (.sl .event) a1] => some ((gReplay a0 a1), [.d (.sl .item) (replayW a0 a1)])
  | _ => none
noncomputable def s25 : Gm.Spec := Gm.Spec.of [.ro, .ro] [false] true q25
theorem good25 : Gm.Good Try.prog (25, s25) := by
  have hl : ∀ x ∈ [(61, s61), (69, s69)], Gm.Good Try.prog x := List.forall_mem_cons.2 ⟨good61, List.forall_mem_cons.2 ⟨good69, List.forall_mem_nil _⟩⟩
  refine ⟨⟨spec_ok (tab_ok.env hl) (tab.natl hl) Try.func25 (by kernel_rfl : Try.f25.body = some f25c) [35] (by kernel_rfl) ?_, _, Try.func25, by kernel_rfl, of_decide_eq_true (by kernel_rfl)⟩, Gm.Spec.of_natl _ _ _ _⟩
  intro ds outs h
  unfold q25 at h
  split at h
  · simp only [Option.some.injEq, Prod.mk.injEq] at h; obtain ⟨hg, h⟩ := h; cases h; exact f25_spec _ _ hg
  · cases h
end Go.Proofs.Ytnbehmbjoanfoaa

namespace Go.Proofs.Ytnbehmbjoanfoaa
open Go Go.Gm
noncomputable def f6c : Code := (Try.f6.body).getD .skip
def f6k : Nat → Kp := kat [⟨[0], [], [], []⟩, ⟨[0, 22], [], [], []⟩, ⟨[2], [], [], []⟩, ⟨[0, 3, 4, 5], [], [], []⟩, ⟨[0, 3, 4, 5, 6], [], [], []⟩, ⟨[0, 3, 4, 5, 6, 7, 8], [], [], []⟩, ⟨[0, 3, 4, 5, 6, 7, 8, 9, 10], [], [], []⟩, ⟨[0, 3, 4, 5, 6, 7, 8, 9, 10, 11, 12], [], [], []⟩, ⟨[0, 3, 4, 5, 6, 7, 8, 9, 10, 11, 12, 13, 14], [], [], []⟩, ⟨[0, 3, 4, 5, 6, 7, 8, 9, 10, 11, 12, 13, 14, 15, 16], [], [], []⟩, ⟨[3, 4, 5, 6, 7, 8, 9, 10, 11, 12, 13, 14, 15, 16, 17], [], [], []⟩, ⟨[3, 6, 7, 8, 9, 10, 106], [], [], []⟩, ⟨[2], [], [], []⟩, ⟨[7, 8, 9, 10, 113], [], [], []⟩, ⟨[2], [], [], []⟩, ⟨[7, 8, 9, 10, 18], [], [], []⟩, ⟨[7, 8, 9, 18, 118], [], [], []⟩, ⟨[2], [], [], []⟩, ⟨[9, 18, 19, 20], [], [], []⟩, ⟨[2], [], [], []⟩]
noncomputable def f6e : Env := tab.env [(11, s11), (13, s13), (15, s15), (21, s21), (23, s23), (24, s24), (25, s25), (28, s28), (36, s36), (37, s37), (38, s38), (39, s39), (40, s40), (41, s41), (42, s42), (43, s43), (44, s44), (45, s45), (46, s46)]
theorem f6_run {R : Type} (n : Nat) (k : List Dt → Option R) (a0 : List Int) : evFn f6e f6k n f6c [.kp] [false] true [.tmp 2] [4] [.d (.sl (.i .u8)) a0] k =
    (cond (bigC a0)
  (k [.d .bool true])
  (cond (gCode a0)
   (cond (gHistAdd ((dHistAdd a0).1) ((dHistAdd a0).2.1) ((dHistAdd a0).2.2))
    (cond (gCode a0)
     (cond (gHistN ((dSince a0).1) ((dSince a0).2))
      (cond (gHistN ((dSince a0).1) ((dSince a0).2))
       (cond (gCode a0)
        (cond (gCode a0)
         (cond (gCode a0)
          (cond (gHistAdd ((dHistAdd a0).1) ((dHistAdd a0).2.1) ((dHistAdd a0).2.2))
           (cond ((gSame sm_hist) (histAdd ((dHistAdd a0).1) ((dHistAdd a0).2.1) ((dHistAdd a0).2.2)) (histAdd ((dHistAdd a0).1) ((dHistAdd a0).2.1) ((dHistAdd a0).2.2)))
            (cond (!((fun (_ _ : HistT) => true) (histAdd ((dHistAdd a0).1) ((dHistAdd a0).2.1) ((dHistAdd a0).2.2)) (histAdd ((dHistAdd a0).1) ((dHistAdd a0).2.1) ((dHistAdd a0).2.2))))
             (k [.d .bool false])
             (cond (!(((since ((dSince a0).1) ((dSince a0).2)).2) == ((since ((dSince a0).1) ((dSince a0).2)).2)))
              (k [.d .bool false])
              (cond ((gSame (smL sm_event)) ((since ((dSince a0).1) ((dSince a0).2)).1) ((since ((dSince a0).1) ((dSince a0).2)).1))
               (cond (!((fun (_ _ : List EventT) => true) ((since ((dSince a0).1) ((dSince a0).2)).1) ((since ((dSince a0).1) ((dSince a0).2)).1)))
                (k [.d .bool false])
                (cond (gHistN ((dCompact a0).1) ((dCompact a0).2))
                 (cond (gHistN ((dCompact a0).1) ((dCompact a0).2))
                  (cond ((gSame sm_hist) (compact ((dCompact a0).1) ((dCompact a0).2)) (compact ((dCompact a0).1) ((dCompact a0).2)))
                   (cond (!((fun (_ _ : HistT) => true) (compact ((dCompact a0).1) ((dCompact a0).2)) (compact ((dCompact a0).1) ((dCompact a0).2))))
                    (k [.d .bool false])
                    (cond (gReplay ((dReplay a0).1) ((dReplay a0).2))
                     (cond (gReplay ((dReplay a0).1) ((dReplay a0).2))
                      (cond ((gSame (smL sm_item)) (replayW ((dReplay a0).1) ((dReplay a0).2)) (replayW ((dReplay a0).1) ((dReplay a0).2)))
                       (cond (!((fun (_ _ : List ItemT) => true) (replayW ((dReplay a0).1) ((dReplay a0).2)) (replayW ((dReplay a0).1) ((dReplay a0).2))))
                        (k [.d .bool false])
                        (cond (sm_hist (dHistOk a0))
                         (cond (sm_hist (dHistOk a0))
                          (cond (!((histOk (dHistOk a0)) == (histOk (dHistOk a0))))
                           (k [.d .bool false])
                           (cond (sm_hist ((dHistAdd a0).1))
                            (cond (histOk ((dHistAdd a0).1))
                             (cond (sm_hist (histAdd ((dHistAdd a0).1) ((dHistAdd a0).2.1) ((dHistAdd a0).2.2)))
                              (cond (!(histOk (histAdd ((dHistAdd a0).1) ((dHistAdd a0).2.1) ((dHistAdd a0).2.2))))
                               (k [.d .bool false])
                               (cond (gHistN ((dSince a0).1) ((dSince a0).2))
                                (cond (!((since ((dSince a0).1) ((dSince a0).2)).2))
                                 (cond ((gSame sm_hist) (compact ((dSince a0).1) ((dSince a0).2)) ((dSince a0).1))
                                  (k [.d .bool ((fun (_ _ : HistT) => true) (compact ((dSince a0).1) ((dSince a0).2)) ((dSince a0).1))])
                                  none)
                                 (cond (gHistN (compact ((dSince a0).1) ((dSince a0).2)) ((dSince a0).2))
                                  (cond ((since (compact ((dSince a0).1) ((dSince a0).2)) ((dSince a0).2)).2)
                                   (cond ((gSame (smL sm_event)) ((since (compact ((dSince a0).1) ((dSince a0).2)) ((dSince a0).2)).1) ((since ((dSince a0).1) ((dSince a0).2)).1))
                                    (cond ((fun (_ _ : List EventT) => true) ((since (compact ((dSince a0).1) ((dSince a0).2)) ((dSince a0).2)).1) ((since ((dSince a0).1) ((dSince a0).2)).1))
                                     (cond (sm_hist (compact ((dSince a0).1) ((dSince a0).2)))
                                      (k [.d .bool (histOk (compact ((dSince a0).1) ((dSince a0).2)))])
                                      none)
                                     (k [.d .bool false]))
                                    none)
                                   (k [.d .bool false]))
                                  none))
                                none))
                              none)
                             (cond (gHistN ((dSince a0).1) ((dSince a0).2))
                              (cond (!((since ((dSince a0).1) ((dSince a0).2)).2))
                               (cond ((gSame sm_hist) (compact ((dSince a0).1) ((dSince a0).2)) ((dSince a0).1))
                                (k [.d .bool ((fun (_ _ : HistT) => true) (compact ((dSince a0).1) ((dSince a0).2)) ((dSince a0).1))])
                                none)
                               (cond (gHistN (compact ((dSince a0).1) ((dSince a0).2)) ((dSince a0).2))
                                (cond ((since (compact ((dSince a0).1) ((dSince a0).2)) ((dSince a0).2)).2)
                                 (cond ((gSame (smL sm_event)) ((since (compact ((dSince a0).1) ((dSince a0).2)) ((dSince a0).2)).1) ((since ((dSince a0).1) ((dSince a0).2)).1))
                                  (cond ((fun (_ _ : List EventT) => true) ((since (compact ((dSince a0).1) ((dSince a0).2)) ((dSince a0).2)).1) ((since ((dSince a0).1) ((dSince a0).2)).1))
                                   (cond (sm_hist (compact ((dSince a0).1) ((dSince a0).2)))
                                    (k [.d .bool (histOk (compact ((dSince a0).1) ((dSince a0).2)))])
                                    none)
                                   (k [.d .bool false]))
                                  none)
                                 (k [.d .bool false]))
                                none))
                              none))
                            none))
                          none)
                         none))
                       none)
                      none)
                     none))
                   none)
                  none)
                 none))
               none)))
            none)
           none)
          none)
         none)
        none)
       none)
      none)
     none)
    none)
   none)) := by kernel_rfl
theorem f6_spec (a0 : List Int) : ∃ keep rounds, ∀ {R : Type} (k : List Dt → Option R), evFn f6e keep rounds f6c [.kp] [false] true [.tmp 2] [4] [.d (.sl (.i .u8)) a0] k = k [.d .bool ((fun (_ : List Int) => true) a0)] := by
  refine ⟨f6k, 0, fun {R} k => ?_⟩
  rw [f6_run]
  show _ = k [.d .bool true]
  cases hbig : bigC a0
  rotate_left
  · simp only [cond_true]
  have hc := gCode_of hbig
  have d1 := dHistAdd_ok a0 hc
  have d2 := dSince_ok a0 hc
  have d3 := dCompact_ok a0 hc
  have d4 := dReplay_ok a0 hc
  have d5 := dHistOk_ok a0 hc
  revert d1 d2 d3 d4 d5
  generalize dHistAdd a0 = p1, dSince a0 = p2, dCompact a0 = p3, dReplay a0 = p4, dHistOk a0 = o
  obtain ⟨h, kd, x⟩ := p1
  obtain ⟨g, n⟩ := p2
  obtain ⟨c, q⟩ := p3
  obtain ⟨its, evs⟩ := p4
  intro d1 d2 d3 d4 d5
  obtain ⟨a1, a2, a3⟩ := d1
  obtain ⟨b1, b2⟩ := d2
  obtain ⟨c1, c2⟩ := d3
  obtain ⟨f1, f2, f3, f4⟩ := d4
  simp only at a1 a2 a3 b1 b2 c1 c2 f1 f2 f3 f4
  have sa := histAdd_sm a1 a2 a3
  have k1 : gHistAdd h kd x = true := by simp only [gHistAdd, a1, a2, a3, Bool.and_self]
  have k2 : gHistN g n = true := by simp only [gHistN, b1, b2, Bool.and_self]
  have k3 : gHistN c q = true := by simp only [gHistN, c1, c2, Bool.and_self]
  have hln : Nat.ble (its.length + evs.length) 1048576 = true := Nat.ble_eq_true_of_le (by omega)
  have k4 : gReplay its evs = true := by simp only [gReplay, f1, f3, hln, Bool.and_self]
  have k5 : gHistN (compact g n) n = true := by simp only [gHistN, compact_sm b1 b2, b2, Bool.and_self]
  have m1 : gSame sm_hist (histAdd h kd x) (histAdd h kd x) = true := gSame_self sa
  have m2 : gSame (smL sm_event) (since g n).1 (since g n).1 = true := gSame_self (since_sm b1)
  have m3 : gSame sm_hist (compact c q) (compact c q) = true := gSame_self (compact_sm c1 c2)
  have m4 : gSame (smL sm_item) (replayW its evs) (replayW its evs) = true := gSame_self (smL_replay f1 f3 hln)
  have sc := compact_sm b1 b2
  have tail : cond (gHistN g n) (cond (!((since g n).2)) (cond (gSame sm_hist (compact g n) g) (k [.d .bool true]) none)
      (cond (gHistN (compact g n) n) (cond ((since (compact g n) n).2) (cond (gSame (smL sm_event) (since (compact g n) n).1 (since g n).1) (cond (sm_hist (compact g n)) (k [.d .bool (histOk (compact g n))]) none) none) (k [.d .bool false])) none)) none = k [.d .bool true] := by
    cases hs : (since g n).2
    · have e := compact_no hs
      have : gSame sm_hist (compact g n) g = true := by rw [e]; exact gSame_self b1
      simp only [k2, this, Bool.not_false, cond_true]
    · obtain ⟨t1, t2⟩ := compact_ok hs
      simp only [k2, k5, t2, m2, sc, t1, Bool.not_true, cond_true, cond_false]
  cases ho : histOk h
  · simp only [hc, k1, k2, k3, k4, m1, m2, m3, m4, d5, a1, ho, beq_self_eq_true, Bool.not_true, cond_true, cond_false]
    simp only [k2, cond_true] at tail
    exact tail
  · simp only [hc, k1, k2, k3, k4, m1, m2, m3, m4, d5, a1, sa, ho, histOk_add ho, beq_self_eq_true, Bool.not_true, cond_true, cond_false]
    simp only [k2, cond_true] at tail
    exact tail
noncomputable def q6 : List Dt → Option (Bool × List Dt)
  | [.d (.sl (.i .u8)) a0] => some (true, [.d .bool ((fun (_ : List Int) => true) a0)])
  | _ => none
noncomputable def s6 : Gm.Spec := Gm.Spec.of [.kp] [false] true q6
theorem good6 : Gm.Good Try.prog (6, s6) := by
  have hl : ∀ x ∈ [(11, s11), (13, s13), (15, s15), (21, s21), (23, s23), (24, s24), (25, s25), (28, s28), (36, s36), (37, s37), (38, s38), (39, s39), (40, s40), (41, s41), (42, s42), (43, s43), (44, s44), (45, s45), (46, s46)], Gm.Good Try.prog x := List.forall_mem_cons.2 ⟨good11, List.forall_mem_cons.2 ⟨good13, List.forall_mem_cons.2 ⟨good15, List.forall_mem_cons.2 ⟨good21, List.forall_mem_cons.2 ⟨good23, List.forall_mem_cons.2 ⟨good24, List.forall_mem_cons.2 ⟨good25, List.forall_mem_cons.2 ⟨good28, List.forall_mem_cons.2 ⟨good36, List.forall_mem_cons.2 ⟨good37, List.forall_mem_cons.2 ⟨good38, List.forall_mem_cons.2 ⟨good39, List.forall_mem_cons.2 ⟨good40, List.forall_mem_cons.2 ⟨good41, List.forall_mem_cons.2 ⟨good42, List.forall_mem_cons.2 ⟨good43, List.forall_mem_cons.2 ⟨good44, List.forall_mem_cons.2 ⟨good45, List.forall_mem_cons.2 ⟨good46, List.forall_mem_nil _⟩⟩⟩⟩⟩⟩⟩⟩⟩⟩⟩⟩⟩⟩⟩⟩⟩⟩⟩
  refine ⟨⟨spec_ok (tab_ok.env hl) (tab.natl hl) Try.func6 (by kernel_rfl : Try.f6.body = some f6c) [4] (by kernel_rfl) ?_, _, Try.func6, by kernel_rfl, of_decide_eq_true (by kernel_rfl)⟩, Gm.Spec.of_natl _ _ _ _⟩
  intro ds outs h
  unfold q6 at h
  split at h
  · cases h; exact f6_spec _
  · cases h
end Go.Proofs.Ytnbehmbjoanfoaa

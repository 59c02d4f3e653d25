/- What the functions compute, part 3. No conditions. -/
import Derived.Test.YtinbejnakemfjaaFnPutThereFn2
namespace Go.Proofs.Ytinbejnakemfjaa
open Go Go.Gm
noncomputable def f29c : Code := (Try.f29.body).getD .skip
def f29k : Nat → Kp := kat [⟨[0, 2, 4], [], [], []⟩, ⟨[2, 4, 5], [], [], []⟩, ⟨[2, 4, 5, 6], [], [], []⟩, ⟨[2, 4, 5, 6, 7], [], [], []⟩, ⟨[2, 3, 4], [], [], []⟩]
noncomputable def f29e : Env := tab.env [(60, s60), (61, s61), (62, s62), (63, s63)]
theorem f29_run {R : Type} (n : Nat) (k : List Dt → Option R) (a0 : List Int) : evFn f29e f29k n f29c [.kp] [false, false, false] true [.cell 2 31, .tmp 3, .cell 4 31] [31, 22, 31] [.d (.sl (.i .u8)) a0] k =
 (cond (gCode a0)
 (cond (gCur (curNew a0))
 (cond ((fun (c : CurT) (t : NodeT) => gCur c && okD 3 t) ((tDraw (curNew a0)).2) (eN ((tDraw (curNew a0)).1)))
 (cond (gDT ((tWay ((tDraw (curNew a0)).2) (eN ((tDraw (curNew a0)).1))).2) (1 : Int))
 (k [.d .node (eN ((tDraw (curNew a0)).1)), .d (.sl .str) ((tWay ((tDraw (curNew a0)).2) (eN ((tDraw (curNew a0)).1))).1), .d .node (eN ((dT ((tWay ((tDraw (curNew a0)).2) (eN ((tDraw (curNew a0)).1))).2) (1 : Int)).1))])
 none)
 none)
 none)
 none) := by kernel_rfl
def f29_P (a0 : List Int) (o : NodeT × List BA × NodeT) : Prop := (fun _ o => okD 3 o.1 = true ∧ gWay o.2.1 = true ∧ GT 1 o.2.2) a0 o ∧ ∃ n : Nat, ∀ {R : Type} (k : List Dt → Option R), evFn f29e f29k n f29c [.kp] [false, false, false] true [.cell 2 31, .tmp 3, .cell 4 31] [31, 22, 31] [.d (.sl (.i .u8)) a0] k = k [.d .node o.1, .d (.sl .str) o.2.1, .d .node o.2.2]
theorem f29_ex (a0 : List Int) (hg : gCode a0 = true) : ∃ o : NodeT × List BA × NodeT, (fun _ o => okD 3 o.1 = true ∧ gWay o.2.1 = true ∧ GT 1 o.2.2) a0 o ∧ ∃ n : Nat, ∀ {R : Type} (k : List Dt → Option R), evFn f29e f29k n f29c [.kp] [false, false, false] true [.cell 2 31, .tmp 3, .cell 4 31] [31, 22, 31] [.d (.sl (.i .u8)) a0] k = k [.d .node o.1, .d (.sl .str) o.2.1, .d .node o.2.2] := by
 have g0 := curNew_ok a0 hg
 obtain ⟨t3, g1⟩ := tDraw_ok _ g0
 have hok : (gCur (tDraw (curNew a0)).2 && okD 3 (tDraw (curNew a0)).1) = true := by rw [g1, t3]; rfl
 obtain ⟨hw, g2⟩ := tWay_ok _ _ hok
 have d2 := gDT_of (d := 1) g2 rfl
 obtain ⟨t2, _⟩ := dT_ok d2
 refine ⟨(?az0, ?bz0, ?c), ?gz0, 0, ?rz0⟩
 case rz0 =>
  intro R k
  rw [f29_run]
  simp only [eN_eq, hg, g0, hok, d2, cond_true]
  exact rfl
 case gz0 => exact ⟨t3, hw, t2⟩
theorem f29_ne (a0 : List Int) : Nonempty {o : NodeT × List BA × NodeT // gCode a0 = true → f29_P a0 o} := by
 by_cases hg : gCode a0 = true
 ·obtain ⟨o, ho⟩ := f29_ex a0 hg
  exact ⟨⟨o, fun _ => ho⟩⟩
 ·exact ⟨⟨((zero .node), [], (zero .node)), fun h => absurd h hg⟩⟩
noncomputable def dPut (a0 : List Int) : NodeT × List BA × NodeT := (Classical.choice (f29_ne a0)).val
theorem f29_sp (a0 : List Int) (hg : gCode a0 = true) : f29_P a0 (dPut a0) := (Classical.choice (f29_ne a0)).property hg
theorem dPut_ok (a0 : List Int) (hg : gCode a0 = true) : (fun _ o => okD 3 o.1 = true ∧ gWay o.2.1 = true ∧ GT 1 o.2.2) a0 (dPut a0) := (f29_sp a0 hg).1
theorem f29_spec (a0 : List Int) (hg : gCode a0 = true) : ∃ keep rounds, ∀ {R : Type} (k : List Dt → Option R), evFn f29e keep rounds f29c [.kp] [false, false, false] true [.cell 2 31, .tmp 3, .cell 4 31] [31, 22, 31] [.d (.sl (.i .u8)) a0] k = k [.d .node ((dPut a0).1), .d (.sl .str) ((dPut a0).2.1), .d .node ((dPut a0).2.2)] := by
 obtain ⟨n, hn⟩ := (f29_sp a0 hg).2
 exact ⟨f29k, n, hn⟩
noncomputable def q29 : List Dt → Option (Bool × List Dt)
 | [.d (.sl (.i .u8)) a0] => some ((gCode a0), [.d .node ((dPut a0).1), .d (.sl .str) ((dPut a0).2.1), .d .node ((dPut a0).2.2)])
 | _ => none
noncomputable def s29 : Gm.Spec := Gm.Spec.of [.kp] [false, false, false] true q29
theorem good29 : Gm.Good Try.prog (29, s29) := by
 have hl : ∀ x ∈ [(60, s60), (61, s61), (62, s62), (63, s63)], Gm.Good Try.prog x := fcJ.2 ⟨good60, fcJ.2 ⟨good61, fcJ.2 ⟨good62, fcJ.2 ⟨good63, fcN⟩⟩⟩⟩
 refine ⟨⟨spec_ok (tab_ok.env hl) (tab.natl hl) Try.func29 (by kernel_rfl : Try.f29.body = some f29c) [31, 22, 31] (by kernel_rfl) ?_, _, Try.func29, by kernel_rfl, of_decide_eq_true (by kernel_rfl)⟩, Gm.Spec.of_natl _ _ _ _⟩
 intro ds outs h
 unfold q29 at h
 split at h
 ·simp only [Option.some.injEq, Prod.mk.injEq] at h; obtain ⟨hg, h⟩ := h; cases h; exact f29_spec _ hg
 ·cases h
noncomputable def f30c : Code := (Try.f30.body).getD .skip
def f30k : Nat → Kp := kat [⟨[0, 2], [], [], []⟩, ⟨[2, 4], [], [], []⟩, ⟨[2, 4, 5], [], [], []⟩, ⟨[2, 3], [], [], []⟩]
noncomputable def f30e : Env := tab.env [(60, s60), (61, s61), (62, s62)]
theorem f30_run {R : Type} (n : Nat) (k : List Dt → Option R) (a0 : List Int) : evFn f30e f30k n f30c [.kp] [false, false] true [.cell 2 31, .tmp 3] [31, 22] [.d (.sl (.i .u8)) a0] k =
 (cond (gCode a0)
 (cond (gCur (curNew a0))
 (cond ((fun (c : CurT) (t : NodeT) => gCur c && okD 3 t) ((tDraw (curNew a0)).2) (eN ((tDraw (curNew a0)).1)))
 (k [.d .node (eN ((tDraw (curNew a0)).1)), .d (.sl .str) ((tWay ((tDraw (curNew a0)).2) (eN ((tDraw (curNew a0)).1))).1)])
 none)
 none)
 none) := by kernel_rfl
def f30_P (a0 : List Int) (o : NodeT × List BA) : Prop := (fun _ o => okD 3 o.1 = true ∧ gWay o.2 = true) a0 o ∧ ∃ n : Nat, ∀ {R : Type} (k : List Dt → Option R), evFn f30e f30k n f30c [.kp] [false, false] true [.cell 2 31, .tmp 3] [31, 22] [.d (.sl (.i .u8)) a0] k = k [.d .node o.1, .d (.sl .str) o.2]
theorem f30_ex (a0 : List Int) (hg : gCode a0 = true) : ∃ o : NodeT × List BA, (fun _ o => okD 3 o.1 = true ∧ gWay o.2 = true) a0 o ∧ ∃ n : Nat, ∀ {R : Type} (k : List Dt → Option R), evFn f30e f30k n f30c [.kp] [false, false] true [.cell 2 31, .tmp 3] [31, 22] [.d (.sl (.i .u8)) a0] k = k [.d .node o.1, .d (.sl .str) o.2] := by
 have g0 := curNew_ok a0 hg
 obtain ⟨t3, g1⟩ := tDraw_ok _ g0
 have hok : (gCur (tDraw (curNew a0)).2 && okD 3 (tDraw (curNew a0)).1) = true := by rw [g1, t3]; rfl
 obtain ⟨hw, g2⟩ := tWay_ok _ _ hok
 refine ⟨(?az0, ?bz0), ?gz0, 0, ?rz0⟩
 case rz0 =>
  intro R k
  rw [f30_run]
  simp only [eN_eq, hg, g0, hok, cond_true]
  exact rfl
 case gz0 => exact ⟨t3, hw⟩
theorem f30_ne (a0 : List Int) : Nonempty {o : NodeT × List BA // gCode a0 = true → f30_P a0 o} := by
 by_cases hg : gCode a0 = true
 ·obtain ⟨o, ho⟩ := f30_ex a0 hg
  exact ⟨⟨o, fun _ => ho⟩⟩
 ·exact ⟨⟨((zero .node), []), fun h => absurd h hg⟩⟩
noncomputable def dCut (a0 : List Int) : NodeT × List BA := (Classical.choice (f30_ne a0)).val
theorem f30_sp (a0 : List Int) (hg : gCode a0 = true) : f30_P a0 (dCut a0) := (Classical.choice (f30_ne a0)).property hg
theorem dCut_ok (a0 : List Int) (hg : gCode a0 = true) : (fun _ o => okD 3 o.1 = true ∧ gWay o.2 = true) a0 (dCut a0) := (f30_sp a0 hg).1
theorem f30_spec (a0 : List Int) (hg : gCode a0 = true) : ∃ keep rounds, ∀ {R : Type} (k : List Dt → Option R), evFn f30e keep rounds f30c [.kp] [false, false] true [.cell 2 31, .tmp 3] [31, 22] [.d (.sl (.i .u8)) a0] k = k [.d .node ((dCut a0).1), .d (.sl .str) ((dCut a0).2)] := by
 obtain ⟨n, hn⟩ := (f30_sp a0 hg).2
 exact ⟨f30k, n, hn⟩
noncomputable def q30 : List Dt → Option (Bool × List Dt)
 | [.d (.sl (.i .u8)) a0] => some ((gCode a0), [.d .node ((dCut a0).1), .d (.sl .str) ((dCut a0).2)])
 | _ => none
noncomputable def s30 : Gm.Spec := Gm.Spec.of [.kp] [false, false] true q30
theorem good30 : Gm.Good Try.prog (30, s30) := by
 have hl : ∀ x ∈ [(60, s60), (61, s61), (62, s62)], Gm.Good Try.prog x := fcJ.2 ⟨good60, fcJ.2 ⟨good61, fcJ.2 ⟨good62, fcN⟩⟩⟩
 refine ⟨⟨spec_ok (tab_ok.env hl) (tab.natl hl) Try.func30 (by kernel_rfl : Try.f30.body = some f30c) [31, 22] (by kernel_rfl) ?_, _, Try.func30, by kernel_rfl, of_decide_eq_true (by kernel_rfl)⟩, Gm.Spec.of_natl _ _ _ _⟩
 intro ds outs h
 unfold q30 at h
 split at h
 ·simp only [Option.some.injEq, Prod.mk.injEq] at h; obtain ⟨hg, h⟩ := h; cases h; exact f30_spec _ hg
 ·cases h
noncomputable def f31c : Code := (Try.f31.body).getD .skip
def f31k : Nat → Kp := kat [⟨[0, 2], [], [], []⟩, ⟨[2, 4], [], [], []⟩, ⟨[2, 4, 5], [], [], []⟩, ⟨[2, 3], [], [], []⟩]
noncomputable def f31e : Env := tab.env [(60, s60), (61, s61), (62, s62)]
theorem f31_run {R : Type} (n : Nat) (k : List Dt → Option R) (a0 : List Int) : evFn f31e f31k n f31c [.kp] [false, false] true [.cell 2 31, .tmp 3] [31, 22] [.d (.sl (.i .u8)) a0] k =
 (cond (gCode a0)
 (cond (gCur (curNew a0))
 (cond ((fun (c : CurT) (t : NodeT) => gCur c && okD 3 t) ((tDraw (curNew a0)).2) (eN ((tDraw (curNew a0)).1)))
 (k [.d .node (eN ((tDraw (curNew a0)).1)), .d (.sl .str) ((tWay ((tDraw (curNew a0)).2) (eN ((tDraw (curNew a0)).1))).1)])
 none)
 none)
 none) := by kernel_rfl
def f31_P (a0 : List Int) (o : NodeT × List BA) : Prop := (fun _ o => okD 3 o.1 = true ∧ gWay o.2 = true) a0 o ∧ ∃ n : Nat, ∀ {R : Type} (k : List Dt → Option R), evFn f31e f31k n f31c [.kp] [false, false] true [.cell 2 31, .tmp 3] [31, 22] [.d (.sl (.i .u8)) a0] k = k [.d .node o.1, .d (.sl .str) o.2]
theorem f31_ex (a0 : List Int) (hg : gCode a0 = true) : ∃ o : NodeT × List BA, (fun _ o => okD 3 o.1 = true ∧ gWay o.2 = true) a0 o ∧ ∃ n : Nat, ∀ {R : Type} (k : List Dt → Option R), evFn f31e f31k n f31c [.kp] [false, false] true [.cell 2 31, .tmp 3] [31, 22] [.d (.sl (.i .u8)) a0] k = k [.d .node o.1, .d (.sl .str) o.2] := by
 have g0 := curNew_ok a0 hg
 obtain ⟨t3, g1⟩ := tDraw_ok _ g0
 have hok : (gCur (tDraw (curNew a0)).2 && okD 3 (tDraw (curNew a0)).1) = true := by rw [g1, t3]; rfl
 obtain ⟨hw, g2⟩ := tWay_ok _ _ hok
 refine ⟨(?az0, ?bz0), ?gz0, 0, ?rz0⟩
 case rz0 =>
  intro R k
  rw [f31_run]
  simp only [eN_eq, hg, g0, hok, cond_true]
  exact rfl
 case gz0 => exact ⟨t3, hw⟩
theorem f31_ne (a0 : List Int) : Nonempty {o : NodeT × List BA // gCode a0 = true → f31_P a0 o} := by
 by_cases hg : gCode a0 = true
 ·obtain ⟨o, ho⟩ := f31_ex a0 hg
  exact ⟨⟨o, fun _ => ho⟩⟩
 ·exact ⟨⟨((zero .node), []), fun h => absurd h hg⟩⟩
noncomputable def dAt (a0 : List Int) : NodeT × List BA := (Classical.choice (f31_ne a0)).val
theorem f31_sp (a0 : List Int) (hg : gCode a0 = true) : f31_P a0 (dAt a0) := (Classical.choice (f31_ne a0)).property hg
theorem dAt_ok (a0 : List Int) (hg : gCode a0 = true) : (fun _ o => okD 3 o.1 = true ∧ gWay o.2 = true) a0 (dAt a0) := (f31_sp a0 hg).1
theorem f31_spec (a0 : List Int) (hg : gCode a0 = true) : ∃ keep rounds, ∀ {R : Type} (k : List Dt → Option R), evFn f31e keep rounds f31c [.kp] [false, false] true [.cell 2 31, .tmp 3] [31, 22] [.d (.sl (.i .u8)) a0] k = k [.d .node ((dAt a0).1), .d (.sl .str) ((dAt a0).2)] := by
 obtain ⟨n, hn⟩ := (f31_sp a0 hg).2
 exact ⟨f31k, n, hn⟩
noncomputable def q31 : List Dt → Option (Bool × List Dt)
 | [.d (.sl (.i .u8)) a0] => some ((gCode a0), [.d .node ((dAt a0).1), .d (.sl .str) ((dAt a0).2)])
 | _ => none
noncomputable def s31 : Gm.Spec := Gm.Spec.of [.kp] [false, false] true q31
theorem good31 : Gm.Good Try.prog (31, s31) := by
 have hl : ∀ x ∈ [(60, s60), (61, s61), (62, s62)], Gm.Good Try.prog x := fcJ.2 ⟨good60, fcJ.2 ⟨good61, fcJ.2 ⟨good62, fcN⟩⟩⟩
 refine ⟨⟨spec_ok (tab_ok.env hl) (tab.natl hl) Try.func31 (by kernel_rfl : Try.f31.body = some f31c) [31, 22] (by kernel_rfl) ?_, _, Try.func31, by kernel_rfl, of_decide_eq_true (by kernel_rfl)⟩, Gm.Spec.of_natl _ _ _ _⟩
 intro ds outs h
 unfold q31 at h
 split at h
 ·simp only [Option.some.injEq, Prod.mk.injEq] at h; obtain ⟨hg, h⟩ := h; cases h; exact f31_spec _ hg
 ·cases h
noncomputable def f32c : Code := (Try.f32.body).getD .skip
def f32k : Nat → Kp := kat [⟨[0, 2], [], [], []⟩, ⟨[2], [], [], []⟩]
noncomputable def f32e : Env := tab.env [(60, s60), (61, s61)]
theorem f32_run {R : Type} (n : Nat) (k : List Dt → Option R) (a0 : List Int) : evFn f32e f32k n f32c [.kp] [false] true [.cell 2 31] [31] [.d (.sl (.i .u8)) a0] k =
 (cond (gCode a0)
 (cond (gCur (curNew a0))
 (k [.d .node (eN ((tDraw (curNew a0)).1))])
 none)
 none) := by kernel_rfl
def f32_P (a0 : List Int) (o : NodeT) : Prop := (fun _ o => okD 3 o = true) a0 o ∧ ∃ n : Nat, ∀ {R : Type} (k : List Dt → Option R), evFn f32e f32k n f32c [.kp] [false] true [.cell 2 31] [31] [.d (.sl (.i .u8)) a0] k = k [.d .node o]
theorem f32_ex (a0 : List Int) (hg : gCode a0 = true) : ∃ o : NodeT, (fun _ o => okD 3 o = true) a0 o ∧ ∃ n : Nat, ∀ {R : Type} (k : List Dt → Option R), evFn f32e f32k n f32c [.kp] [false] true [.cell 2 31] [31] [.d (.sl (.i .u8)) a0] k = k [.d .node o] := by
 have g0 := curNew_ok a0 hg
 obtain ⟨t3, g1⟩ := tDraw_ok _ g0
 refine ⟨(?az0), ?gz0, 0, ?rz0⟩
 case rz0 =>
  intro R k
  rw [f32_run]
  simp only [eN_eq, hg, g0, cond_true]
  exact rfl
 case gz0 => exact t3
theorem f32_ne (a0 : List Int) : Nonempty {o : NodeT // gCode a0 = true → f32_P a0 o} := by
 by_cases hg : gCode a0 = true
 ·obtain ⟨o, ho⟩ := f32_ex a0 hg
  exact ⟨⟨o, fun _ => ho⟩⟩
 ·exact ⟨⟨((zero .node)), fun h => absurd h hg⟩⟩
noncomputable def dAll (a0 : List Int) : NodeT := (Classical.choice (f32_ne a0)).val
theorem f32_sp (a0 : List Int) (hg : gCode a0 = true) : f32_P a0 (dAll a0) := (Classical.choice (f32_ne a0)).property hg
theorem dAll_ok (a0 : List Int) (hg : gCode a0 = true) : (fun _ o => okD 3 o = true) a0 (dAll a0) := (f32_sp a0 hg).1
theorem f32_spec (a0 : List Int) (hg : gCode a0 = true) : ∃ keep rounds, ∀ {R : Type} (k : List Dt → Option R), evFn f32e keep rounds f32c [.kp] [false] true [.cell 2 31] [31] [.d (.sl (.i .u8)) a0] k = k [.d .node (dAll a0)] := by
 obtain ⟨n, hn⟩ := (f32_sp a0 hg).2
 exact ⟨f32k, n, hn⟩
noncomputable def q32 : List Dt → Option (Bool × List Dt)
 | [.d (.sl (.i .u8)) a0] => some ((gCode a0), [.d .node (dAll a0)])
 | _ => none
noncomputable def s32 : Gm.Spec := Gm.Spec.of [.kp] [false] true q32
theorem good32 : Gm.Good Try.prog (32, s32) := by
 have hl : ∀ x ∈ [(60, s60), (61, s61)], Gm.Good Try.prog x := fcJ.2 ⟨good60, fcJ.2 ⟨good61, fcN⟩⟩
 refine ⟨⟨spec_ok (tab_ok.env hl) (tab.natl hl) Try.func32 (by kernel_rfl : Try.f32.body = some f32c) [31] (by kernel_rfl) ?_, _, Try.func32, by kernel_rfl, of_decide_eq_true (by kernel_rfl)⟩, Gm.Spec.of_natl _ _ _ _⟩
 intro ds outs h
 unfold q32 at h
 split at h
 ·simp only [Option.some.injEq, Prod.mk.injEq] at h; obtain ⟨hg, h⟩ := h; cases h; exact f32_spec _ hg
 ·cases h
noncomputable def f28c : Code := (Try.f28.body).getD .skip
def f28k : Nat → Kp := kat [⟨[0], [], [], []⟩, ⟨[2], [], [], []⟩]
noncomputable def f28e : Env := tab.env []
theorem f28_run {R : Type} (n : Nat) (k : List Dt → Option R) (a0 : List Int) : evFn f28e f28k n f28c [.ro] [false] true [.tmp 2] [4] [.d (.sl (.i .u8)) a0] k =
 (k [.d .bool (decide ((a0.length : Int) > (1048576 : Int)))]) := by kernel_rfl
theorem f28_spec (a0 : List Int) : ∃ keep rounds, ∀ {R : Type} (k : List Dt → Option R), evFn f28e keep rounds f28c [.ro] [false] true [.tmp 2] [4] [.d (.sl (.i .u8)) a0] k = k [.d .bool (bigC a0)] := by
 exact ⟨f28k, 0, fun k => f28_run 0 k a0⟩
noncomputable def q28 : List Dt → Option (Bool × List Dt)
 | [.d (.sl (.i .u8)) a0] => some (true, [.d .bool (bigC a0)])
 | _ => none
noncomputable def s28 : Gm.Spec := Gm.Spec.of [.ro] [false] true q28
theorem good28 : Gm.Good Try.prog (28, s28) := by
 have hl : ∀ x ∈ ([] : List (Nat × Gm.Spec)), Gm.Good Try.prog x := fun _ h => by cases h
 refine ⟨⟨spec_ok (tab_ok.env hl) (tab.natl hl) Try.func28 (by kernel_rfl : Try.f28.body = some f28c) [4] (by kernel_rfl) ?_, _, Try.func28, by kernel_rfl, of_decide_eq_true (by kernel_rfl)⟩, Gm.Spec.of_natl _ _ _ _⟩
 intro ds outs h
 unfold q28 at h
 split at h
 ·cases h; exact f28_spec _
 ·cases h
noncomputable def f64S0 (y0 : List BA) (y1 : List BA) (y2 : Int) (y3 : Int) : St := ⟨[(0, .c (.one (.ro .str y0))), (1, .c (.one (.ro .str y1))), (12, .c (.one (.v (.int .i64 y2)))), (13, .c (.one (.v (.int .i64 y3))))], [], []⟩
noncomputable def f64S1 : St := ⟨[(4, .c (.one (.v (.bool false))))], [], []⟩
noncomputable def f64S2 (y0 : List BA) (y1 : List BA) (y2 : Int) (y3 : Int) (y4 : Bool) : St := ⟨[(0, .c (.one (.ro .str y0))), (1, .c (.one (.ro .str y1))), (12, .c (.one (.v (.int .i64 y2)))), (13, .c (.one (.v (.int .i64 y3)))), (14, .c (.one (.v (.bool y4))))], [], []⟩
noncomputable def f64c : Code := (Try.f64.body).getD .skip
def f64k : Nat → Kp := kat [⟨[0, 1], [], [], []⟩, ⟨[0, 1, 10], [], [], []⟩, ⟨[4], [], [], []⟩, ⟨[0, 1, 12, 13], [], [], []⟩, ⟨[0, 1, 12, 13, 14], [], [], []⟩, ⟨[0, 1, 5, 12, 13], [], [], []⟩, ⟨[0, 1, 12, 13, 24], [], [], []⟩, ⟨[4], [], [], []⟩, ⟨[0, 1, 12, 13], [], [], []⟩, ⟨[4], [], [], []⟩]
noncomputable def f64e : Env := tab.env []
noncomputable def f64L0 {R : Type} (n : Nat) (x0 : Option R) (x1 : Int → Bool → Option R) (wB : List BA) (wA : List BA) (wG : Int) : Nat → Int → Option R
  | 0, _ => none
  | m + 1, wD =>
    (cond (decide (wD < wG))
   (cond ((decide ((0 : Int) ≤ wD)) && (decide (wD < (wB.length : Int))))
    (cond ((decide ((0 : Int) ≤ wD)) && (decide (wD < (wA.length : Int))))
     (cond (!(sEq (atI (t := .str) wB (Int.toNat wD)) (atI (t := .str) wA (Int.toNat wD))))
      (x0)
      (f64L0 n x0 x1 wB wA wG m (IntKind.wrap .i64 (wD + (1 : Int)))))
     none)
    none)
   (x1 wD (decide (wD < wG))))
theorem f64L0_b {R : Type} (n : Nat) (k' : Ex → St → Option R) (wB : List BA) (wA : List BA) (wG : Int) (wD : Int) : ev f64e f64k n (cAt [1,1,0,1,0,0] f64c) (f64S0 wB wA wG wD) k' =
 (cond (decide (wD < wG))
 (cond ((decide ((0 : Int) ≤ wD)) && (decide (wD < (wB.length : Int))))
 (cond ((decide ((0 : Int) ≤ wD)) && (decide (wD < (wA.length : Int))))
 (cond (!(sEq (atI (t := .str) wB (Int.toNat wD)) (atI (t := .str) wA (Int.toNat wD))))
 (k' .ret f64S1)
 (k' .normal (f64S0 wB wA wG (IntKind.wrap .i64 (wD + (1 : Int))))))
 none)
 none)
 (k' (.exit 0) (f64S2 wB wA wG wD (decide (wD < wG))))) := by kernel_rfl
theorem f64L0_eq {R : Type} (n : Nat) (k' : Ex → St → Option R) (wB : List BA) (wA : List BA) (wG : Int) : ∀ (m : Nat) (wD : Int), iter (fun st k => ev f64e f64k n (cAt [1,1,0,1,0,0] f64c) st k) m (f64S0 wB wA wG wD) k' = f64L0 n (k' .ret f64S1) (fun (wJ : Int) (wI : Bool) => k' (.exit 0) (f64S2 wB wA wG wJ wI)) wB wA wG m wD := by
 intro m; induction m with
 | zero => intros; rfl
 | succ m ih =>
  intro wD
  simp only [iter]
  rw [f64L0_b]
  simp only [ih, f64L0]
noncomputable def f64K0 {R : Type} (n : Nat) (k' : Ex → St → Option R) : Ex → St → Option R := (blockK 0 (seqK f64e f64k n (cAt [1,1,1] f64c) k'))
theorem f64K0_x0 {R : Type} (n : Nat) (k : List Dt → Option R) (a0 : List BA) (a1 : List BA)  : f64K0 n (exitK f64e [.ro, .ro] [false] true [.tmp 4] [4] [.d (.sl .str) a0, .d (.sl .str) a1] k) .ret f64S1 =
 (k [.d .bool false]) := by kernel_rfl
theorem f64K0_x1 {R : Type} (n : Nat) (k : List Dt → Option R) (a0 : List BA) (a1 : List BA) (wB : List BA) (wA : List BA) (wG : Int) (wJ : Int) (wI : Bool) : f64K0 n (exitK f64e [.ro, .ro] [false] true [.tmp 4] [4] [.d (.sl .str) a0, .d (.sl .str) a1] k) (.exit 0) (f64S2 wB wA wG wJ wI) =
 (k [.d .bool true]) := by kernel_rfl
theorem f64_run {R : Type} (n : Nat) (k : List Dt → Option R) (a0 : List BA) (a1 : List BA) : evFn f64e f64k n f64c [.ro, .ro] [false] true [.tmp 4] [4] [.d (.sl .str) a0, .d (.sl .str) a1] k =
 (cond ((a0.length : Int) != (a1.length : Int))
 (k [.d .bool false])
 (f64L0 n (k [.d .bool false]) (fun (wJ : Int) (wI : Bool) =>
 (k [.d .bool true])) a0 a1 (a0.length : Int) n (0 : Int))) := by
 refine Eq.trans (b := (cond ((a0.length : Int) != (a1.length : Int))
 (k [.d .bool false])
 (iter (fun st k => ev f64e f64k n (cAt [1,1,0,1,0,0] f64c) st k) n (f64S0 a0 a1 (a0.length : Int) (0 : Int)) (f64K0 n (exitK f64e [.ro, .ro] [false] true [.tmp 4] [4] [.d (.sl .str) a0, .d (.sl .str) a1] k))))) (by kernel_rfl) ?_
 simp only [f64L0_eq, f64K0_x0, f64K0_x1]
theorem f64_spec (a0 : List BA) (a1 : List BA) (hg : gLenW a0 = true) : ∃ keep rounds, ∀ {R : Type} (k : List Dt → Option R), evFn f64e keep rounds f64c [.ro, .ro] [false] true [.tmp 4] [4] [.d (.sl .str) a0, .d (.sl .str) a1] k = k [.d .bool (eqD a0 a1)] := by
 have hl := gLenW_le hg
 refine ⟨f64k, a0.length + 1, fun k => ?_⟩
 rw [f64_run]
 by_cases hc : a0.length = a1.length
 ·have hc' : ((a0.length : Int) != (a1.length : Int)) = false := by simp [hc]
  simp only [hc', cond_false]
  refine Eq.trans (loop_idx (n := a0.length) (F := fun m i => f64L0 (a0.length + 1) _ _ a0 a1 (a0.length : Int) m i) (p := fun j => sEq (atI (t := .str) a0 j) (atI (t := .str) a1 j)) (good := k [.d .bool true]) (bad := k [.d .bool false])
   (fun m j hj => ?_) (fun m => by simp only [f64L0, idxE, cond_false]) a0.length 0 (a0.length + 1) (by omega) (by omega)) ?_
  ·obtain ⟨h1, h0, hw, ht⟩ := idx hj (by omega)
   obtain ⟨h2, _, _, _⟩ := idx (show j < a1.length by omega) (by omega)
   simp only [f64L0, h1, h0, h2, hw, ht, Bool.and_self, cond_true]
   cases sEq (atI (t := .str) a0 j) (atI (t := .str) a1 j) <;> rfl
  ·rw [allN_eq hc (fun j x y hx hy => by rw [atI_of (t := .str) hx, atI_of (t := .str) hy, ← eqD_str])]
   cases eqD a0 a1 <;> rfl
 ·simp only [bneLen hc, cond_true]
  rw [eqD_ne (fun e => hc (by rw [e]))]
noncomputable def q64 : List Dt → Option (Bool × List Dt)
 | [.d (.sl .str) a0, .d (.sl .str) a1] => some (((fun (x y : List BA) => gLenW x) a0 a1), [.d .bool (eqD a0 a1)])
 | _ => none
noncomputable def s64 : Gm.Spec := Gm.Spec.of [.ro, .ro] [false] true q64
theorem good64 : Gm.Good Try.prog (64, s64) := by
 have hl : ∀ x ∈ ([] : List (Nat × Gm.Spec)), Gm.Good Try.prog x := fun _ h => by cases h
 refine ⟨⟨spec_ok (tab_ok.env hl) (tab.natl hl) Try.func64 (by kernel_rfl : Try.f64.body = some f64c) [4] (by kernel_rfl) ?_, _, Try.func64, by kernel_rfl, of_decide_eq_true (by kernel_rfl)⟩, Gm.Spec.of_natl _ _ _ _⟩
 intro ds outs h
 unfold q64 at h
 split at h
 ·simp only [Option.some.injEq, Prod.mk.injEq] at h; obtain ⟨hg, h⟩ := h; cases h; exact f64_spec _ _ hg
 ·cases h
noncomputable def q33 : List Dt → Option (Bool × List Dt)
 | [.d .node a0, .d .node a1] => some ((sm2 sm_node a0 a1), [.d .bool (eqD a0 a1)])
 | _ => none
noncomputable def mu33 : List Dt → Nat
 | [.d .node a0, .d .node a1] => me_node a0 a1
 | _ => 0
noncomputable def s33r (N : Nat) : Gm.Spec := Gm.Spec.of [.ro, .ro] [false] true (qlt mu33 N q33)
noncomputable def s33 : Gm.Spec := Gm.Spec.of [.ro, .ro] [false] true q33
noncomputable def q65 : List Dt → Option (Bool × List Dt)
 | [.d (.sl .node) a0, .d (.sl .node) a1, .clo 33 []] => some ((sm2 (smL sm_node) a0 a1), [.d .bool (eqD a0 a1)])
 | _ => none
noncomputable def mu65 : List Dt → Nat
 | [.d (.sl .node) a0, .d (.sl .node) a1, .clo 33 []] => meL_node a0 a1
 | _ => 0
noncomputable def s65r (N : Nat) : Gm.Spec := Gm.Spec.of [.ro, .ro, .fn] [false] true (qlt mu65 N q65)
noncomputable def f33c : Code := (Try.f33.body).getD .skip
def f33k : Nat → Kp := kat [⟨[2, 3], [], [], []⟩, ⟨[4], [], [], []⟩]
noncomputable def f33e (N : Nat) : Env := tab.env [(33, s33r N), (64, s64), (65, s65r N)]
theorem f33_run {R : Type} (N : Nat) (n : Nat) (k : List Dt → Option R) (a0 : NodeT) (a1 : NodeT) : evFn (f33e N) f33k n f33c [.ro, .ro] [false] true [.tmp 4] [4] [.d .node a0, .d .node a1] k =
 (cond ((NodeT.kind a0) == (NodeT.kind a1))
 (cond ((NodeT.n a0) == (NodeT.n a1))
 (cond (sEq (NodeT.s a0) (NodeT.s a1))
 (cond ((fun (x y : List BA) => gLenW x) (NodeT.keys a0) (NodeT.keys a1))
 (cond (eqD (NodeT.keys a0) (NodeT.keys a1))
 (cond ((sm2 (smL sm_node) (NodeT.kids a0) (NodeT.kids a1)) && (Nat.blt (meL_node (NodeT.kids a0) (NodeT.kids a1)) N))
 (k [.d .bool (eqD (NodeT.kids a0) (NodeT.kids a1))])
 none)
 (k [.d .bool false]))
 none)
 (k [.d .bool false]))
 (k [.d .bool false]))
 (k [.d .bool false])) := by kernel_rfl
theorem f33_spec (N : Nat) (a0 : NodeT) (a1 : NodeT) (hg : sm2 sm_node a0 a1 = true) (hm : mu33 [.d .node a0, .d .node a1] = N) : ∃ keep rounds, ∀ {R : Type} (k : List Dt → Option R), evFn (f33e N) keep rounds f33c [.ro, .ro] [false] true [.tmp 4] [4] [.d .node a0, .d .node a1] k = k [.d .bool (eqD a0 a1)] := by
 have hm : me_node a0 a1 = N := hm
 subst hm
 have m1 : Nat.blt (meL_node a0.kids a1.kids) (me_node a0 a1) = true := by rw [Nat.blt_eq]; simp only [meL_node, me_node, nd_node_def]; omega
 simp only [sm2, sm_node_def, Bool.and_eq_true] at hg
 have gk : gLenW a0.keys = true := gLenW_sm hg.1.2.2.2.1
 refine ⟨f33k, 0, fun {R} k => ?_⟩
 rw [f33_run, eqD_node]
 simp only [sm2, gk, hg, m1, Bool.and_self, Bool.true_and, cond_true]
 cases (a0.kind == a1.kind) <;> cases (a0.n == a1.n) <;> cases sEq a0.s a1.s <;> cases eqD a0.keys a1.keys <;> rfl
noncomputable def f65S0 (y0 : List NodeT) (y1 : List NodeT) (y2 : Int) (y3 : Int) : St := ⟨[(1, .c (.one (.ro .node y0))), (2, .c (.one (.cloR 33 []))), (15, .c (.one (.ro .node y1))), (16, .c (.one (.v (.int .i64 y2)))), (17, .c (.one (.v (.int .i64 y3))))], [], []⟩
noncomputable def f65S1 : St := ⟨[(6, .c (.one (.v (.bool false))))], [], []⟩
noncomputable def f65S2 (y0 : List NodeT) (y1 : List NodeT) (y2 : Int) (y3 : Int) (y4 : Bool) : St := ⟨[(1, .c (.one (.ro .node y0))), (2, .c (.one (.cloR 33 []))), (15, .c (.one (.ro .node y1))), (16, .c (.one (.v (.int .i64 y2)))), (17, .c (.one (.v (.int .i64 y3)))), (18, .c (.one (.v (.bool y4))))], [], []⟩
noncomputable def f65c : Code := (Try.f65.body).getD .skip
def f65k : Nat → Kp := kat [⟨[0, 1, 2], [], [], []⟩, ⟨[0, 1, 2, 14], [], [], []⟩, ⟨[6], [], [], []⟩, ⟨[1, 2, 15, 16, 17], [], [], []⟩, ⟨[1, 2, 15, 16, 17, 18], [], [], []⟩, ⟨[1, 2, 7, 8, 15, 16, 17], [], [], []⟩, ⟨[1, 2, 8, 9, 15, 16, 17], [], [], []⟩, ⟨[1, 2, 15, 16, 17, 30], [], [], []⟩, ⟨[6], [], [], []⟩, ⟨[1, 2, 15, 16, 17], [], [], []⟩, ⟨[6], [], [], []⟩]
noncomputable def f65e (N : Nat) : Env := tab.env [(33, s33r N)]
noncomputable def f65L0 {R : Type} (N : Nat) (n : Nat) (x0 : Option R) (x1 : Int → Bool → Option R) (wA : List NodeT) (wF : List NodeT) (wH : Int) : Nat → Int → Option R
  | 0, _ => none
  | m + 1, wC =>
    (cond (decide (wC < wH))
   (cond ((decide ((0 : Int) ≤ wC)) && (decide (wC < (wF.length : Int))))
    (cond ((decide ((0 : Int) ≤ wC)) && (decide (wC < (wA.length : Int))))
     (cond ((sm2 sm_node (eN (atI (t := .node) wF (Int.toNat wC))) (eN (atI (t := .node) wA (Int.toNat wC)))) && (Nat.blt (me_node (eN (atI (t := .node) wF (Int.toNat wC))) (eN (atI (t := .node) wA (Int.toNat wC)))) N))
      (cond (!(eqD (eN (atI (t := .node) wF (Int.toNat wC))) (eN (atI (t := .node) wA (Int.toNat wC)))))
       (x0)
       (f65L0 N n x0 x1 wA wF wH m (IntKind.wrap .i64 (wC + (1 : Int)))))
      none)
     none)
    none)
   (x1 wC (decide (wC < wH))))
theorem f65L0_b {R : Type} (N : Nat) (n : Nat) (k' : Ex → St → Option R) (wA : List NodeT) (wF : List NodeT) (wH : Int) (wC : Int) : ev (f65e N) f65k n (cAt [1,1,0,1,0,0] f65c) (f65S0 wA wF wH wC) k' =
 (cond (decide (wC < wH))
 (cond ((decide ((0 : Int) ≤ wC)) && (decide (wC < (wF.length : Int))))
 (cond ((decide ((0 : Int) ≤ wC)) && (decide (wC < (wA.length : Int))))
 (cond ((sm2 sm_node (eN (atI (t := .node) wF (Int.toNat wC))) (eN (atI (t := .node) wA (Int.toNat wC)))) && (Nat.blt (me_node (eN (atI (t := .node) wF (Int.toNat wC))) (eN (atI (t := .node) wA (Int.toNat wC)))) N))
 (cond (!(eqD (eN (atI (t := .node) wF (Int.toNat wC))) (eN (atI (t := .node) wA (Int.toNat wC)))))
 (k' .ret f65S1)
 (k' .normal (f65S0 wA wF wH (IntKind.wrap .i64 (wC + (1 : Int))))))
 none)
 none)
 none)
 (k' (.exit 0) (f65S2 wA wF wH wC (decide (wC < wH))))) := by kernel_rfl
theorem f65L0_eq {R : Type} (N : Nat) (n : Nat) (k' : Ex → St → Option R) (wA : List NodeT) (wF : List NodeT) (wH : Int) : ∀ (m : Nat) (wC : Int), iter (fun st k => ev (f65e N) f65k n (cAt [1,1,0,1,0,0] f65c) st k) m (f65S0 wA wF wH wC) k' = f65L0 N n (k' .ret f65S1) (fun (wK : Int) (wL : Bool) => k' (.exit 0) (f65S2 wA wF wH wK wL)) wA wF wH m wC := by
 intro m; induction m with
 | zero => intros; rfl
 | succ m ih =>
  intro wC
  simp only [iter]
  rw [f65L0_b]
  simp only [ih, f65L0]
noncomputable def f65K0 {R : Type} (N : Nat) (n : Nat) (k' : Ex → St → Option R) : Ex → St → Option R := (blockK 0 (seqK (f65e N) f65k n (cAt [1,1,1] f65c) k'))
theorem f65K0_x0 {R : Type} (N : Nat) (n : Nat) (k : List Dt → Option R) (a0 : List NodeT) (a1 : List NodeT)  : f65K0 N n (exitK (f65e N) [.ro, .ro, .fn] [false] true [.tmp 6] [4] [.d (.sl .node) a0, .d (.sl .node) a1, .clo 33 []] k) .ret f65S1 =
 (k [.d .bool false]) := by kernel_rfl
theorem f65K0_x1 {R : Type} (N : Nat) (n : Nat) (k : List Dt → Option R) (a0 : List NodeT) (a1 : List NodeT) (wA : List NodeT) (wF : List NodeT) (wH : Int) (wK : Int) (wL : Bool) : f65K0 N n (exitK (f65e N) [.ro, .ro, .fn] [false] true [.tmp 6] [4] [.d (.sl .node) a0, .d (.sl .node) a1, .clo 33 []] k) (.exit 0) (f65S2 wA wF wH wK wL) =
 (k [.d .bool true]) := by kernel_rfl
theorem f65_run {R : Type} (N : Nat) (n : Nat) (k : List Dt → Option R) (a0 : List NodeT) (a1 : List NodeT) : evFn (f65e N) f65k n f65c [.ro, .ro, .fn] [false] true [.tmp 6] [4] [.d (.sl .node) a0, .d (.sl .node) a1, .clo 33 []] k =
 (cond ((a0.length : Int) != (a1.length : Int))
 (k [.d .bool false])
 (f65L0 N n (k [.d .bool false]) (fun (wK : Int) (wL : Bool) =>
 (k [.d .bool true])) a1 a0 (a0.length : Int) n (0 : Int))) := by
 refine Eq.trans (b := (cond ((a0.length : Int) != (a1.length : Int))
 (k [.d .bool false])
 (iter (fun st k => ev (f65e N) f65k n (cAt [1,1,0,1,0,0] f65c) st k) n (f65S0 a1 a0 (a0.length : Int) (0 : Int)) (f65K0 N n (exitK (f65e N) [.ro, .ro, .fn] [false] true [.tmp 6] [4] [.d (.sl .node) a0, .d (.sl .node) a1, .clo 33 []] k))))) (by kernel_rfl) ?_
 simp only [f65L0_eq, f65K0_x0, f65K0_x1]
theorem f65_spec (N : Nat) (a0 : List NodeT) (a1 : List NodeT) (hg : sm2 (smL sm_node) a0 a1 = true) (hm : mu65 [.d (.sl .node) a0, .d (.sl .node) a1, .clo 33 []] = N) : ∃ keep rounds, ∀ {R : Type} (k : List Dt → Option R), evFn (f65e N) keep rounds f65c [.ro, .ro, .fn] [false] true [.tmp 6] [4] [.d (.sl .node) a0, .d (.sl .node) a1, .clo 33 []] k = k [.d .bool (eqD a0 a1)] := by
 have hm : meL_node a0 a1 = N := hm
 subst hm
 simp only [sm2, Bool.and_eq_true] at hg
 obtain ⟨hg0, hg1⟩ := hg
 have hl : a0.length ≤ 1048576 := smL_len hg0
 refine ⟨f65k, a0.length + 1, fun {R} k => ?_⟩
 rw [f65_run]
 by_cases hc : a0.length = a1.length
 ·have hc' : ((a0.length : Int) != (a1.length : Int)) = false := by simp [hc]
  simp only [hc', cond_false]
  refine Eq.trans (loop_idx (n := a0.length) (F := fun m i => f65L0 (meL_node a0 a1) (a0.length + 1) _ _ a1 a0 (a0.length : Int) m i) (p := fun j => eqD (atI (t := .node) a0 j) (atI (t := .node) a1 j)) (good := k [.d .bool true]) (bad := k [.d .bool false])
   (fun m j hj => ?_) (fun m => by simp only [f65L0, idxE, cond_false]) a0.length 0 (a0.length + 1) (by omega) (by omega)) ?_
  ·obtain ⟨h1, h0, hw, ht⟩ := idx hj (by omega)
   obtain ⟨h2, _, _, _⟩ := idx (show j < a1.length by omega) (by omega)
   have ha := smL_at (t := .node) hg0 hj
   have hb := smL_at (t := .node) hg1 (show j < a1.length by omega)
   have hm1 : Nat.blt (me_node (atI (t := .node) a0 j) (atI (t := .node) a1 j)) (meL_node a0 a1) = true := by
    obtain ⟨x, hx, _⟩ := drop_get hj
    have := ndL_mem (f := nd_node) (List.mem_of_getElem? hx)
    rw [atI_of (t := .node) hx, Nat.blt_eq]; simp only [me_node, meL_node]; omega
   simp only [f65L0, h1, h0, h2, hw, ht, Bool.and_self, cond_true, sm2, eta_node, eN_eq, ha, hb, hm1]
   cases eqD (atI (t := .node) a0 j) (atI (t := .node) a1 j) <;> rfl
  ·rw [allN_eq hc (fun j x y hx hy => by rw [atI_of (t := .node) hx, atI_of (t := .node) hy])]
   cases eqD a0 a1 <;> rfl
 ·simp only [bneLen hc, cond_true]
  rw [eqD_ne (fun e => hc (by rw [e]))]
theorem goods33 : ∀ x ∈ ([⟨33, [.ro, .ro], [false], true, mu33, q33⟩, ⟨65, [.ro, .ro, .fn], [false], true, mu65, q65⟩] : List Rc), Gm.SpecOk Try.prog x.f (Gm.Spec.of x.ms x.rs x.ow x.q) := by
 refine spec_recs _ fun N hr => ?_
 have hr1 : Gm.SpecOk Try.prog 33 (Gm.Spec.of [.ro, .ro] [false] true (qlt mu33 N q33)) := fun {R} => hr _ (.head _)
 have hr2 : Gm.SpecOk Try.prog 65 (Gm.Spec.of [.ro, .ro, .fn] [false] true (qlt mu65 N q65)) := fun {R} => hr _ (.tail _ (.head _))
 refine fcJ.2 ⟨?_, fcJ.2 ⟨?_, fcN⟩⟩
 ·have hl : ∀ x ∈ ([(33, s33r N), (64, s64), (65, s65r N)] : List (Nat × Gm.Spec)), Gm.Good Try.prog x := fcJ.2 ⟨⟨⟨hr1, _, Try.func33, by kernel_rfl, of_decide_eq_true (by kernel_rfl)⟩, Gm.Spec.of_natl _ _ _ _⟩, fcJ.2 ⟨good64, fcJ.2 ⟨⟨⟨hr2, _, Try.func65, by kernel_rfl, of_decide_eq_true (by kernel_rfl)⟩, Gm.Spec.of_natl _ _ _ _⟩, fcN⟩⟩⟩
  show Gm.SpecOk Try.prog 33 (Gm.Spec.of [.ro, .ro] [false] true (qeq mu33 N q33))
  intro R
  refine spec_ok (E := f33e N) (tab_ok.env hl) (tab.natl hl) Try.func33 (by kernel_rfl : Try.f33.body = some f33c) [4] (by kernel_rfl) ?_
  intro ds outs h
  obtain ⟨h, hm⟩ := qeq_some h
  unfold q33 at h
  split at h
  ·simp only [Option.some.injEq, Prod.mk.injEq] at h; obtain ⟨hg, h⟩ := h; cases h; exact f33_spec N _ _ hg hm
  ·cases h
 ·have hl : ∀ x ∈ ([(33, s33r N)] : List (Nat × Gm.Spec)), Gm.Good Try.prog x := fcJ.2 ⟨⟨⟨hr1, _, Try.func33, by kernel_rfl, of_decide_eq_true (by kernel_rfl)⟩, Gm.Spec.of_natl _ _ _ _⟩, fcN⟩
  show Gm.SpecOk Try.prog 65 (Gm.Spec.of [.ro, .ro, .fn] [false] true (qeq mu65 N q65))
  intro R
  refine spec_ok (E := f65e N) (tab_ok.env hl) (tab.natl hl) Try.func65 (by kernel_rfl : Try.f65.body = some f65c) [4] (by kernel_rfl) ?_
  intro ds outs h
  obtain ⟨h, hm⟩ := qeq_some h
  unfold q65 at h
  split at h
  ·simp only [Option.some.injEq, Prod.mk.injEq] at h; obtain ⟨hg, h⟩ := h; cases h; exact f65_spec N _ _ hg hm
  ·cases h
theorem good33 : Gm.Good Try.prog (33, s33) := ⟨⟨fun {R} => goods33 _ (.head _), _, Try.func33, by kernel_rfl, of_decide_eq_true (by kernel_rfl)⟩, Gm.Spec.of_natl _ _ _ _⟩
noncomputable def f34S0 (y0 : List BA) (y1 : List BA) (y2 : Int) : St := ⟨[(0, .c (.one (.ro .str y0))), (1, .c (.one (.ro .str y1))), (5, .c (.one (.v (.int .i64 y2))))], [], []⟩
noncomputable def f34S1 : St := ⟨[(4, .c (.one (.v (.bool false))))], [], []⟩
noncomputable def f34S2 (y0 : List BA) (y1 : List BA) (y2 : Int) (y3 : Bool) : St := ⟨[(0, .c (.one (.ro .str y0))), (1, .c (.one (.ro .str y1))), (5, .c (.one (.v (.int .i64 y2)))), (14, .c (.one (.v (.bool y3))))], [], []⟩
noncomputable def f34c : Code := (Try.f34.body).getD .skip
def f34k : Nat → Kp := kat [⟨[0, 1], [], [], []⟩, ⟨[0, 1, 10], [], [], []⟩, ⟨[4], [], [], []⟩, ⟨[0, 1, 5], [], [], []⟩, ⟨[0, 1, 5, 14], [], [], []⟩, ⟨[0, 1, 5], [], [], []⟩, ⟨[0, 1, 5, 25], [], [], []⟩, ⟨[4], [], [], []⟩, ⟨[4], [], [], []⟩]
noncomputable def f34e : Env := tab.env []
noncomputable def f34L0 {R : Type} (n : Nat) (x0 : Option R) (x1 : Int → Bool → Option R) (wB : List BA) (wA : List BA) : Nat → Int → Option R
  | 0, _ => none
  | m + 1, wE =>
    (cond (decide (wE < (wB.length : Int)))
   (cond ((decide ((0 : Int) ≤ wE)) && (decide (wE < (wB.length : Int))))
    (cond ((decide ((0 : Int) ≤ wE)) && (decide (wE < (wA.length : Int))))
     (cond (!(sEq (atI (t := .str) wB (Int.toNat wE)) (atI (t := .str) wA (Int.toNat wE))))
      (x0)
      (f34L0 n x0 x1 wB wA m (IntKind.wrap .i64 (wE + (1 : Int)))))
     none)
    none)
   (x1 wE (decide (wE < (wB.length : Int)))))
theorem f34L0_b {R : Type} (n : Nat) (k' : Ex → St → Option R) (wB : List BA) (wA : List BA) (wE : Int) : ev f34e f34k n (cAt [1,1,0,1,0,0] f34c) (f34S0 wB wA wE) k' =
 (cond (decide (wE < (wB.length : Int)))
 (cond ((decide ((0 : Int) ≤ wE)) && (decide (wE < (wB.length : Int))))
 (cond ((decide ((0 : Int) ≤ wE)) && (decide (wE < (wA.length : Int))))
 (cond (!(sEq (atI (t := .str) wB (Int.toNat wE)) (atI (t := .str) wA (Int.toNat wE))))
 (k' .ret f34S1)
 (k' .normal (f34S0 wB wA (IntKind.wrap .i64 (wE + (1 : Int))))))
 none)
 none)
 (k' (.exit 0) (f34S2 wB wA wE (decide (wE < (wB.length : Int)))))) := by kernel_rfl
theorem f34L0_eq {R : Type} (n : Nat) (k' : Ex → St → Option R) (wB : List BA) (wA : List BA) : ∀ (m : Nat) (wE : Int), iter (fun st k => ev f34e f34k n (cAt [1,1,0,1,0,0] f34c) st k) m (f34S0 wB wA wE) k' = f34L0 n (k' .ret f34S1) (fun (wM : Int) (wI : Bool) => k' (.exit 0) (f34S2 wB wA wM wI)) wB wA m wE := by
 intro m; induction m with
 | zero => intros; rfl
 | succ m ih =>
  intro wE
  simp only [iter]
  rw [f34L0_b]
  simp only [ih, f34L0]
noncomputable def f34K0 {R : Type} (n : Nat) (k' : Ex → St → Option R) : Ex → St → Option R := (blockK 0 (seqK f34e f34k n (cAt [1,1,1] f34c) k'))
theorem f34K0_x0 {R : Type} (n : Nat) (k : List Dt → Option R) (a0 : List BA) (a1 : List BA)  : f34K0 n (exitK f34e [.ro, .ro] [false] true [.tmp 4] [4] [.d (.sl .str) a0, .d (.sl .str) a1] k) .ret f34S1 =
 (k [.d .bool false]) := by kernel_rfl
theorem f34K0_x1 {R : Type} (n : Nat) (k : List Dt → Option R) (a0 : List BA) (a1 : List BA) (wB : List BA) (wA : List BA) (wM : Int) (wI : Bool) : f34K0 n (exitK f34e [.ro, .ro] [false] true [.tmp 4] [4] [.d (.sl .str) a0, .d (.sl .str) a1] k) (.exit 0) (f34S2 wB wA wM wI) =
 (k [.d .bool true]) := by kernel_rfl
theorem f34_run {R : Type} (n : Nat) (k : List Dt → Option R) (a0 : List BA) (a1 : List BA) : evFn f34e f34k n f34c [.ro, .ro] [false] true [.tmp 4] [4] [.d (.sl .str) a0, .d (.sl .str) a1] k =
 (cond ((a0.length : Int) != (a1.length : Int))
 (k [.d .bool false])
 (f34L0 n (k [.d .bool false]) (fun (wM : Int) (wI : Bool) =>
 (k [.d .bool true])) a0 a1 n (0 : Int))) := by
 refine Eq.trans (b := (cond ((a0.length : Int) != (a1.length : Int))
 (k [.d .bool false])
 (iter (fun st k => ev f34e f34k n (cAt [1,1,0,1,0,0] f34c) st k) n (f34S0 a0 a1 (0 : Int)) (f34K0 n (exitK f34e [.ro, .ro] [false] true [.tmp 4] [4] [.d (.sl .str) a0, .d (.sl .str) a1] k))))) (by kernel_rfl) ?_
 simp only [f34L0_eq, f34K0_x0, f34K0_x1]
theorem f34_spec (a0 : List BA) (a1 : List BA) (hg : gSame gLenW a0 a1 = true) : ∃ keep rounds, ∀ {R : Type} (k : List Dt → Option R), evFn f34e keep rounds f34c [.ro, .ro] [false] true [.tmp 4] [4] [.d (.sl .str) a0, .d (.sl .str) a1] k = k [.d .bool ((fun (_ _ : List BA) => true) a0 a1)] := by
 obtain ⟨hl, rfl⟩ := gSame_iff.1 hg
 have hl := gLenW_le hl
 refine ⟨f34k, a0.length + 1, fun {R} k => ?_⟩
 rw [f34_run, bne_self_eq_false]
 show _ = k [.d .bool true]
 have key : ∀ (X : Option R) (Y : Int → Bool → Option R), (∀ i b, Y i b = k [.d .bool true]) → ∀ d j m, j + d = a0.length → d < m → f34L0 (a0.length + 1) X Y a0 a0 m (j : Int) = k [.d .bool true] := by
  intro X Y hY d
  induction d with
  | zero =>
   intro j m hj hm
   obtain ⟨m, rfl⟩ : ∃ m', m = m' + 1 := ⟨m - 1, by omega⟩
   simp only [f34L0, decide_eq_false (show ¬ ((j : Int) < (a0.length : Int)) by omega), cond_false, hY]
  | succ d ih =>
   intro j m hj hm
   obtain ⟨m, rfl⟩ : ∃ m', m = m' + 1 := ⟨m - 1, by omega⟩
   obtain ⟨h1, h0, hw, ht⟩ := idx (show j < a0.length by omega) (by omega)
   simp only [f34L0, h1, h0, hw, ht, sEq_self, bab_self, beq_self_eq_true, Bool.and_self, Bool.not_true, cond_true, cond_false]
   exact ih (j + 1) m (by omega) (by omega)
 exact key _ _ (fun _ _ => rfl) a0.length 0 (a0.length + 1) (by omega) (by omega)
noncomputable def q34 : List Dt → Option (Bool × List Dt)
 | [.d (.sl .str) a0, .d (.sl .str) a1] => some (((gSame (gLenW (α := BA))) a0 a1), [.d .bool ((fun (_ _ : List BA) => true) a0 a1)])
 | _ => none
noncomputable def s34 : Gm.Spec := Gm.Spec.of [.ro, .ro] [false] true q34
theorem good34 : Gm.Good Try.prog (34, s34) := by
 have hl : ∀ x ∈ ([] : List (Nat × Gm.Spec)), Gm.Good Try.prog x := fun _ h => by cases h
 refine ⟨⟨spec_ok (tab_ok.env hl) (tab.natl hl) Try.func34 (by kernel_rfl : Try.f34.body = some f34c) [4] (by kernel_rfl) ?_, _, Try.func34, by kernel_rfl, of_decide_eq_true (by kernel_rfl)⟩, Gm.Spec.of_natl _ _ _ _⟩
 intro ds outs h
 unfold q34 at h
 split at h
 ·simp only [Option.some.injEq, Prod.mk.injEq] at h; obtain ⟨hg, h⟩ := h; cases h; exact f34_spec _ _ hg
 ·cases h
noncomputable def f25c : Code := (Try.f25.body).getD .skip
def f25k : Nat → Kp := kat [⟨[1, 2, 4], [], [], []⟩, ⟨[1, 2, 4, 8], [], [], []⟩, ⟨[4, 5], [], [], []⟩, ⟨[4, 5], [], [], []⟩]
noncomputable def f25e : Env := tab.env [(46, s46), (50, s50), (51, s51)]
theorem f25_run {R : Type} (n : Nat) (k : List Dt → Option R) (a0 : NodeT) (a1 : List BA) : evFn f25e f25k n f25c [.ro, .ro] [false, false] true [.cell 4 31, .tmp 5] [31, 4] [.d .node a0, .d (.sl .str) a1] k =
 (cond ((a1.length : Int) == (0 : Int))
 (cond (sm_node (eN a0))
 (k [.d .node (eN a0), .d .bool false])
 none)
 (cond (gW (eN a0) a1)
 (k [.d .node (eN ((cutAt (eN a0) a1).1)), .d .bool ((cutAt (eN a0) a1).2)])
 none)) := by kernel_rfl
theorem f25_spec (a0 : NodeT) (a1 : List BA) (hg : (sm_node a0 && smL smStr a1) = true) : ∃ keep rounds, ∀ {R : Type} (k : List Dt → Option R), evFn f25e keep rounds f25c [.ro, .ro] [false, false] true [.cell 4 31, .tmp 5] [31, 4] [.d .node a0, .d (.sl .str) a1] k = k [.d .node ((cutPtr a0 a1).1), .d .bool ((cutPtr a0 a1).2)] := by
 simp only [Bool.and_eq_true] at hg
 obtain ⟨hg, hpa⟩ := hg
 refine ⟨f25k, 0, fun {R} k => ?_⟩
 rw [f25_run]
 show _ = k [.d .node (cutPtr a0 a1).1, .d .bool (cutPtr a0 a1).2]
 unfold cutPtr
 cases a1 with
 | nil => simp only [eta_node, eN_eq, hg]; rfl
 | cons p r =>
  have hgw : gW a0 (p :: r) = true := by simp only [gW, Bool.and_eq_true]; exact ⟨hg, hpa, rfl⟩
  have l7 : (((p :: r).length : Int) == (0 : Int)) = false := by rw [beq_eq_false_iff_ne]; simp only [List.length_cons]; omega
  simp only [eta_node, eN_eq, hgw, l7, cond_true, cond_false]
noncomputable def q25 : List Dt → Option (Bool × List Dt)
 | [.d .node a0, .d (.sl .str) a1] => some (((fun (x : NodeT) (y : List BA) => sm_node x && smL smStr y) a0 a1), [.d .node ((cutPtr a0 a1).1), .d .bool ((cutPtr a0 a1).2)])
 | _ => none
noncomputable def s25 : Gm.Spec := Gm.Spec.of [.ro, .ro] [false, false] true q25
theorem good25 : Gm.Good Try.prog (25, s25) := by
 have hl : ∀ x ∈ [(46, s46), (50, s50), (51, s51)], Gm.Good Try.prog x := fcJ.2 ⟨good46, fcJ.2 ⟨good50, fcJ.2 ⟨good51, fcN⟩⟩⟩
 refine ⟨⟨spec_ok (tab_ok.env hl) (tab.natl hl) Try.func25 (by kernel_rfl : Try.f25.body = some f25c) [31, 4] (by kernel_rfl) ?_, _, Try.func25, by kernel_rfl, of_decide_eq_true (by kernel_rfl)⟩, Gm.Spec.of_natl _ _ _ _⟩
 intro ds outs h
 unfold q25 at h
 split at h
 ·simp only [Option.some.injEq, Prod.mk.injEq] at h; obtain ⟨hg, h⟩ := h; cases h; exact f25_spec _ _ hg
 ·cases h
noncomputable def q24 : List Dt → Option (Bool × List Dt)
 | [.d .node a0, .d (.sl .str) a1] => some (((fun (x : NodeT) (y : List BA) => sm_node x && smL smStr y) a0 a1), [.d .node ((cutPtr a0 a1).1), .d .bool ((cutPtr a0 a1).2)])
 | _ => none
noncomputable def mu24 : List Dt → Nat
 | [.d .node a0, .d (.sl .str) a1] => (fun (_ : NodeT) (p : List BA) => p.length) a0 a1
 | _ => 0
noncomputable def s24r (N : Nat) : Gm.Spec := Gm.Spec.of [.ro, .ro] [false, false] false (qlt mu24 N q24)
noncomputable def f24c : Code := (Try.f24.body).getD .skip
def f24k : Nat → Kp := kat [⟨[1, 2, 4], [], [], []⟩, ⟨[1, 2, 4, 6], [], [], []⟩, ⟨[1, 2, 4, 6, 14], [], [], []⟩, ⟨[4, 5], [], [], []⟩, ⟨[1, 2, 4, 6, 7], [], [], []⟩, ⟨[1, 2, 4, 6, 7, 29], [], [], []⟩, ⟨[4, 5], [], [], []⟩, ⟨[1, 2, 4, 6, 7, 33], [], [], []⟩, ⟨[4, 6, 7, 8, 9], [], [], []⟩, ⟨[4, 6, 7, 8, 9, 45], [], [], []⟩, ⟨[4, 6, 9], [], [], []⟩, ⟨[4, 5], [], [], []⟩, ⟨[1, 2, 4, 6, 7, 55], [], [705], []⟩, ⟨[4, 5], [], [], []⟩, ⟨[4, 6], [], [], []⟩, ⟨[4, 5], [], [], []⟩]
noncomputable def f24e (N : Nat) : Env := tab.env [(24, s24r N), (43, s43), (44, s44), (49, s49)]
noncomputable def f24v0 (a0 : NodeT) (a1 : List BA) : List NodeT :=
 ((NodeT.kids a0).set (Int.toNat (kidAt (eN a0) (atI (t := .str) a1 0))) (eN ((cutPtr (eN (atI (t := .node) (NodeT.kids a0) (Int.toNat (kidAt (eN a0) (atI (t := .str) a1 0))))) ((a1.take (Int.toNat (a1.length : Int))).drop 1)).1)))
theorem f24_run {R : Type} (N : Nat) (n : Nat) (k : List Dt → Option R) (a0 : NodeT) (a1 : List BA) : evFn (f24e N) f24k n f24c [.ro, .ro] [false, false] false [.cell 4 31, .tmp 5] [31, 4] [.d .node a0, .d (.sl .str) a1] k =
 (cond (sm_node (eN a0))
 (cond ((a1.length : Int) == (0 : Int))
 (k [.d .node (eN a0), .d .bool false])
 (cond (decide ((0 : Int) < (a1.length : Int)))
 (cond ((fun (x : NodeT) (_ : BA) => sm_node x) (eN a0) (atI (t := .str) a1 0))
 (cond (decide ((kidAt (eN a0) (atI (t := .str) a1 0)) < (0 : Int)))
 (k [.d .node (eN a0), .d .bool false])
 (cond (decide ((kidAt (eN a0) (atI (t := .str) a1 0)) ≥ ((NodeT.kids a0).length : Int)))
 (k [.d .node (eN a0), .d .bool false])
 (cond (decide ((a1.length : Int) > (1 : Int)))
 (cond ((decide ((0 : Int) ≤ (kidAt (eN a0) (atI (t := .str) a1 0)))) && (decide ((kidAt (eN a0) (atI (t := .str) a1 0)) < ((NodeT.kids a0).length : Int))))
 (cond ((decide ((1 : Int) ≤ (a1.length : Int))) && (decide ((a1.length : Int) ≤ (a1.length : Int))))
 (cond (((fun (x : NodeT) (y : List BA) => sm_node x && smL smStr y) (eN (atI (t := .node) (NodeT.kids a0) (Int.toNat (kidAt (eN a0) (atI (t := .str) a1 0))))) ((a1.take (Int.toNat (a1.length : Int))).drop 1)) && (Nat.blt ((fun (_ : NodeT) (p : List BA) => p.length) (eN (atI (t := .node) (NodeT.kids a0) (Int.toNat (kidAt (eN a0) (atI (t := .str) a1 0))))) ((a1.take (Int.toNat (a1.length : Int))).drop 1)) N))
 (cond ((cutPtr (eN (atI (t := .node) (NodeT.kids a0) (Int.toNat (kidAt (eN a0) (atI (t := .str) a1 0))))) ((a1.take (Int.toNat (a1.length : Int))).drop 1)).2)
 (cond ((decide ((0 : Int) ≤ (kidAt (eN a0) (atI (t := .str) a1 0)))) && (decide ((kidAt (eN a0) (atI (t := .str) a1 0)) < ((NodeT.kids a0).length : Int))))
 (k [.d .node (⟨(NodeT.kind a0), (NodeT.n a0), (NodeT.s a0), (NodeT.keys a0), (f24v0 a0 a1)⟩ : NodeT), .d .bool ((cutPtr (eN (atI (t := .node) (NodeT.kids a0) (Int.toNat (kidAt (eN a0) (atI (t := .str) a1 0))))) ((a1.take (Int.toNat (a1.length : Int))).drop 1)).2)])
 none)
 (k [.d .node (eN a0), .d .bool ((cutPtr (eN (atI (t := .node) (NodeT.kids a0) (Int.toNat (kidAt (eN a0) (atI (t := .str) a1 0))))) ((a1.take (Int.toNat (a1.length : Int))).drop 1)).2)]))
 none)
 none)
 none)
 (cond ((NodeT.kind a0) == (5 : Int))
 (cond (decide ((0 : Int) < (a1.length : Int)))
 (cond ((fun (x : NodeT) (_ : BA) => sm_node x) (eN a0) (atI (t := .str) a1 0))
 (k [.d .node (eN (unset (eN a0) (atI (t := .str) a1 0))), .d .bool true])
 none)
 none)
 (cond ((decide ((0 : Int) ≤ (kidAt (eN a0) (atI (t := .str) a1 0)))) && (decide ((kidAt (eN a0) (atI (t := .str) a1 0)) ≤ ((NodeT.kids a0).length : Int))))
 (cond (Nat.ble (0 + (((NodeT.kids a0).take (Int.toNat (kidAt (eN a0) (atI (t := .str) a1 0)))).drop 0).length) LIM)
 (cond ((decide ((0 : Int) ≤ (IntKind.wrap .i64 ((kidAt (eN a0) (atI (t := .str) a1 0)) + (1 : Int))))) && ((decide ((IntKind.wrap .i64 ((kidAt (eN a0) (atI (t := .str) a1 0)) + (1 : Int))) ≤ ((NodeT.kids a0).length : Int))) && (decide (((NodeT.kids a0).length : Int) ≤ ((NodeT.kids a0).length : Int)))))
 (cond (Nat.ble ((([] : List NodeT) ++ (((NodeT.kids a0).take (Int.toNat (kidAt (eN a0) (atI (t := .str) a1 0)))).drop 0)).length + (((NodeT.kids a0).take (Int.toNat ((NodeT.kids a0).length : Int))).drop (Int.toNat (IntKind.wrap .i64 ((kidAt (eN a0) (atI (t := .str) a1 0)) + (1 : Int))))).length) LIM)
 (k [.d .node (⟨(NodeT.kind a0), (NodeT.n a0), (NodeT.s a0), (NodeT.keys a0), ((([] : List NodeT) ++ (((NodeT.kids a0).take (Int.toNat (kidAt (eN a0) (atI (t := .str) a1 0)))).drop 0)) ++ (((NodeT.kids a0).take (Int.toNat ((NodeT.kids a0).length : Int))).drop (Int.toNat (IntKind.wrap .i64 ((kidAt (eN a0) (atI (t := .str) a1 0)) + (1 : Int))))))⟩ : NodeT), .d .bool true])
 none)
 none)
 none)
 none)))))
 none)
 none))
 none) := by kernel_rfl
theorem f24_spec (N : Nat) (a0 : NodeT) (a1 : List BA) (hg : (sm_node a0 && smL smStr a1) = true) (hm : mu24 [.d .node a0, .d (.sl .str) a1] = N) : ∃ keep rounds, ∀ {R : Type} (k : List Dt → Option R), evFn (f24e N) keep rounds f24c [.ro, .ro] [false, false] false [.cell 4 31, .tmp 5] [31, 4] [.d .node a0, .d (.sl .str) a1] k = k [.d .node ((cutPtr a0 a1).1), .d .bool ((cutPtr a0 a1).2)] := by
 have hm : a1.length = N := hm
 subst hm
 simp only [Bool.and_eq_true] at hg
 obtain ⟨hg, hpa⟩ := hg
 have hg0 := hg
 rw [sm_node_def] at hg
 simp only [Bool.and_eq_true] at hg
 obtain ⟨_, _, _, hke, hki⟩ := hg
 have nke := smL_len hke
 have nki := smL_len hki
 refine ⟨f24k, 0, fun {R} k => ?_⟩
 rw [f24_run]
 show _ = k [.d .node (cutPtr a0 a1).1, .d .bool (cutPtr a0 a1).2]
 match a1, hpa with
 | [], _ =>
  simp only [eta_node, eN_eq, hg0]
  rfl
 | [p], _ =>
  have l0 : decide ((0 : Int) < (([p] : List BA).length : Int)) = true := rfl
  have l5 : atI (t := .str) [p] 0 = p := rfl
  have l7 : ((([p] : List BA).length : Int) == (0 : Int)) = false := rfl
  have l8 : decide ((([p] : List BA).length : Int) > (1 : Int)) = false := rfl
  simp only [eta_node, eN_eq, hg0, l0, l5, l7, l8, cond_true, cond_false]
  by_cases hk : kidAt a0 p < 0
  ·rw [cutPtr_no a0 p [] hk, decide_eq_true hk]; rfl
  rw [cutPtr_one a0 p hk]
  obtain ⟨i, e, h1⟩ := kidAt_bd hk
  obtain ⟨i1, i0, hw, it⟩ := idx h1 (by omega)
  have d1 : decide ((i : Int) ≥ (a0.kids.length : Int)) = false := decide_eq_false (by omega)
  have d2 : decide ((i : Int) ≤ (a0.kids.length : Int)) = true := decide_eq_true (by omega)
  have d3 : decide ((0 : Int) ≤ ((i + 1 : Nat) : Int)) = true := decide_eq_true (by omega)
  have d5 : decide (((i + 1 : Nat) : Int) ≤ (a0.kids.length : Int)) = true := decide_eq_true (by omega)
  have d7 : decide ((a0.kids.length : Int) ≤ (a0.kids.length : Int)) = true := decide_eq_true (Int.le_refl _)
  rw [decide_eq_false hk]
  cases h5 : a0.kind == (5 : Int)
  ·simp only [e, hw, i0, d1, d2, d3, d5, d7, Int.toNat_natCast, List.drop_zero, List.take_length, List.nil_append, limT nki, limTD nki, Bool.and_self, cond_true, cond_false]
   rfl
  ·simp only [e, d1, cond_true, cond_false]
 | p :: q :: r, hpa =>
  have l0 : decide ((0 : Int) < ((p :: q :: r).length : Int)) = true := decide_eq_true (by simp only [List.length_cons]; omega)
  have l1 : (((p :: q :: r).length : Int) == (1 : Int)) = false := by rw [beq_eq_false_iff_ne]; simp only [List.length_cons]; omega
  have l2 : decide ((1 : Int) ≤ ((p :: q :: r).length : Int)) = true := decide_eq_true (by simp only [List.length_cons]; omega)
  have l3 : decide (((p :: q :: r).length : Int) ≤ ((p :: q :: r).length : Int)) = true := decide_eq_true (Int.le_refl _)
  have l4 : ((p :: q :: r).take (Int.toNat ((p :: q :: r).length : Int))).drop 1 = q :: r := by rw [Int.toNat_natCast, List.take_length]; rfl
  have l5 : atI (t := .str) (p :: q :: r) 0 = p := rfl
  have l6 : Nat.blt (q :: r).length (p :: q :: r).length = true := by rw [Nat.blt_eq]; simp only [List.length_cons]; omega
  have l7 : (((p :: q :: r).length : Int) == (0 : Int)) = false := by rw [beq_eq_false_iff_ne]; simp only [List.length_cons]; omega
  have l8 : decide (((p :: q :: r).length : Int) > (1 : Int)) = true := decide_eq_true (by simp only [List.length_cons]; omega)
  have hqr : smL smStr (q :: r) = true := smL_tail hpa
  simp only [eta_node, eN_eq, hg0, l0, l5, l7, l8, cond_true, cond_false]
  by_cases hk : kidAt a0 p < 0
  ·rw [cutPtr_no a0 p _ hk, decide_eq_true hk]; rfl
  rw [cutPtr_deep a0 p q r hk]
  obtain ⟨i, e, h1⟩ := kidAt_bd hk
  obtain ⟨i1, i0, hw, it⟩ := idx h1 (by omega)
  have d1 : decide ((i : Int) ≥ (a0.kids.length : Int)) = false := decide_eq_false (by omega)
  have hx := atI_lt (t := .node) h1
  have hs := sm_kid hg0 (List.mem_of_getElem? hx)
  simp only [decide_eq_false hk, f24v0, eta_node, eN_eq, l2, l3, l4, l5, l6, hs, hqr, e, i1, i0, it, d1, Bool.and_self, cond_true, cond_false]
  cases (cutPtr (atI (t := .node) a0.kids i) (q :: r)).2 <;> rfl
noncomputable def s24 : Gm.Spec := Gm.Spec.of [.ro, .ro] [false, false] false q24
theorem good24 : Gm.Good Try.prog (24, s24) := by
 refine ⟨⟨spec_rec mu24 fun N hr => ?_, _, Try.func24, by kernel_rfl, of_decide_eq_true (by kernel_rfl)⟩, Gm.Spec.of_natl _ _ _ _⟩
 have hl : ∀ x ∈ [(24, s24r N), (43, s43), (44, s44), (49, s49)], Gm.Good Try.prog x := fcJ.2 ⟨⟨⟨hr, _, Try.func24, by kernel_rfl, of_decide_eq_true (by kernel_rfl)⟩, Gm.Spec.of_natl _ _ _ _⟩, fcJ.2 ⟨good43, fcJ.2 ⟨good44, fcJ.2 ⟨good49, fcN⟩⟩⟩⟩
 intro R
 refine spec_ok (E := f24e N) (tab_ok.env hl) (tab.natl hl) Try.func24 (by kernel_rfl : Try.f24.body = some f24c) [31, 4] (by kernel_rfl) ?_
 intro ds outs h
 obtain ⟨h, hm⟩ := qeq_some h
 unfold q24 at h
 split at h
 ·simp only [Option.some.injEq, Prod.mk.injEq] at h; obtain ⟨hg, h⟩ := h; cases h; exact f24_spec N _ _ hg hm
 ·cases h
noncomputable def f7S0 (y0 : List Int) (y1 : Bool) (y2 : Bool) (y3 : Int) (y4 : Int) (y5 : Int) (y6 : BA) (y7 : Int) (y8 : Int) (y9 : BA) (y10 : Int) (y11 : Int) (y12 : BA) (y13 : Int) (y14 : Int) (y15 : BA) (y16 : Int) (y17 : Int) (y18 : BA) (y19 : List BA) (y20 : List NodeT) (y21 : List BA) (y22 : List BA) (y23 : List NodeT) (y24 : List BA) (y25 : List NodeT) (y26 : List BA) (y27 : List NodeT) (y28 : List BA) (y29 : List NodeT) (y30 : List (List BA)) (y31 : List (List BA)) : St := ⟨[(0, .c (.one (.rk (.i .u8) y0))), (3, .c (.one (.pt 3 0))), (4, .c (.one (.h 2754 0 0 []))), (5, .c (.one (.pt 5 0))), (6, .c (.one (.pt 6 0))), (7, .c (.one (.v (.bool y1)))), (10, .c (.one (.pt 10 0))), (12, .c (.one (.pt 12 0))), (13, .c (.one (.v (.bool y2)))), (23, .c (.one (.h 6272 0 0 []))), (24, .c (.one (.h 6400 0 0 []))), (25, .c (.one (.v (.int .i64 y3))))], [(3, ⟨.node, [.v (.int .i64 y4), .v (.int .i64 y5), .v (.string y6), .h 2752 0 0 [], .h 2753 0 0 []]⟩), (5, ⟨.node, [.v (.int .i64 y7), .v (.int .i64 y8), .v (.string y9), .h 2755 0 0 [], .h 2756 0 0 []]⟩), (6, ⟨.node, [.v (.int .i64 y10), .v (.int .i64 y11), .v (.string y12), .h 3264 0 0 [], .h 3265 0 0 []]⟩), (10, ⟨.node, [.v (.int .i64 y13), .v (.int .i64 y14), .v (.string y15), .h 4032 0 0 [], .h 4033 0 0 []]⟩), (12, ⟨.node, [.v (.int .i64 y16), .v (.int .i64 y17), .v (.string y18), .h 4416 0 0 [], .h 4417 0 0 []]⟩)], [(2752, .live ⟨.str, .deep, 0, [], y19⟩), (2753, .live ⟨.node, .deep, 0, [], y20⟩), (2754, .live ⟨.str, .deep, 0, [], y21⟩), (2755, .live ⟨.str, .deep, 0, [], y22⟩), (2756, .live ⟨.node, .deep, 0, [], y23⟩), (3264, .live ⟨.str, .deep, 0, [], y24⟩), (3265, .live ⟨.node, .deep, 0, [], y25⟩), (4032, .live ⟨.str, .frz, 0, [], y26⟩), (4033, .live ⟨.node, .frz, 0, [], y27⟩), (4416, .live ⟨.str, .deep, 0, [], y28⟩), (4417, .live ⟨.node, .deep, 0, [], y29⟩), (6272, .live ⟨(.sl .str), .deep, 0, [], y30⟩), (6400, .live ⟨(.sl .str), .deep, 0, [], y31⟩)]⟩
noncomputable def f7S1 (y0 : Bool) : St := ⟨[(2, .c (.one (.v (.bool y0))))], [], []⟩
noncomputable def f7S2 (y0 : List Int) (y1 : Bool) (y2 : Bool) (y3 : Int) (y4 : Bool) (y5 : Int) (y6 : Int) (y7 : BA) (y8 : Int) (y9 : Int) (y10 : BA) (y11 : Int) (y12 : Int) (y13 : BA) (y14 : Int) (y15 : Int) (y16 : BA) (y17 : Int) (y18 : Int) (y19 : BA) (y20 : List BA) (y21 : List NodeT) (y22 : List BA) (y23 : List BA) (y24 : List NodeT) (y25 : List BA) (y26 : List NodeT) (y27 : List BA) (y28 : List NodeT) (y29 : List BA) (y30 : List NodeT) (y31 : List (List BA)) (y32 : List (List BA)) : St := ⟨[(0, .c (.one (.rk (.i .u8) y0))), (3, .c (.one (.pt 3 0))), (4, .c (.one (.h 2754 0 0 []))), (5, .c (.one (.pt 5 0))), (6, .c (.one (.pt 6 0))), (7, .c (.one (.v (.bool y1)))), (10, .c (.one (.pt 10 0))), (12, .c (.one (.pt 12 0))), (13, .c (.one (.v (.bool y2)))), (23, .c (.one (.h 6272 0 0 []))), (24, .c (.one (.h 6400 0 0 []))), (25, .c (.one (.v (.int .i64 y3)))), (142, .c (.one (.v (.bool y4))))], [(3, ⟨.node, [.v (.int .i64 y5), .v (.int .i64 y6), .v (.string y7), .h 2752 0 0 [], .h 2753 0 0 []]⟩), (5, ⟨.node, [.v (.int .i64 y8), .v (.int .i64 y9), .v (.string y10), .h 2755 0 0 [], .h 2756 0 0 []]⟩), (6, ⟨.node, [.v (.int .i64 y11), .v (.int .i64 y12), .v (.string y13), .h 3264 0 0 [], .h 3265 0 0 []]⟩), (10, ⟨.node, [.v (.int .i64 y14), .v (.int .i64 y15), .v (.string y16), .h 4032 0 0 [], .h 4033 0 0 []]⟩), (12, ⟨.node, [.v (.int .i64 y17), .v (.int .i64 y18), .v (.string y19), .h 4416 0 0 [], .h 4417 0 0 []]⟩)], [(2752, .live ⟨.str, .deep, 0, [], y20⟩), (2753, .live ⟨.node, .deep, 0, [], y21⟩), (2754, .live ⟨.str, .deep, 0, [], y22⟩), (2755, .live ⟨.str, .deep, 0, [], y23⟩), (2756, .live ⟨.node, .deep, 0, [], y24⟩), (3264, .live ⟨.str, .deep, 0, [], y25⟩), (3265, .live ⟨.node, .deep, 0, [], y26⟩), (4032, .live ⟨.str, .frz, 0, [], y27⟩), (4033, .live ⟨.node, .frz, 0, [], y28⟩), (4416, .live ⟨.str, .deep, 0, [], y29⟩), (4417, .live ⟨.node, .deep, 0, [], y30⟩), (6272, .live ⟨(.sl .str), .deep, 0, [], y31⟩), (6400, .live ⟨(.sl .str), .deep, 0, [], y32⟩)]⟩
noncomputable def f7S3 (y0 : Int) (y1 : Int) (y2 : Int) (y3 : BA) (y4 : List BA) (y5 : List NodeT) (y6 : List BA) (y7 : List (List BA)) : St := ⟨[(28, .c (.one (.pt 28 0))), (29, .c (.one (.h 13058 0 0 []))), (31, .c (.one (.h 13376 0 0 []))), (32, .c (.one (.v (.int .i64 y0))))], [(28, ⟨.node, [.v (.int .i64 y1), .v (.int .i64 y2), .v (.string y3), .h 13056 0 0 [], .h 13057 0 0 []]⟩)], [(13056, .live ⟨.str, .deep, 0, [], y4⟩), (13057, .live ⟨.node, .deep, 0, [], y5⟩), (13058, .live ⟨.str, .deep, 0, [], y6⟩), (13376, .live ⟨(.sl .str), .deep, 0, [], y7⟩)]⟩
noncomputable def f7S4 (y0 : Int) (y1 : Bool) (y2 : Int) (y3 : Int) (y4 : BA) (y5 : List BA) (y6 : List NodeT) (y7 : List BA) (y8 : List (List BA)) : St := ⟨[(28, .c (.one (.pt 28 0))), (29, .c (.one (.h 13058 0 0 []))), (31, .c (.one (.h 13376 0 0 []))), (32, .c (.one (.v (.int .i64 y0)))), (213, .c (.one (.v (.bool y1))))], [(28, ⟨.node, [.v (.int .i64 y2), .v (.int .i64 y3), .v (.string y4), .h 13056 0 0 [], .h 13057 0 0 []]⟩)], [(13056, .live ⟨.str, .deep, 0, [], y5⟩), (13057, .live ⟨.node, .deep, 0, [], y6⟩), (13058, .live ⟨.str, .deep, 0, [], y7⟩), (13376, .live ⟨(.sl .str), .deep, 0, [], y8⟩)]⟩
noncomputable def f7S5 (y0 : Bool) (y1 : Bool) (y2 : List BA) : St := ⟨[(29, .c (.one (.h 13058 0 0 []))), (36, .c (.one (.v (.bool y0)))), (38, .c (.one (.v (.bool y1))))], [], [(13058, .live ⟨.str, .deep, 0, [], y2⟩)]⟩
noncomputable def f7S6 (y0 : Bool) (y1 : Int) (y2 : Int) (y3 : BA) (y4 : List BA) (y5 : List NodeT) (y6 : List BA) : St := ⟨[(28, .c (.one (.pt 28 0))), (29, .c (.one (.h 13058 0 0 []))), (36, .c (.one (.v (.bool y0))))], [(28, ⟨.node, [.v (.int .i64 y1), .v (.int .i64 y2), .v (.string y3), .h 13056 0 0 [], .h 13057 0 0 []]⟩)], [(13056, .live ⟨.str, .deep, 0, [], y4⟩), (13057, .live ⟨.node, .deep, 0, [], y5⟩), (13058, .live ⟨.str, .deep, 0, [], y6⟩)]⟩
noncomputable def f7S7 (y0 : Int) (y1 : Int) (y2 : BA) (y3 : List BA) (y4 : List NodeT) (y5 : List BA) (y6 : List (List BA)) : St := ⟨[(28, .c (.one (.pt 28 0))), (29, .c (.one (.h 13058 0 0 []))), (31, .c (.one (.h 13376 0 0 [])))], [(28, ⟨.node, [.v (.int .i64 y0), .v (.int .i64 y1), .v (.string y2), .h 13056 0 0 [], .h 13057 0 0 []]⟩)], [(13056, .live ⟨.str, .deep, 0, [], y3⟩), (13057, .live ⟨.node, .deep, 0, [], y4⟩), (13058, .live ⟨.str, .deep, 0, [], y5⟩), (13376, .live ⟨(.sl .str), .deep, 0, [], y6⟩)]⟩
noncomputable def f7S8 (y0 : Int) (y1 : Int) (y2 : BA) (y3 : List BA) (y4 : List NodeT) (y5 : List BA) : St := ⟨[(28, .c (.one (.pt 28 0))), (29, .c (.one (.h 13058 0 0 [])))], [(28, ⟨.node, [.v (.int .i64 y0), .v (.int .i64 y1), .v (.string y2), .h 13056 0 0 [], .h 13057 0 0 []]⟩)], [(13056, .live ⟨.str, .deep, 0, [], y3⟩), (13057, .live ⟨.node, .deep, 0, [], y4⟩), (13058, .live ⟨.str, .deep, 0, [], y5⟩)]⟩
noncomputable def f7S9 (y0 : List Int) (y1 : Bool) : St := ⟨[(0, .c (.one (.rk (.i .u8) y0))), (201, .c (.one (.v (.bool y1))))], [], []⟩
noncomputable def f7S10 (y0 : List Int) (y1 : Bool) (y2 : Int) (y3 : Int) (y4 : BA) (y5 : Int) (y6 : Int) (y7 : BA) (y8 : List BA) (y9 : List BA) (y10 : List NodeT) (y11 : List BA) (y12 : List NodeT) : St := ⟨[(0, .c (.one (.rk (.i .u8) y0))), (4, .c (.one (.h 2754 0 0 []))), (5, .c (.one (.pt 5 0))), (6, .c (.one (.pt 6 0))), (187, .c (.one (.v (.bool y1))))], [(5, ⟨.node, [.v (.int .i64 y2), .v (.int .i64 y3), .v (.string y4), .h 2755 0 0 [], .h 2756 0 0 []]⟩), (6, ⟨.node, [.v (.int .i64 y5), .v (.int .i64 y6), .v (.string y7), .h 3264 0 0 [], .h 3265 0 0 []]⟩)], [(2754, .live ⟨.str, .deep, 0, [], y8⟩), (2755, .live ⟨.str, .deep, 0, [], y9⟩), (2756, .live ⟨.node, .deep, 0, [], y10⟩), (3264, .live ⟨.str, .deep, 0, [], y11⟩), (3265, .live ⟨.node, .deep, 0, [], y12⟩)]⟩
noncomputable def f7S11 (y0 : List Int) (y1 : Bool) (y2 : Bool) (y3 : Int) (y4 : Int) (y5 : BA) (y6 : Int) (y7 : Int) (y8 : BA) (y9 : List BA) (y10 : List BA) (y11 : List NodeT) (y12 : List BA) (y13 : List NodeT) : St := ⟨[(0, .c (.one (.rk (.i .u8) y0))), (4, .c (.one (.h 2754 0 0 []))), (5, .c (.one (.pt 5 0))), (6, .c (.one (.pt 6 0))), (7, .c (.one (.v (.bool y1)))), (172, .c (.one (.v (.bool y2))))], [(5, ⟨.node, [.v (.int .i64 y3), .v (.int .i64 y4), .v (.string y5), .h 2755 0 0 [], .h 2756 0 0 []]⟩), (6, ⟨.node, [.v (.int .i64 y6), .v (.int .i64 y7), .v (.string y8), .h 3264 0 0 [], .h 3265 0 0 []]⟩)], [(2754, .live ⟨.str, .deep, 0, [], y9⟩), (2755, .live ⟨.str, .deep, 0, [], y10⟩), (2756, .live ⟨.node, .deep, 0, [], y11⟩), (3264, .live ⟨.str, .deep, 0, [], y12⟩), (3265, .live ⟨.node, .deep, 0, [], y13⟩)]⟩
noncomputable def f7S12 (y0 : List Int) (y1 : Bool) (y2 : Bool) (y3 : Bool) (y4 : Int) (y5 : Int) (y6 : BA) (y7 : Int) (y8 : Int) (y9 : BA) (y10 : Int) (y11 : Int) (y12 : BA) (y13 : Int) (y14 : Int) (y15 : BA) (y16 : Int) (y17 : Int) (y18 : BA) (y19 : List BA) (y20 : List NodeT) (y21 : List BA) (y22 : List BA) (y23 : List NodeT) (y24 : List BA) (y25 : List NodeT) (y26 : List BA) (y27 : List NodeT) (y28 : List BA) (y29 : List NodeT) (y30 : List (List BA)) (y31 : List (List BA)) : St := ⟨[(0, .c (.one (.rk (.i .u8) y0))), (3, .c (.one (.pt 3 0))), (4, .c (.one (.h 2754 0 0 []))), (5, .c (.one (.pt 5 0))), (6, .c (.one (.pt 6 0))), (7, .c (.one (.v (.bool y1)))), (10, .c (.one (.pt 10 0))), (12, .c (.one (.pt 12 0))), (13, .c (.one (.v (.bool y2)))), (23, .c (.one (.h 6272 0 0 []))), (24, .c (.one (.h 6400 0 0 []))), (138, .c (.one (.v (.bool y3))))], [(3, ⟨.node, [.v (.int .i64 y4), .v (.int .i64 y5), .v (.string y6), .h 2752 0 0 [], .h 2753 0 0 []]⟩), (5, ⟨.node, [.v (.int .i64 y7), .v (.int .i64 y8), .v (.string y9), .h 2755 0 0 [], .h 2756 0 0 []]⟩), (6, ⟨.node, [.v (.int .i64 y10), .v (.int .i64 y11), .v (.string y12), .h 3264 0 0 [], .h 3265 0 0 []]⟩), (10, ⟨.node, [.v (.int .i64 y13), .v (.int .i64 y14), .v (.string y15), .h 4032 0 0 [], .h 4033 0 0 []]⟩), (12, ⟨.node, [.v (.int .i64 y16), .v (.int .i64 y17), .v (.string y18), .h 4416 0 0 [], .h 4417 0 0 []]⟩)], [(2752, .live ⟨.str, .deep, 0, [], y19⟩), (2753, .live ⟨.node, .deep, 0, [], y20⟩), (2754, .live ⟨.str, .deep, 0, [], y21⟩), (2755, .live ⟨.str, .deep, 0, [], y22⟩), (2756, .live ⟨.node, .deep, 0, [], y23⟩), (3264, .live ⟨.str, .deep, 0, [], y24⟩), (3265, .live ⟨.node, .deep, 0, [], y25⟩), (4032, .live ⟨.str, .frz, 0, [], y26⟩), (4033, .live ⟨.node, .frz, 0, [], y27⟩), (4416, .live ⟨.str, .deep, 0, [], y28⟩), (4417, .live ⟨.node, .deep, 0, [], y29⟩), (6272, .live ⟨(.sl .str), .deep, 0, [], y30⟩), (6400, .live ⟨(.sl .str), .deep, 0, [], y31⟩)]⟩
noncomputable def f7c : Code := (Try.f7.body).getD .skip
def f7k : Nat → Kp := kat [⟨[0], [], [], []⟩, ⟨[0, 40], [], [], []⟩, ⟨[2], [], [], []⟩, ⟨[0, 3, 4, 5], [], [], []⟩, ⟨[0, 3, 4, 5, 6, 7], [], [], []⟩, ⟨[0, 3, 4, 5, 6, 7, 8, 9], [], [], []⟩, ⟨[0, 3, 4, 5, 6, 7, 8, 9, 10, 11], [], [], []⟩, ⟨[0, 3, 4, 5, 6, 7, 8, 9, 10, 11, 12, 13], [], [], []⟩, ⟨[0, 3, 4, 5, 6, 7, 8, 9, 10, 12, 13, 14, 15], [], [], []⟩, ⟨[0, 3, 4, 5, 6, 7, 8, 9, 10, 12, 13, 14, 15, 16, 17], [], [], []⟩, ⟨[0, 3, 4, 5, 6, 7, 8, 9, 10, 12, 13, 14, 15, 16, 17, 18, 19], [], [], []⟩, ⟨[0, 3, 4, 5, 6, 7, 8, 9, 10, 12, 13, 14, 15, 18, 19, 20, 21], [], [], []⟩, ⟨[0, 3, 4, 5, 6, 7, 8, 9, 10, 12, 13, 14, 15, 18, 19, 20, 21, 22], [], [], []⟩, ⟨[0, 3, 4, 5, 6, 7, 8, 9, 10, 12, 13, 14, 15, 18, 19, 20, 21, 23, 24], [], [], []⟩, ⟨[0, 3, 4, 5, 6, 7, 10, 12, 13, 23, 24, 138], [], [], []⟩, ⟨[2], [], [], []⟩, ⟨[0, 3, 4, 5, 6, 7, 10, 12, 13, 23, 24, 25], [], [], []⟩, ⟨[0, 3, 4, 5, 6, 7, 10, 12, 13, 23, 24, 25, 142], [], [], []⟩, ⟨[0, 3, 4, 5, 6, 7, 10, 12, 13, 23, 24, 25], [], [], []⟩, ⟨[0, 3, 4, 5, 6, 7, 10, 12, 13, 23, 24, 25, 154], [], [], []⟩, ⟨[2], [], [], []⟩, ⟨[0, 4, 5, 6, 7, 172], [], [], []⟩, ⟨[2], [], [], []⟩, ⟨[0, 4, 5, 6, 187], [], [], []⟩, ⟨[0, 5, 26, 27], [], [], []⟩, ⟨[0, 201], [], [], []⟩, ⟨[2], [], [], []⟩, ⟨[28, 29], [], [], []⟩, ⟨[28, 29, 31], [], [], []⟩, ⟨[28, 29, 31, 32], [], [], []⟩, ⟨[28, 29, 31, 32, 213], [], [], []⟩, ⟨[28, 29, 31, 32], [], [], []⟩, ⟨[28, 29, 31, 32, 34], [], [], []⟩, ⟨[28, 29, 31, 32, 226], [], [], []⟩, ⟨[2], [], [], []⟩, ⟨[28, 29, 36], [], [], []⟩, ⟨[29, 36, 38], [], [], []⟩, ⟨[2], [], [], []⟩]
noncomputable def f7e : Env := tab.env [(9, s9), (11, s11), (18, s18), (20, s20), (24, s24), (25, s25), (26, s26), (27, s27), (28, s28), (29, s29), (30, s30), (31, s31), (32, s32), (33, s33), (34, s34), (35, s35)]
noncomputable def f7L0 {R : Type} (n : Nat) (x0 : Option R) (x1 : Int → Bool → Option R) (wA : List Int) (wU : Bool) (uH : Bool) (uI : Int) (uJ : Int) (uK : BA) (wH : Int) (wI : Int) (wJ : BA) (wC : Int) (wD : Int) (wE : BA) (wV : Int) (wW : Int) (wX : BA) (wY : Int) (wZ : Int) (uA : BA) (uL : List BA) (uM : List NodeT) (wB : List BA) (wK : List BA) (wL : List NodeT) (wF : List BA) (wG : List NodeT) (uB : List BA) (uC : List NodeT) (uD : List BA) (uE : List NodeT) (wS : List (List BA)) (uG : List (List BA)) : Nat → Int → Option R
  | 0, _ => none
  | m + 1, uF =>
    (cond (decide (uF < (wS.length : Int)))
   (cond ((decide ((0 : Int) ≤ uF)) && (decide (uF < (wS.length : Int))))
    (cond ((decide ((0 : Int) ≤ uF)) && (decide (uF < (uG.length : Int))))
     (cond ((gSame (gLenW (α := BA))) (atI (t := (.sl .str)) wS (Int.toNat uF)) (atI (t := (.sl .str)) uG (Int.toNat uF)))
      (cond (!((fun (_ _ : List BA) => true) (atI (t := (.sl .str)) wS (Int.toNat uF)) (atI (t := (.sl .str)) uG (Int.toNat uF))))
       (x0)
       (f7L0 n x0 x1 wA wU uH uI uJ uK wH wI wJ wC wD wE wV wW wX wY wZ uA uL uM wB wK wL wF wG uB uC uD uE wS uG m (IntKind.wrap .i64 (uF + (1 : Int)))))
      none)
     none)
    none)
   (x1 uF (decide (uF < (wS.length : Int)))))
theorem f7L0_b {R : Type} (n : Nat) (k' : Ex → St → Option R) (wA : List Int) (wU : Bool) (uH : Bool) (uF : Int) (uI : Int) (uJ : Int) (uK : BA) (wH : Int) (wI : Int) (wJ : BA) (wC : Int) (wD : Int) (wE : BA) (wV : Int) (wW : Int) (wX : BA) (wY : Int) (wZ : Int) (uA : BA) (uL : List BA) (uM : List NodeT) (wB : List BA) (wK : List BA) (wL : List NodeT) (wF : List BA) (wG : List NodeT) (uB : List BA) (uC : List NodeT) (uD : List BA) (uE : List NodeT) (wS : List (List BA)) (uG : List (List BA)) : ev f7e f7k n (cAt [1,1,1,1,1,1,1,1,1,1,1,1,1,1,0,1,0,0] f7c) (f7S0 wA wU uH uF uI uJ uK wH wI wJ wC wD wE wV wW wX wY wZ uA uL uM wB wK wL wF wG uB uC uD uE wS uG) k' =
 (cond (decide (uF < (wS.length : Int)))
 (cond ((decide ((0 : Int) ≤ uF)) && (decide (uF < (wS.length : Int))))
 (cond ((decide ((0 : Int) ≤ uF)) && (decide (uF < (uG.length : Int))))
 (cond ((gSame (gLenW (α := BA))) (atI (t := (.sl .str)) wS (Int.toNat uF)) (atI (t := (.sl .str)) uG (Int.toNat uF)))
 (cond (!((fun (_ _ : List BA) => true) (atI (t := (.sl .str)) wS (Int.toNat uF)) (atI (t := (.sl .str)) uG (Int.toNat uF))))
 (k' .ret (f7S1 false))
 (k' .normal (f7S0 wA wU uH (IntKind.wrap .i64 (uF + (1 : Int))) uI uJ uK wH wI wJ wC wD wE wV wW wX wY wZ uA uL uM wB wK wL wF wG uB uC uD uE wS uG)))
 none)
 none)
 none)
 (k' (.exit 0) (f7S2 wA wU uH uF (decide (uF < (wS.length : Int))) uI uJ uK wH wI wJ wC wD wE wV wW wX wY wZ uA uL uM wB wK wL wF wG uB uC uD uE wS uG))) := by kernel_rfl
theorem f7L0_eq {R : Type} (n : Nat) (k' : Ex → St → Option R) (wA : List Int) (wU : Bool) (uH : Bool) (uI : Int) (uJ : Int) (uK : BA) (wH : Int) (wI : Int) (wJ : BA) (wC : Int) (wD : Int) (wE : BA) (wV : Int) (wW : Int) (wX : BA) (wY : Int) (wZ : Int) (uA : BA) (uL : List BA) (uM : List NodeT) (wB : List BA) (wK : List BA) (wL : List NodeT) (wF : List BA) (wG : List NodeT) (uB : List BA) (uC : List NodeT) (uD : List BA) (uE : List NodeT) (wS : List (List BA)) (uG : List (List BA)) : ∀ (m : Nat) (uF : Int), iter (fun st k => ev f7e f7k n (cAt [1,1,1,1,1,1,1,1,1,1,1,1,1,1,0,1,0,0] f7c) st k) m (f7S0 wA wU uH uF uI uJ uK wH wI wJ wC wD wE wV wW wX wY wZ uA uL uM wB wK wL wF wG uB uC uD uE wS uG) k' = f7L0 n (k' .ret (f7S1 false)) (fun (uQ : Int) (uR : Bool) => k' (.exit 0) (f7S2 wA wU uH uQ uR uI uJ uK wH wI wJ wC wD wE wV wW wX wY wZ uA uL uM wB wK wL wF wG uB uC uD uE wS uG)) wA wU uH uI uJ uK wH wI wJ wC wD wE wV wW wX wY wZ uA uL uM wB wK wL wF wG uB uC uD uE wS uG m uF := by
 intro m; induction m with
 | zero => intros; rfl
 | succ m ih =>
  intro uF
  simp only [iter]
  rw [f7L0_b]
  simp only [ih, f7L0]
noncomputable def f7L1 {R : Type} (n : Nat) (x0 : Option R) (x1 : Int → Bool → Option R) (wM : Int) (wN : Int) (wO : BA) (wP : List BA) (wQ : List NodeT) (wR : List BA) (wT : List (List BA)) : Nat → Int → Option R
  | 0, _ => none
  | m + 1, uN =>
    (cond (decide (uN < (wT.length : Int)))
   (cond ((decide ((0 : Int) ≤ uN)) && (decide (uN < (wT.length : Int))))
    (cond ((fun (x : NodeT) (y : List BA) => sm_node x && smL smStr y) (⟨wM, wN, wO, wP, wQ⟩ : NodeT) (atI (t := (.sl .str)) wT (Int.toNat uN)))
     (cond (!((atPtr (⟨wM, wN, wO, wP, wQ⟩ : NodeT) (atI (t := (.sl .str)) wT (Int.toNat uN))).2))
      (x0)
      (f7L1 n x0 x1 wM wN wO wP wQ wR wT m (IntKind.wrap .i64 (uN + (1 : Int)))))
     none)
    none)
   (x1 uN (decide (uN < (wT.length : Int)))))
theorem f7L1_b {R : Type} (n : Nat) (k' : Ex → St → Option R) (uN : Int) (wM : Int) (wN : Int) (wO : BA) (wP : List BA) (wQ : List NodeT) (wR : List BA) (wT : List (List BA)) : ev f7e f7k n (cAt [1,1,1,1,1,1,1,1,1,1,1,1,1,1,1,1,1,1,1,0,1,0,0] f7c) (f7S3 uN wM wN wO wP wQ wR wT) k' =
 (cond (decide (uN < (wT.length : Int)))
 (cond ((decide ((0 : Int) ≤ uN)) && (decide (uN < (wT.length : Int))))
 (cond ((fun (x : NodeT) (y : List BA) => sm_node x && smL smStr y) (⟨wM, wN, wO, wP, wQ⟩ : NodeT) (atI (t := (.sl .str)) wT (Int.toNat uN)))
 (cond (!((atPtr (⟨wM, wN, wO, wP, wQ⟩ : NodeT) (atI (t := (.sl .str)) wT (Int.toNat uN))).2))
 (k' .ret (f7S1 false))
 (k' .normal (f7S3 (IntKind.wrap .i64 (uN + (1 : Int))) wM wN wO wP wQ wR wT)))
 none)
 none)
 (k' (.exit 2) (f7S4 uN (decide (uN < (wT.length : Int))) wM wN wO wP wQ wR wT))) := by kernel_rfl
theorem f7L1_eq {R : Type} (n : Nat) (k' : Ex → St → Option R) (wM : Int) (wN : Int) (wO : BA) (wP : List BA) (wQ : List NodeT) (wR : List BA) (wT : List (List BA)) : ∀ (m : Nat) (uN : Int), iter (fun st k => ev f7e f7k n (cAt [1,1,1,1,1,1,1,1,1,1,1,1,1,1,1,1,1,1,1,0,1,0,0] f7c) st k) m (f7S3 uN wM wN wO wP wQ wR wT) k' = f7L1 n (k' .ret (f7S1 false)) (fun (uS : Int) (uT : Bool) => k' (.exit 2) (f7S4 uS uT wM wN wO wP wQ wR wT)) wM wN wO wP wQ wR wT m uN := by
 intro m; induction m with
 | zero => intros; rfl
 | succ m ih =>
  intro uN
  simp only [iter]
  rw [f7L1_b]
  simp only [ih, f7L1]
noncomputable def f7J9 {R : Type} (n : Nat) (k : List Dt → Option R) (a0 : List Int) (uZ : Bool) : Option R :=
 (k [.d .bool uZ])
theorem f7J9_eq {R : Type} (n : Nat) (k : List Dt → Option R) (a0 : List Int) (uZ : Bool) : ev f7e f7k n (cAt [1,1,1,1,1,1,1,1,1,1,1,1,1,1,1,1,1,1,1,1,1,1,1] f7c) (f7S1 uZ) (exitK f7e [.kp] [false] true [.tmp 2] [4] [.d (.sl (.i .u8)) a0] k) = f7J9 n k a0  uZ := by
 kernel_rfl
theorem f7J8_a {R : Type} (n : Nat) (k' : Ex → St → Option R) (uO : Bool) (uP : Bool) (wR : List BA) : ev f7e f7k n (cAt [1,1,1,1,1,1,1,1,1,1,1,1,1,1,1,1,1,1,1,1,1,1,0] f7c) (f7S5 uO uP wR) k' =
 (cond uO
 (k' .normal (f7S1 (uP == (decide ((wR.length : Int) > (0 : Int))))))
 (k' .normal (f7S1 (uP == false)))) := by kernel_rfl
noncomputable def f7J8 {R : Type} (n : Nat) (k : List Dt → Option R) (a0 : List Int) (uO : Bool) (uP : Bool) (wR : List BA) : Option R :=
 (cond uO
 (f7J9 n k a0 (uP == (decide ((wR.length : Int) > (0 : Int)))))
 (f7J9 n k a0 (uP == false)))
theorem f7J8_eq {R : Type} (n : Nat) (k : List Dt → Option R) (a0 : List Int) (uO : Bool) (uP : Bool) (wR : List BA) : ev f7e f7k n (cAt [1,1,1,1,1,1,1,1,1,1,1,1,1,1,1,1,1,1,1,1,1,1] f7c) (f7S5 uO uP wR) (exitK f7e [.kp] [false] true [.tmp 2] [4] [.d (.sl (.i .u8)) a0] k) = f7J8 n k a0  uO uP wR := by
 rw [show (cAt [1,1,1,1,1,1,1,1,1,1,1,1,1,1,1,1,1,1,1,1,1,1] f7c) = .seq (cAt [1,1,1,1,1,1,1,1,1,1,1,1,1,1,1,1,1,1,1,1,1,1,0] f7c) (cAt [1,1,1,1,1,1,1,1,1,1,1,1,1,1,1,1,1,1,1,1,1,1,1] f7c) from by kernel_rfl, ev_seq, f7J8_a]
 simp only [seqK_n, seqK_r, f7J9_eq, f7J8]
theorem f7J7_a {R : Type} (n : Nat) (k' : Ex → St → Option R) (uO : Bool) (wM : Int) (wN : Int) (wO : BA) (wP : List BA) (wQ : List NodeT) (wR : List BA) : ev f7e f7k n (cAt [1,1,1,1,1,1,1,1,1,1,1,1,1,1,1,1,1,1,1,1,1,0] f7c) (f7S6 uO wM wN wO wP wQ wR) k' =
 (cond ((fun (x : NodeT) (y : List BA) => sm_node x && smL smStr y) (⟨wM, wN, wO, wP, wQ⟩ : NodeT) wR)
 (k' .normal (f7S5 uO ((cutPtr (⟨wM, wN, wO, wP, wQ⟩ : NodeT) wR).2) wR))
 none) := by kernel_rfl
noncomputable def f7J7 {R : Type} (n : Nat) (k : List Dt → Option R) (a0 : List Int) (uO : Bool) (wM : Int) (wN : Int) (wO : BA) (wP : List BA) (wQ : List NodeT) (wR : List BA) : Option R :=
 (cond ((fun (x : NodeT) (y : List BA) => sm_node x && smL smStr y) (⟨wM, wN, wO, wP, wQ⟩ : NodeT) wR)
 (f7J8 n k a0 uO ((cutPtr (⟨wM, wN, wO, wP, wQ⟩ : NodeT) wR).2) wR)
 none)
theorem f7J7_eq {R : Type} (n : Nat) (k : List Dt → Option R) (a0 : List Int) (uO : Bool) (wM : Int) (wN : Int) (wO : BA) (wP : List BA) (wQ : List NodeT) (wR : List BA) : ev f7e f7k n (cAt [1,1,1,1,1,1,1,1,1,1,1,1,1,1,1,1,1,1,1,1,1] f7c) (f7S6 uO wM wN wO wP wQ wR) (exitK f7e [.kp] [false] true [.tmp 2] [4] [.d (.sl (.i .u8)) a0] k) = f7J7 n k a0  uO wM wN wO wP wQ wR := by
 rw [show (cAt [1,1,1,1,1,1,1,1,1,1,1,1,1,1,1,1,1,1,1,1,1] f7c) = .seq (cAt [1,1,1,1,1,1,1,1,1,1,1,1,1,1,1,1,1,1,1,1,1,0] f7c) (cAt [1,1,1,1,1,1,1,1,1,1,1,1,1,1,1,1,1,1,1,1,1,1] f7c) from by kernel_rfl, ev_seq, f7J7_a]
 simp only [seqK_n, seqK_r, f7J8_eq, f7J7]
theorem f7J6_a {R : Type} (n : Nat) (k' : Ex → St → Option R) (uN : Int) (uU : Bool) (wM : Int) (wN : Int) (wO : BA) (wP : List BA) (wQ : List NodeT) (wR : List BA) (wT : List (List BA)) : ev f7e f7k n (cAt [1,1,1,1,1,1,1,1,1,1,1,1,1,1,1,1,1,1,1,1,0] f7c) (f7S4 uN uU wM wN wO wP wQ wR wT) k' =
 (cond ((fun (x : NodeT) (y : List BA) => sm_node x && smL smStr y) (⟨wM, wN, wO, wP, wQ⟩ : NodeT) wR)
 (k' .normal (f7S6 ((atPtr (⟨wM, wN, wO, wP, wQ⟩ : NodeT) wR).2) wM wN wO wP wQ wR))
 none) := by kernel_rfl
noncomputable def f7J6 {R : Type} (n : Nat) (k : List Dt → Option R) (a0 : List Int) (uN : Int) (uU : Bool) (wM : Int) (wN : Int) (wO : BA) (wP : List BA) (wQ : List NodeT) (wR : List BA) (wT : List (List BA)) : Option R :=
 (cond ((fun (x : NodeT) (y : List BA) => sm_node x && smL smStr y) (⟨wM, wN, wO, wP, wQ⟩ : NodeT) wR)
 (f7J7 n k a0 ((atPtr (⟨wM, wN, wO, wP, wQ⟩ : NodeT) wR).2) wM wN wO wP wQ wR)
 none)
theorem f7J6_eq {R : Type} (n : Nat) (k : List Dt → Option R) (a0 : List Int) (uN : Int) (uU : Bool) (wM : Int) (wN : Int) (wO : BA) (wP : List BA) (wQ : List NodeT) (wR : List BA) (wT : List (List BA)) : ev f7e f7k n (cAt [1,1,1,1,1,1,1,1,1,1,1,1,1,1,1,1,1,1,1,1] f7c) (f7S4 uN uU wM wN wO wP wQ wR wT) (exitK f7e [.kp] [false] true [.tmp 2] [4] [.d (.sl (.i .u8)) a0] k) = f7J6 n k a0  uN uU wM wN wO wP wQ wR wT := by
 rw [show (cAt [1,1,1,1,1,1,1,1,1,1,1,1,1,1,1,1,1,1,1,1] f7c) = .seq (cAt [1,1,1,1,1,1,1,1,1,1,1,1,1,1,1,1,1,1,1,1,0] f7c) (cAt [1,1,1,1,1,1,1,1,1,1,1,1,1,1,1,1,1,1,1,1,1] f7c) from by kernel_rfl, ev_seq, f7J6_a]
 simp only [seqK_n, seqK_r, f7J7_eq, f7J6]
noncomputable def f7K3 {R : Type} (n : Nat) (k' : Ex → St → Option R) : Ex → St → Option R := (blockK 2 (seqK f7e f7k n (cAt [1,1,1,1,1,1,1,1,1,1,1,1,1,1,1,1,1,1,1,1] f7c) k'))
theorem f7K3_x0 {R : Type} (n : Nat) (k : List Dt → Option R) (a0 : List Int)  : f7K3 n (exitK f7e [.kp] [false] true [.tmp 2] [4] [.d (.sl (.i .u8)) a0] k) .ret (f7S1 false) =
 (k [.d .bool false]) := by kernel_rfl
theorem f7K3_x1 {R : Type} (n : Nat) (k : List Dt → Option R) (a0 : List Int) (wM : Int) (wN : Int) (wO : BA) (wP : List BA) (wQ : List NodeT) (wR : List BA) (wT : List (List BA)) (uS : Int) (uT : Bool) : f7K3 n (exitK f7e [.kp] [false] true [.tmp 2] [4] [.d (.sl (.i .u8)) a0] k) (.exit 2) (f7S4 uS uT wM wN wO wP wQ wR wT) =
 (f7J6 n k a0 uS uT wM wN wO wP wQ wR wT) := by
 refine Eq.trans (b := (ev f7e f7k n (cAt [1,1,1,1,1,1,1,1,1,1,1,1,1,1,1,1,1,1,1,1] f7c) (f7S4 uS uT wM wN wO wP wQ wR wT) (exitK f7e [.kp] [false] true [.tmp 2] [4] [.d (.sl (.i .u8)) a0] k))) (by first | (simp only [f7K3, blockK_e, blockK_n, blockK_r, seqK_n, seqK_r, seqK_e]; done) | kernel_rfl) ?_
 simp only [f7J6_eq]
noncomputable def f7J5 {R : Type} (n : Nat) (k : List Dt → Option R) (a0 : List Int) (wM : Int) (wN : Int) (wO : BA) (wP : List BA) (wQ : List NodeT) (wR : List BA) (wT : List (List BA)) : Option R :=
 (f7L1 n (k [.d .bool false]) (fun (uS : Int) (uT : Bool) =>
 (f7J6 n k a0 uS uT wM wN wO wP wQ wR wT)) wM wN wO wP wQ wR wT n (0 : Int))
theorem f7J5_eq {R : Type} (n : Nat) (k : List Dt → Option R) (a0 : List Int) (wM : Int) (wN : Int) (wO : BA) (wP : List BA) (wQ : List NodeT) (wR : List BA) (wT : List (List BA)) : ev f7e f7k n (cAt [1,1,1,1,1,1,1,1,1,1,1,1,1,1,1,1,1,1,1] f7c) (f7S7 wM wN wO wP wQ wR wT) (exitK f7e [.kp] [false] true [.tmp 2] [4] [.d (.sl (.i .u8)) a0] k) = f7J5 n k a0  wM wN wO wP wQ wR wT := by
 unfold f7J5
 refine Eq.trans (b := (iter (fun st k => ev f7e f7k n (cAt [1,1,1,1,1,1,1,1,1,1,1,1,1,1,1,1,1,1,1,0,1,0,0] f7c) st k) n (f7S3 (0 : Int) wM wN wO wP wQ wR wT) (f7K3 n (exitK f7e [.kp] [false] true [.tmp 2] [4] [.d (.sl (.i .u8)) a0] k)))) (by kernel_rfl) ?_
 simp only [f7L1_eq, f7K3_x0, f7K3_x1, f7J6_eq]
theorem f7J4_a {R : Type} (n : Nat) (k' : Ex → St → Option R) (wM : Int) (wN : Int) (wO : BA) (wP : List BA) (wQ : List NodeT) (wR : List BA) : ev f7e f7k n (cAt [1,1,1,1,1,1,1,1,1,1,1,1,1,1,1,1,1,1,0] f7c) (f7S8 wM wN wO wP wQ wR) k' =
 (cond (gPt (⟨wM, wN, wO, wP, wQ⟩ : NodeT))
 (k' .normal (f7S7 wM wN wO wP wQ wR (allPtrs (⟨wM, wN, wO, wP, wQ⟩ : NodeT))))
 none) := by kernel_rfl
noncomputable def f7J4 {R : Type} (n : Nat) (k : List Dt → Option R) (a0 : List Int) (wM : Int) (wN : Int) (wO : BA) (wP : List BA) (wQ : List NodeT) (wR : List BA) : Option R :=
 (cond (gPt (⟨wM, wN, wO, wP, wQ⟩ : NodeT))
 (f7J5 n k a0 wM wN wO wP wQ wR (allPtrs (⟨wM, wN, wO, wP, wQ⟩ : NodeT)))
 none)
theorem f7J4_eq {R : Type} (n : Nat) (k : List Dt → Option R) (a0 : List Int) (wM : Int) (wN : Int) (wO : BA) (wP : List BA) (wQ : List NodeT) (wR : List BA) : ev f7e f7k n (cAt [1,1,1,1,1,1,1,1,1,1,1,1,1,1,1,1,1,1] f7c) (f7S8 wM wN wO wP wQ wR) (exitK f7e [.kp] [false] true [.tmp 2] [4] [.d (.sl (.i .u8)) a0] k) = f7J4 n k a0  wM wN wO wP wQ wR := by
 rw [show (cAt [1,1,1,1,1,1,1,1,1,1,1,1,1,1,1,1,1,1] f7c) = .seq (cAt [1,1,1,1,1,1,1,1,1,1,1,1,1,1,1,1,1,1,0] f7c) (cAt [1,1,1,1,1,1,1,1,1,1,1,1,1,1,1,1,1,1,1] f7c) from by kernel_rfl, ev_seq, f7J4_a]
 simp only [seqK_n, seqK_r, f7J5_eq, f7J4]
theorem f7J3_a {R : Type} (n : Nat) (k' : Ex → St → Option R) (wA : List Int) (uV : Bool) : ev f7e f7k n (cAt [1,1,1,1,1,1,1,1,1,1,1,1,1,1,1,1,1,0] f7c) (f7S9 wA uV) k' =
 (cond (gCode wA)
 (k' .normal (f7S8 (NodeT.kind ((tDrawn wA).1)) (NodeT.n ((tDrawn wA).1)) (NodeT.s ((tDrawn wA).1)) (NodeT.keys ((tDrawn wA).1)) (NodeT.kids ((tDrawn wA).1)) ((tDrawn wA).2.1)))
 none) := by kernel_rfl
noncomputable def f7J3 {R : Type} (n : Nat) (k : List Dt → Option R) (a0 : List Int) (wA : List Int) (uV : Bool) : Option R :=
 (cond (gCode wA)
 (f7J4 n k a0 (NodeT.kind ((tDrawn wA).1)) (NodeT.n ((tDrawn wA).1)) (NodeT.s ((tDrawn wA).1)) (NodeT.keys ((tDrawn wA).1)) (NodeT.kids ((tDrawn wA).1)) ((tDrawn wA).2.1))
 none)
theorem f7J3_eq {R : Type} (n : Nat) (k : List Dt → Option R) (a0 : List Int) (wA : List Int) (uV : Bool) : ev f7e f7k n (cAt [1,1,1,1,1,1,1,1,1,1,1,1,1,1,1,1,1] f7c) (f7S9 wA uV) (exitK f7e [.kp] [false] true [.tmp 2] [4] [.d (.sl (.i .u8)) a0] k) = f7J3 n k a0  wA uV := by
 rw [show (cAt [1,1,1,1,1,1,1,1,1,1,1,1,1,1,1,1,1] f7c) = .seq (cAt [1,1,1,1,1,1,1,1,1,1,1,1,1,1,1,1,1,0] f7c) (cAt [1,1,1,1,1,1,1,1,1,1,1,1,1,1,1,1,1,1] f7c) from by kernel_rfl, ev_seq, f7J3_a]
 simp only [seqK_n, seqK_r, f7J4_eq, f7J3]
theorem f7J10_a {R : Type} (n : Nat) (k' : Ex → St → Option R) (wA : List Int) (uW : Bool) (wH : Int) (wI : Int) (wJ : BA) (wC : Int) (wD : Int) (wE : BA) (wB : List BA) (wK : List BA) (wL : List NodeT) (wF : List BA) (wG : List NodeT) : ev f7e f7k n (cAt [1,1,1,1,1,1,1,1,1,1,1,1,1,1,1,1,1,0] f7c) (f7S10 wA uW wH wI wJ wC wD wE wB wK wL wF wG) k' =
 (cond (gCode wA)
 (k' .normal (f7S8 (NodeT.kind ((tDrawn wA).1)) (NodeT.n ((tDrawn wA).1)) (NodeT.s ((tDrawn wA).1)) (NodeT.keys ((tDrawn wA).1)) (NodeT.kids ((tDrawn wA).1)) ((tDrawn wA).2.1)))
 none) := by kernel_rfl
noncomputable def f7J10 {R : Type} (n : Nat) (k : List Dt → Option R) (a0 : List Int) (wA : List Int) (uW : Bool) (wH : Int) (wI : Int) (wJ : BA) (wC : Int) (wD : Int) (wE : BA) (wB : List BA) (wK : List BA) (wL : List NodeT) (wF : List BA) (wG : List NodeT) : Option R :=
 (cond (gCode wA)
 (f7J4 n k a0 (NodeT.kind ((tDrawn wA).1)) (NodeT.n ((tDrawn wA).1)) (NodeT.s ((tDrawn wA).1)) (NodeT.keys ((tDrawn wA).1)) (NodeT.kids ((tDrawn wA).1)) ((tDrawn wA).2.1))
 none)
theorem f7J10_eq {R : Type} (n : Nat) (k : List Dt → Option R) (a0 : List Int) (wA : List Int) (uW : Bool) (wH : Int) (wI : Int) (wJ : BA) (wC : Int) (wD : Int) (wE : BA) (wB : List BA) (wK : List BA) (wL : List NodeT) (wF : List BA) (wG : List NodeT) : ev f7e f7k n (cAt [1,1,1,1,1,1,1,1,1,1,1,1,1,1,1,1,1] f7c) (f7S10 wA uW wH wI wJ wC wD wE wB wK wL wF wG) (exitK f7e [.kp] [false] true [.tmp 2] [4] [.d (.sl (.i .u8)) a0] k) = f7J10 n k a0  wA uW wH wI wJ wC wD wE wB wK wL wF wG := by
 rw [show (cAt [1,1,1,1,1,1,1,1,1,1,1,1,1,1,1,1,1] f7c) = .seq (cAt [1,1,1,1,1,1,1,1,1,1,1,1,1,1,1,1,1,0] f7c) (cAt [1,1,1,1,1,1,1,1,1,1,1,1,1,1,1,1,1,1] f7c) from by kernel_rfl, ev_seq, f7J10_a]
 simp only [seqK_n, seqK_r, f7J4_eq, f7J10]
theorem f7J2_a {R : Type} (n : Nat) (k' : Ex → St → Option R) (wA : List Int) (wU : Bool) (uX : Bool) (wH : Int) (wI : Int) (wJ : BA) (wC : Int) (wD : Int) (wE : BA) (wB : List BA) (wK : List BA) (wL : List NodeT) (wF : List BA) (wG : List NodeT) : ev f7e f7k n (cAt [1,1,1,1,1,1,1,1,1,1,1,1,1,1,1,1,0] f7c) (f7S11 wA wU uX wH wI wJ wC wD wE wB wK wL wF wG) k' =
 (cond wU
 (cond ((wB.length : Int) == (0 : Int))
 (cond ((fun (x : NodeT) (y : List BA) => sm_node x && smL smStr y) (⟨wC, wD, wE, wF, wG⟩ : NodeT) wB)
 (cond (!((atPtr (⟨wC, wD, wE, wF, wG⟩ : NodeT) wB).2))
 (k' .ret (f7S1 false))
 (cond (sm2 sm_node (eN ((atPtr (⟨wC, wD, wE, wF, wG⟩ : NodeT) wB).1)) (⟨wH, wI, wJ, wK, wL⟩ : NodeT))
 (cond (!(eqD (eN ((atPtr (⟨wC, wD, wE, wF, wG⟩ : NodeT) wB).1)) (⟨wH, wI, wJ, wK, wL⟩ : NodeT)))
 (k' .ret (f7S1 false))
 (k' .normal (f7S9 wA (!(eqD (eN ((atPtr (⟨wC, wD, wE, wF, wG⟩ : NodeT) wB).1)) (⟨wH, wI, wJ, wK, wL⟩ : NodeT))))))
 none))
 none)
 (cond ((decide ((0 : Int) ≤ (IntKind.wrap .i64 ((wB.length : Int) - (1 : Int))))) && (decide ((IntKind.wrap .i64 ((wB.length : Int) - (1 : Int))) < (wB.length : Int))))
 (cond (!(sEq (atI (t := .str) wB (Int.toNat (IntKind.wrap .i64 ((wB.length : Int) - (1 : Int))))) (bs [45])))
 (cond ((fun (x : NodeT) (y : List BA) => sm_node x && smL smStr y) (⟨wC, wD, wE, wF, wG⟩ : NodeT) wB)
 (cond (!((atPtr (⟨wC, wD, wE, wF, wG⟩ : NodeT) wB).2))
 (k' .ret (f7S1 false))
 (cond (sm2 sm_node (eN ((atPtr (⟨wC, wD, wE, wF, wG⟩ : NodeT) wB).1)) (⟨wH, wI, wJ, wK, wL⟩ : NodeT))
 (cond (!(eqD (eN ((atPtr (⟨wC, wD, wE, wF, wG⟩ : NodeT) wB).1)) (⟨wH, wI, wJ, wK, wL⟩ : NodeT)))
 (k' .ret (f7S1 false))
 (k' .normal (f7S9 wA (!(eqD (eN ((atPtr (⟨wC, wD, wE, wF, wG⟩ : NodeT) wB).1)) (⟨wH, wI, wJ, wK, wL⟩ : NodeT))))))
 none))
 none)
 (k' .normal (f7S10 wA (!(sEq (atI (t := .str) wB (Int.toNat (IntKind.wrap .i64 ((wB.length : Int) - (1 : Int))))) (bs [45]))) wH wI wJ wC wD wE wB wK wL wF wG)))
 none))
 (k' .normal (f7S10 wA false wH wI wJ wC wD wE wB wK wL wF wG))) := by kernel_rfl
theorem f7J2_r0 {R : Type} (k : List Dt → Option R) (a0 : List Int) : (exitK f7e [.kp] [false] true [.tmp 2] [4] [.d (.sl (.i .u8)) a0] k) .ret (f7S1 false) =
 (k [.d .bool false]) := by kernel_rfl
theorem f7J2_r1 {R : Type} (k : List Dt → Option R) (a0 : List Int) : (exitK f7e [.kp] [false] true [.tmp 2] [4] [.d (.sl (.i .u8)) a0] k) .ret (f7S1 false) =
 (k [.d .bool false]) := by kernel_rfl
theorem f7J2_r2 {R : Type} (k : List Dt → Option R) (a0 : List Int) : (exitK f7e [.kp] [false] true [.tmp 2] [4] [.d (.sl (.i .u8)) a0] k) .ret (f7S1 false) =
 (k [.d .bool false]) := by kernel_rfl
theorem f7J2_r3 {R : Type} (k : List Dt → Option R) (a0 : List Int) : (exitK f7e [.kp] [false] true [.tmp 2] [4] [.d (.sl (.i .u8)) a0] k) .ret (f7S1 false) =
 (k [.d .bool false]) := by kernel_rfl
noncomputable def f7J2 {R : Type} (n : Nat) (k : List Dt → Option R) (a0 : List Int) (wA : List Int) (wU : Bool) (uX : Bool) (wH : Int) (wI : Int) (wJ : BA) (wC : Int) (wD : Int) (wE : BA) (wB : List BA) (wK : List BA) (wL : List NodeT) (wF : List BA) (wG : List NodeT) : Option R :=
 (cond wU
 (cond ((wB.length : Int) == (0 : Int))
 (cond ((fun (x : NodeT) (y : List BA) => sm_node x && smL smStr y) (⟨wC, wD, wE, wF, wG⟩ : NodeT) wB)
 (cond (!((atPtr (⟨wC, wD, wE, wF, wG⟩ : NodeT) wB).2))
 (k [.d .bool false])
 (cond (sm2 sm_node (eN ((atPtr (⟨wC, wD, wE, wF, wG⟩ : NodeT) wB).1)) (⟨wH, wI, wJ, wK, wL⟩ : NodeT))
 (cond (!(eqD (eN ((atPtr (⟨wC, wD, wE, wF, wG⟩ : NodeT) wB).1)) (⟨wH, wI, wJ, wK, wL⟩ : NodeT)))
 (k [.d .bool false])
 (f7J3 n k a0 wA (!(eqD (eN ((atPtr (⟨wC, wD, wE, wF, wG⟩ : NodeT) wB).1)) (⟨wH, wI, wJ, wK, wL⟩ : NodeT)))))
 none))
 none)
 (cond ((decide ((0 : Int) ≤ (IntKind.wrap .i64 ((wB.length : Int) - (1 : Int))))) && (decide ((IntKind.wrap .i64 ((wB.length : Int) - (1 : Int))) < (wB.length : Int))))
 (cond (!(sEq (atI (t := .str) wB (Int.toNat (IntKind.wrap .i64 ((wB.length : Int) - (1 : Int))))) (bs [45])))
 (cond ((fun (x : NodeT) (y : List BA) => sm_node x && smL smStr y) (⟨wC, wD, wE, wF, wG⟩ : NodeT) wB)
 (cond (!((atPtr (⟨wC, wD, wE, wF, wG⟩ : NodeT) wB).2))
 (k [.d .bool false])
 (cond (sm2 sm_node (eN ((atPtr (⟨wC, wD, wE, wF, wG⟩ : NodeT) wB).1)) (⟨wH, wI, wJ, wK, wL⟩ : NodeT))
 (cond (!(eqD (eN ((atPtr (⟨wC, wD, wE, wF, wG⟩ : NodeT) wB).1)) (⟨wH, wI, wJ, wK, wL⟩ : NodeT)))
 (k [.d .bool false])
 (f7J3 n k a0 wA (!(eqD (eN ((atPtr (⟨wC, wD, wE, wF, wG⟩ : NodeT) wB).1)) (⟨wH, wI, wJ, wK, wL⟩ : NodeT)))))
 none))
 none)
 (f7J10 n k a0 wA (!(sEq (atI (t := .str) wB (Int.toNat (IntKind.wrap .i64 ((wB.length : Int) - (1 : Int))))) (bs [45]))) wH wI wJ wC wD wE wB wK wL wF wG))
 none))
 (f7J10 n k a0 wA false wH wI wJ wC wD wE wB wK wL wF wG))
theorem f7J2_eq {R : Type} (n : Nat) (k : List Dt → Option R) (a0 : List Int) (wA : List Int) (wU : Bool) (uX : Bool) (wH : Int) (wI : Int) (wJ : BA) (wC : Int) (wD : Int) (wE : BA) (wB : List BA) (wK : List BA) (wL : List NodeT) (wF : List BA) (wG : List NodeT) : ev f7e f7k n (cAt [1,1,1,1,1,1,1,1,1,1,1,1,1,1,1,1] f7c) (f7S11 wA wU uX wH wI wJ wC wD wE wB wK wL wF wG) (exitK f7e [.kp] [false] true [.tmp 2] [4] [.d (.sl (.i .u8)) a0] k) = f7J2 n k a0  wA wU uX wH wI wJ wC wD wE wB wK wL wF wG := by
 rw [show (cAt [1,1,1,1,1,1,1,1,1,1,1,1,1,1,1,1] f7c) = .seq (cAt [1,1,1,1,1,1,1,1,1,1,1,1,1,1,1,1,0] f7c) (cAt [1,1,1,1,1,1,1,1,1,1,1,1,1,1,1,1,1] f7c) from by kernel_rfl, ev_seq, f7J2_a]
 simp only [seqK_n, seqK_r, f7J2_r0, f7J2_r1, f7J2_r2, f7J2_r3, f7J3_eq, f7J10_eq, f7J2]
theorem f7J1_a {R : Type} (n : Nat) (k' : Ex → St → Option R) (wA : List Int) (wU : Bool) (uH : Bool) (uF : Int) (uY : Bool) (uI : Int) (uJ : Int) (uK : BA) (wH : Int) (wI : Int) (wJ : BA) (wC : Int) (wD : Int) (wE : BA) (wV : Int) (wW : Int) (wX : BA) (wY : Int) (wZ : Int) (uA : BA) (uL : List BA) (uM : List NodeT) (wB : List BA) (wK : List BA) (wL : List NodeT) (wF : List BA) (wG : List NodeT) (uB : List BA) (uC : List NodeT) (uD : List BA) (uE : List NodeT) (wS : List (List BA)) (uG : List (List BA)) : ev f7e f7k n (cAt [1,1,1,1,1,1,1,1,1,1,1,1,1,1,1,0] f7c) (f7S2 wA wU uH uF uY uI uJ uK wH wI wJ wC wD wE wV wW wX wY wZ uA uL uM wB wK wL wF wG uB uC uD uE wS uG) k' =
 (cond (!wU)
 (cond (sm2 sm_node (⟨wC, wD, wE, wF, wG⟩ : NodeT) (⟨uI, uJ, uK, uL, uM⟩ : NodeT))
 (cond (!(eqD (⟨wC, wD, wE, wF, wG⟩ : NodeT) (⟨uI, uJ, uK, uL, uM⟩ : NodeT)))
 (k' .ret (f7S1 false))
 (cond (!uH)
 (cond (sm2 sm_node (⟨wY, wZ, uA, uD, uE⟩ : NodeT) (⟨wV, wW, wX, uB, uC⟩ : NodeT))
 (cond (!(eqD (⟨wY, wZ, uA, uD, uE⟩ : NodeT) (⟨wV, wW, wX, uB, uC⟩ : NodeT)))
 (k' .ret (f7S1 false))
 (k' .normal (f7S11 wA wU (!(eqD (⟨wY, wZ, uA, uD, uE⟩ : NodeT) (⟨wV, wW, wX, uB, uC⟩ : NodeT))) wH wI wJ wC wD wE wB wK wL wF wG)))
 none)
 (k' .normal (f7S11 wA wU false wH wI wJ wC wD wE wB wK wL wF wG))))
 none)
 (cond (!uH)
 (cond (sm2 sm_node (⟨wY, wZ, uA, uD, uE⟩ : NodeT) (⟨wV, wW, wX, uB, uC⟩ : NodeT))
 (cond (!(eqD (⟨wY, wZ, uA, uD, uE⟩ : NodeT) (⟨wV, wW, wX, uB, uC⟩ : NodeT)))
 (k' .ret (f7S1 false))
 (k' .normal (f7S11 wA wU (!(eqD (⟨wY, wZ, uA, uD, uE⟩ : NodeT) (⟨wV, wW, wX, uB, uC⟩ : NodeT))) wH wI wJ wC wD wE wB wK wL wF wG)))
 none)
 (k' .normal (f7S11 wA wU false wH wI wJ wC wD wE wB wK wL wF wG)))) := by kernel_rfl
theorem f7J1_r0 {R : Type} (k : List Dt → Option R) (a0 : List Int) : (exitK f7e [.kp] [false] true [.tmp 2] [4] [.d (.sl (.i .u8)) a0] k) .ret (f7S1 false) =
 (k [.d .bool false]) := by kernel_rfl
theorem f7J1_r1 {R : Type} (k : List Dt → Option R) (a0 : List Int) : (exitK f7e [.kp] [false] true [.tmp 2] [4] [.d (.sl (.i .u8)) a0] k) .ret (f7S1 false) =
 (k [.d .bool false]) := by kernel_rfl
theorem f7J1_r2 {R : Type} (k : List Dt → Option R) (a0 : List Int) : (exitK f7e [.kp] [false] true [.tmp 2] [4] [.d (.sl (.i .u8)) a0] k) .ret (f7S1 false) =
 (k [.d .bool false]) := by kernel_rfl
noncomputable def f7J1 {R : Type} (n : Nat) (k : List Dt → Option R) (a0 : List Int) (wA : List Int) (wU : Bool) (uH : Bool) (uF : Int) (uY : Bool) (uI : Int) (uJ : Int) (uK : BA) (wH : Int) (wI : Int) (wJ : BA) (wC : Int) (wD : Int) (wE : BA) (wV : Int) (wW : Int) (wX : BA) (wY : Int) (wZ : Int) (uA : BA) (uL : List BA) (uM : List NodeT) (wB : List BA) (wK : List BA) (wL : List NodeT) (wF : List BA) (wG : List NodeT) (uB : List BA) (uC : List NodeT) (uD : List BA) (uE : List NodeT) (wS : List (List BA)) (uG : List (List BA)) : Option R :=
 (cond (!wU)
 (cond (sm2 sm_node (⟨wC, wD, wE, wF, wG⟩ : NodeT) (⟨uI, uJ, uK, uL, uM⟩ : NodeT))
 (cond (!(eqD (⟨wC, wD, wE, wF, wG⟩ : NodeT) (⟨uI, uJ, uK, uL, uM⟩ : NodeT)))
 (k [.d .bool false])
 (cond (!uH)
 (cond (sm2 sm_node (⟨wY, wZ, uA, uD, uE⟩ : NodeT) (⟨wV, wW, wX, uB, uC⟩ : NodeT))
 (cond (!(eqD (⟨wY, wZ, uA, uD, uE⟩ : NodeT) (⟨wV, wW, wX, uB, uC⟩ : NodeT)))
 (k [.d .bool false])
 (f7J2 n k a0 wA wU (!(eqD (⟨wY, wZ, uA, uD, uE⟩ : NodeT) (⟨wV, wW, wX, uB, uC⟩ : NodeT))) wH wI wJ wC wD wE wB wK wL wF wG))
 none)
 (f7J2 n k a0 wA wU false wH wI wJ wC wD wE wB wK wL wF wG)))
 none)
 (cond (!uH)
 (cond (sm2 sm_node (⟨wY, wZ, uA, uD, uE⟩ : NodeT) (⟨wV, wW, wX, uB, uC⟩ : NodeT))
 (cond (!(eqD (⟨wY, wZ, uA, uD, uE⟩ : NodeT) (⟨wV, wW, wX, uB, uC⟩ : NodeT)))
 (k [.d .bool false])
 (f7J2 n k a0 wA wU (!(eqD (⟨wY, wZ, uA, uD, uE⟩ : NodeT) (⟨wV, wW, wX, uB, uC⟩ : NodeT))) wH wI wJ wC wD wE wB wK wL wF wG))
 none)
 (f7J2 n k a0 wA wU false wH wI wJ wC wD wE wB wK wL wF wG)))
theorem f7J1_eq {R : Type} (n : Nat) (k : List Dt → Option R) (a0 : List Int) (wA : List Int) (wU : Bool) (uH : Bool) (uF : Int) (uY : Bool) (uI : Int) (uJ : Int) (uK : BA) (wH : Int) (wI : Int) (wJ : BA) (wC : Int) (wD : Int) (wE : BA) (wV : Int) (wW : Int) (wX : BA) (wY : Int) (wZ : Int) (uA : BA) (uL : List BA) (uM : List NodeT) (wB : List BA) (wK : List BA) (wL : List NodeT) (wF : List BA) (wG : List NodeT) (uB : List BA) (uC : List NodeT) (uD : List BA) (uE : List NodeT) (wS : List (List BA)) (uG : List (List BA)) : ev f7e f7k n (cAt [1,1,1,1,1,1,1,1,1,1,1,1,1,1,1] f7c) (f7S2 wA wU uH uF uY uI uJ uK wH wI wJ wC wD wE wV wW wX wY wZ uA uL uM wB wK wL wF wG uB uC uD uE wS uG) (exitK f7e [.kp] [false] true [.tmp 2] [4] [.d (.sl (.i .u8)) a0] k) = f7J1 n k a0  wA wU uH uF uY uI uJ uK wH wI wJ wC wD wE wV wW wX wY wZ uA uL uM wB wK wL wF wG uB uC uD uE wS uG := by
 rw [show (cAt [1,1,1,1,1,1,1,1,1,1,1,1,1,1,1] f7c) = .seq (cAt [1,1,1,1,1,1,1,1,1,1,1,1,1,1,1,0] f7c) (cAt [1,1,1,1,1,1,1,1,1,1,1,1,1,1,1,1] f7c) from by kernel_rfl, ev_seq, f7J1_a]
 simp only [seqK_n, seqK_r, f7J1_r0, f7J1_r1, f7J1_r2, f7J2_eq, f7J1]
noncomputable def f7K1 {R : Type} (n : Nat) (k' : Ex → St → Option R) : Ex → St → Option R := (blockK 0 (seqK f7e f7k n (cAt [1,1,1,1,1,1,1,1,1,1,1,1,1,1,1] f7c) k'))
theorem f7K1_x0 {R : Type} (n : Nat) (k : List Dt → Option R) (a0 : List Int)  : f7K1 n (exitK f7e [.kp] [false] true [.tmp 2] [4] [.d (.sl (.i .u8)) a0] k) .ret (f7S1 false) =
 (k [.d .bool false]) := by kernel_rfl
theorem f7K1_x1 {R : Type} (n : Nat) (k : List Dt → Option R) (a0 : List Int) (wA : List Int) (wU : Bool) (uH : Bool) (uI : Int) (uJ : Int) (uK : BA) (wH : Int) (wI : Int) (wJ : BA) (wC : Int) (wD : Int) (wE : BA) (wV : Int) (wW : Int) (wX : BA) (wY : Int) (wZ : Int) (uA : BA) (uL : List BA) (uM : List NodeT) (wB : List BA) (wK : List BA) (wL : List NodeT) (wF : List BA) (wG : List NodeT) (uB : List BA) (uC : List NodeT) (uD : List BA) (uE : List NodeT) (wS : List (List BA)) (uG : List (List BA)) (uQ : Int) (uR : Bool) : f7K1 n (exitK f7e [.kp] [false] true [.tmp 2] [4] [.d (.sl (.i .u8)) a0] k) (.exit 0) (f7S2 wA wU uH uQ uR uI uJ uK wH wI wJ wC wD wE wV wW wX wY wZ uA uL uM wB wK wL wF wG uB uC uD uE wS uG) =
 (f7J1 n k a0 wA wU uH uQ uR uI uJ uK wH wI wJ wC wD wE wV wW wX wY wZ uA uL uM wB wK wL wF wG uB uC uD uE wS uG) := by
 refine Eq.trans (b := (ev f7e f7k n (cAt [1,1,1,1,1,1,1,1,1,1,1,1,1,1,1] f7c) (f7S2 wA wU uH uQ uR uI uJ uK wH wI wJ wC wD wE wV wW wX wY wZ uA uL uM wB wK wL wF wG uB uC uD uE wS uG) (exitK f7e [.kp] [false] true [.tmp 2] [4] [.d (.sl (.i .u8)) a0] k))) (by first | (simp only [f7K1, blockK_e, blockK_n, blockK_r, seqK_n, seqK_r, seqK_e]; done) | kernel_rfl) ?_
 simp only [f7J1_eq]
noncomputable def f7J0 {R : Type} (n : Nat) (k : List Dt → Option R) (a0 : List Int) (wA : List Int) (wU : Bool) (uH : Bool) (yA : Bool) (uI : Int) (uJ : Int) (uK : BA) (wH : Int) (wI : Int) (wJ : BA) (wC : Int) (wD : Int) (wE : BA) (wV : Int) (wW : Int) (wX : BA) (wY : Int) (wZ : Int) (uA : BA) (uL : List BA) (uM : List NodeT) (wB : List BA) (wK : List BA) (wL : List NodeT) (wF : List BA) (wG : List NodeT) (uB : List BA) (uC : List NodeT) (uD : List BA) (uE : List NodeT) (wS : List (List BA)) (uG : List (List BA)) : Option R :=
 (f7L0 n (k [.d .bool false]) (fun (uQ : Int) (uR : Bool) =>
 (f7J1 n k a0 wA wU uH uQ uR uI uJ uK wH wI wJ wC wD wE wV wW wX wY wZ uA uL uM wB wK wL wF wG uB uC uD uE wS uG)) wA wU uH uI uJ uK wH wI wJ wC wD wE wV wW wX wY wZ uA uL uM wB wK wL wF wG uB uC uD uE wS uG n (0 : Int))
theorem f7J0_eq {R : Type} (n : Nat) (k : List Dt → Option R) (a0 : List Int) (wA : List Int) (wU : Bool) (uH : Bool) (yA : Bool) (uI : Int) (uJ : Int) (uK : BA) (wH : Int) (wI : Int) (wJ : BA) (wC : Int) (wD : Int) (wE : BA) (wV : Int) (wW : Int) (wX : BA) (wY : Int) (wZ : Int) (uA : BA) (uL : List BA) (uM : List NodeT) (wB : List BA) (wK : List BA) (wL : List NodeT) (wF : List BA) (wG : List NodeT) (uB : List BA) (uC : List NodeT) (uD : List BA) (uE : List NodeT) (wS : List (List BA)) (uG : List (List BA)) : ev f7e f7k n (cAt [1,1,1,1,1,1,1,1,1,1,1,1,1,1] f7c) (f7S12 wA wU uH yA uI uJ uK wH wI wJ wC wD wE wV wW wX wY wZ uA uL uM wB wK wL wF wG uB uC uD uE wS uG) (exitK f7e [.kp] [false] true [.tmp 2] [4] [.d (.sl (.i .u8)) a0] k) = f7J0 n k a0  wA wU uH yA uI uJ uK wH wI wJ wC wD wE wV wW wX wY wZ uA uL uM wB wK wL wF wG uB uC uD uE wS uG := by
 unfold f7J0
 refine Eq.trans (b := (iter (fun st k => ev f7e f7k n (cAt [1,1,1,1,1,1,1,1,1,1,1,1,1,1,0,1,0,0] f7c) st k) n (f7S0 wA wU uH (0 : Int) uI uJ uK wH wI wJ wC wD wE wV wW wX wY wZ uA uL uM wB wK wL wF wG uB uC uD uE wS uG) (f7K1 n (exitK f7e [.kp] [false] true [.tmp 2] [4] [.d (.sl (.i .u8)) a0] k)))) (by kernel_rfl) ?_
 simp only [f7L0_eq, f7K1_x0, f7K1_x1, f7J1_eq]
theorem f7_run {R : Type} (n : Nat) (k : List Dt → Option R) (a0 : List Int) : evFn f7e f7k n f7c [.kp] [false] true [.tmp 2] [4] [.d (.sl (.i .u8)) a0] k =
 (cond (bigC a0)
 (k [.d .bool true])
 (cond (gCode a0)
 (cond (gP (eN ((dPut a0).1)) ((dPut a0).2.1) (eN ((dPut a0).2.2)))
 (cond (gP (eN ((dPut a0).1)) ((dPut a0).2.1) (eN ((dPut a0).2.2)))
 (cond (gCode a0)
 (cond ((fun (x : NodeT) (y : List BA) => sm_node x && smL smStr y) (eN ((dCut a0).1)) ((dCut a0).2))
 (cond ((fun (x : NodeT) (y : List BA) => sm_node x && smL smStr y) (eN ((dCut a0).1)) ((dCut a0).2))
 (cond (gCode a0)
 (cond ((fun (x : NodeT) (y : List BA) => sm_node x && smL smStr y) (eN ((dAt a0).1)) ((dAt a0).2))
 (cond ((fun (x : NodeT) (y : List BA) => sm_node x && smL smStr y) (eN ((dAt a0).1)) ((dAt a0).2))
 (cond (gCode a0)
 (cond (gPt (eN (dAll a0)))
 (cond (gPt (eN (dAll a0)))
 (cond (!(((putPtr (eN ((dPut a0).1)) ((dPut a0).2.1) (eN ((dPut a0).2.2))).2) == ((putPtr (eN ((dPut a0).1)) ((dPut a0).2.1) (eN ((dPut a0).2.2))).2)))
 (k [.d .bool false])
 (cond (sm2 sm_node (eN ((putPtr (eN ((dPut a0).1)) ((dPut a0).2.1) (eN ((dPut a0).2.2))).1)) (eN ((putPtr (eN ((dPut a0).1)) ((dPut a0).2.1) (eN ((dPut a0).2.2))).1)))
 (cond (!(eqD (eN ((putPtr (eN ((dPut a0).1)) ((dPut a0).2.1) (eN ((dPut a0).2.2))).1)) (eN ((putPtr (eN ((dPut a0).1)) ((dPut a0).2.1) (eN ((dPut a0).2.2))).1))))
 (k [.d .bool false])
 (cond (!(((cutPtr (eN ((dCut a0).1)) ((dCut a0).2)).2) == ((cutPtr (eN ((dCut a0).1)) ((dCut a0).2)).2)))
 (k [.d .bool false])
 (cond (sm2 sm_node (eN ((cutPtr (eN ((dCut a0).1)) ((dCut a0).2)).1)) (eN ((cutPtr (eN ((dCut a0).1)) ((dCut a0).2)).1)))
 (cond (!(eqD (eN ((cutPtr (eN ((dCut a0).1)) ((dCut a0).2)).1)) (eN ((cutPtr (eN ((dCut a0).1)) ((dCut a0).2)).1))))
 (k [.d .bool false])
 (cond (!(((atPtr (eN ((dAt a0).1)) ((dAt a0).2)).2) == ((atPtr (eN ((dAt a0).1)) ((dAt a0).2)).2)))
 (k [.d .bool false])
 (cond (sm2 sm_node (eN ((atPtr (eN ((dAt a0).1)) ((dAt a0).2)).1)) (eN ((atPtr (eN ((dAt a0).1)) ((dAt a0).2)).1)))
 (cond (!(eqD (eN ((atPtr (eN ((dAt a0).1)) ((dAt a0).2)).1)) (eN ((atPtr (eN ((dAt a0).1)) ((dAt a0).2)).1))))
 (k [.d .bool false])
 (cond (((allPtrs (eN (dAll a0))).length : Int) != ((allPtrs (eN (dAll a0))).length : Int))
 (k [.d .bool false])
 (f7J0 n k a0 a0 ((putPtr (eN ((dPut a0).1)) ((dPut a0).2.1) (eN ((dPut a0).2.2))).2) ((cutPtr (eN ((dCut a0).1)) ((dCut a0).2)).2) (((allPtrs (eN (dAll a0))).length : Int) != ((allPtrs (eN (dAll a0))).length : Int)) (NodeT.kind ((dPut a0).1)) (NodeT.n ((dPut a0).1)) (NodeT.s ((dPut a0).1)) (NodeT.kind ((dPut a0).2.2)) (NodeT.n ((dPut a0).2.2)) (NodeT.s ((dPut a0).2.2)) (NodeT.kind ((putPtr (eN ((dPut a0).1)) ((dPut a0).2.1) (eN ((dPut a0).2.2))).1)) (NodeT.n ((putPtr (eN ((dPut a0).1)) ((dPut a0).2.1) (eN ((dPut a0).2.2))).1)) (NodeT.s ((putPtr (eN ((dPut a0).1)) ((dPut a0).2.1) (eN ((dPut a0).2.2))).1)) (NodeT.kind ((dCut a0).1)) (NodeT.n ((dCut a0).1)) (NodeT.s ((dCut a0).1)) (NodeT.kind ((cutPtr (eN ((dCut a0).1)) ((dCut a0).2)).1)) (NodeT.n ((cutPtr (eN ((dCut a0).1)) ((dCut a0).2)).1)) (NodeT.s ((cutPtr (eN ((dCut a0).1)) ((dCut a0).2)).1)) (NodeT.keys ((dPut a0).1)) (NodeT.kids ((dPut a0).1)) ((dPut a0).2.1) (NodeT.keys ((dPut a0).2.2)) (NodeT.kids ((dPut a0).2.2)) (NodeT.keys ((putPtr (eN ((dPut a0).1)) ((dPut a0).2.1) (eN ((dPut a0).2.2))).1)) (NodeT.kids ((putPtr (eN ((dPut a0).1)) ((dPut a0).2.1) (eN ((dPut a0).2.2))).1)) (NodeT.keys ((dCut a0).1)) (NodeT.kids ((dCut a0).1)) (NodeT.keys ((cutPtr (eN ((dCut a0).1)) ((dCut a0).2)).1)) (NodeT.kids ((cutPtr (eN ((dCut a0).1)) ((dCut a0).2)).1)) (allPtrs (eN (dAll a0))) (allPtrs (eN (dAll a0))))))
 none)))
 none)))
 none))
 none)
 none)
 none)
 none)
 none)
 none)
 none)
 none)
 none)
 none)
 none)
 none)) := by
  refine Eq.trans (b := (cond (bigC a0)
  (k [.d .bool true])
  (cond (gCode a0)
   (cond (gP (eN ((dPut a0).1)) ((dPut a0).2.1) (eN ((dPut a0).2.2)))
    (cond (gP (eN ((dPut a0).1)) ((dPut a0).2.1) (eN ((dPut a0).2.2)))
     (cond (gCode a0)
      (cond ((fun (x : NodeT) (y : List BA) => sm_node x && smL smStr y) (eN ((dCut a0).1)) ((dCut a0).2))
       (cond ((fun (x : NodeT) (y : List BA) => sm_node x && smL smStr y) (eN ((dCut a0).1)) ((dCut a0).2))
        (cond (gCode a0)
         (cond ((fun (x : NodeT) (y : List BA) => sm_node x && smL smStr y) (eN ((dAt a0).1)) ((dAt a0).2))
          (cond ((fun (x : NodeT) (y : List BA) => sm_node x && smL smStr y) (eN ((dAt a0).1)) ((dAt a0).2))
           (cond (gCode a0)
            (cond (gPt (eN (dAll a0)))
             (cond (gPt (eN (dAll a0)))
              (cond (!(((putPtr (eN ((dPut a0).1)) ((dPut a0).2.1) (eN ((dPut a0).2.2))).2) == ((putPtr (eN ((dPut a0).1)) ((dPut a0).2.1) (eN ((dPut a0).2.2))).2)))
               (k [.d .bool false])
               (cond (sm2 sm_node (eN ((putPtr (eN ((dPut a0).1)) ((dPut a0).2.1) (eN ((dPut a0).2.2))).1)) (eN ((putPtr (eN ((dPut a0).1)) ((dPut a0).2.1) (eN ((dPut a0).2.2))).1)))
                (cond (!(eqD (eN ((putPtr (eN ((dPut a0).1)) ((dPut a0).2.1) (eN ((dPut a0).2.2))).1)) (eN ((putPtr (eN ((dPut a0).1)) ((dPut a0).2.1) (eN ((dPut a0).2.2))).1))))
                 (k [.d .bool false])
                 (cond (!(((cutPtr (eN ((dCut a0).1)) ((dCut a0).2)).2) == ((cutPtr (eN ((dCut a0).1)) ((dCut a0).2)).2)))
                  (k [.d .bool false])
                  (cond (sm2 sm_node (eN ((cutPtr (eN ((dCut a0).1)) ((dCut a0).2)).1)) (eN ((cutPtr (eN ((dCut a0).1)) ((dCut a0).2)).1)))
                   (cond (!(eqD (eN ((cutPtr (eN ((dCut a0).1)) ((dCut a0).2)).1)) (eN ((cutPtr (eN ((dCut a0).1)) ((dCut a0).2)).1))))
                    (k [.d .bool false])
                    (cond (!(((atPtr (eN ((dAt a0).1)) ((dAt a0).2)).2) == ((atPtr (eN ((dAt a0).1)) ((dAt a0).2)).2)))
                     (k [.d .bool false])
                     (cond (sm2 sm_node (eN ((atPtr (eN ((dAt a0).1)) ((dAt a0).2)).1)) (eN ((atPtr (eN ((dAt a0).1)) ((dAt a0).2)).1)))
                      (cond (!(eqD (eN ((atPtr (eN ((dAt a0).1)) ((dAt a0).2)).1)) (eN ((atPtr (eN ((dAt a0).1)) ((dAt a0).2)).1))))
                       (k [.d .bool false])
                       (cond (((allPtrs (eN (dAll a0))).length : Int) != ((allPtrs (eN (dAll a0))).length : Int))
                        (k [.d .bool false])
                        (ev f7e f7k n (cAt [1,1,1,1,1,1,1,1,1,1,1,1,1,1] f7c) (f7S12 a0 ((putPtr (eN ((dPut a0).1)) ((dPut a0).2.1) (eN ((dPut a0).2.2))).2) ((cutPtr (eN ((dCut a0).1)) ((dCut a0).2)).2) (((allPtrs (eN (dAll a0))).length : Int) != ((allPtrs (eN (dAll a0))).length : Int)) (NodeT.kind ((dPut a0).1)) (NodeT.n ((dPut a0).1)) (NodeT.s ((dPut a0).1)) (NodeT.kind ((dPut a0).2.2)) (NodeT.n ((dPut a0).2.2)) (NodeT.s ((dPut a0).2.2)) (NodeT.kind ((putPtr (eN ((dPut a0).1)) ((dPut a0).2.1) (eN ((dPut a0).2.2))).1)) (NodeT.n ((putPtr (eN ((dPut a0).1)) ((dPut a0).2.1) (eN ((dPut a0).2.2))).1)) (NodeT.s ((putPtr (eN ((dPut a0).1)) ((dPut a0).2.1) (eN ((dPut a0).2.2))).1)) (NodeT.kind ((dCut a0).1)) (NodeT.n ((dCut a0).1)) (NodeT.s ((dCut a0).1)) (NodeT.kind ((cutPtr (eN ((dCut a0).1)) ((dCut a0).2)).1)) (NodeT.n ((cutPtr (eN ((dCut a0).1)) ((dCut a0).2)).1)) (NodeT.s ((cutPtr (eN ((dCut a0).1)) ((dCut a0).2)).1)) (NodeT.keys ((dPut a0).1)) (NodeT.kids ((dPut a0).1)) ((dPut a0).2.1) (NodeT.keys ((dPut a0).2.2)) (NodeT.kids ((dPut a0).2.2)) (NodeT.keys ((putPtr (eN ((dPut a0).1)) ((dPut a0).2.1) (eN ((dPut a0).2.2))).1)) (NodeT.kids ((putPtr (eN ((dPut a0).1)) ((dPut a0).2.1) (eN ((dPut a0).2.2))).1)) (NodeT.keys ((dCut a0).1)) (NodeT.kids ((dCut a0).1)) (NodeT.keys ((cutPtr (eN ((dCut a0).1)) ((dCut a0).2)).1)) (NodeT.kids ((cutPtr (eN ((dCut a0).1)) ((dCut a0).2)).1)) (allPtrs (eN (dAll a0))) (allPtrs (eN (dAll a0)))) (exitK f7e [.kp] [false] true [.tmp 2] [4] [.d (.sl (.i .u8)) a0] k))))
                      none)))
                   none)))
                none))
              none)
             none)
            none)
           none)
          none)
         none)
        none)
       none)
      none)
     none)
    none)
   none))) (by kernel_rfl) ?_
  simp only [f7J0_eq]
theorem f7L0_top {R : Type} (n : Nat) (x0 : Option R) (x1 : Int → Bool → Option R) (wA : List Int) (wU : Bool) (uH : Bool) (uI : Int) (uJ : Int) (uK : BA) (wH : Int) (wI : Int) (wJ : BA) (wC : Int) (wD : Int) (wE : BA) (wV : Int) (wW : Int) (wX : BA) (wY : Int) (wZ : Int) (uA : BA) (uL : List BA) (uM : List NodeT) (wB : List BA) (wK : List BA) (wL : List NodeT) (wF : List BA) (wG : List NodeT) (uB : List BA) (uC : List NodeT) (uD : List BA) (uE : List NodeT) (wS : List (List BA)) (uG : List (List BA)) (he : wS = uG) (hl : wS.length ≤ 1048577) (hg : ∀ q ∈ wS, gLenW q = true) {m : Nat} (hm : wS.length < m) :
    f7L0 n x0 x1 wA wU uH uI uJ uK wH wI wJ wC wD wE wV wW wX wY wZ uA uL uM wB wK wL wF wG uB uC uD uE wS uG m (0 : Int) = x1 (wS.length : Int) false := by
 subst he
 have key : ∀ (d m i : Nat), i + d = wS.length → d < m → f7L0 n x0 x1 wA wU uH uI uJ uK wH wI wJ wC wD wE wV wW wX wY wZ uA uL uM wB wK wL wF wG uB uC uD uE wS wS m (i : Int) = x1 (wS.length : Int) false := by
  intro d
  induction d with
  | zero =>
   intro m i hi hm
   obtain ⟨m, rfl⟩ : ∃ m', m = m' + 1 := ⟨m - 1, by omega⟩
   have : i = wS.length := by omega
   subst this
   simp only [f7L0, decide_eq_false (show ¬ ((wS.length : Int) < (wS.length : Int)) by omega), cond_false]
  | succ d ih =>
   intro m i hi hm
   obtain ⟨m, rfl⟩ : ∃ m', m = m' + 1 := ⟨m - 1, by omega⟩
   have hw : IntKind.wrap .i64 ((i : Int) + 1) = ((i + 1 : Nat) : Int) := by rw [wrap_id (by omega) (by omega)]; omega
   have hq := hg _ (List.mem_of_getElem? (atI_lt (t := .sl .str) (xs := wS) (i := i) (by omega)))
   simp only [f7L0, decide_eq_true (show (i : Int) < (wS.length : Int) by omega), decide_eq_true (show (0 : Int) ≤ (i : Int) by omega), Int.toNat_natCast, gSame_self hq, hw, Bool.and_self, Bool.not_true, cond_true, cond_false]
   exact ih m (i + 1) (by omega) (by omega)
 exact key _ m 0 (by omega) hm
theorem f7L1_top {R : Type} (n : Nat) (x0 : Option R) (x1 : Int → Bool → Option R) (wM : Int) (wN : Int) (wO : BA) (wP : List BA) (wQ : List NodeT) (wR : List BA) (wT : List (List BA)) (hs : sm_node (⟨wM, wN, wO, wP, wQ⟩ : NodeT) = true) (hl : wT.length ≤ 1048577) (hg : ∀ q ∈ wT, smL smStr q = true ∧ (atPtr (⟨wM, wN, wO, wP, wQ⟩ : NodeT) q).2 = true) {m : Nat} (hm : wT.length < m) :
    f7L1 n x0 x1 wM wN wO wP wQ wR wT m (0 : Int) = x1 (wT.length : Int) false := by
 have key : ∀ (d m i : Nat), i + d = wT.length → d < m → f7L1 n x0 x1 wM wN wO wP wQ wR wT m (i : Int) = x1 (wT.length : Int) false := by
  intro d
  induction d with
  | zero =>
   intro m i hi hm
   obtain ⟨m, rfl⟩ : ∃ m', m = m' + 1 := ⟨m - 1, by omega⟩
   have : i = wT.length := by omega
   subst this
   simp only [f7L1, decide_eq_false (show ¬ ((wT.length : Int) < (wT.length : Int)) by omega), cond_false]
  | succ d ih =>
   intro m i hi hm
   obtain ⟨m, rfl⟩ : ∃ m', m = m' + 1 := ⟨m - 1, by omega⟩
   have hw : IntKind.wrap .i64 ((i : Int) + 1) = ((i + 1 : Nat) : Int) := by rw [wrap_id (by omega) (by omega)]; omega
   obtain ⟨hq, ha⟩ := hg _ (List.mem_of_getElem? (atI_lt (t := .sl .str) (xs := wT) (i := i) (by omega)))
   simp only [f7L1, decide_eq_true (show (i : Int) < (wT.length : Int) by omega), decide_eq_true (show (0 : Int) ≤ (i : Int) by omega), Int.toNat_natCast, hs, hq, ha, hw, Bool.and_self, Bool.not_true, cond_true, cond_false]
   exact ih m (i + 1) (by omega) (by omega)
 exact key _ m 0 (by omega) hm
theorem f7J4_ok {R : Type} (n : Nat) (hn : 30000 ≤ n) (k : List Dt → Option R) (a0 : List Int) (t : NodeT) (w : List BA) (hg : GT 3 t) (hw : smL smStr w = true) : f7J4 n k a0 t.kind t.n t.s t.keys t.kids w = k [.d .bool true] := by
 obtain ⟨s1, z1, w1⟩ := hg
 have hp : gPt t = true := gPt_okD (okD_of (GT.okT ⟨s1, z1, w1⟩))
 have hln : (allPtrs t).length ≤ 7000 := by
  rw [allPtrs_len]
  have := nd_sz t
  have : 4 ^ 3 = 64 := rfl
  omega
 have hall : ∀ q ∈ allPtrs t, smL smStr q = true ∧ (atPtr t q).2 = true := fun q hq => ⟨(way_ok (okD_of (GT.okT ⟨s1, z1, w1⟩)) hq).1, all_there t w1 s1 q hq⟩
 simp only [f7J4, f7J5, eta_node, eN_eq, hp, cond_true]
 rw [f7L1_top (hs := by rw [eta_node]; exact s1) (hl := by omega) (hg := by rw [eta_node]; exact hall) (hm := by omega)]
 simp only [f7J6, f7J7, f7J8, f7J9, eta_node, eN_eq, s1, hw, Bool.and_self, cond_true]
 cases w with
 | nil => rfl
 | cons q r =>
  rw [cut_like]
  have : decide ((((q :: r).length : Nat) : Int) > (0 : Int)) = true := decide_eq_true (by rw [List.length_cons]; omega)
  cases (atPtr t (q :: r)).2
  ·rfl
  ·simp only [this, cond_true]; rfl
theorem f7_spec (a0 : List Int) : ∃ keep rounds, ∀ {R : Type} (k : List Dt → Option R), evFn f7e keep rounds f7c [.kp] [false] true [.tmp 2] [4] [.d (.sl (.i .u8)) a0] k = k [.d .bool ((fun (_ : List Int) => true) a0)] := by
 refine ⟨f7k, 30000, fun {R} k => ?_⟩
 rw [f7_run]
 show _ = k [.d .bool true]
 cases hbig : bigC a0
 rotate_left
 ·simp only [cond_true]
 have hc := gCode_of hbig
 obtain ⟨p1, p2, p3, p5, p6⟩ := dPut_ok a0 hc
 obtain ⟨c1, c2⟩ := dCut_ok a0 hc
 obtain ⟨d1, d2⟩ := dAt_ok a0 hc
 have l1 := dAll_ok a0 hc
 obtain ⟨hg, hw, -⟩ := tDrawn_ok a0 hc
 obtain ⟨hp, hz⟩ := gWay_iff.1 p2
 obtain ⟨hp2, _⟩ := gWay_iff.1 c2
 obtain ⟨hp3, _⟩ := gWay_iff.1 d2
 obtain ⟨q1, q2⟩ := okD_iff.1 p1
 have c3 := (okD_iff.1 c1).1
 have d3 := (okD_iff.1 d1).1
 have g1 : gP (dPut a0).1 (dPut a0).2.1 (dPut a0).2.2 = true := by simp only [gP, q1, hp, p3, Bool.and_self]
 have s1 := (putPtr_ok (x := (dPut a0).2.2) q1 hp p3 (by omega)).1
 have s2 := (cutPtr_ok (path := (dCut a0).2) c3).1
 have s3 := atPtr_sm (path := (dAt a0).2) d3
 have g2 := gPt_okD l1
 have l2 := (okD_iff.1 l1).2
 have hln : (allPtrs (dAll a0)).length ≤ 26001 := by
  rw [allPtrs_len]
  have := nd_sz (dAll a0)
  omega
 have hgl : ∀ q ∈ allPtrs (dAll a0), gLenW q = true := fun q hq => gLenW_of (by
  have := allPtrs_way _ q hq
  have := nd_sz (dAll a0)
  omega)
 have hj4 := f7J4_ok 30000 (Nat.le_refl _) k a0 (tDrawn a0).1 (tDrawn a0).2.1 hg (gWay_iff.1 hw).1
 simp only [eN_eq, hc, g1, g2, q1, hp, p3, c3, hp2, d3, hp3, s1, s2, s3, sm2, eqD_self, beq_self_eq_true, bne_self_eq_false, Bool.and_self, Bool.not_true, cond_true, cond_false]
 unfold f7J0
 rw [f7L0_top (he := rfl) (hl := by omega) (hg := hgl) (hm := by omega)]
 have hj2 : ∀ b : Bool, f7J2 30000 k a0 a0 ((putPtr (dPut a0).1 (dPut a0).2.1 (dPut a0).2.2).2) b (NodeT.kind ((dPut a0).2.2)) (NodeT.n ((dPut a0).2.2)) (NodeT.s ((dPut a0).2.2)) (NodeT.kind ((putPtr (dPut a0).1 (dPut a0).2.1 (dPut a0).2.2).1)) (NodeT.n ((putPtr (dPut a0).1 (dPut a0).2.1 (dPut a0).2.2).1)) (NodeT.s ((putPtr (dPut a0).1 (dPut a0).2.1 (dPut a0).2.2).1)) ((dPut a0).2.1) (NodeT.keys ((dPut a0).2.2)) (NodeT.kids ((dPut a0).2.2)) (NodeT.keys ((putPtr (dPut a0).1 (dPut a0).2.1 (dPut a0).2.2).1)) (NodeT.kids ((putPtr (dPut a0).1 (dPut a0).2.1 (dPut a0).2.2).1)) = k [.d .bool true] := by
  intro b
  have fin : ∀ (y : NodeT × Bool), y = ((dPut a0).2.2, true) → sm_node y.1 = true ∧ eqD y.1 (dPut a0).2.2 = true ∧ y.2 = true := by
   rintro _ rfl
   exact ⟨p3, eqD_self _, rfl⟩
  simp only [f7J2, f7J3, f7J10, eta_node, eN_eq, eN_eq, hc, hj4, cond_true]
  cases ha : (putPtr (dPut a0).1 (dPut a0).2.1 (dPut a0).2.2).2
  ·simp only [cond_false]
  simp only [cond_true]
  have hlen := szL_ge ByteArray.size (dPut a0).2.1
  cases he : (((dPut a0).2.1.length : Int) == (0 : Int))
  ·simp only [cond_false]
   rw [beq_eq_false_iff_ne] at he
   have hw : IntKind.wrap .i64 (((dPut a0).2.1.length : Int) - (1 : Int)) = (((dPut a0).2.1.length - 1 : Nat) : Int) := by rw [wrap_id (by omega) (by omega)]; omega
   simp only [hw, Int.toNat_natCast, decide_eq_true (show (0 : Int) ≤ (((dPut a0).2.1.length - 1 : Nat) : Int) by omega), decide_eq_true (show (((dPut a0).2.1.length - 1 : Nat) : Int) < ((dPut a0).2.1.length : Int) by omega), Bool.and_self, cond_true]
   cases hd : sEq (atI (t := .str) (dPut a0).2.1 ((dPut a0).2.1.length - 1)) (bs [45])
   ·obtain ⟨f1, f2, f3⟩ := fin _ (put_at _ _ _ q1 (fun e => he (by rw [e]; rfl)) hd ha)
    simp only [s1, hp, f1, f2, f3, p3, sm2, Bool.and_self, Bool.not_true, Bool.not_false, cond_true, cond_false]
   ·simp only [Bool.not_true, cond_false]
  ·have hnil : (dPut a0).2.1 = [] := List.eq_nil_of_length_eq_zero (by have := eq_of_beq he; omega)
   obtain ⟨f1, f2, f3⟩ := fin (atPtr (putPtr (dPut a0).1 (dPut a0).2.1 (dPut a0).2.2).1 (dPut a0).2.1) (by rw [hnil]; rfl)
   simp only [s1, hp, f1, f2, f3, p3, sm2, Bool.and_self, Bool.not_true, cond_true, cond_false]
 simp only [f7J1, eta_node, eN_eq, hj2]
 cases ha : (putPtr (dPut a0).1 (dPut a0).2.1 (dPut a0).2.2).2 <;> cases hb : (cutPtr (dCut a0).1 (dCut a0).2).2
 ·simp only [put_no ha, cut_no hb, q1, c3, sm2, eqD_self, Bool.and_self, Bool.not_true, Bool.not_false, cond_true, cond_false]
 ·simp only [put_no ha, q1, sm2, eqD_self, Bool.and_self, Bool.not_true, Bool.not_false, cond_true, cond_false]
 ·simp only [cut_no hb, c3, sm2, eqD_self, Bool.and_self, Bool.not_true, Bool.not_false, cond_true, cond_false]
 ·simp only [Bool.not_true, cond_false]
noncomputable def q7 : List Dt → Option (Bool × List Dt)
 | [.d (.sl (.i .u8)) a0] => some (true, [.d .bool ((fun (_ : List Int) => true) a0)])
 | _ => none
noncomputable def s7 : Gm.Spec := Gm.Spec.of [.kp] [false] true q7
theorem good7 : Gm.Good Try.prog (7, s7) := by
 have hl : ∀ x ∈ [(9, s9), (11, s11), (18, s18), (20, s20), (24, s24), (25, s25), (26, s26), (27, s27), (28, s28), (29, s29), (30, s30), (31, s31), (32, s32), (33, s33), (34, s34), (35, s35)], Gm.Good Try.prog x := fcJ.2 ⟨good9, fcJ.2 ⟨good11, fcJ.2 ⟨good18, fcJ.2 ⟨good20, fcJ.2 ⟨good24, fcJ.2 ⟨good25, fcJ.2 ⟨good26, fcJ.2 ⟨good27, fcJ.2 ⟨good28, fcJ.2 ⟨good29, fcJ.2 ⟨good30, fcJ.2 ⟨good31, fcJ.2 ⟨good32, fcJ.2 ⟨good33, fcJ.2 ⟨good34, fcJ.2 ⟨good35, fcN⟩⟩⟩⟩⟩⟩⟩⟩⟩⟩⟩⟩⟩⟩⟩⟩
 refine ⟨⟨spec_ok (tab_ok.env hl) (tab.natl hl) Try.func7 (by kernel_rfl : Try.f7.body = some f7c) [4] (by kernel_rfl) ?_, _, Try.func7, by kernel_rfl, of_decide_eq_true (by kernel_rfl)⟩, Gm.Spec.of_natl _ _ _ _⟩
 intro ds outs h
 unfold q7 at h
 split at h
 ·cases h; exact f7_spec _
 ·cases h
end Go.Proofs.Ytinbejnakemfjaa

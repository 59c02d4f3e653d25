/- What the functions compute, part 3. No conditions. -/
import Derived.Test.YtalnkjjnohgjkaaFnPatchesFn2
namespace Go.Proofs.Ytalnkjjnohgjkaa
open Go Go.Gm
noncomputable def f46c : Code := (Try.f46.body).getD .skip
def f46k : Nat → Kp := kat [⟨[0, 3, 4], [], [], []⟩, ⟨[0, 3, 4, 5], [], [], []⟩, ⟨[0, 3, 4, 5, 16], [], [], []⟩, ⟨[0, 3, 4, 5], [], [], []⟩, ⟨[0, 3, 4, 5, 27], [], [], []⟩, ⟨[0, 4, 5, 6], [], [], []⟩, ⟨[0, 4, 5], [], [], []⟩, ⟨[0, 4], [], [], []⟩, ⟨[0, 4, 5, 40], [], [], []⟩, ⟨[0, 4, 5], [], [], []⟩, ⟨[0, 4], [], [], []⟩]
noncomputable def f46e : Env := tab.env [(11, s11), (36, s36), (37, s37), (52, s52), (53, s53)]
theorem f46_run {R : Type} (n : Nat) (k : Kt R) (a0 : CurT) (a1 : NodeT) : evFn f46e f46k n f46c [.pmut, .ro] [false] true [.cell 4 35] [35] [.d .cur a0, .d .node a1] k =
 (cond ((fun c _ => gCur c) a0 (7 : Int))
 (cond ((fun (c : CurT) (t : NodeT) => gCur c && okD 3 t) ((curBelow a0 (7 : Int)).2) (eN a1))
 (cond (decide (((curBelow a0 (7 : Int)).1) ≥ (5 : Int)))
 (cond ((fun (c : CurT) (t : NodeT) => gCur c && okD 3 t) ((tWay ((curBelow a0 (7 : Int)).2) (eN a1)).2) (eN a1))
 (cond (((curBelow a0 (7 : Int)).1) == (4 : Int))
 (cond ((fun c _ => gCur c) ((tWay ((tWay ((curBelow a0 (7 : Int)).2) (eN a1)).2) (eN a1)).2) (2 : Int))
 (cond ((curOnce ((tWay ((tWay ((curBelow a0 (7 : Int)).2) (eN a1)).2) (eN a1)).2) (2 : Int)).1)
 (cond ((fun (x : NodeT) (y : List BA) => sm_node x && smL smStr y) (eN a1) ((tWay ((curBelow a0 (7 : Int)).2) (eN a1)).1))
 (k [.d .pop (⟨((curBelow a0 (7 : Int)).1), ((tWay ((curBelow a0 (7 : Int)).2) (eN a1)).1), ((tWay ((tWay ((curBelow a0 (7 : Int)).2) (eN a1)).2) (eN a1)).1), (eN ((atPtr (eN a1) ((tWay ((curBelow a0 (7 : Int)).2) (eN a1)).1)).1))⟩ : PopT), .d .cur ((curOnce ((tWay ((tWay ((curBelow a0 (7 : Int)).2) (eN a1)).2) (eN a1)).2) (2 : Int)).2)])
 none)
 (cond (decide (((curBelow a0 (7 : Int)).1) ≤ (4 : Int)))
 (cond (gDT ((curOnce ((tWay ((tWay ((curBelow a0 (7 : Int)).2) (eN a1)).2) (eN a1)).2) (2 : Int)).2) (1 : Int))
 (k [.d .pop (⟨((curBelow a0 (7 : Int)).1), ((tWay ((curBelow a0 (7 : Int)).2) (eN a1)).1), ((tWay ((tWay ((curBelow a0 (7 : Int)).2) (eN a1)).2) (eN a1)).1), (eN ((dT ((curOnce ((tWay ((tWay ((curBelow a0 (7 : Int)).2) (eN a1)).2) (eN a1)).2) (2 : Int)).2) (1 : Int)).1))⟩ : PopT), .d .cur ((dT ((curOnce ((tWay ((tWay ((curBelow a0 (7 : Int)).2) (eN a1)).2) (eN a1)).2) (2 : Int)).2) (1 : Int)).2)])
 none)
 (k [.d .pop (⟨((curBelow a0 (7 : Int)).1), ((tWay ((curBelow a0 (7 : Int)).2) (eN a1)).1), ((tWay ((tWay ((curBelow a0 (7 : Int)).2) (eN a1)).2) (eN a1)).1), (⟨(0 : Int), (0 : Int), ByteArray.empty, ([] : List BA), ([] : List NodeT)⟩ : NodeT)⟩ : PopT), .d .cur ((curOnce ((tWay ((tWay ((curBelow a0 (7 : Int)).2) (eN a1)).2) (eN a1)).2) (2 : Int)).2)])))
 none)
 (cond (decide (((curBelow a0 (7 : Int)).1) ≤ (4 : Int)))
 (cond (gDT ((tWay ((tWay ((curBelow a0 (7 : Int)).2) (eN a1)).2) (eN a1)).2) (1 : Int))
 (k [.d .pop (⟨((curBelow a0 (7 : Int)).1), ((tWay ((curBelow a0 (7 : Int)).2) (eN a1)).1), ((tWay ((tWay ((curBelow a0 (7 : Int)).2) (eN a1)).2) (eN a1)).1), (eN ((dT ((tWay ((tWay ((curBelow a0 (7 : Int)).2) (eN a1)).2) (eN a1)).2) (1 : Int)).1))⟩ : PopT), .d .cur ((dT ((tWay ((tWay ((curBelow a0 (7 : Int)).2) (eN a1)).2) (eN a1)).2) (1 : Int)).2)])
 none)
 (k [.d .pop (⟨((curBelow a0 (7 : Int)).1), ((tWay ((curBelow a0 (7 : Int)).2) (eN a1)).1), ((tWay ((tWay ((curBelow a0 (7 : Int)).2) (eN a1)).2) (eN a1)).1), (⟨(0 : Int), (0 : Int), ByteArray.empty, ([] : List BA), ([] : List NodeT)⟩ : NodeT)⟩ : PopT), .d .cur ((tWay ((tWay ((curBelow a0 (7 : Int)).2) (eN a1)).2) (eN a1)).2)])))
 none)
 (cond (((curBelow a0 (7 : Int)).1) == (4 : Int))
 (cond ((fun c _ => gCur c) ((tWay ((curBelow a0 (7 : Int)).2) (eN a1)).2) (2 : Int))
 (cond ((curOnce ((tWay ((curBelow a0 (7 : Int)).2) (eN a1)).2) (2 : Int)).1)
 (cond ((fun (x : NodeT) (y : List BA) => sm_node x && smL smStr y) (eN a1) ((tWay ((curBelow a0 (7 : Int)).2) (eN a1)).1))
 (k [.d .pop (⟨((curBelow a0 (7 : Int)).1), ((tWay ((curBelow a0 (7 : Int)).2) (eN a1)).1), ([] : List BA), (eN ((atPtr (eN a1) ((tWay ((curBelow a0 (7 : Int)).2) (eN a1)).1)).1))⟩ : PopT), .d .cur ((curOnce ((tWay ((curBelow a0 (7 : Int)).2) (eN a1)).2) (2 : Int)).2)])
 none)
 (cond (decide (((curBelow a0 (7 : Int)).1) ≤ (4 : Int)))
 (cond (gDT ((curOnce ((tWay ((curBelow a0 (7 : Int)).2) (eN a1)).2) (2 : Int)).2) (1 : Int))
 (k [.d .pop (⟨((curBelow a0 (7 : Int)).1), ((tWay ((curBelow a0 (7 : Int)).2) (eN a1)).1), ([] : List BA), (eN ((dT ((curOnce ((tWay ((curBelow a0 (7 : Int)).2) (eN a1)).2) (2 : Int)).2) (1 : Int)).1))⟩ : PopT), .d .cur ((dT ((curOnce ((tWay ((curBelow a0 (7 : Int)).2) (eN a1)).2) (2 : Int)).2) (1 : Int)).2)])
 none)
 (k [.d .pop (⟨((curBelow a0 (7 : Int)).1), ((tWay ((curBelow a0 (7 : Int)).2) (eN a1)).1), ([] : List BA), (⟨(0 : Int), (0 : Int), ByteArray.empty, ([] : List BA), ([] : List NodeT)⟩ : NodeT)⟩ : PopT), .d .cur ((curOnce ((tWay ((curBelow a0 (7 : Int)).2) (eN a1)).2) (2 : Int)).2)])))
 none)
 (cond (decide (((curBelow a0 (7 : Int)).1) ≤ (4 : Int)))
 (cond (gDT ((tWay ((curBelow a0 (7 : Int)).2) (eN a1)).2) (1 : Int))
 (k [.d .pop (⟨((curBelow a0 (7 : Int)).1), ((tWay ((curBelow a0 (7 : Int)).2) (eN a1)).1), ([] : List BA), (eN ((dT ((tWay ((curBelow a0 (7 : Int)).2) (eN a1)).2) (1 : Int)).1))⟩ : PopT), .d .cur ((dT ((tWay ((curBelow a0 (7 : Int)).2) (eN a1)).2) (1 : Int)).2)])
 none)
 (k [.d .pop (⟨((curBelow a0 (7 : Int)).1), ((tWay ((curBelow a0 (7 : Int)).2) (eN a1)).1), ([] : List BA), (⟨(0 : Int), (0 : Int), ByteArray.empty, ([] : List BA), ([] : List NodeT)⟩ : NodeT)⟩ : PopT), .d .cur ((tWay ((curBelow a0 (7 : Int)).2) (eN a1)).2)]))))
 none)
 none) := by kernel_rfl
def f46_P (a0 : CurT) (a1 : NodeT) (o : PopT × CurT) : Prop := (fun _ _ o => gOp o.1 = true ∧ gCur o.2 = true) a0 a1 o ∧ ∃ n : Nat, ∀ {R : Type} (k : Kt R), evFn f46e f46k n f46c [.pmut, .ro] [false] true [.cell 4 35] [35] [.d .cur a0, .d .node a1] k = k [.d .pop o.1, .d .cur o.2]
theorem f46_ex (a0 : CurT) (a1 : NodeT) (hg : (fun (c : CurT) (t : NodeT) => gCur c && okD 3 t) a0 a1 = true) : ∃ o : PopT × CurT, (fun _ _ o => gOp o.1 = true ∧ gCur o.2 = true) a0 a1 o ∧ ∃ n : Nat, ∀ {R : Type} (k : Kt R), evFn f46e f46k n f46c [.pmut, .ro] [false] true [.cell 4 35] [35] [.d .cur a0, .d .node a1] k = k [.d .pop o.1, .d .cur o.2] := by
 obtain ⟨hc, ht⟩ := Bool.and_eq_true_iff.1 (show (gCur a0 && okD 3 a1) = true from hg)
 have sx := (okD_iff.1 ht).1
 obtain ⟨b0, b1, g1⟩ := curBelow_ok a0 7 hc
 have b1 := b1 (by omega)
 have hk : okI (curBelow a0 7).1 = true := okI_of (by omega) (by omega)
 have wy : ∀ c, gCur c = true → (gCur c && okD 3 a1) = true := fun c h => by rw [h, ht]; rfl
 have W : ∀ c, gCur c = true → gWay (tWay c a1).1 = true ∧ gCur (tWay c a1).2 = true := fun c h => tWay_ok c a1 (wy c h)
 have D : ∀ c, gCur c = true → gDT c 1 = true ∧ okD 3 (dT c 1).1 = true ∧ gCur (dT c 1).2 = true := fun c h => by
  have d := gDT_of (d := 1) h rfl
  exact ⟨d, GT.okD (dT_ok d).1, (dT_ok d).2⟩
 obtain ⟨w1, g2⟩ := W _ g1
 have m1 := (gWay_iff.1 w1).1
 cases e0 : (decide (((curBelow a0 (7 : Int)).1) ≥ (5 : Int)))
 ·skip
  cases e1 : (((curBelow a0 (7 : Int)).1) == (4 : Int))
  ·skip
   cases e2 : (decide (((curBelow a0 (7 : Int)).1) ≤ (4 : Int)))
   ·skip
    refine ⟨(?ax3, ?bx3), ?gx3, 0, ?rx3⟩
    case rx3 =>
     intro R k
     rw [f46_run]
     simp (maxDischargeDepth := 60) only [hc, ht, sx, hk, g1, w1, g2, m1, wy, (fun c h => (W c h).1), (fun c h => (W c h).2), (fun c h => (D c h).1), (fun c h => (D c h).2.1), (fun c h => (D c h).2.2), curOnce_g, eN_eq, okD_at, gOp_of, gWay_nil, okD_zero, and_self, Bool.and_self, cond_true, cond_false, e0, e1, e2]
     exact rfl
    case gx3 => simp (maxDischargeDepth := 60) only [hc, ht, sx, hk, g1, w1, g2, m1, wy, (fun c h => (W c h).1), (fun c h => (W c h).2), (fun c h => (D c h).1), (fun c h => (D c h).2.1), (fun c h => (D c h).2.2), curOnce_g, eN_eq, okD_at, gOp_of, gWay_nil, okD_zero, and_self, Bool.and_self, cond_true, cond_false, e0, e1, e2]
   refine ⟨(?ax4, ?bx4), ?gx4, 0, ?rx4⟩
   case rx4 =>
    intro R k
    rw [f46_run]
    simp (maxDischargeDepth := 60) only [hc, ht, sx, hk, g1, w1, g2, m1, wy, (fun c h => (W c h).1), (fun c h => (W c h).2), (fun c h => (D c h).1), (fun c h => (D c h).2.1), (fun c h => (D c h).2.2), curOnce_g, eN_eq, okD_at, gOp_of, gWay_nil, okD_zero, and_self, Bool.and_self, cond_true, cond_false, e0, e1, e2]
    exact rfl
   case gx4 => simp (maxDischargeDepth := 60) only [hc, ht, sx, hk, g1, w1, g2, m1, wy, (fun c h => (W c h).1), (fun c h => (W c h).2), (fun c h => (D c h).1), (fun c h => (D c h).2.1), (fun c h => (D c h).2.2), curOnce_g, eN_eq, okD_at, gOp_of, gWay_nil, okD_zero, and_self, Bool.and_self, cond_true, cond_false, e0, e1, e2]
  cases e5 : ((curOnce ((tWay ((curBelow a0 (7 : Int)).2) a1).2) (2 : Int)).1)
  ·skip
   cases e6 : (decide (((curBelow a0 (7 : Int)).1) ≤ (4 : Int)))
   ·skip
    refine ⟨(?ax7, ?bx7), ?gx7, 0, ?rx7⟩
    case rx7 =>
     intro R k
     rw [f46_run]
     simp (maxDischargeDepth := 60) only [hc, ht, sx, hk, g1, w1, g2, m1, wy, (fun c h => (W c h).1), (fun c h => (W c h).2), (fun c h => (D c h).1), (fun c h => (D c h).2.1), (fun c h => (D c h).2.2), curOnce_g, eN_eq, okD_at, gOp_of, gWay_nil, okD_zero, and_self, Bool.and_self, cond_true, cond_false, e0, e1, e5, e6]
     exact rfl
    case gx7 => simp (maxDischargeDepth := 60) only [hc, ht, sx, hk, g1, w1, g2, m1, wy, (fun c h => (W c h).1), (fun c h => (W c h).2), (fun c h => (D c h).1), (fun c h => (D c h).2.1), (fun c h => (D c h).2.2), curOnce_g, eN_eq, okD_at, gOp_of, gWay_nil, okD_zero, and_self, Bool.and_self, cond_true, cond_false, e0, e1, e5, e6]
   refine ⟨(?ax8, ?bx8), ?gx8, 0, ?rx8⟩
   case rx8 =>
    intro R k
    rw [f46_run]
    simp (maxDischargeDepth := 60) only [hc, ht, sx, hk, g1, w1, g2, m1, wy, (fun c h => (W c h).1), (fun c h => (W c h).2), (fun c h => (D c h).1), (fun c h => (D c h).2.1), (fun c h => (D c h).2.2), curOnce_g, eN_eq, okD_at, gOp_of, gWay_nil, okD_zero, and_self, Bool.and_self, cond_true, cond_false, e0, e1, e5, e6]
    exact rfl
   case gx8 => simp (maxDischargeDepth := 60) only [hc, ht, sx, hk, g1, w1, g2, m1, wy, (fun c h => (W c h).1), (fun c h => (W c h).2), (fun c h => (D c h).1), (fun c h => (D c h).2.1), (fun c h => (D c h).2.2), curOnce_g, eN_eq, okD_at, gOp_of, gWay_nil, okD_zero, and_self, Bool.and_self, cond_true, cond_false, e0, e1, e5, e6]
  refine ⟨(?ax9, ?bx9), ?gx9, 0, ?rx9⟩
  case rx9 =>
   intro R k
   rw [f46_run]
   simp (maxDischargeDepth := 60) only [hc, ht, sx, hk, g1, w1, g2, m1, wy, (fun c h => (W c h).1), (fun c h => (W c h).2), (fun c h => (D c h).1), (fun c h => (D c h).2.1), (fun c h => (D c h).2.2), curOnce_g, eN_eq, okD_at, gOp_of, gWay_nil, okD_zero, and_self, Bool.and_self, cond_true, cond_false, e0, e1, e5]
   exact rfl
  case gx9 => simp (maxDischargeDepth := 60) only [hc, ht, sx, hk, g1, w1, g2, m1, wy, (fun c h => (W c h).1), (fun c h => (W c h).2), (fun c h => (D c h).1), (fun c h => (D c h).2.1), (fun c h => (D c h).2.2), curOnce_g, eN_eq, okD_at, gOp_of, gWay_nil, okD_zero, and_self, Bool.and_self, cond_true, cond_false, e0, e1, e5]
 cases e10 : (((curBelow a0 (7 : Int)).1) == (4 : Int))
 ·skip
  cases e11 : (decide (((curBelow a0 (7 : Int)).1) ≤ (4 : Int)))
  ·skip
   refine ⟨(?ax12, ?bx12), ?gx12, 0, ?rx12⟩
   case rx12 =>
    intro R k
    rw [f46_run]
    simp (maxDischargeDepth := 60) only [hc, ht, sx, hk, g1, w1, g2, m1, wy, (fun c h => (W c h).1), (fun c h => (W c h).2), (fun c h => (D c h).1), (fun c h => (D c h).2.1), (fun c h => (D c h).2.2), curOnce_g, eN_eq, okD_at, gOp_of, gWay_nil, okD_zero, and_self, Bool.and_self, cond_true, cond_false, e0, e10, e11]
    exact rfl
   case gx12 => simp (maxDischargeDepth := 60) only [hc, ht, sx, hk, g1, w1, g2, m1, wy, (fun c h => (W c h).1), (fun c h => (W c h).2), (fun c h => (D c h).1), (fun c h => (D c h).2.1), (fun c h => (D c h).2.2), curOnce_g, eN_eq, okD_at, gOp_of, gWay_nil, okD_zero, and_self, Bool.and_self, cond_true, cond_false, e0, e10, e11]
  refine ⟨(?ax13, ?bx13), ?gx13, 0, ?rx13⟩
  case rx13 =>
   intro R k
   rw [f46_run]
   simp (maxDischargeDepth := 60) only [hc, ht, sx, hk, g1, w1, g2, m1, wy, (fun c h => (W c h).1), (fun c h => (W c h).2), (fun c h => (D c h).1), (fun c h => (D c h).2.1), (fun c h => (D c h).2.2), curOnce_g, eN_eq, okD_at, gOp_of, gWay_nil, okD_zero, and_self, Bool.and_self, cond_true, cond_false, e0, e10, e11]
   exact rfl
  case gx13 => simp (maxDischargeDepth := 60) only [hc, ht, sx, hk, g1, w1, g2, m1, wy, (fun c h => (W c h).1), (fun c h => (W c h).2), (fun c h => (D c h).1), (fun c h => (D c h).2.1), (fun c h => (D c h).2.2), curOnce_g, eN_eq, okD_at, gOp_of, gWay_nil, okD_zero, and_self, Bool.and_self, cond_true, cond_false, e0, e10, e11]
 cases e14 : ((curOnce ((tWay ((tWay ((curBelow a0 (7 : Int)).2) a1).2) a1).2) (2 : Int)).1)
 ·skip
  cases e15 : (decide (((curBelow a0 (7 : Int)).1) ≤ (4 : Int)))
  ·skip
   refine ⟨(?ax16, ?bx16), ?gx16, 0, ?rx16⟩
   case rx16 =>
    intro R k
    rw [f46_run]
    simp (maxDischargeDepth := 60) only [hc, ht, sx, hk, g1, w1, g2, m1, wy, (fun c h => (W c h).1), (fun c h => (W c h).2), (fun c h => (D c h).1), (fun c h => (D c h).2.1), (fun c h => (D c h).2.2), curOnce_g, eN_eq, okD_at, gOp_of, gWay_nil, okD_zero, and_self, Bool.and_self, cond_true, cond_false, e0, e10, e14, e15]
    exact rfl
   case gx16 => simp (maxDischargeDepth := 60) only [hc, ht, sx, hk, g1, w1, g2, m1, wy, (fun c h => (W c h).1), (fun c h => (W c h).2), (fun c h => (D c h).1), (fun c h => (D c h).2.1), (fun c h => (D c h).2.2), curOnce_g, eN_eq, okD_at, gOp_of, gWay_nil, okD_zero, and_self, Bool.and_self, cond_true, cond_false, e0, e10, e14, e15]
  refine ⟨(?ax17, ?bx17), ?gx17, 0, ?rx17⟩
  case rx17 =>
   intro R k
   rw [f46_run]
   simp (maxDischargeDepth := 60) only [hc, ht, sx, hk, g1, w1, g2, m1, wy, (fun c h => (W c h).1), (fun c h => (W c h).2), (fun c h => (D c h).1), (fun c h => (D c h).2.1), (fun c h => (D c h).2.2), curOnce_g, eN_eq, okD_at, gOp_of, gWay_nil, okD_zero, and_self, Bool.and_self, cond_true, cond_false, e0, e10, e14, e15]
   exact rfl
  case gx17 => simp (maxDischargeDepth := 60) only [hc, ht, sx, hk, g1, w1, g2, m1, wy, (fun c h => (W c h).1), (fun c h => (W c h).2), (fun c h => (D c h).1), (fun c h => (D c h).2.1), (fun c h => (D c h).2.2), curOnce_g, eN_eq, okD_at, gOp_of, gWay_nil, okD_zero, and_self, Bool.and_self, cond_true, cond_false, e0, e10, e14, e15]
 refine ⟨(?ax18, ?bx18), ?gx18, 0, ?rx18⟩
 case rx18 =>
  intro R k
  rw [f46_run]
  simp (maxDischargeDepth := 60) only [hc, ht, sx, hk, g1, w1, g2, m1, wy, (fun c h => (W c h).1), (fun c h => (W c h).2), (fun c h => (D c h).1), (fun c h => (D c h).2.1), (fun c h => (D c h).2.2), curOnce_g, eN_eq, okD_at, gOp_of, gWay_nil, okD_zero, and_self, Bool.and_self, cond_true, cond_false, e0, e10, e14]
  exact rfl
 case gx18 => simp (maxDischargeDepth := 60) only [hc, ht, sx, hk, g1, w1, g2, m1, wy, (fun c h => (W c h).1), (fun c h => (W c h).2), (fun c h => (D c h).1), (fun c h => (D c h).2.1), (fun c h => (D c h).2.2), curOnce_g, eN_eq, okD_at, gOp_of, gWay_nil, okD_zero, and_self, Bool.and_self, cond_true, cond_false, e0, e10, e14]
theorem f46_ne (a0 : CurT) (a1 : NodeT) : Nonempty {o : PopT × CurT // (fun (c : CurT) (t : NodeT) => gCur c && okD 3 t) a0 a1 = true → f46_P a0 a1 o} := by
 by_cases hg : (fun (c : CurT) (t : NodeT) => gCur c && okD 3 t) a0 a1 = true
 ·obtain ⟨o, ho⟩ := f46_ex a0 a1 hg
  exact ⟨⟨o, fun _ => ho⟩⟩
 ·exact ⟨⟨((zero .pop), (zero .cur)), fun h => absurd h hg⟩⟩
noncomputable def dOp (a0 : CurT) (a1 : NodeT) : PopT × CurT := (Classical.choice (f46_ne a0 a1)).val
theorem f46_sp (a0 : CurT) (a1 : NodeT) (hg : (fun (c : CurT) (t : NodeT) => gCur c && okD 3 t) a0 a1 = true) : f46_P a0 a1 (dOp a0 a1) := (Classical.choice (f46_ne a0 a1)).property hg
theorem dOp_ok (a0 : CurT) (a1 : NodeT) (hg : (fun (c : CurT) (t : NodeT) => gCur c && okD 3 t) a0 a1 = true) : (fun _ _ o => gOp o.1 = true ∧ gCur o.2 = true) a0 a1 (dOp a0 a1) := (f46_sp a0 a1 hg).1
theorem f46_spec (a0 : CurT) (a1 : NodeT) (hg : (fun (c : CurT) (t : NodeT) => gCur c && okD 3 t) a0 a1 = true) : ∃ keep rounds, ∀ {R : Type} (k : Kt R), evFn f46e keep rounds f46c [.pmut, .ro] [false] true [.cell 4 35] [35] [.d .cur a0, .d .node a1] k = k [.d .pop ((dOp a0 a1).1), .d .cur ((dOp a0 a1).2)] := by
 obtain ⟨n, hn⟩ := (f46_sp a0 a1 hg).2
 exact ⟨f46k, n, hn⟩
noncomputable def q46 : Qt
 | [.d .cur a0, .d .node a1] => some (((fun (c : CurT) (t : NodeT) => gCur c && okD 3 t) a0 a1), [.d .pop ((dOp a0 a1).1), .d .cur ((dOp a0 a1).2)])
 | _ => none
noncomputable def s46 : Gm.Spec := Gm.Spec.of [.pmut, .ro] [false] true q46
theorem good46 : Gm.Good Try.prog (46, s46) := by
 have hl : ∀ x ∈ [(11, s11), (36, s36), (37, s37), (52, s52), (53, s53)], Gm.Good Try.prog x := fcJ.2 ⟨good11, fcJ.2 ⟨good36, fcJ.2 ⟨good37, fcJ.2 ⟨good52, fcJ.2 ⟨good53, fcN⟩⟩⟩⟩⟩
 refine ⟨⟨spec_ok (tab_ok.env hl) (tab.natl hl) Try.func46 (by kernel_rfl : Try.f46.body = some f46c) [35] (by kernel_rfl) ?_, _, Try.func46, by kernel_rfl, of_decide_eq_true (by kernel_rfl)⟩, Gm.Spec.of_natl _ _ _ _⟩
 intro ds outs h
 unfold q46 at h
 split at h
 ·simp only [Option.some.injEq, Prod.mk.injEq] at h; obtain ⟨hg, h⟩ := h; cases h; exact f46_spec _ _ hg
 ·cases h
noncomputable def f14c : Code := (Try.f14.body).getD .skip
def f14k : Nat → Kp := kat [⟨[0, 2, 3], [], [], []⟩, ⟨[2, 3, 4], [], [], []⟩, ⟨[2, 3, 4, 5], [], [], []⟩, ⟨[2, 3], [], [], []⟩]
noncomputable def f14e : Env := tab.env [(35, s35), (45, s45), (46, s46)]
theorem f14_run {R : Type} (n : Nat) (k : Kt R) (a0 : List Int) : evFn f14e f14k n f14c [.kp] [false, false] true [.cell 2 27, .cell 3 35] [27, 35] [.d (.sl (.i .u8)) a0] k =
 (cond (gCode a0)
 (cond (gCur (curNew a0))
 (cond ((fun (c : CurT) (t : NodeT) => gCur c && okD 3 t) ((tDraw (curNew a0)).2) (eN ((tDraw (curNew a0)).1)))
 (k [.d .node (eN ((tDraw (curNew a0)).1)), .d .pop (⟨(PopT.kind ((dOp ((tDraw (curNew a0)).2) (eN ((tDraw (curNew a0)).1))).1)), (PopT.path ((dOp ((tDraw (curNew a0)).2) (eN ((tDraw (curNew a0)).1))).1)), (PopT.src ((dOp ((tDraw (curNew a0)).2) (eN ((tDraw (curNew a0)).1))).1)), (eN (PopT.x ((dOp ((tDraw (curNew a0)).2) (eN ((tDraw (curNew a0)).1))).1)))⟩ : PopT)])
 none)
 none)
 none) := by kernel_rfl
def f14_P (a0 : List Int) (o : NodeT × PopT) : Prop := (fun _ o => okD 3 o.1 = true ∧ gOp o.2 = true) a0 o ∧ ∃ n : Nat, ∀ {R : Type} (k : Kt R), evFn f14e f14k n f14c [.kp] [false, false] true [.cell 2 27, .cell 3 35] [27, 35] [.d (.sl (.i .u8)) a0] k = k [.d .node o.1, .d .pop o.2]
theorem f14_ex (a0 : List Int) (hg : gCode a0 = true) : ∃ o : NodeT × PopT, (fun _ o => okD 3 o.1 = true ∧ gOp o.2 = true) a0 o ∧ ∃ n : Nat, ∀ {R : Type} (k : Kt R), evFn f14e f14k n f14c [.kp] [false, false] true [.cell 2 27, .cell 3 35] [27, 35] [.d (.sl (.i .u8)) a0] k = k [.d .node o.1, .d .pop o.2] := by
 have g0 := curNew_ok a0 hg
 obtain ⟨t3, g1⟩ := tDraw_ok _ g0
 have hok : (gCur (tDraw (curNew a0)).2 && okD 3 (tDraw (curNew a0)).1) = true := by rw [g1, t3]; rfl
 obtain ⟨hw, g2⟩ := dOp_ok _ _ hok
 refine ⟨(?az0, ?bz0), ?gz0, 0, ?rz0⟩
 case rz0 =>
  intro R k
  rw [f14_run]
  simp only [eN_eq, hg, g0, hok, cond_true]
  exact rfl
 case gz0 => exact ⟨t3, hw⟩
theorem f14_ne (a0 : List Int) : Nonempty {o : NodeT × PopT // gCode a0 = true → f14_P a0 o} := by
 by_cases hg : gCode a0 = true
 ·obtain ⟨o, ho⟩ := f14_ex a0 hg
  exact ⟨⟨o, fun _ => ho⟩⟩
 ·exact ⟨⟨((zero .node), (zero .pop)), fun h => absurd h hg⟩⟩
noncomputable def dP1 (a0 : List Int) : NodeT × PopT := (Classical.choice (f14_ne a0)).val
theorem f14_sp (a0 : List Int) (hg : gCode a0 = true) : f14_P a0 (dP1 a0) := (Classical.choice (f14_ne a0)).property hg
theorem dP1_ok (a0 : List Int) (hg : gCode a0 = true) : (fun _ o => okD 3 o.1 = true ∧ gOp o.2 = true) a0 (dP1 a0) := (f14_sp a0 hg).1
theorem f14_spec (a0 : List Int) (hg : gCode a0 = true) : ∃ keep rounds, ∀ {R : Type} (k : Kt R), evFn f14e keep rounds f14c [.kp] [false, false] true [.cell 2 27, .cell 3 35] [27, 35] [.d (.sl (.i .u8)) a0] k = k [.d .node ((dP1 a0).1), .d .pop ((dP1 a0).2)] := by
 obtain ⟨n, hn⟩ := (f14_sp a0 hg).2
 exact ⟨f14k, n, hn⟩
noncomputable def q14 : Qt
 | [.d (.sl (.i .u8)) a0] => some ((gCode a0), [.d .node ((dP1 a0).1), .d .pop ((dP1 a0).2)])
 | _ => none
noncomputable def s14 : Gm.Spec := Gm.Spec.of [.kp] [false, false] true q14
theorem good14 : Gm.Good Try.prog (14, s14) := by
 have hl : ∀ x ∈ [(35, s35), (45, s45), (46, s46)], Gm.Good Try.prog x := fcJ.2 ⟨good35, fcJ.2 ⟨good45, fcJ.2 ⟨good46, fcN⟩⟩⟩
 refine ⟨⟨spec_ok (tab_ok.env hl) (tab.natl hl) Try.func14 (by kernel_rfl : Try.f14.body = some f14c) [27, 35] (by kernel_rfl) ?_, _, Try.func14, by kernel_rfl, of_decide_eq_true (by kernel_rfl)⟩, Gm.Spec.of_natl _ _ _ _⟩
 intro ds outs h
 unfold q14 at h
 split at h
 ·simp only [Option.some.injEq, Prod.mk.injEq] at h; obtain ⟨hg, h⟩ := h; cases h; exact f14_spec _ hg
 ·cases h
noncomputable def f16S0 (y0 : Int) (y4 : Int) (y5 : Int) (y6 : BA) (y7 : List Int) (y8 : Int) (y9 : Int) (y10 : List BA) (y11 : List NodeT) (y12 : List PopT) : St := ⟨[(2, .c (.one (.pt 2 0))), (4, .c (.one (.pt 9 0))), (5, .c (.one (.pt 5 0))), (6, .c (.one (.h 768 0 0 []))), (7, .c (.one (.v (.int .i64 y0))))], [(2, ⟨.node, [.v (.int .i64 (0 : Int)), .v (.int .i64 (0 : Int)), .v (.string ByteArray.empty), .nl, .nl]⟩), (5, ⟨.node, [.v (.int .i64 y4), .v (.int .i64 y5), .v (.string y6), .h 704 0 0 [], .h 705 0 0 []]⟩), (9, ⟨.cur, [.rk (.i .u8) y7, .v (.int .i64 y8), .v (.int .i64 y9)]⟩)], [(704, .live ⟨.str, .deep, 0, [], y10⟩), (705, .live ⟨.node, .deep, 0, [], y11⟩), (768, .live ⟨.pop, .deep, 0, [], y12⟩)]⟩
noncomputable def f16S1 (y0 : Int) (y1 : Bool) (y5 : Int) (y6 : Int) (y7 : BA) (y8 : List Int) (y9 : Int) (y10 : Int) (y11 : List BA) (y12 : List NodeT) (y13 : List PopT) : St := ⟨[(2, .c (.one (.pt 2 0))), (4, .c (.one (.pt 9 0))), (5, .c (.one (.pt 5 0))), (6, .c (.one (.h 768 0 0 []))), (7, .c (.one (.v (.int .i64 y0)))), (16, .c (.one (.v (.bool y1))))], [(2, ⟨.node, [.v (.int .i64 (0 : Int)), .v (.int .i64 (0 : Int)), .v (.string ByteArray.empty), .nl, .nl]⟩), (5, ⟨.node, [.v (.int .i64 y5), .v (.int .i64 y6), .v (.string y7), .h 704 0 0 [], .h 705 0 0 []]⟩), (9, ⟨.cur, [.rk (.i .u8) y8, .v (.int .i64 y9), .v (.int .i64 y10)]⟩)], [(704, .live ⟨.str, .deep, 0, [], y11⟩), (705, .live ⟨.node, .deep, 0, [], y12⟩), (768, .live ⟨.pop, .deep, 0, [], y13⟩)]⟩
noncomputable def f16c : Code := (Try.f16.body).getD .skip
def f16k : Nat → Kp := kat [⟨[0, 2], [], [], []⟩, ⟨[2, 4], [], [], []⟩, ⟨[2, 4, 5], [], [], []⟩, ⟨[2, 4, 5, 6], [], [], []⟩, ⟨[2, 4, 5, 6, 7], [], [], []⟩, ⟨[2, 4, 5, 6, 7, 16], [], [], []⟩, ⟨[2, 4, 5, 6, 7], [], [], []⟩, ⟨[2, 4, 5, 6, 7], [], [], []⟩, ⟨[2, 4, 5, 6, 26], [], [], []⟩, ⟨[2, 5, 6], [], [], []⟩, ⟨[2, 3], [], [], []⟩]
noncomputable def f16e : Env := tab.env [(35, s35), (45, s45), (46, s46), (52, s52), (53, s53)]
noncomputable def f16L0 {R : Type} (n : Nat) (x0 : Int → Bool → (List Int) → Int → Int → (List PopT) → Option R) (wD : Int) (wE : Int) (wF : BA) (wG : List BA) (wH : List NodeT) : Nat → Int → (List Int) → Int → Int → (List PopT) → Option R
  | 0, _, _, _, _, _ => none
  | m + 1, wL, wA, wB, wC, wM =>
    (cond ((fun c _ => gCur c) (⟨wA, wB, wC⟩ : CurT) (4 : Int))
   (cond (decide (wL < ((curBelow (⟨wA, wB, wC⟩ : CurT) (4 : Int)).1)))
    (cond ((fun (c : CurT) (t : NodeT) => gCur c && okD 3 t) ((curBelow (⟨wA, wB, wC⟩ : CurT) (4 : Int)).2) (⟨wD, wE, wF, wG, wH⟩ : NodeT))
     (cond (Nat.ble (wM.length + 1) LIM)
      (f16L0 n x0 wD wE wF wG wH m (IntKind.wrap .i64 (wL + (1 : Int))) (CurT.b ((dOp ((curBelow (⟨wA, wB, wC⟩ : CurT) (4 : Int)).2) (⟨wD, wE, wF, wG, wH⟩ : NodeT)).2)) (CurT.i ((dOp ((curBelow (⟨wA, wB, wC⟩ : CurT) (4 : Int)).2) (⟨wD, wE, wF, wG, wH⟩ : NodeT)).2)) (CurT.h ((dOp ((curBelow (⟨wA, wB, wC⟩ : CurT) (4 : Int)).2) (⟨wD, wE, wF, wG, wH⟩ : NodeT)).2)) (wM ++ ([(⟨(PopT.kind ((dOp ((curBelow (⟨wA, wB, wC⟩ : CurT) (4 : Int)).2) (⟨wD, wE, wF, wG, wH⟩ : NodeT)).1)), (PopT.path ((dOp ((curBelow (⟨wA, wB, wC⟩ : CurT) (4 : Int)).2) (⟨wD, wE, wF, wG, wH⟩ : NodeT)).1)), (PopT.src ((dOp ((curBelow (⟨wA, wB, wC⟩ : CurT) (4 : Int)).2) (⟨wD, wE, wF, wG, wH⟩ : NodeT)).1)), (eN (PopT.x ((dOp ((curBelow (⟨wA, wB, wC⟩ : CurT) (4 : Int)).2) (⟨wD, wE, wF, wG, wH⟩ : NodeT)).1)))⟩ : PopT)] : List PopT)))
      none)
     none)
    (x0 wL (decide (wL < ((curBelow (⟨wA, wB, wC⟩ : CurT) (4 : Int)).1))) (CurT.b ((curBelow (⟨wA, wB, wC⟩ : CurT) (4 : Int)).2)) (CurT.i ((curBelow (⟨wA, wB, wC⟩ : CurT) (4 : Int)).2)) (CurT.h ((curBelow (⟨wA, wB, wC⟩ : CurT) (4 : Int)).2)) wM))
   none)
theorem f16L0_b {R : Type} (n : Nat) (k' : Kx R) (wL : Int) (wD : Int) (wE : Int) (wF : BA) (wA : List Int) (wB : Int) (wC : Int) (wG : List BA) (wH : List NodeT) (wM : List PopT) : ev f16e f16k n (cAt [1,1,1,1,0,1,0,0] f16c) (f16S0 wL wD wE wF wA wB wC wG wH wM) k' =
 (cond ((fun c _ => gCur c) (⟨wA, wB, wC⟩ : CurT) (4 : Int))
 (cond (decide (wL < ((curBelow (⟨wA, wB, wC⟩ : CurT) (4 : Int)).1)))
 (cond ((fun (c : CurT) (t : NodeT) => gCur c && okD 3 t) ((curBelow (⟨wA, wB, wC⟩ : CurT) (4 : Int)).2) (⟨wD, wE, wF, wG, wH⟩ : NodeT))
 (cond (Nat.ble (wM.length + 1) LIM)
 (k' .normal (f16S0 (IntKind.wrap .i64 (wL + (1 : Int))) wD wE wF (CurT.b ((dOp ((curBelow (⟨wA, wB, wC⟩ : CurT) (4 : Int)).2) (⟨wD, wE, wF, wG, wH⟩ : NodeT)).2)) (CurT.i ((dOp ((curBelow (⟨wA, wB, wC⟩ : CurT) (4 : Int)).2) (⟨wD, wE, wF, wG, wH⟩ : NodeT)).2)) (CurT.h ((dOp ((curBelow (⟨wA, wB, wC⟩ : CurT) (4 : Int)).2) (⟨wD, wE, wF, wG, wH⟩ : NodeT)).2)) wG wH (wM ++ ([(⟨(PopT.kind ((dOp ((curBelow (⟨wA, wB, wC⟩ : CurT) (4 : Int)).2) (⟨wD, wE, wF, wG, wH⟩ : NodeT)).1)), (PopT.path ((dOp ((curBelow (⟨wA, wB, wC⟩ : CurT) (4 : Int)).2) (⟨wD, wE, wF, wG, wH⟩ : NodeT)).1)), (PopT.src ((dOp ((curBelow (⟨wA, wB, wC⟩ : CurT) (4 : Int)).2) (⟨wD, wE, wF, wG, wH⟩ : NodeT)).1)), (eN (PopT.x ((dOp ((curBelow (⟨wA, wB, wC⟩ : CurT) (4 : Int)).2) (⟨wD, wE, wF, wG, wH⟩ : NodeT)).1)))⟩ : PopT)] : List PopT))))
 none)
 none)
 (k' (.exit 0) (f16S1 wL (decide (wL < ((curBelow (⟨wA, wB, wC⟩ : CurT) (4 : Int)).1))) wD wE wF (CurT.b ((curBelow (⟨wA, wB, wC⟩ : CurT) (4 : Int)).2)) (CurT.i ((curBelow (⟨wA, wB, wC⟩ : CurT) (4 : Int)).2)) (CurT.h ((curBelow (⟨wA, wB, wC⟩ : CurT) (4 : Int)).2)) wG wH wM)))
 none) := by kernel_rfl
theorem f16L0_eq {R : Type} (n : Nat) (k' : Kx R) (wD : Int) (wE : Int) (wF : BA) (wG : List BA) (wH : List NodeT) : ∀ (m : Nat) (wL : Int) (wA : List Int) (wB : Int) (wC : Int) (wM : List PopT), iter (fun st k => ev f16e f16k n (cAt [1,1,1,1,0,1,0,0] f16c) st k) m (f16S0 wL wD wE wF wA wB wC wG wH wM) k' = f16L0 n (fun (wO : Int) (wP : Bool) (wI : List Int) (wJ : Int) (wK : Int) (wN : List PopT) => k' (.exit 0) (f16S1 wO wP wD wE wF wI wJ wK wG wH wN)) wD wE wF wG wH m wL wA wB wC wM := by
 intro m; induction m with
 | zero => intros; rfl
 | succ m ih =>
  intro wL wA wB wC wM
  simp only [iter]
  rw [f16L0_b]
  simp only [ih, f16L0]
noncomputable def f16K0 {R : Type} (n : Nat) (k' : Kx R) : Kx R := (blockK 0 (seqK f16e f16k n (cAt [1,1,1,1,1] f16c) k'))
theorem f16K0_x0 {R : Type} (n : Nat) (k : Kt R) (a0 : List Int) (wD : Int) (wE : Int) (wF : BA) (wG : List BA) (wH : List NodeT) (wO : Int) (wP : Bool) (wI : List Int) (wJ : Int) (wK : Int) (wN : List PopT) : f16K0 n (exitK f16e [.kp] [false, false] true [.cell 2 27, .tmp 3] [27, 38] [.d (.sl (.i .u8)) a0] k) (.exit 0) (f16S1 wO wP wD wE wF wI wJ wK wG wH wN) =
 (cond ((fun c _ => gCur c) (⟨wI, wJ, wK⟩ : CurT) (60 : Int))
 (cond ((curOnce (⟨wI, wJ, wK⟩ : CurT) (60 : Int)).1)
 (cond ((fun c _ => gCur c) ((curOnce (⟨wI, wJ, wK⟩ : CurT) (60 : Int)).2) (2 : Int))
 (cond ((decide ((IntKind.wrap .i64 ((200 : Int) + ((curBelow ((curOnce (⟨wI, wJ, wK⟩ : CurT) (60 : Int)).2) (2 : Int)).1))) = (IntKind.wrap .i64 ((200 : Int) + ((curBelow ((curOnce (⟨wI, wJ, wK⟩ : CurT) (60 : Int)).2) (2 : Int)).1))))) && ((decide ((0 : Int) ≤ (IntKind.wrap .i64 ((200 : Int) + ((curBelow ((curOnce (⟨wI, wJ, wK⟩ : CurT) (60 : Int)).2) (2 : Int)).1))))) && (decide ((IntKind.wrap .i64 ((200 : Int) + ((curBelow ((curOnce (⟨wI, wJ, wK⟩ : CurT) (60 : Int)).2) (2 : Int)).1))) ≤ (LIM : Int)))))
 (k [.d .node (⟨wD, wE, wF, wG, wH⟩ : NodeT), .d (.sl .pop) (List.replicate (Int.toNat (IntKind.wrap .i64 ((200 : Int) + ((curBelow ((curOnce (⟨wI, wJ, wK⟩ : CurT) (60 : Int)).2) (2 : Int)).1)))) (⟨(0 : Int), ([] : List BA), ([] : List BA), (⟨(0 : Int), (0 : Int), ByteArray.empty, ([] : List BA), ([] : List NodeT)⟩ : NodeT)⟩ : PopT))])
 none)
 none)
 (k [.d .node (⟨wD, wE, wF, wG, wH⟩ : NodeT), .d (.sl .pop) wN]))
 none) := by kernel_rfl
theorem f16_run {R : Type} (n : Nat) (k : Kt R) (a0 : List Int) : evFn f16e f16k n f16c [.kp] [false, false] true [.cell 2 27, .tmp 3] [27, 38] [.d (.sl (.i .u8)) a0] k =
 (cond (gCode a0)
 (cond (gCur (curNew a0))
 (f16L0 n (fun (wO : Int) (wP : Bool) (wI : List Int) (wJ : Int) (wK : Int) (wN : List PopT) =>
 (cond ((fun c _ => gCur c) (⟨wI, wJ, wK⟩ : CurT) (60 : Int))
 (cond ((curOnce (⟨wI, wJ, wK⟩ : CurT) (60 : Int)).1)
 (cond ((fun c _ => gCur c) ((curOnce (⟨wI, wJ, wK⟩ : CurT) (60 : Int)).2) (2 : Int))
 (cond ((decide ((IntKind.wrap .i64 ((200 : Int) + ((curBelow ((curOnce (⟨wI, wJ, wK⟩ : CurT) (60 : Int)).2) (2 : Int)).1))) = (IntKind.wrap .i64 ((200 : Int) + ((curBelow ((curOnce (⟨wI, wJ, wK⟩ : CurT) (60 : Int)).2) (2 : Int)).1))))) && ((decide ((0 : Int) ≤ (IntKind.wrap .i64 ((200 : Int) + ((curBelow ((curOnce (⟨wI, wJ, wK⟩ : CurT) (60 : Int)).2) (2 : Int)).1))))) && (decide ((IntKind.wrap .i64 ((200 : Int) + ((curBelow ((curOnce (⟨wI, wJ, wK⟩ : CurT) (60 : Int)).2) (2 : Int)).1))) ≤ (LIM : Int)))))
 (k [.d .node (eN ((tDraw (curNew a0)).1)), .d (.sl .pop) (List.replicate (Int.toNat (IntKind.wrap .i64 ((200 : Int) + ((curBelow ((curOnce (⟨wI, wJ, wK⟩ : CurT) (60 : Int)).2) (2 : Int)).1)))) (⟨(0 : Int), ([] : List BA), ([] : List BA), (⟨(0 : Int), (0 : Int), ByteArray.empty, ([] : List BA), ([] : List NodeT)⟩ : NodeT)⟩ : PopT))])
 none)
 none)
 (k [.d .node (eN ((tDraw (curNew a0)).1)), .d (.sl .pop) wN]))
 none)) (NodeT.kind ((tDraw (curNew a0)).1)) (NodeT.n ((tDraw (curNew a0)).1)) (NodeT.s ((tDraw (curNew a0)).1)) (NodeT.keys ((tDraw (curNew a0)).1)) (NodeT.kids ((tDraw (curNew a0)).1)) n (0 : Int) (CurT.b ((tDraw (curNew a0)).2)) (CurT.i ((tDraw (curNew a0)).2)) (CurT.h ((tDraw (curNew a0)).2)) ([] : List PopT))
 none)
 none) := by
  refine Eq.trans (b := (cond (gCode a0)
  (cond (gCur (curNew a0))
   (iter (fun st k => ev f16e f16k n (cAt [1,1,1,1,0,1,0,0] f16c) st k) n (f16S0 (0 : Int) (NodeT.kind ((tDraw (curNew a0)).1)) (NodeT.n ((tDraw (curNew a0)).1)) (NodeT.s ((tDraw (curNew a0)).1)) (CurT.b ((tDraw (curNew a0)).2)) (CurT.i ((tDraw (curNew a0)).2)) (CurT.h ((tDraw (curNew a0)).2)) (NodeT.keys ((tDraw (curNew a0)).1)) (NodeT.kids ((tDraw (curNew a0)).1)) ([] : List PopT)) (f16K0 n (exitK f16e [.kp] [false, false] true [.cell 2 27, .tmp 3] [27, 38] [.d (.sl (.i .u8)) a0] k)))
   none)
  none)) (by kernel_rfl) ?_
  simp only [f16L0_eq, f16K0_x0]
def f16_P (a0 : List Int) (o : NodeT × List PopT) : Prop := (fun _ o => okD 3 o.1 = true ∧ gPA o.1 o.2 = true) a0 o ∧ ∃ n : Nat, ∀ {R : Type} (k : Kt R), evFn f16e f16k n f16c [.kp] [false, false] true [.cell 2 27, .tmp 3] [27, 38] [.d (.sl (.i .u8)) a0] k = k [.d .node o.1, .d (.sl .pop) o.2]
theorem f16_ex (a0 : List Int) (hg : gCode a0 = true) : ∃ o : NodeT × List PopT, (fun _ o => okD 3 o.1 = true ∧ gPA o.1 o.2 = true) a0 o ∧ ∃ n : Nat, ∀ {R : Type} (k : Kt R), evFn f16e f16k n f16c [.kp] [false, false] true [.cell 2 27, .tmp 3] [27, 38] [.d (.sl (.i .u8)) a0] k = k [.d .node o.1, .d (.sl .pop) o.2] := by
 have g0 := curNew_ok a0 hg
 obtain ⟨t3, g1⟩ := tDraw_ok _ g0
 have key : ∀ (t : NodeT), okD 3 t = true → ∀ (d m i : Nat) (c : CurT) (l : List PopT), i + d = 3 → d < m → gCur c = true → l.length = i → (∀ p ∈ l, gOp p = true) →
   ∃ (c' : CurT) (l' : List PopT), gCur c' = true ∧ l'.length ≤ 3 ∧ (∀ p ∈ l', gOp p = true) ∧ ∀ {R : Type} (X : Int → Bool → (List Int) → Int → Int → (List PopT) → Option R), (∀ i b c1 c2 c3 q, X i b c1 c2 c3 q = X 0 true c1 c2 c3 q) →
    f16L0 10 X t.kind t.n t.s t.keys t.kids m (i : Int) c.b c.i c.h l = X 0 true c'.b c'.i c'.h l' := by
  intro t t3 d
  induction d with
  | zero =>
   intro m i c l hi hm hc hl hp
   obtain ⟨m, rfl⟩ : ∃ m', m = m' + 1 := ⟨m - 1, by omega⟩
   obtain ⟨b0, b1, g2⟩ := curBelow_ok c 4 hc
   have b1 := b1 (by omega)
   refine ⟨(curBelow c 4).2, l, g2, by omega, hp, fun {R} X hX => ?_⟩
   simp only [f16L0, eta_cur, eta_node, eN_eq, hc, decide_eq_false (show ¬ ((i : Int) < (curBelow c 4).1) by omega), cond_true, cond_false]; exact hX _ _ _ _ _ _
  | succ d ih =>
   intro m i c l hi hm hc hl hp
   obtain ⟨m, rfl⟩ : ∃ m', m = m' + 1 := ⟨m - 1, by omega⟩
   obtain ⟨b0, b1, g2⟩ := curBelow_ok c 4 hc
   cases hd : decide ((i : Int) < (curBelow c 4).1)
   ·refine ⟨(curBelow c 4).2, l, g2, by omega, hp, fun {R} X hX => ?_⟩
    simp only [f16L0, eta_cur, eta_node, eN_eq, hc, hd, cond_true, cond_false]; exact hX _ _ _ _ _ _
   ·have hok : (gCur (curBelow c 4).2 && okD 3 t) = true := by rw [g2, t3]; rfl
    obtain ⟨ho, g3⟩ := dOp_ok _ _ hok
    have hw : IntKind.wrap .i64 ((i : Int) + 1) = ((i + 1 : Nat) : Int) := by rw [wrap_id (by omega) (by omega)]; omega
    have hbl : Nat.ble (l.length + 1) LIM = true := Nat.ble_eq_true_of_le (by have : (LIM : Nat) = 4294967296 := rfl; omega)
    obtain ⟨c', l', q1, q2, q3, q4⟩ := ih m (i + 1) _ (l ++ [(dOp (curBelow c 4).2 t).1]) (by omega) (by omega) g3 (by simp [hl]) (fun p hm' => by
     rcases List.mem_append.1 hm' with h | h
     ·exact hp p h
     ·rw [List.mem_singleton.1 h]; exact ho)
    refine ⟨c', l', q1, q2, q3, fun {R} X hX => ?_⟩
    simp only [f16L0, eta_cur, eta_node, eN_eq, eta_pop, eN_eq, hc, hd, hok, hbl, hw, cond_true, cond_false]
    exact q4 X hX
 obtain ⟨c', l', q1, q2, q3, q4⟩ := key _ t3 3 10 0 _ [] rfl (by omega) g1 rfl (fun _ h => by cases h)
 have hgp := gPA_few t3 q2 q3
 obtain ⟨b0, b1, b2⟩ := curBelow_ok (curOnce c' 60).2 2 (curOnce_ok _ _ q1)
 have b1 := b1 (by omega)
 have hw : IntKind.wrap .i64 ((200 : Int) + (curBelow (curOnce c' 60).2 2).1) = (200 : Int) + (curBelow (curOnce c' 60).2 2).1 := wrap_id (by omega) (by omega)
 have hlim : decide (200 + (curBelow (curOnce c' 60).2 2).1 ≤ (LIM : Int)) = true := decide_eq_true (by have : ((LIM : Nat) : Int) = 4294967296 := rfl; omega)
 have hpos : decide ((0 : Int) ≤ 200 + (curBelow (curOnce c' 60).2 2).1) = true := decide_eq_true (by omega)
 have go2 := curOnce_ok c' 60 q1
 cases ho : (curOnce c' 60).1
 ·refine ⟨((tDraw (curNew a0)).1, l'), ⟨t3, hgp⟩, 10, fun {R} k => ?_⟩
  rw [f16_run]
  simp only [hg, g0, cond_true]
  refine Eq.trans (q4 _ fun _ _ _ _ _ _ => rfl) ?_
  simp only [eN_eq, eta_cur, q1, go2, ho, hw, hlim, hpos, decide_true, Bool.and_self, cond_true, cond_false]
 ·refine ⟨((tDraw (curNew a0)).1, List.replicate (Int.toNat (200 + (curBelow (curOnce c' 60).2 2).1)) ⟨0, [], [], ⟨0, 0, ByteArray.empty, [], []⟩⟩), ⟨t3, gPA_zero t3⟩, 10, fun {R} k => ?_⟩
  rw [f16_run]
  simp only [hg, g0, cond_true]
  refine Eq.trans (q4 _ fun _ _ _ _ _ _ => rfl) ?_
  simp only [eN_eq, eta_cur, q1, go2, ho, hw, hlim, hpos, decide_true, Bool.and_self, cond_true, cond_false]
theorem f16_ne (a0 : List Int) : Nonempty {o : NodeT × List PopT // gCode a0 = true → f16_P a0 o} := by
 by_cases hg : gCode a0 = true
 ·obtain ⟨o, ho⟩ := f16_ex a0 hg
  exact ⟨⟨o, fun _ => ho⟩⟩
 ·exact ⟨⟨((zero .node), []), fun h => absurd h hg⟩⟩
noncomputable def dPA (a0 : List Int) : NodeT × List PopT := (Classical.choice (f16_ne a0)).val
theorem f16_sp (a0 : List Int) (hg : gCode a0 = true) : f16_P a0 (dPA a0) := (Classical.choice (f16_ne a0)).property hg
theorem dPA_ok (a0 : List Int) (hg : gCode a0 = true) : (fun _ o => okD 3 o.1 = true ∧ gPA o.1 o.2 = true) a0 (dPA a0) := (f16_sp a0 hg).1
theorem f16_spec (a0 : List Int) (hg : gCode a0 = true) : ∃ keep rounds, ∀ {R : Type} (k : Kt R), evFn f16e keep rounds f16c [.kp] [false, false] true [.cell 2 27, .tmp 3] [27, 38] [.d (.sl (.i .u8)) a0] k = k [.d .node ((dPA a0).1), .d (.sl .pop) ((dPA a0).2)] := by
 obtain ⟨n, hn⟩ := (f16_sp a0 hg).2
 exact ⟨f16k, n, hn⟩
noncomputable def q16 : Qt
 | [.d (.sl (.i .u8)) a0] => some ((gCode a0), [.d .node ((dPA a0).1), .d (.sl .pop) ((dPA a0).2)])
 | _ => none
noncomputable def s16 : Gm.Spec := Gm.Spec.of [.kp] [false, false] true q16
theorem good16 : Gm.Good Try.prog (16, s16) := by
 have hl : ∀ x ∈ [(35, s35), (45, s45), (46, s46), (52, s52), (53, s53)], Gm.Good Try.prog x := fcJ.2 ⟨good35, fcJ.2 ⟨good45, fcJ.2 ⟨good46, fcJ.2 ⟨good52, fcJ.2 ⟨good53, fcN⟩⟩⟩⟩⟩
 refine ⟨⟨spec_ok (tab_ok.env hl) (tab.natl hl) Try.func16 (by kernel_rfl : Try.f16.body = some f16c) [27, 38] (by kernel_rfl) ?_, _, Try.func16, by kernel_rfl, of_decide_eq_true (by kernel_rfl)⟩, Gm.Spec.of_natl _ _ _ _⟩
 intro ds outs h
 unfold q16 at h
 split at h
 ·simp only [Option.some.injEq, Prod.mk.injEq] at h; obtain ⟨hg, h⟩ := h; cases h; exact f16_spec _ hg
 ·cases h
noncomputable def f8c : Code := (Try.f8.body).getD .skip
def f8k : Nat → Kp := kat [⟨[0], [], [], []⟩, ⟨[2], [], [], []⟩]
noncomputable def f8e : Env := tab.env []
theorem f8_run {R : Type} (n : Nat) (k : Kt R) (a0 : List Int) : evFn f8e f8k n f8c [.ro] [false] true [.tmp 2] [4] [.d (.sl (.i .u8)) a0] k =
 (k [.d .bool (decide ((a0.length : Int) > (1048576 : Int)))]) := by kernel_rfl
theorem f8_spec (a0 : List Int) : ∃ keep rounds, ∀ {R : Type} (k : Kt R), evFn f8e keep rounds f8c [.ro] [false] true [.tmp 2] [4] [.d (.sl (.i .u8)) a0] k = k [.d .bool (bigC a0)] := by
 exact ⟨f8k, 0, fun k => f8_run 0 k a0⟩
noncomputable def q8 : Qt
 | [.d (.sl (.i .u8)) a0] => some (true, [.d .bool (bigC a0)])
 | _ => none
noncomputable def s8 : Gm.Spec := Gm.Spec.of [.ro] [false] true q8
theorem good8 : Gm.Good Try.prog (8, s8) := by
 have hl : ∀ x ∈ ([] : List (Nat × Gm.Spec)), Gm.Good Try.prog x := fun _ h => by cases h
 refine ⟨⟨spec_ok (tab_ok.env hl) (tab.natl hl) Try.func8 (by kernel_rfl : Try.f8.body = some f8c) [4] (by kernel_rfl) ?_, _, Try.func8, by kernel_rfl, of_decide_eq_true (by kernel_rfl)⟩, Gm.Spec.of_natl _ _ _ _⟩
 intro ds outs h
 unfold q8 at h
 split at h
 ·cases h; exact f8_spec _
 ·cases h
noncomputable def f42S0 (y0 : List BA) (y1 : List BA) (y2 : Int) (y3 : Int) : St := ⟨[(0, .c (.one (.ro .str y0))), (1, .c (.one (.ro .str y1))), (12, .c (.one (.v (.int .i64 y2)))), (13, .c (.one (.v (.int .i64 y3))))], [], []⟩
noncomputable def f42S1 : St := ⟨[(4, .c (.one (.v (.bool false))))], [], []⟩
noncomputable def f42S2 (y0 : List BA) (y1 : List BA) (y2 : Int) (y3 : Int) (y4 : Bool) : St := ⟨[(0, .c (.one (.ro .str y0))), (1, .c (.one (.ro .str y1))), (12, .c (.one (.v (.int .i64 y2)))), (13, .c (.one (.v (.int .i64 y3)))), (14, .c (.one (.v (.bool y4))))], [], []⟩
noncomputable def f42c : Code := (Try.f42.body).getD .skip
def f42k : Nat → Kp := kat [⟨[0, 1], [], [], []⟩, ⟨[0, 1, 10], [], [], []⟩, ⟨[4], [], [], []⟩, ⟨[0, 1, 12, 13], [], [], []⟩, ⟨[0, 1, 12, 13, 14], [], [], []⟩, ⟨[0, 1, 5, 12, 13], [], [], []⟩, ⟨[0, 1, 12, 13, 24], [], [], []⟩, ⟨[4], [], [], []⟩, ⟨[0, 1, 12, 13], [], [], []⟩, ⟨[4], [], [], []⟩]
noncomputable def f42e : Env := tab.env []
noncomputable def f42L0 {R : Type} (n : Nat) (x0 : Option R) (x1 : Int → Bool → Option R) (wC : List BA) (wA : List BA) (wR : Int) : Nat → Int → Option R
  | 0, _ => none
  | m + 1, wJ =>
    (cond (decide (wJ < wR))
   (cond ((decide ((0 : Int) ≤ wJ)) && (decide (wJ < (wC.length : Int))))
    (cond ((decide ((0 : Int) ≤ wJ)) && (decide (wJ < (wA.length : Int))))
     (cond (!(sEq (atI (t := .str) wC (Int.toNat wJ)) (atI (t := .str) wA (Int.toNat wJ))))
      (x0)
      (f42L0 n x0 x1 wC wA wR m (IntKind.wrap .i64 (wJ + (1 : Int)))))
     none)
    none)
   (x1 wJ (decide (wJ < wR))))
theorem f42L0_b {R : Type} (n : Nat) (k' : Kx R) (wC : List BA) (wA : List BA) (wR : Int) (wJ : Int) : ev f42e f42k n (cAt [1,1,0,1,0,0] f42c) (f42S0 wC wA wR wJ) k' =
 (cond (decide (wJ < wR))
 (cond ((decide ((0 : Int) ≤ wJ)) && (decide (wJ < (wC.length : Int))))
 (cond ((decide ((0 : Int) ≤ wJ)) && (decide (wJ < (wA.length : Int))))
 (cond (!(sEq (atI (t := .str) wC (Int.toNat wJ)) (atI (t := .str) wA (Int.toNat wJ))))
 (k' .ret f42S1)
 (k' .normal (f42S0 wC wA wR (IntKind.wrap .i64 (wJ + (1 : Int))))))
 none)
 none)
 (k' (.exit 0) (f42S2 wC wA wR wJ (decide (wJ < wR))))) := by kernel_rfl
theorem f42L0_eq {R : Type} (n : Nat) (k' : Kx R) (wC : List BA) (wA : List BA) (wR : Int) : ∀ (m : Nat) (wJ : Int), iter (fun st k => ev f42e f42k n (cAt [1,1,0,1,0,0] f42c) st k) m (f42S0 wC wA wR wJ) k' = f42L0 n (k' .ret f42S1) (fun (wW : Int) (wX : Bool) => k' (.exit 0) (f42S2 wC wA wR wW wX)) wC wA wR m wJ := by
 intro m; induction m with
 | zero => intros; rfl
 | succ m ih =>
  intro wJ
  simp only [iter]
  rw [f42L0_b]
  simp only [ih, f42L0]
noncomputable def f42K0 {R : Type} (n : Nat) (k' : Kx R) : Kx R := (blockK 0 (seqK f42e f42k n (cAt [1,1,1] f42c) k'))
theorem f42K0_x0 {R : Type} (n : Nat) (k : Kt R) (a0 : List BA) (a1 : List BA)  : f42K0 n (exitK f42e [.ro, .ro] [false] true [.tmp 4] [4] [.d (.sl .str) a0, .d (.sl .str) a1] k) .ret f42S1 =
 (k [.d .bool false]) := by kernel_rfl
theorem f42K0_x1 {R : Type} (n : Nat) (k : Kt R) (a0 : List BA) (a1 : List BA) (wC : List BA) (wA : List BA) (wR : Int) (wW : Int) (wX : Bool) : f42K0 n (exitK f42e [.ro, .ro] [false] true [.tmp 4] [4] [.d (.sl .str) a0, .d (.sl .str) a1] k) (.exit 0) (f42S2 wC wA wR wW wX) =
 (k [.d .bool true]) := by kernel_rfl
theorem f42_run {R : Type} (n : Nat) (k : Kt R) (a0 : List BA) (a1 : List BA) : evFn f42e f42k n f42c [.ro, .ro] [false] true [.tmp 4] [4] [.d (.sl .str) a0, .d (.sl .str) a1] k =
 (cond ((a0.length : Int) != (a1.length : Int))
 (k [.d .bool false])
 (f42L0 n (k [.d .bool false]) (fun (wW : Int) (wX : Bool) =>
 (k [.d .bool true])) a0 a1 (a0.length : Int) n (0 : Int))) := by
 refine Eq.trans (b := (cond ((a0.length : Int) != (a1.length : Int))
 (k [.d .bool false])
 (iter (fun st k => ev f42e f42k n (cAt [1,1,0,1,0,0] f42c) st k) n (f42S0 a0 a1 (a0.length : Int) (0 : Int)) (f42K0 n (exitK f42e [.ro, .ro] [false] true [.tmp 4] [4] [.d (.sl .str) a0, .d (.sl .str) a1] k))))) (by kernel_rfl) ?_
 simp only [f42L0_eq, f42K0_x0, f42K0_x1]
theorem f42_spec (a0 : List BA) (a1 : List BA) (hg : gLenW a0 = true) : ∃ keep rounds, ∀ {R : Type} (k : Kt R), evFn f42e keep rounds f42c [.ro, .ro] [false] true [.tmp 4] [4] [.d (.sl .str) a0, .d (.sl .str) a1] k = k [.d .bool (eqD a0 a1)] := by
 have hl := gLenW_le hg
 refine ⟨f42k, a0.length + 1, fun k => ?_⟩
 rw [f42_run]
 by_cases hc : a0.length = a1.length
 ·have hc' : ((a0.length : Int) != (a1.length : Int)) = false := by simp [hc]
  simp only [hc', cond_false]
  refine Eq.trans (loop_idx (n := a0.length) (F := fun m i => f42L0 (a0.length + 1) _ _ a0 a1 (a0.length : Int) m i) (p := fun j => sEq (atI (t := .str) a0 j) (atI (t := .str) a1 j)) (good := k [.d .bool true]) (bad := k [.d .bool false])
   (fun m j hj => ?_) (fun m => by simp only [f42L0, idxE, cond_false]) a0.length 0 (a0.length + 1) (by omega) (by omega)) ?_
  ·obtain ⟨h1, h0, hw, ht⟩ := idx hj (by omega)
   obtain ⟨h2, _, _, _⟩ := idx (show j < a1.length by omega) (by omega)
   simp only [f42L0, h1, h0, h2, hw, ht, Bool.and_self, cond_true]
   cases sEq (atI (t := .str) a0 j) (atI (t := .str) a1 j) <;> rfl
  ·rw [allN_eq hc (fun j x y hx hy => by rw [atI_of (t := .str) hx, atI_of (t := .str) hy, ← eqD_str])]
   cases eqD a0 a1 <;> rfl
 ·simp only [bneLen hc, cond_true]
  rw [eqD_ne (fun e => hc (by rw [e]))]
noncomputable def q42 : Qt
 | [.d (.sl .str) a0, .d (.sl .str) a1] => some (((fun (x y : List BA) => gLenW x) a0 a1), [.d .bool (eqD a0 a1)])
 | _ => none
noncomputable def s42 : Gm.Spec := Gm.Spec.of [.ro, .ro] [false] true q42
theorem good42 : Gm.Good Try.prog (42, s42) := by
 have hl : ∀ x ∈ ([] : List (Nat × Gm.Spec)), Gm.Good Try.prog x := fun _ h => by cases h
 refine ⟨⟨spec_ok (tab_ok.env hl) (tab.natl hl) Try.func42 (by kernel_rfl : Try.f42.body = some f42c) [4] (by kernel_rfl) ?_, _, Try.func42, by kernel_rfl, of_decide_eq_true (by kernel_rfl)⟩, Gm.Spec.of_natl _ _ _ _⟩
 intro ds outs h
 unfold q42 at h
 split at h
 ·simp only [Option.some.injEq, Prod.mk.injEq] at h; obtain ⟨hg, h⟩ := h; cases h; exact f42_spec _ _ hg
 ·cases h
noncomputable def q12 : Qt
 | [.d .node a0, .d .node a1] => some ((sm2 sm_node a0 a1), [.d .bool (eqD a0 a1)])
 | _ => none
noncomputable def mu12 : List Dt → Nat
 | [.d .node a0, .d .node a1] => me_node a0 a1
 | _ => 0
noncomputable def s12r (N : Nat) : Gm.Spec := Gm.Spec.of [.ro, .ro] [false] true (qlt mu12 N q12)
noncomputable def s12 : Gm.Spec := Gm.Spec.of [.ro, .ro] [false] true q12
noncomputable def q43 : Qt
 | [.d (.sl .node) a0, .d (.sl .node) a1, .clo 12 []] => some ((sm2 (smL sm_node) a0 a1), [.d .bool (eqD a0 a1)])
 | _ => none
noncomputable def mu43 : List Dt → Nat
 | [.d (.sl .node) a0, .d (.sl .node) a1, .clo 12 []] => meL_node a0 a1
 | _ => 0
noncomputable def s43r (N : Nat) : Gm.Spec := Gm.Spec.of [.ro, .ro, .fn] [false] true (qlt mu43 N q43)
noncomputable def f12c : Code := (Try.f12.body).getD .skip
def f12k : Nat → Kp := kat [⟨[2, 3], [], [], []⟩, ⟨[4], [], [], []⟩]
noncomputable def f12e (N : Nat) : Env := tab.env [(12, s12r N), (42, s42), (43, s43r N)]
theorem f12_run {R : Type} (N : Nat) (n : Nat) (k : Kt R) (a0 : NodeT) (a1 : NodeT) : evFn (f12e N) f12k n f12c [.ro, .ro] [false] true [.tmp 4] [4] [.d .node a0, .d .node a1] k =
 (cond ((NodeT.kind a0) == (NodeT.kind a1))
 (cond ((NodeT.n a0) == (NodeT.n a1))
 (cond (sEq (NodeT.s a0) (NodeT.s a1))
 (cond ((fun (x y : List BA) => gLenW x) (NodeT.keys a0) (NodeT.keys a1))
 (cond (eqD (NodeT.keys a0) (NodeT.keys a1))
 (cond ((sm2 (smL sm_node) (NodeT.kids a0) (NodeT.kids a1)) && (Nat.blt (meL_node (NodeT.kids a0) (NodeT.kids a1)) N))
 (k [.d .bool (eqD (NodeT.kids a0) (NodeT.kids a1))])
 none)
 (k [.d .bool false]))
 none)
 (k [.d .bool false]))
 (k [.d .bool false]))
 (k [.d .bool false])) := by kernel_rfl
theorem f12_spec (N : Nat) (a0 : NodeT) (a1 : NodeT) (hg : sm2 sm_node a0 a1 = true) (hm : mu12 [.d .node a0, .d .node a1] = N) : ∃ keep rounds, ∀ {R : Type} (k : Kt R), evFn (f12e N) keep rounds f12c [.ro, .ro] [false] true [.tmp 4] [4] [.d .node a0, .d .node a1] k = k [.d .bool (eqD a0 a1)] := by
 have hm : me_node a0 a1 = N := hm
 subst hm
 have m1 : Nat.blt (meL_node a0.kids a1.kids) (me_node a0 a1) = true := by rw [Nat.blt_eq]; simp only [meL_node, me_node, nd_node_def]; omega
 simp only [sm2, sm_node_def, Bool.and_eq_true] at hg
 have gk : gLenW a0.keys = true := gLenW_sm hg.1.2.2.2.1
 refine ⟨f12k, 0, fun {R} k => ?_⟩
 rw [f12_run, eqD_node]
 simp only [sm2, gk, hg, m1, Bool.and_self, Bool.true_and, cond_true]
 cases (a0.kind == a1.kind) <;> cases (a0.n == a1.n) <;> cases sEq a0.s a1.s <;> cases eqD a0.keys a1.keys <;> rfl
noncomputable def f43S0 (y0 : List NodeT) (y1 : List NodeT) (y2 : Int) (y3 : Int) : St := ⟨[(1, .c (.one (.ro .node y0))), (2, .c (.one (.cloR 12 []))), (15, .c (.one (.ro .node y1))), (16, .c (.one (.v (.int .i64 y2)))), (17, .c (.one (.v (.int .i64 y3))))], [], []⟩
noncomputable def f43S1 : St := ⟨[(6, .c (.one (.v (.bool false))))], [], []⟩
noncomputable def f43S2 (y0 : List NodeT) (y1 : List NodeT) (y2 : Int) (y3 : Int) (y4 : Bool) : St := ⟨[(1, .c (.one (.ro .node y0))), (2, .c (.one (.cloR 12 []))), (15, .c (.one (.ro .node y1))), (16, .c (.one (.v (.int .i64 y2)))), (17, .c (.one (.v (.int .i64 y3)))), (18, .c (.one (.v (.bool y4))))], [], []⟩
noncomputable def f43c : Code := (Try.f43.body).getD .skip
def f43k : Nat → Kp := kat [⟨[0, 1, 2], [], [], []⟩, ⟨[0, 1, 2, 14], [], [], []⟩, ⟨[6], [], [], []⟩, ⟨[1, 2, 15, 16, 17], [], [], []⟩, ⟨[1, 2, 15, 16, 17, 18], [], [], []⟩, ⟨[1, 2, 7, 8, 15, 16, 17], [], [], []⟩, ⟨[1, 2, 8, 9, 15, 16, 17], [], [], []⟩, ⟨[1, 2, 15, 16, 17, 30], [], [], []⟩, ⟨[6], [], [], []⟩, ⟨[1, 2, 15, 16, 17], [], [], []⟩, ⟨[6], [], [], []⟩]
noncomputable def f43e (N : Nat) : Env := tab.env [(12, s12r N)]
noncomputable def f43L0 {R : Type} (N : Nat) (n : Nat) (x0 : Option R) (x1 : Int → Bool → Option R) (wA : List NodeT) (wQ : List NodeT) (wS : Int) : Nat → Int → Option R
  | 0, _ => none
  | m + 1, wE =>
    (cond (decide (wE < wS))
   (cond ((decide ((0 : Int) ≤ wE)) && (decide (wE < (wQ.length : Int))))
    (cond ((decide ((0 : Int) ≤ wE)) && (decide (wE < (wA.length : Int))))
     (cond ((sm2 sm_node (eN (atI (t := .node) wQ (Int.toNat wE))) (eN (atI (t := .node) wA (Int.toNat wE)))) && (Nat.blt (me_node (eN (atI (t := .node) wQ (Int.toNat wE))) (eN (atI (t := .node) wA (Int.toNat wE)))) N))
      (cond (!(eqD (eN (atI (t := .node) wQ (Int.toNat wE))) (eN (atI (t := .node) wA (Int.toNat wE)))))
       (x0)
       (f43L0 N n x0 x1 wA wQ wS m (IntKind.wrap .i64 (wE + (1 : Int)))))
      none)
     none)
    none)
   (x1 wE (decide (wE < wS))))
theorem f43L0_b {R : Type} (N : Nat) (n : Nat) (k' : Kx R) (wA : List NodeT) (wQ : List NodeT) (wS : Int) (wE : Int) : ev (f43e N) f43k n (cAt [1,1,0,1,0,0] f43c) (f43S0 wA wQ wS wE) k' =
 (cond (decide (wE < wS))
 (cond ((decide ((0 : Int) ≤ wE)) && (decide (wE < (wQ.length : Int))))
 (cond ((decide ((0 : Int) ≤ wE)) && (decide (wE < (wA.length : Int))))
 (cond ((sm2 sm_node (eN (atI (t := .node) wQ (Int.toNat wE))) (eN (atI (t := .node) wA (Int.toNat wE)))) && (Nat.blt (me_node (eN (atI (t := .node) wQ (Int.toNat wE))) (eN (atI (t := .node) wA (Int.toNat wE)))) N))
 (cond (!(eqD (eN (atI (t := .node) wQ (Int.toNat wE))) (eN (atI (t := .node) wA (Int.toNat wE)))))
 (k' .ret f43S1)
 (k' .normal (f43S0 wA wQ wS (IntKind.wrap .i64 (wE + (1 : Int))))))
 none)
 none)
 none)
 (k' (.exit 0) (f43S2 wA wQ wS wE (decide (wE < wS))))) := by kernel_rfl
theorem f43L0_eq {R : Type} (N : Nat) (n : Nat) (k' : Kx R) (wA : List NodeT) (wQ : List NodeT) (wS : Int) : ∀ (m : Nat) (wE : Int), iter (fun st k => ev (f43e N) f43k n (cAt [1,1,0,1,0,0] f43c) st k) m (f43S0 wA wQ wS wE) k' = f43L0 N n (k' .ret f43S1) (fun (wY : Int) (wZ : Bool) => k' (.exit 0) (f43S2 wA wQ wS wY wZ)) wA wQ wS m wE := by
 intro m; induction m with
 | zero => intros; rfl
 | succ m ih =>
  intro wE
  simp only [iter]
  rw [f43L0_b]
  simp only [ih, f43L0]
noncomputable def f43K0 {R : Type} (N : Nat) (n : Nat) (k' : Kx R) : Kx R := (blockK 0 (seqK (f43e N) f43k n (cAt [1,1,1] f43c) k'))
theorem f43K0_x0 {R : Type} (N : Nat) (n : Nat) (k : Kt R) (a0 : List NodeT) (a1 : List NodeT)  : f43K0 N n (exitK (f43e N) [.ro, .ro, .fn] [false] true [.tmp 6] [4] [.d (.sl .node) a0, .d (.sl .node) a1, .clo 12 []] k) .ret f43S1 =
 (k [.d .bool false]) := by kernel_rfl
theorem f43K0_x1 {R : Type} (N : Nat) (n : Nat) (k : Kt R) (a0 : List NodeT) (a1 : List NodeT) (wA : List NodeT) (wQ : List NodeT) (wS : Int) (wY : Int) (wZ : Bool) : f43K0 N n (exitK (f43e N) [.ro, .ro, .fn] [false] true [.tmp 6] [4] [.d (.sl .node) a0, .d (.sl .node) a1, .clo 12 []] k) (.exit 0) (f43S2 wA wQ wS wY wZ) =
 (k [.d .bool true]) := by kernel_rfl
theorem f43_run {R : Type} (N : Nat) (n : Nat) (k : Kt R) (a0 : List NodeT) (a1 : List NodeT) : evFn (f43e N) f43k n f43c [.ro, .ro, .fn] [false] true [.tmp 6] [4] [.d (.sl .node) a0, .d (.sl .node) a1, .clo 12 []] k =
 (cond ((a0.length : Int) != (a1.length : Int))
 (k [.d .bool false])
 (f43L0 N n (k [.d .bool false]) (fun (wY : Int) (wZ : Bool) =>
 (k [.d .bool true])) a1 a0 (a0.length : Int) n (0 : Int))) := by
 refine Eq.trans (b := (cond ((a0.length : Int) != (a1.length : Int))
 (k [.d .bool false])
 (iter (fun st k => ev (f43e N) f43k n (cAt [1,1,0,1,0,0] f43c) st k) n (f43S0 a1 a0 (a0.length : Int) (0 : Int)) (f43K0 N n (exitK (f43e N) [.ro, .ro, .fn] [false] true [.tmp 6] [4] [.d (.sl .node) a0, .d (.sl .node) a1, .clo 12 []] k))))) (by kernel_rfl) ?_
 simp only [f43L0_eq, f43K0_x0, f43K0_x1]
theorem f43_spec (N : Nat) (a0 : List NodeT) (a1 : List NodeT) (hg : sm2 (smL sm_node) a0 a1 = true) (hm : mu43 [.d (.sl .node) a0, .d (.sl .node) a1, .clo 12 []] = N) : ∃ keep rounds, ∀ {R : Type} (k : Kt R), evFn (f43e N) keep rounds f43c [.ro, .ro, .fn] [false] true [.tmp 6] [4] [.d (.sl .node) a0, .d (.sl .node) a1, .clo 12 []] k = k [.d .bool (eqD a0 a1)] := by
 have hm : meL_node a0 a1 = N := hm
 subst hm
 simp only [sm2, Bool.and_eq_true] at hg
 obtain ⟨hg0, hg1⟩ := hg
 have hl : a0.length ≤ 1048576 := smL_len hg0
 refine ⟨f43k, a0.length + 1, fun {R} k => ?_⟩
 rw [f43_run]
 by_cases hc : a0.length = a1.length
 ·have hc' : ((a0.length : Int) != (a1.length : Int)) = false := by simp [hc]
  simp only [hc', cond_false]
  refine Eq.trans (loop_idx (n := a0.length) (F := fun m i => f43L0 (meL_node a0 a1) (a0.length + 1) _ _ a1 a0 (a0.length : Int) m i) (p := fun j => eqD (atI (t := .node) a0 j) (atI (t := .node) a1 j)) (good := k [.d .bool true]) (bad := k [.d .bool false])
   (fun m j hj => ?_) (fun m => by simp only [f43L0, idxE, cond_false]) a0.length 0 (a0.length + 1) (by omega) (by omega)) ?_
  ·obtain ⟨h1, h0, hw, ht⟩ := idx hj (by omega)
   obtain ⟨h2, _, _, _⟩ := idx (show j < a1.length by omega) (by omega)
   have ha := smL_at (t := .node) hg0 hj
   have hb := smL_at (t := .node) hg1 (show j < a1.length by omega)
   have hm1 : Nat.blt (me_node (atI (t := .node) a0 j) (atI (t := .node) a1 j)) (meL_node a0 a1) = true := by
    obtain ⟨x, hx, _⟩ := drop_get hj
    have := ndL_mem (f := nd_node) (List.mem_of_getElem? hx)
    rw [atI_of (t := .node) hx, Nat.blt_eq]; simp only [me_node, meL_node]; omega
   simp only [f43L0, h1, h0, h2, hw, ht, Bool.and_self, cond_true, sm2, eta_node, eN_eq, ha, hb, hm1]
   cases eqD (atI (t := .node) a0 j) (atI (t := .node) a1 j) <;> rfl
  ·rw [allN_eq hc (fun j x y hx hy => by rw [atI_of (t := .node) hx, atI_of (t := .node) hy])]
   cases eqD a0 a1 <;> rfl
 ·simp only [bneLen hc, cond_true]
  rw [eqD_ne (fun e => hc (by rw [e]))]
theorem goods12 : ∀ x ∈ ([⟨12, [.ro, .ro], [false], true, mu12, q12⟩, ⟨43, [.ro, .ro, .fn], [false], true, mu43, q43⟩] : List Rc), Gm.SpecOk Try.prog x.f (Gm.Spec.of x.ms x.rs x.ow x.q) := by
 refine spec_recs _ fun N hr => ?_
 have hr1 : Gm.SpecOk Try.prog 12 (Gm.Spec.of [.ro, .ro] [false] true (qlt mu12 N q12)) := fun {R} => hr _ (.head _)
 have hr2 : Gm.SpecOk Try.prog 43 (Gm.Spec.of [.ro, .ro, .fn] [false] true (qlt mu43 N q43)) := fun {R} => hr _ (.tail _ (.head _))
 refine fcJ.2 ⟨?_, fcJ.2 ⟨?_, fcN⟩⟩
 ·have hl : ∀ x ∈ ([(12, s12r N), (42, s42), (43, s43r N)] : List (Nat × Gm.Spec)), Gm.Good Try.prog x := fcJ.2 ⟨⟨⟨hr1, _, Try.func12, by kernel_rfl, of_decide_eq_true (by kernel_rfl)⟩, Gm.Spec.of_natl _ _ _ _⟩, fcJ.2 ⟨good42, fcJ.2 ⟨⟨⟨hr2, _, Try.func43, by kernel_rfl, of_decide_eq_true (by kernel_rfl)⟩, Gm.Spec.of_natl _ _ _ _⟩, fcN⟩⟩⟩
  show Gm.SpecOk Try.prog 12 (Gm.Spec.of [.ro, .ro] [false] true (qeq mu12 N q12))
  intro R
  refine spec_ok (E := f12e N) (tab_ok.env hl) (tab.natl hl) Try.func12 (by kernel_rfl : Try.f12.body = some f12c) [4] (by kernel_rfl) ?_
  intro ds outs h
  obtain ⟨h, hm⟩ := qeq_some h
  unfold q12 at h
  split at h
  ·simp only [Option.some.injEq, Prod.mk.injEq] at h; obtain ⟨hg, h⟩ := h; cases h; exact f12_spec N _ _ hg hm
  ·cases h
 ·have hl : ∀ x ∈ ([(12, s12r N)] : List (Nat × Gm.Spec)), Gm.Good Try.prog x := fcJ.2 ⟨⟨⟨hr1, _, Try.func12, by kernel_rfl, of_decide_eq_true (by kernel_rfl)⟩, Gm.Spec.of_natl _ _ _ _⟩, fcN⟩
  show Gm.SpecOk Try.prog 43 (Gm.Spec.of [.ro, .ro, .fn] [false] true (qeq mu43 N q43))
  intro R
  refine spec_ok (E := f43e N) (tab_ok.env hl) (tab.natl hl) Try.func43 (by kernel_rfl : Try.f43.body = some f43c) [4] (by kernel_rfl) ?_
  intro ds outs h
  obtain ⟨h, hm⟩ := qeq_some h
  unfold q43 at h
  split at h
  ·simp only [Option.some.injEq, Prod.mk.injEq] at h; obtain ⟨hg, h⟩ := h; cases h; exact f43_spec N _ _ hg hm
  ·cases h
theorem good12 : Gm.Good Try.prog (12, s12) := ⟨⟨fun {R} => goods12 _ (.head _), _, Try.func12, by kernel_rfl, of_decide_eq_true (by kernel_rfl)⟩, Gm.Spec.of_natl _ _ _ _⟩
noncomputable def q50 : Qt
 | [.d .node a0, .d .node a1] => some ((sm2 sm_node a0 a1), [.d .bool (eqD a0 a1)])
 | _ => none
noncomputable def mu50 : List Dt → Nat
 | [.d .node a0, .d .node a1] => me_node a0 a1
 | _ => 0
noncomputable def s50r (N : Nat) : Gm.Spec := Gm.Spec.of [.ro, .ro] [false] true (qlt mu50 N q50)
noncomputable def f50S0 (y0 : Int) (y1 : Int) (y2 : Int) (y3 : BA) (y4 : List BA) (y5 : List NodeT) (y6 : Int) (y7 : Int) (y8 : BA) (y9 : List BA) (y10 : List NodeT) : St := ⟨[(2, .c (.one (.pt 2 0))), (3, .c (.one (.pt 3 0))), (5, .c (.one (.v (.int .i64 y0))))], [(2, ⟨.node, [.v (.int .i64 y1), .v (.int .i64 y2), .v (.string y3), .ro .str y4, .ro .node y5]⟩), (3, ⟨.node, [.v (.int .i64 y6), .v (.int .i64 y7), .v (.string y8), .ro .str y9, .ro .node y10]⟩)], []⟩
noncomputable def f50S1 : St := ⟨[(4, .c (.one (.v (.bool false))))], [], []⟩
noncomputable def f50S2 (y0 : Int) (y1 : Bool) (y2 : Int) (y3 : Int) (y4 : BA) (y5 : List BA) (y6 : List NodeT) (y7 : Int) (y8 : Int) (y9 : BA) (y10 : List BA) (y11 : List NodeT) : St := ⟨[(2, .c (.one (.pt 2 0))), (3, .c (.one (.pt 3 0))), (5, .c (.one (.v (.int .i64 y0)))), (48, .c (.one (.v (.bool y1))))], [(2, ⟨.node, [.v (.int .i64 y2), .v (.int .i64 y3), .v (.string y4), .ro .str y5, .ro .node y6]⟩), (3, ⟨.node, [.v (.int .i64 y7), .v (.int .i64 y8), .v (.string y9), .ro .str y10, .ro .node y11]⟩)], []⟩
noncomputable def f50S3 (y0 : Int) (y1 : Int) (y2 : Int) (y3 : BA) (y4 : List BA) (y5 : List NodeT) (y6 : Int) (y7 : Int) (y8 : BA) (y9 : List BA) (y10 : List NodeT) : St := ⟨[(2, .c (.one (.pt 2 0))), (3, .c (.one (.pt 3 0))), (6, .c (.one (.v (.int .i64 y0))))], [(2, ⟨.node, [.v (.int .i64 y1), .v (.int .i64 y2), .v (.string y3), .ro .str y4, .ro .node y5]⟩), (3, ⟨.node, [.v (.int .i64 y6), .v (.int .i64 y7), .v (.string y8), .ro .str y9, .ro .node y10]⟩)], []⟩
noncomputable def f50S4 (y0 : Int) (y1 : Bool) (y2 : Int) (y3 : Int) (y4 : BA) (y5 : List BA) (y6 : List NodeT) (y7 : Int) (y8 : Int) (y9 : BA) (y10 : List BA) (y11 : List NodeT) : St := ⟨[(2, .c (.one (.pt 2 0))), (3, .c (.one (.pt 3 0))), (6, .c (.one (.v (.int .i64 y0)))), (66, .c (.one (.v (.bool y1))))], [(2, ⟨.node, [.v (.int .i64 y2), .v (.int .i64 y3), .v (.string y4), .ro .str y5, .ro .node y6]⟩), (3, ⟨.node, [.v (.int .i64 y7), .v (.int .i64 y8), .v (.string y9), .ro .str y10, .ro .node y11]⟩)], []⟩
noncomputable def f50c : Code := (Try.f50.body).getD .skip
def f50k : Nat → Kp := kat [⟨[2, 3], [], [], []⟩, ⟨[2, 3, 43], [], [], []⟩, ⟨[4], [], [], []⟩, ⟨[2, 3, 5], [], [], []⟩, ⟨[2, 3, 5, 48], [], [], []⟩, ⟨[2, 3, 5], [], [], []⟩, ⟨[2, 3, 5, 61], [], [], []⟩, ⟨[4], [], [], []⟩, ⟨[2, 3, 6], [], [], []⟩, ⟨[2, 3, 6, 66], [], [], []⟩, ⟨[2, 3, 6], [], [], []⟩, ⟨[2, 3, 6, 80], [], [], []⟩, ⟨[4], [], [], []⟩, ⟨[4], [], [], []⟩]
noncomputable def f50e (N : Nat) : Env := tab.env [(50, s50r N)]
noncomputable def f50L0 {R : Type} (N : Nat) (n : Nat) (x0 : Option R) (x1 : Int → Bool → Option R) (wK : Int) (wL : Int) (wM : BA) (wG : List BA) (wD : List NodeT) (wN : Int) (wO : Int) (wP : BA) (wI : List BA) (wH : List NodeT) : Nat → Int → Option R
  | 0, _ => none
  | m + 1, wB =>
    (cond (decide (wB < (wG.length : Int)))
   (cond ((decide ((0 : Int) ≤ wB)) && (decide (wB < (wG.length : Int))))
    (cond ((decide ((0 : Int) ≤ wB)) && (decide (wB < (wI.length : Int))))
     (cond (!(sEq (atI (t := .str) wG (Int.toNat wB)) (atI (t := .str) wI (Int.toNat wB))))
      (x0)
      (f50L0 N n x0 x1 wK wL wM wG wD wN wO wP wI wH m (IntKind.wrap .i64 (wB + (1 : Int)))))
     none)
    none)
   (x1 wB (decide (wB < (wG.length : Int)))))
theorem f50L0_b {R : Type} (N : Nat) (n : Nat) (k' : Kx R) (wB : Int) (wK : Int) (wL : Int) (wM : BA) (wG : List BA) (wD : List NodeT) (wN : Int) (wO : Int) (wP : BA) (wI : List BA) (wH : List NodeT) : ev (f50e N) f50k n (cAt [1,1,0,1,0,0] f50c) (f50S0 wB wK wL wM wG wD wN wO wP wI wH) k' =
 (cond (decide (wB < (wG.length : Int)))
 (cond ((decide ((0 : Int) ≤ wB)) && (decide (wB < (wG.length : Int))))
 (cond ((decide ((0 : Int) ≤ wB)) && (decide (wB < (wI.length : Int))))
 (cond (!(sEq (atI (t := .str) wG (Int.toNat wB)) (atI (t := .str) wI (Int.toNat wB))))
 (k' .ret f50S1)
 (k' .normal (f50S0 (IntKind.wrap .i64 (wB + (1 : Int))) wK wL wM wG wD wN wO wP wI wH)))
 none)
 none)
 (k' (.exit 0) (f50S2 wB (decide (wB < (wG.length : Int))) wK wL wM wG wD wN wO wP wI wH))) := by kernel_rfl
theorem f50L0_eq {R : Type} (N : Nat) (n : Nat) (k' : Kx R) (wK : Int) (wL : Int) (wM : BA) (wG : List BA) (wD : List NodeT) (wN : Int) (wO : Int) (wP : BA) (wI : List BA) (wH : List NodeT) : ∀ (m : Nat) (wB : Int), iter (fun st k => ev (f50e N) f50k n (cAt [1,1,0,1,0,0] f50c) st k) m (f50S0 wB wK wL wM wG wD wN wO wP wI wH) k' = f50L0 N n (k' .ret f50S1) (fun (wT : Int) (uA : Bool) => k' (.exit 0) (f50S2 wT uA wK wL wM wG wD wN wO wP wI wH)) wK wL wM wG wD wN wO wP wI wH m wB := by
 intro m; induction m with
 | zero => intros; rfl
 | succ m ih =>
  intro wB
  simp only [iter]
  rw [f50L0_b]
  simp only [ih, f50L0]
noncomputable def f50L1 {R : Type} (N : Nat) (n : Nat) (x0 : Option R) (x1 : Int → Bool → Option R) (wK : Int) (wL : Int) (wM : BA) (wG : List BA) (wD : List NodeT) (wN : Int) (wO : Int) (wP : BA) (wI : List BA) (wH : List NodeT) : Nat → Int → Option R
  | 0, _ => none
  | m + 1, wF =>
    (cond (decide (wF < (wD.length : Int)))
   (cond ((decide ((0 : Int) ≤ wF)) && (decide (wF < (wD.length : Int))))
    (cond ((decide ((0 : Int) ≤ wF)) && (decide (wF < (wH.length : Int))))
     (cond ((sm2 sm_node (eN (atI (t := .node) wD (Int.toNat wF))) (eN (atI (t := .node) wH (Int.toNat wF)))) && (Nat.blt (me_node (eN (atI (t := .node) wD (Int.toNat wF))) (eN (atI (t := .node) wH (Int.toNat wF)))) N))
      (cond (!(eqD (eN (atI (t := .node) wD (Int.toNat wF))) (eN (atI (t := .node) wH (Int.toNat wF)))))
       (x0)
       (f50L1 N n x0 x1 wK wL wM wG wD wN wO wP wI wH m (IntKind.wrap .i64 (wF + (1 : Int)))))
      none)
     none)
    none)
   (x1 wF (decide (wF < (wD.length : Int)))))
theorem f50L1_b {R : Type} (N : Nat) (n : Nat) (k' : Kx R) (wF : Int) (wK : Int) (wL : Int) (wM : BA) (wG : List BA) (wD : List NodeT) (wN : Int) (wO : Int) (wP : BA) (wI : List BA) (wH : List NodeT) : ev (f50e N) f50k n (cAt [1,1,1,0,1,0,0] f50c) (f50S3 wF wK wL wM wG wD wN wO wP wI wH) k' =
 (cond (decide (wF < (wD.length : Int)))
 (cond ((decide ((0 : Int) ≤ wF)) && (decide (wF < (wD.length : Int))))
 (cond ((decide ((0 : Int) ≤ wF)) && (decide (wF < (wH.length : Int))))
 (cond ((sm2 sm_node (eN (atI (t := .node) wD (Int.toNat wF))) (eN (atI (t := .node) wH (Int.toNat wF)))) && (Nat.blt (me_node (eN (atI (t := .node) wD (Int.toNat wF))) (eN (atI (t := .node) wH (Int.toNat wF)))) N))
 (cond (!(eqD (eN (atI (t := .node) wD (Int.toNat wF))) (eN (atI (t := .node) wH (Int.toNat wF)))))
 (k' .ret f50S1)
 (k' .normal (f50S3 (IntKind.wrap .i64 (wF + (1 : Int))) wK wL wM wG wD wN wO wP wI wH)))
 none)
 none)
 none)
 (k' (.exit 2) (f50S4 wF (decide (wF < (wD.length : Int))) wK wL wM wG wD wN wO wP wI wH))) := by kernel_rfl
theorem f50L1_eq {R : Type} (N : Nat) (n : Nat) (k' : Kx R) (wK : Int) (wL : Int) (wM : BA) (wG : List BA) (wD : List NodeT) (wN : Int) (wO : Int) (wP : BA) (wI : List BA) (wH : List NodeT) : ∀ (m : Nat) (wF : Int), iter (fun st k => ev (f50e N) f50k n (cAt [1,1,1,0,1,0,0] f50c) st k) m (f50S3 wF wK wL wM wG wD wN wO wP wI wH) k' = f50L1 N n (k' .ret f50S1) (fun (wU : Int) (wV : Bool) => k' (.exit 2) (f50S4 wU wV wK wL wM wG wD wN wO wP wI wH)) wK wL wM wG wD wN wO wP wI wH m wF := by
 intro m; induction m with
 | zero => intros; rfl
 | succ m ih =>
  intro wF
  simp only [iter]
  rw [f50L1_b]
  simp only [ih, f50L1]
noncomputable def f50K1 {R : Type} (N : Nat) (n : Nat) (k' : Kx R) : Kx R := (blockK 2 (seqK (f50e N) f50k n (cAt [1,1,1,1] f50c) k'))
theorem f50K1_x0 {R : Type} (N : Nat) (n : Nat) (k : Kt R) (a0 : NodeT) (a1 : NodeT)  : f50K1 N n (exitK (f50e N) [.ro, .ro] [false] true [.tmp 4] [4] [.d .node a0, .d .node a1] k) .ret f50S1 =
 (k [.d .bool false]) := by kernel_rfl
theorem f50K1_x1 {R : Type} (N : Nat) (n : Nat) (k : Kt R) (a0 : NodeT) (a1 : NodeT) (wK : Int) (wL : Int) (wM : BA) (wG : List BA) (wD : List NodeT) (wN : Int) (wO : Int) (wP : BA) (wI : List BA) (wH : List NodeT) (wU : Int) (wV : Bool) : f50K1 N n (exitK (f50e N) [.ro, .ro] [false] true [.tmp 4] [4] [.d .node a0, .d .node a1] k) (.exit 2) (f50S4 wU wV wK wL wM wG wD wN wO wP wI wH) =
 (k [.d .bool true]) := by kernel_rfl
noncomputable def f50K0 {R : Type} (N : Nat) (n : Nat) (k' : Kx R) : Kx R := (blockK 0 (seqK (f50e N) f50k n (cAt [1,1,1] f50c) k'))
theorem f50K0_x0 {R : Type} (N : Nat) (n : Nat) (k : Kt R) (a0 : NodeT) (a1 : NodeT)  : f50K0 N n (exitK (f50e N) [.ro, .ro] [false] true [.tmp 4] [4] [.d .node a0, .d .node a1] k) .ret f50S1 =
 (k [.d .bool false]) := by kernel_rfl
theorem f50K0_x1 {R : Type} (N : Nat) (n : Nat) (k : Kt R) (a0 : NodeT) (a1 : NodeT) (wK : Int) (wL : Int) (wM : BA) (wG : List BA) (wD : List NodeT) (wN : Int) (wO : Int) (wP : BA) (wI : List BA) (wH : List NodeT) (wT : Int) (uA : Bool) : f50K0 N n (exitK (f50e N) [.ro, .ro] [false] true [.tmp 4] [4] [.d .node a0, .d .node a1] k) (.exit 0) (f50S2 wT uA wK wL wM wG wD wN wO wP wI wH) =
 (f50L1 N n (k [.d .bool false]) (fun (wU : Int) (wV : Bool) =>
 (k [.d .bool true])) wK wL wM wG wD wN wO wP wI wH n (0 : Int)) := by
 refine Eq.trans (b := (iter (fun st k => ev (f50e N) f50k n (cAt [1,1,1,0,1,0,0] f50c) st k) n (f50S3 (0 : Int) wK wL wM wG wD wN wO wP wI wH) (f50K1 N n (exitK (f50e N) [.ro, .ro] [false] true [.tmp 4] [4] [.d .node a0, .d .node a1] k)))) (by kernel_rfl) ?_
 simp only [f50L1_eq, f50K1_x0, f50K1_x1]
theorem f50_run {R : Type} (N : Nat) (n : Nat) (k : Kt R) (a0 : NodeT) (a1 : NodeT) : evFn (f50e N) f50k n f50c [.ro, .ro] [false] true [.tmp 4] [4] [.d .node a0, .d .node a1] k =
 (cond ((NodeT.kind a0) != (NodeT.kind a1))
 (k [.d .bool false])
 (cond ((NodeT.n a0) != (NodeT.n a1))
 (k [.d .bool false])
 (cond (!(sEq (NodeT.s a0) (NodeT.s a1)))
 (k [.d .bool false])
 (cond (((NodeT.keys a0).length : Int) != ((NodeT.keys a1).length : Int))
 (k [.d .bool false])
 (cond (((NodeT.kids a0).length : Int) != ((NodeT.kids a1).length : Int))
 (k [.d .bool false])
 (f50L0 N n (k [.d .bool false]) (fun (wT : Int) (uA : Bool) =>
 (f50L1 N n (k [.d .bool false]) (fun (wU : Int) (wV : Bool) =>
 (k [.d .bool true])) (NodeT.kind a0) (NodeT.n a0) (NodeT.s a0) (NodeT.keys a0) (NodeT.kids a0) (NodeT.kind a1) (NodeT.n a1) (NodeT.s a1) (NodeT.keys a1) (NodeT.kids a1) n (0 : Int))) (NodeT.kind a0) (NodeT.n a0) (NodeT.s a0) (NodeT.keys a0) (NodeT.kids a0) (NodeT.kind a1) (NodeT.n a1) (NodeT.s a1) (NodeT.keys a1) (NodeT.kids a1) n (0 : Int))))))) := by
  refine Eq.trans (b := (cond ((NodeT.kind a0) != (NodeT.kind a1))
  (k [.d .bool false])
  (cond ((NodeT.n a0) != (NodeT.n a1))
   (k [.d .bool false])
   (cond (!(sEq (NodeT.s a0) (NodeT.s a1)))
    (k [.d .bool false])
    (cond (((NodeT.keys a0).length : Int) != ((NodeT.keys a1).length : Int))
     (k [.d .bool false])
     (cond (((NodeT.kids a0).length : Int) != ((NodeT.kids a1).length : Int))
      (k [.d .bool false])
      (iter (fun st k => ev (f50e N) f50k n (cAt [1,1,0,1,0,0] f50c) st k) n (f50S0 (0 : Int) (NodeT.kind a0) (NodeT.n a0) (NodeT.s a0) (NodeT.keys a0) (NodeT.kids a0) (NodeT.kind a1) (NodeT.n a1) (NodeT.s a1) (NodeT.keys a1) (NodeT.kids a1)) (f50K0 N n (exitK (f50e N) [.ro, .ro] [false] true [.tmp 4] [4] [.d .node a0, .d .node a1] k))))))))) (by kernel_rfl) ?_
  simp only [f50L0_eq, f50K0_x0, f50K0_x1, f50L1_eq, f50K1_x0, f50K1_x1]
theorem f50_spec (N : Nat) (a0 : NodeT) (a1 : NodeT) (hg : sm2 sm_node a0 a1 = true) (hm : mu50 [.d .node a0, .d .node a1] = N) : ∃ keep rounds, ∀ {R : Type} (k : Kt R), evFn (f50e N) keep rounds f50c [.ro, .ro] [false] true [.tmp 4] [4] [.d .node a0, .d .node a1] k = k [.d .bool (eqD a0 a1)] := by
 have hm : me_node a0 a1 = N := hm
 subst hm
 simp only [sm2, Bool.and_eq_true] at hg
 obtain ⟨hg0, hg1⟩ := hg
 have hq0 := hg0
 have hq1 := hg1
 rw [sm_node_def] at hq0 hq1
 simp only [Bool.and_eq_true] at hq0 hq1
 have lk := smL_len hq0.2.2.2.1
 have li := smL_len hq0.2.2.2.2
 refine ⟨f50k, a0.keys.length + a0.kids.length + 1, fun {R} k => ?_⟩
 rw [f50_run, eqD_node]
 by_cases hk : a0.keys.length = a1.keys.length
 rotate_left
 ·rw [eqD_ne (x := a0.keys) (y := a1.keys) (fun e => hk (by rw [e])), bneLen hk]
  simp only [bne]
  cases (a0.kind == a1.kind) <;> cases (a0.n == a1.n) <;> cases sEq a0.s a1.s <;> rfl
 by_cases hi : a0.kids.length = a1.kids.length
 rotate_left
 ·rw [eqD_ne (x := a0.kids) (y := a1.kids) (fun e => hi (by rw [e])), bneLen hi, show ((a0.keys.length : Int) != (a1.keys.length : Int)) = false by simp [hk]]
  simp only [bne]
  cases (a0.kind == a1.kind) <;> cases (a0.n == a1.n) <;> cases sEq a0.s a1.s <;> cases eqD a0.keys a1.keys <;> rfl
 rw [show ((a0.keys.length : Int) != (a1.keys.length : Int)) = false by simp [hk], show ((a0.kids.length : Int) != (a1.kids.length : Int)) = false by simp [hi]]
 simp only [bne, cond_false]
 cases (a0.kind == a1.kind)
 ·rfl
 cases (a0.n == a1.n)
 ·rfl
 cases sEq a0.s a1.s
 ·rfl
 simp only [Bool.not_true, cond_false, Bool.true_and]
 refine Eq.trans (loop_idx (n := a0.keys.length) (F := fun m i => f50L0 (me_node a0 a1) (a0.keys.length + a0.kids.length + 1) _ _ _ _ _ a0.keys _ _ _ _ a1.keys _ m i) (p := fun j => sEq (atI (t := .str) a0.keys j) (atI (t := .str) a1.keys j)) (good := _) (bad := k [.d .bool false])
  (fun m j hj => ?_) (fun m => by simp only [f50L0, idxE, cond_false]; rfl) a0.keys.length 0 (a0.keys.length + a0.kids.length + 1) (by omega) (by omega)) ?_
 ·obtain ⟨h1, h0, hw, ht⟩ := idx hj (by omega)
  obtain ⟨h2, _, _, _⟩ := idx (show j < a1.keys.length by omega) (by omega)
  simp only [f50L0, h1, h0, h2, hw, ht, Bool.and_self, cond_true]
  cases sEq (atI (t := .str) a0.keys j) (atI (t := .str) a1.keys j) <;> rfl
 rw [allN_eq hk (fun j x y hx hy => by rw [atI_of (t := .str) hx, atI_of (t := .str) hy, ← eqD_str])]
 cases eqD a0.keys a1.keys
 ·rfl
 simp only [cond_true, Bool.true_and]
 refine Eq.trans (loop_idx (n := a0.kids.length) (F := fun m i => f50L1 (me_node a0 a1) (a0.keys.length + a0.kids.length + 1) _ _ _ _ _ _ a0.kids _ _ _ _ a1.kids m i) (p := fun j => eqD (atI (t := .node) a0.kids j) (atI (t := .node) a1.kids j)) (good := k [.d .bool true]) (bad := k [.d .bool false])
  (fun m j hj => ?_) (fun m => by simp only [f50L1, idxE, cond_false]) a0.kids.length 0 (a0.keys.length + a0.kids.length + 1) (by omega) (by omega)) ?_
 ·obtain ⟨h1, h0, hw, ht⟩ := idx hj (by omega)
  obtain ⟨h2, _, _, _⟩ := idx (show j < a1.kids.length by omega) (by omega)
  have ha := smL_at (t := .node) hq0.2.2.2.2 hj
  have hb := smL_at (t := .node) hq1.2.2.2.2 (show j < a1.kids.length by omega)
  have hm1 : Nat.blt (me_node (atI (t := .node) a0.kids j) (atI (t := .node) a1.kids j)) (me_node a0 a1) = true := by
   obtain ⟨x, hx, _⟩ := drop_get hj
   have := ndL_mem (f := nd_node) (List.mem_of_getElem? hx)
   rw [atI_of (t := .node) hx, Nat.blt_eq]; simp only [me_node, nd_node_def a0]; omega
  simp only [f50L1, h1, h0, h2, hw, ht, Bool.and_self, cond_true, sm2, eta_node, eN_eq, ha, hb, hm1]
  cases eqD (atI (t := .node) a0.kids j) (atI (t := .node) a1.kids j) <;> rfl
 ·rw [allN_eq hi (fun j x y hx hy => by rw [atI_of (t := .node) hx, atI_of (t := .node) hy])]
  cases eqD a0.kids a1.kids <;> rfl
noncomputable def s50 : Gm.Spec := Gm.Spec.of [.ro, .ro] [false] true q50
theorem good50 : Gm.Good Try.prog (50, s50) := by
 refine ⟨⟨spec_rec mu50 fun N hr => ?_, _, Try.func50, by kernel_rfl, of_decide_eq_true (by kernel_rfl)⟩, Gm.Spec.of_natl _ _ _ _⟩
 have hl : ∀ x ∈ [(50, s50r N)], Gm.Good Try.prog x := fcJ.2 ⟨⟨⟨hr, _, Try.func50, by kernel_rfl, of_decide_eq_true (by kernel_rfl)⟩, Gm.Spec.of_natl _ _ _ _⟩, fcN⟩
 intro R
 refine spec_ok (E := f50e N) (tab_ok.env hl) (tab.natl hl) Try.func50 (by kernel_rfl : Try.f50.body = some f50c) [4] (by kernel_rfl) ?_
 intro ds outs h
 obtain ⟨h, hm⟩ := qeq_some h
 unfold q50 at h
 split at h
 ·simp only [Option.some.injEq, Prod.mk.injEq] at h; obtain ⟨hg, h⟩ := h; cases h; exact f50_spec N _ _ hg hm
 ·cases h
noncomputable def f51S0 (y0 : List BA) (y1 : List BA) (y2 : Int) : St := ⟨[(0, .c (.one (.ro .str y0))), (1, .c (.one (.ro .str y1))), (5, .c (.one (.v (.int .i64 y2))))], [], []⟩
noncomputable def f51S1 : St := ⟨[(4, .c (.one (.v (.bool false))))], [], []⟩
noncomputable def f51S2 (y0 : List BA) (y1 : List BA) (y2 : Int) (y3 : Bool) : St := ⟨[(0, .c (.one (.ro .str y0))), (1, .c (.one (.ro .str y1))), (5, .c (.one (.v (.int .i64 y2)))), (15, .c (.one (.v (.bool y3))))], [], []⟩
noncomputable def f51c : Code := (Try.f51.body).getD .skip
def f51k : Nat → Kp := kat [⟨[0, 1], [], [], []⟩, ⟨[0, 1, 5], [], [], []⟩, ⟨[0, 1, 5, 15], [], [], []⟩, ⟨[0, 1, 5], [], [], []⟩, ⟨[0, 1, 5, 26], [], [], []⟩, ⟨[4], [], [], []⟩, ⟨[4], [], [], []⟩]
noncomputable def f51e : Env := tab.env []
noncomputable def f51L0 {R : Type} (n : Nat) (x0 : Option R) (x1 : Int → Bool → Option R) (x2 : Int → Option R) (wC : List BA) (wA : List BA) : Nat → Int → Option R
  | 0, _ => none
  | m + 1, wB =>
    (cond (decide (wB < (wC.length : Int)))
   (cond (decide (wB < (wA.length : Int)))
    (cond ((decide ((0 : Int) ≤ wB)) && (decide (wB < (wC.length : Int))))
     (cond ((decide ((0 : Int) ≤ wB)) && (decide (wB < (wA.length : Int))))
      (cond (!(sEq (atI (t := .str) wC (Int.toNat wB)) (atI (t := .str) wA (Int.toNat wB))))
       (x0)
       (f51L0 n x0 x1 x2 wC wA m (IntKind.wrap .i64 (wB + (1 : Int)))))
      none)
     none)
    (x1 wB (decide (wB < (wA.length : Int)))))
   (x2 wB))
theorem f51L0_b {R : Type} (n : Nat) (k' : Kx R) (wC : List BA) (wA : List BA) (wB : Int) : ev f51e f51k n (cAt [1,0,1,0,0] f51c) (f51S0 wC wA wB) k' =
 (cond (decide (wB < (wC.length : Int)))
 (cond (decide (wB < (wA.length : Int)))
 (cond ((decide ((0 : Int) ≤ wB)) && (decide (wB < (wC.length : Int))))
 (cond ((decide ((0 : Int) ≤ wB)) && (decide (wB < (wA.length : Int))))
 (cond (!(sEq (atI (t := .str) wC (Int.toNat wB)) (atI (t := .str) wA (Int.toNat wB))))
 (k' .ret f51S1)
 (k' .normal (f51S0 wC wA (IntKind.wrap .i64 (wB + (1 : Int))))))
 none)
 none)
 (k' (.exit 0) (f51S2 wC wA wB (decide (wB < (wA.length : Int))))))
 (k' (.exit 0) (f51S2 wC wA wB false))) := by kernel_rfl
theorem f51L0_eq {R : Type} (n : Nat) (k' : Kx R) (wC : List BA) (wA : List BA) : ∀ (m : Nat) (wB : Int), iter (fun st k => ev f51e f51k n (cAt [1,0,1,0,0] f51c) st k) m (f51S0 wC wA wB) k' = f51L0 n (k' .ret f51S1) (fun (wT : Int) (uB : Bool) => k' (.exit 0) (f51S2 wC wA wT uB)) (fun (wT : Int) => k' (.exit 0) (f51S2 wC wA wT false)) wC wA m wB := by
 intro m; induction m with
 | zero => intros; rfl
 | succ m ih =>
  intro wB
  simp only [iter]
  rw [f51L0_b]
  simp only [ih, f51L0]
noncomputable def f51K0 {R : Type} (n : Nat) (k' : Kx R) : Kx R := (blockK 0 (seqK f51e f51k n (cAt [1,1] f51c) k'))
theorem f51K0_x0 {R : Type} (n : Nat) (k : Kt R) (a0 : List BA) (a1 : List BA)  : f51K0 n (exitK f51e [.ro, .ro] [false] true [.tmp 4] [4] [.d (.sl .str) a0, .d (.sl .str) a1] k) .ret f51S1 =
 (k [.d .bool false]) := by kernel_rfl
theorem f51K0_x1 {R : Type} (n : Nat) (k : Kt R) (a0 : List BA) (a1 : List BA) (wC : List BA) (wA : List BA) (wT : Int) (uB : Bool) : f51K0 n (exitK f51e [.ro, .ro] [false] true [.tmp 4] [4] [.d (.sl .str) a0, .d (.sl .str) a1] k) (.exit 0) (f51S2 wC wA wT uB) =
 (k [.d .bool (decide ((wC.length : Int) < (wA.length : Int)))]) := by kernel_rfl
theorem f51K0_x2 {R : Type} (n : Nat) (k : Kt R) (a0 : List BA) (a1 : List BA) (wC : List BA) (wA : List BA) (wT : Int) : f51K0 n (exitK f51e [.ro, .ro] [false] true [.tmp 4] [4] [.d (.sl .str) a0, .d (.sl .str) a1] k) (.exit 0) (f51S2 wC wA wT false) =
 (k [.d .bool (decide ((wC.length : Int) < (wA.length : Int)))]) := by kernel_rfl
theorem f51_run {R : Type} (n : Nat) (k : Kt R) (a0 : List BA) (a1 : List BA) : evFn f51e f51k n f51c [.ro, .ro] [false] true [.tmp 4] [4] [.d (.sl .str) a0, .d (.sl .str) a1] k =
 (f51L0 n (k [.d .bool false]) (fun (wT : Int) (uB : Bool) =>
 (k [.d .bool (decide ((a0.length : Int) < (a1.length : Int)))])) (fun (wT : Int) =>
 (k [.d .bool (decide ((a0.length : Int) < (a1.length : Int)))])) a0 a1 n (0 : Int)) := by
 refine Eq.trans (b := (iter (fun st k => ev f51e f51k n (cAt [1,0,1,0,0] f51c) st k) n (f51S0 a0 a1 (0 : Int)) (f51K0 n (exitK f51e [.ro, .ro] [false] true [.tmp 4] [4] [.d (.sl .str) a0, .d (.sl .str) a1] k)))) (by kernel_rfl) ?_
 simp only [f51L0_eq, f51K0_x0, f51K0_x1, f51K0_x2]
theorem f51_spec (a0 : List BA) (a1 : List BA) (hg : gFr a0 a1 = true) : ∃ keep rounds, ∀ {R : Type} (k : Kt R), evFn f51e keep rounds f51c [.ro, .ro] [false] true [.tmp 4] [4] [.d (.sl .str) a0, .d (.sl .str) a1] k = k [.d .bool (frontOf a0 a1)] := by
 simp only [gFr, Bool.and_eq_true] at hg
 have l0 := gLenW_le hg.1
 have l1 := gLenW_le hg.2
 refine ⟨f51k, a0.length + a1.length + 1, fun {R} k => ?_⟩
 rw [f51_run]
 unfold frontOf
 by_cases hlt : a0.length < a1.length
 ·rw [decide_eq_true (show (a0.length : Int) < (a1.length : Int) by omega)]
  refine Eq.trans (loop_idx (n := a0.length) (F := fun m i => f51L0 (a0.length + a1.length + 1) _ _ _ a0 a1 m i) (p := fun j => sEq (atI (t := .str) a0 j) (atI (t := .str) a1 j)) (good := k [.d .bool true]) (bad := k [.d .bool false])
   (fun m j hj => ?_) (fun m => by simp only [f51L0, idxE, cond_false]) a0.length 0 (a0.length + a1.length + 1) (by omega) (by omega)) ?_
  ·obtain ⟨h1, h0, hw, ht⟩ := idx hj (by omega)
   obtain ⟨h2, _, _, _⟩ := idx (show j < a1.length by omega) (by omega)
   simp only [f51L0, h1, h0, h2, hw, ht, Bool.and_self, cond_true]
   cases sEq (atI (t := .str) a0 j) (atI (t := .str) a1 j) <;> rfl
  ·rw [allN_front (by omega)]
   cases eqD (a1.take a0.length) a0 <;> rfl
 ·rw [decide_eq_false (show ¬ ((a0.length : Int) < (a1.length : Int)) by omega)]
  refine Eq.trans (loop_idx (n := a1.length) (F := fun m i => f51L0 (a0.length + a1.length + 1) _ _ _ a0 a1 m i) (p := fun j => sEq (atI (t := .str) a0 j) (atI (t := .str) a1 j)) (good := k [.d .bool false]) (bad := k [.d .bool false])
   (fun m j hj => ?_) (fun m => ?_) a1.length 0 (a0.length + a1.length + 1) (by omega) (by omega)) ?_
  ·obtain ⟨h1, h0, hw, ht⟩ := idx hj (by omega)
   obtain ⟨h2, _, _, _⟩ := idx (show j < a0.length by omega) (by omega)
   simp only [f51L0, h1, h0, h2, hw, ht, Bool.and_self, cond_true]
   cases sEq (atI (t := .str) a0 j) (atI (t := .str) a1 j) <;> rfl
  ·have hn : decide ((a1.length : Int) < (a1.length : Int)) = false := decide_eq_false (by omega)
   simp only [f51L0, hn, cond_false]
   cases decide ((a1.length : Int) < (a0.length : Int)) <;> rfl
  ·cases allN (fun j => sEq (atI (t := .str) a0 j) (atI (t := .str) a1 j)) 0 a1.length <;> rfl
noncomputable def q51 : Qt
 | [.d (.sl .str) a0, .d (.sl .str) a1] => some ((gFr a0 a1), [.d .bool (frontOf a0 a1)])
 | _ => none
noncomputable def s51 : Gm.Spec := Gm.Spec.of [.ro, .ro] [false] true q51
theorem good51 : Gm.Good Try.prog (51, s51) := by
 have hl : ∀ x ∈ ([] : List (Nat × Gm.Spec)), Gm.Good Try.prog x := fun _ h => by cases h
 refine ⟨⟨spec_ok (tab_ok.env hl) (tab.natl hl) Try.func51 (by kernel_rfl : Try.f51.body = some f51c) [4] (by kernel_rfl) ?_, _, Try.func51, by kernel_rfl, of_decide_eq_true (by kernel_rfl)⟩, Gm.Spec.of_natl _ _ _ _⟩
 intro ds outs h
 unfold q51 at h
 split at h
 ·simp only [Option.some.injEq, Prod.mk.injEq] at h; obtain ⟨hg, h⟩ := h; cases h; exact f51_spec _ _ hg
 ·cases h
noncomputable def f49c : Code := (Try.f49.body).getD .skip
def f49k : Nat → Kp := kat [⟨[1, 4, 6, 7, 8], [], [], []⟩, ⟨[7, 8, 10, 11], [], [], []⟩, ⟨[7, 8, 10, 20], [], [], []⟩, ⟨[8, 9], [], [], []⟩, ⟨[8, 9], [], [], []⟩]
noncomputable def f49e : Env := tab.env [(41, s41), (47, s47)]
theorem f49_run {R : Type} (n : Nat) (k : Kt R) (a0 : NodeT) (a1 : List BA) (a2 : NodeT) (a3 : NodeT) : evFn f49e f49k n f49c [.ro, .ro, .ro, .ro] [false, false] false [.cell 8 27, .tmp 9] [27, 4] [.d .node a0, .d (.sl .str) a1, .d .node a2, .d .node a3] k =
 (cond (gP (eN a0) a1 (eN a2))
 (cond (!((putPtr (eN a0) a1 (eN a2)).2))
 (cond (sm_node (eN a3))
 (k [.d .node (eN a3), .d .bool false])
 none)
 (k [.d .node (eN ((putPtr (eN a0) a1 (eN a2)).1)), .d .bool true]))
 none) := by kernel_rfl
theorem f49_spec (a0 : NodeT) (a1 : List BA) (a2 : NodeT) (a3 : NodeT) (hg : gPutW a0 a1 a2 a3 = true) : ∃ keep rounds, ∀ {R : Type} (k : Kt R), evFn f49e keep rounds f49c [.ro, .ro, .ro, .ro] [false, false] false [.cell 8 27, .tmp 9] [27, 4] [.d .node a0, .d (.sl .str) a1, .d .node a2, .d .node a3] k = k [.d .node ((putW a0 a1 a2 a3).1), .d .bool ((putW a0 a1 a2 a3).2)] := by
 simp only [gPutW, Bool.and_eq_true] at hg
 refine ⟨f49k, 0, fun {R} k => ?_⟩
 rw [f49_run]
 simp only [eta_node, eN_eq, hg.1, hg.2, cond_true]
 show _ = k [.d .node (putW a0 a1 a2 a3).1, .d .bool (putW a0 a1 a2 a3).2]
 unfold putW
 cases (putPtr a0 a1 a2).2 <;> rfl
noncomputable def q49 : Qt
 | [.d .node a0, .d (.sl .str) a1, .d .node a2, .d .node a3] => some ((gPutW a0 a1 a2 a3), [.d .node ((putW a0 a1 a2 a3).1), .d .bool ((putW a0 a1 a2 a3).2)])
 | _ => none
noncomputable def s49 : Gm.Spec := Gm.Spec.of [.ro, .ro, .ro, .ro] [false, false] false q49
theorem good49 : Gm.Good Try.prog (49, s49) := by
 have hl : ∀ x ∈ [(41, s41), (47, s47)], Gm.Good Try.prog x := fcJ.2 ⟨good41, fcJ.2 ⟨good47, fcN⟩⟩
 refine ⟨⟨spec_ok (tab_ok.env hl) (tab.natl hl) Try.func49 (by kernel_rfl : Try.f49.body = some f49c) [27, 4] (by kernel_rfl) ?_, _, Try.func49, by kernel_rfl, of_decide_eq_true (by kernel_rfl)⟩, Gm.Spec.of_natl _ _ _ _⟩
 intro ds outs h
 unfold q49 at h
 split at h
 ·simp only [Option.some.injEq, Prod.mk.injEq] at h; obtain ⟨hg, h⟩ := h; cases h; exact f49_spec _ _ _ _ hg
 ·cases h
noncomputable def f44c : Code := (Try.f44.body).getD .skip
def f44k : Nat → Kp := kat [⟨[2, 3, 4], [], [], []⟩, ⟨[2, 3, 4, 17], [], [], []⟩, ⟨[2, 3, 4, 17, 18], [], [], []⟩, ⟨[4, 5], [], [], []⟩, ⟨[2, 3, 4, 17, 28], [], [], []⟩, ⟨[4, 5], [], [], []⟩, ⟨[2, 3, 4, 17, 36], [], [], []⟩, ⟨[2, 3, 4, 41], [], [], []⟩, ⟨[4, 5], [], [], []⟩, ⟨[3, 4, 6, 7], [], [], []⟩, ⟨[3, 4, 6, 53], [], [], []⟩, ⟨[4, 5], [], [], []⟩, ⟨[4, 5], [], [], []⟩, ⟨[2, 3, 4, 63], [], [], []⟩, ⟨[2, 3, 4, 8, 9], [], [], []⟩, ⟨[4, 5], [], [], []⟩, ⟨[2, 3, 4, 10, 11], [], [], []⟩, ⟨[2, 3, 4, 10, 99], [], [], []⟩, ⟨[4, 5], [], [], []⟩, ⟨[2, 3, 4, 10, 103], [], [], []⟩, ⟨[2, 3, 4, 10, 12], [], [], []⟩, ⟨[2, 3, 4, 10, 13], [], [], []⟩, ⟨[2, 3, 4, 10, 13, 14, 15], [], [], []⟩, ⟨[2, 3, 4, 10, 14, 132], [], [], []⟩, ⟨[4, 5], [], [], []⟩, ⟨[2, 3, 4, 10], [], [], []⟩, ⟨[4, 5], [], [], []⟩]
noncomputable def f44e : Env := tab.env [(10, s10), (12, s12), (39, s39), (42, s42), (86, s86), (87, s87)]
theorem f44_run {R : Type} (n : Nat) (k : Kt R) (a0 : NodeT) (a1 : PopT) : evFn f44e f44k n f44c [.ro, .ro] [false, false] true [.cell 4 27, .tmp 5] [27, 4] [.d .node a0, .d .pop a1] k =
 (cond ((PopT.kind a1) == (1 : Int))
 (cond (gP (eN a0) (PopT.path a1) (eN (PopT.x a1)))
 (k [.d .node (eN ((putPtr (eN a0) (PopT.path a1) (eN (PopT.x a1))).1)), .d .bool ((putPtr (eN a0) (PopT.path a1) (eN (PopT.x a1))).2)])
 none)
 (cond ((PopT.kind a1) == (2 : Int))
 (cond ((fun (x : NodeT) (y : List BA) => sm_node x && smL smStr y) (eN a0) (PopT.path a1))
 (k [.d .node (eN ((cutPtr (eN a0) (PopT.path a1)).1)), .d .bool ((cutPtr (eN a0) (PopT.path a1)).2)])
 none)
 (cond ((PopT.kind a1) == (3 : Int))
 (cond (((PopT.path a1).length : Int) == (0 : Int))
 (cond (sm_node (eN (PopT.x a1)))
 (k [.d .node (eN (PopT.x a1)), .d .bool true])
 none)
 (cond ((fun (x : NodeT) (y : List BA) => sm_node x && smL smStr y) (eN a0) (PopT.path a1))
 (cond (!((cutPtr (eN a0) (PopT.path a1)).2))
 (k [.d .node (⟨(0 : Int), (0 : Int), ByteArray.empty, ([] : List BA), ([] : List NodeT)⟩ : NodeT), .d .bool false])
 (cond (gP (eN ((cutPtr (eN a0) (PopT.path a1)).1)) (PopT.path a1) (eN (PopT.x a1)))
 (k [.d .node (eN ((putPtr (eN ((cutPtr (eN a0) (PopT.path a1)).1)) (PopT.path a1) (eN (PopT.x a1))).1)), .d .bool ((putPtr (eN ((cutPtr (eN a0) (PopT.path a1)).1)) (PopT.path a1) (eN (PopT.x a1))).2)])
 none))
 none))
 (cond ((PopT.kind a1) == (4 : Int))
 (cond ((fun (x : NodeT) (y : List BA) => sm_node x && smL smStr y) (eN a0) (PopT.path a1))
 (cond (sm_node (eN a0))
 (cond ((atPtr (eN a0) (PopT.path a1)).2)
 (cond (sm2 sm_node (eN ((atPtr (eN a0) (PopT.path a1)).1)) (eN (PopT.x a1)))
 (k [.d .node (eN a0), .d .bool (eqD (eN ((atPtr (eN a0) (PopT.path a1)).1)) (eN (PopT.x a1)))])
 none)
 (k [.d .node (eN a0), .d .bool false]))
 none)
 none)
 (cond ((fun (x : NodeT) (y : List BA) => sm_node x && smL smStr y) (eN a0) (PopT.src a1))
 (cond (!((atPtr (eN a0) (PopT.src a1)).2))
 (k [.d .node (⟨(0 : Int), (0 : Int), ByteArray.empty, ([] : List BA), ([] : List NodeT)⟩ : NodeT), .d .bool false])
 (cond ((PopT.kind a1) != (5 : Int))
 (cond ((PopT.kind a1) != (6 : Int))
 (k [.d .node (⟨(0 : Int), (0 : Int), ByteArray.empty, ([] : List BA), ([] : List NodeT)⟩ : NodeT), .d .bool false])
 (cond ((PopT.kind a1) == (5 : Int))
 (cond (decide (((PopT.path a1).length : Int) > ((PopT.src a1).length : Int)))
 (cond ((decide ((0 : Int) ≤ ((PopT.src a1).length : Int))) && (decide (((PopT.src a1).length : Int) ≤ ((PopT.path a1).length : Int))))
 (cond ((fun (x y : List BA) => gLenW x) (((PopT.path a1).take (Int.toNat ((PopT.src a1).length : Int))).drop 0) (PopT.src a1))
 (cond ((fun (x : NodeT) (y : List BA) => sm_node x && smL smStr y) (eN a0) (PopT.src a1))
 (cond (eqD (((PopT.path a1).take (Int.toNat ((PopT.src a1).length : Int))).drop 0) (PopT.src a1))
 (k [.d .node (⟨(0 : Int), (0 : Int), ByteArray.empty, ([] : List BA), ([] : List NodeT)⟩ : NodeT), .d .bool false])
 (cond (!((cutPtr (eN a0) (PopT.src a1)).2))
 (k [.d .node (⟨(0 : Int), (0 : Int), ByteArray.empty, ([] : List BA), ([] : List NodeT)⟩ : NodeT), .d .bool false])
 (cond (gP (eN ((cutPtr (eN a0) (PopT.src a1)).1)) (PopT.path a1) (eN ((atPtr (eN a0) (PopT.src a1)).1)))
 (k [.d .node (eN ((putPtr (eN ((cutPtr (eN a0) (PopT.src a1)).1)) (PopT.path a1) (eN ((atPtr (eN a0) (PopT.src a1)).1))).1)), .d .bool ((putPtr (eN ((cutPtr (eN a0) (PopT.src a1)).1)) (PopT.path a1) (eN ((atPtr (eN a0) (PopT.src a1)).1))).2)])
 none)))
 none)
 none)
 none)
 (cond ((fun (x : NodeT) (y : List BA) => sm_node x && smL smStr y) (eN a0) (PopT.src a1))
 (cond (!((cutPtr (eN a0) (PopT.src a1)).2))
 (k [.d .node (⟨(0 : Int), (0 : Int), ByteArray.empty, ([] : List BA), ([] : List NodeT)⟩ : NodeT), .d .bool false])
 (cond (gP (eN ((cutPtr (eN a0) (PopT.src a1)).1)) (PopT.path a1) (eN ((atPtr (eN a0) (PopT.src a1)).1)))
 (k [.d .node (eN ((putPtr (eN ((cutPtr (eN a0) (PopT.src a1)).1)) (PopT.path a1) (eN ((atPtr (eN a0) (PopT.src a1)).1))).1)), .d .bool ((putPtr (eN ((cutPtr (eN a0) (PopT.src a1)).1)) (PopT.path a1) (eN ((atPtr (eN a0) (PopT.src a1)).1))).2)])
 none))
 none))
 (cond (gP (eN a0) (PopT.path a1) (eN ((atPtr (eN a0) (PopT.src a1)).1)))
 (k [.d .node (eN ((putPtr (eN a0) (PopT.path a1) (eN ((atPtr (eN a0) (PopT.src a1)).1))).1)), .d .bool ((putPtr (eN a0) (PopT.path a1) (eN ((atPtr (eN a0) (PopT.src a1)).1))).2)])
 none)))
 (cond ((PopT.kind a1) == (5 : Int))
 (cond (decide (((PopT.path a1).length : Int) > ((PopT.src a1).length : Int)))
 (cond ((decide ((0 : Int) ≤ ((PopT.src a1).length : Int))) && (decide (((PopT.src a1).length : Int) ≤ ((PopT.path a1).length : Int))))
 (cond ((fun (x y : List BA) => gLenW x) (((PopT.path a1).take (Int.toNat ((PopT.src a1).length : Int))).drop 0) (PopT.src a1))
 (cond ((fun (x : NodeT) (y : List BA) => sm_node x && smL smStr y) (eN a0) (PopT.src a1))
 (cond (eqD (((PopT.path a1).take (Int.toNat ((PopT.src a1).length : Int))).drop 0) (PopT.src a1))
 (k [.d .node (⟨(0 : Int), (0 : Int), ByteArray.empty, ([] : List BA), ([] : List NodeT)⟩ : NodeT), .d .bool false])
 (cond (!((cutPtr (eN a0) (PopT.src a1)).2))
 (k [.d .node (⟨(0 : Int), (0 : Int), ByteArray.empty, ([] : List BA), ([] : List NodeT)⟩ : NodeT), .d .bool false])
 (cond (gP (eN ((cutPtr (eN a0) (PopT.src a1)).1)) (PopT.path a1) (eN ((atPtr (eN a0) (PopT.src a1)).1)))
 (k [.d .node (eN ((putPtr (eN ((cutPtr (eN a0) (PopT.src a1)).1)) (PopT.path a1) (eN ((atPtr (eN a0) (PopT.src a1)).1))).1)), .d .bool ((putPtr (eN ((cutPtr (eN a0) (PopT.src a1)).1)) (PopT.path a1) (eN ((atPtr (eN a0) (PopT.src a1)).1))).2)])
 none)))
 none)
 none)
 none)
 (cond ((fun (x : NodeT) (y : List BA) => sm_node x && smL smStr y) (eN a0) (PopT.src a1))
 (cond (!((cutPtr (eN a0) (PopT.src a1)).2))
 (k [.d .node (⟨(0 : Int), (0 : Int), ByteArray.empty, ([] : List BA), ([] : List NodeT)⟩ : NodeT), .d .bool false])
 (cond (gP (eN ((cutPtr (eN a0) (PopT.src a1)).1)) (PopT.path a1) (eN ((atPtr (eN a0) (PopT.src a1)).1)))
 (k [.d .node (eN ((putPtr (eN ((cutPtr (eN a0) (PopT.src a1)).1)) (PopT.path a1) (eN ((atPtr (eN a0) (PopT.src a1)).1))).1)), .d .bool ((putPtr (eN ((cutPtr (eN a0) (PopT.src a1)).1)) (PopT.path a1) (eN ((atPtr (eN a0) (PopT.src a1)).1))).2)])
 none))
 none))
 (cond (gP (eN a0) (PopT.path a1) (eN ((atPtr (eN a0) (PopT.src a1)).1)))
 (k [.d .node (eN ((putPtr (eN a0) (PopT.path a1) (eN ((atPtr (eN a0) (PopT.src a1)).1))).1)), .d .bool ((putPtr (eN a0) (PopT.path a1) (eN ((atPtr (eN a0) (PopT.src a1)).1))).2)])
 none))))
 none))))) := by kernel_rfl
theorem f44_spec (a0 : NodeT) (a1 : PopT) (hg : gP2 a0 a1 = true) : ∃ keep rounds, ∀ {R : Type} (k : Kt R), evFn f44e keep rounds f44c [.ro, .ro] [false, false] true [.cell 4 27, .tmp 5] [27, 4] [.d .node a0, .d .pop a1] k = k [.d .node ((patchedI a0 a1).1), .d .bool ((patchedI a0 a1).2)] := by
 have hgp := hg
 simp only [gP2, Bool.and_eq_true] at hg
 obtain ⟨hg0, hp⟩ := hg
 obtain ⟨h1, h2, h3⟩ := sm_pop_parts hp
 have c1 : sm_node (cutPtr a0 a1.path).1 = true := (cutPtr_ok hg0).1
 have c2 : sm_node (cutPtr a0 a1.src).1 = true := (cutPtr_ok hg0).1
 have t1 : sm_node (atPtr a0 a1.path).1 = true := atPtr_sm hg0
 have t2 : sm_node (atPtr a0 a1.src).1 = true := atPtr_sm hg0
 have g1 : gP a0 a1.path a1.x = true := by simp only [gP, hg0, h1, h3, Bool.and_self]
 have g2 : gP (cutPtr a0 a1.path).1 a1.path a1.x = true := by simp only [gP, c1, h1, h3, Bool.and_self]
 have g3 : gP (cutPtr a0 a1.src).1 a1.path (atPtr a0 a1.src).1 = true := by simp only [gP, c2, h1, t2, Bool.and_self]
 have g4 : gP a0 a1.path (atPtr a0 a1.src).1 = true := by simp only [gP, hg0, h1, t2, Bool.and_self]
 have l1 := smL_len h1
 have l2 := smL_len h2
 have gl : gLenW (a1.path.take a1.src.length) = true := gLenW_of (by rw [List.length_take]; omega)
 have n0 : decide ((0 : Int) ≤ (a1.src.length : Int)) = true := decide_eq_true (by omega)
 refine ⟨f44k, 0, fun {R} k => ?_⟩
 rw [f44_run]
 simp only [eta_node, eN_eq, hg0, h1, h2, h3, c1, c2, t1, t2, g1, g2, g3, g4, sm2, Bool.and_self, cond_true, Int.toNat_natCast, List.drop_zero, gl, n0, Bool.true_and]
 show _ = k [.d .node (patchedI a0 a1).1, .d .bool (patchedI a0 a1).2]
 unfold patchedI frontOf
 simp only [bne]
 cases a1.kind == (1 : Int)
 rotate_left
 ·rfl
 cases a1.kind == (2 : Int)
 rotate_left
 ·rfl
 cases a1.kind == (3 : Int)
 rotate_left
 ·cases (a1.path.length : Int) == (0 : Int)
  ·cases (cutPtr a0 a1.path).2 <;> rfl
  ·rfl
 cases a1.kind == (4 : Int)
 rotate_left
 ·cases (atPtr a0 a1.path).2 <;> rfl
 cases (atPtr a0 a1.src).2
 ·rfl
 cases a1.kind == (5 : Int)
 ·cases a1.kind == (6 : Int) <;> rfl
 by_cases hl : (a1.path.length : Int) > (a1.src.length : Int)
 ·rw [decide_eq_true hl, decide_eq_true (show (a1.src.length : Int) ≤ (a1.path.length : Int) by omega)]
  simp only [cond_true, cond_false, Bool.not_true, Bool.not_false]
  cases eqD (a1.path.take a1.src.length) a1.src
  ·cases (cutPtr a0 a1.src).2 <;> rfl
  ·rfl
 ·rw [decide_eq_false hl]
  simp only [cond_true, cond_false, Bool.not_true, Bool.not_false]
  cases (cutPtr a0 a1.src).2 <;> rfl
noncomputable def q44 : Qt
 | [.d .node a0, .d .pop a1] => some ((gP2 a0 a1), [.d .node ((patchedI a0 a1).1), .d .bool ((patchedI a0 a1).2)])
 | _ => none
noncomputable def s44 : Gm.Spec := Gm.Spec.of [.ro, .ro] [false, false] true q44
theorem good44 : Gm.Good Try.prog (44, s44) := by
 have hl : ∀ x ∈ [(10, s10), (12, s12), (39, s39), (42, s42), (86, s86), (87, s87)], Gm.Good Try.prog x := fcJ.2 ⟨good10, fcJ.2 ⟨good12, fcJ.2 ⟨good39, fcJ.2 ⟨good42, fcJ.2 ⟨good86, fcJ.2 ⟨good87, fcN⟩⟩⟩⟩⟩⟩
 refine ⟨⟨spec_ok (tab_ok.env hl) (tab.natl hl) Try.func44 (by kernel_rfl : Try.f44.body = some f44c) [27, 4] (by kernel_rfl) ?_, _, Try.func44, by kernel_rfl, of_decide_eq_true (by kernel_rfl)⟩, Gm.Spec.of_natl _ _ _ _⟩
 intro ds outs h
 unfold q44 at h
 split at h
 ·simp only [Option.some.injEq, Prod.mk.injEq] at h; obtain ⟨hg, h⟩ := h; cases h; exact f44_spec _ _ hg
 ·cases h
noncomputable def f13c : Code := (Try.f13.body).getD .skip
def f13k : Nat → Kp := kat [⟨[2, 3, 4], [], [], []⟩, ⟨[2, 4, 6, 7], [], [], []⟩, ⟨[2, 4, 6, 15], [], [], []⟩, ⟨[4, 5], [], [], []⟩, ⟨[4, 5], [], [], []⟩]
noncomputable def f13e : Env := tab.env [(39, s39), (44, s44)]
theorem f13_run {R : Type} (n : Nat) (k : Kt R) (a0 : NodeT) (a1 : PopT) : evFn f13e f13k n f13c [.ro, .ro] [false, false] true [.cell 4 27, .tmp 5] [27, 4] [.d .node a0, .d .pop a1] k =
 (cond (gP2 (eN a0) (⟨(PopT.kind a1), (PopT.path a1), (PopT.src a1), (eN (PopT.x a1))⟩ : PopT))
 (cond (!((patchedI (eN a0) (⟨(PopT.kind a1), (PopT.path a1), (PopT.src a1), (eN (PopT.x a1))⟩ : PopT)).2))
 (cond (sm_node (eN a0))
 (k [.d .node (eN a0), .d .bool false])
 none)
 (k [.d .node (eN ((patchedI (eN a0) (⟨(PopT.kind a1), (PopT.path a1), (PopT.src a1), (eN (PopT.x a1))⟩ : PopT)).1)), .d .bool true]))
 none) := by kernel_rfl
theorem f13_spec (a0 : NodeT) (a1 : PopT) (hg : gP2 a0 a1 = true) : ∃ keep rounds, ∀ {R : Type} (k : Kt R), evFn f13e keep rounds f13c [.ro, .ro] [false, false] true [.cell 4 27, .tmp 5] [27, 4] [.d .node a0, .d .pop a1] k = k [.d .node ((patchOne a0 a1).1), .d .bool ((patchOne a0 a1).2)] := by
 have hg0 : sm_node a0 = true := by simp only [gP2, Bool.and_eq_true] at hg; exact hg.1
 refine ⟨f13k, 0, fun {R} k => ?_⟩
 rw [f13_run]
 simp only [eta_node, eN_eq, eta_pop, hg, hg0, cond_true]
 show _ = k [.d .node (patchOne a0 a1).1, .d .bool (patchOne a0 a1).2]
 unfold patchOne
 cases (patchedI a0 a1).2 <;> rfl
noncomputable def q13 : Qt
 | [.d .node a0, .d .pop a1] => some ((gP2 a0 a1), [.d .node ((patchOne a0 a1).1), .d .bool ((patchOne a0 a1).2)])
 | _ => none
noncomputable def s13 : Gm.Spec := Gm.Spec.of [.ro, .ro] [false, false] true q13
theorem good13 : Gm.Good Try.prog (13, s13) := by
 have hl : ∀ x ∈ [(39, s39), (44, s44)], Gm.Good Try.prog x := fcJ.2 ⟨good39, fcJ.2 ⟨good44, fcN⟩⟩
 refine ⟨⟨spec_ok (tab_ok.env hl) (tab.natl hl) Try.func13 (by kernel_rfl : Try.f13.body = some f13c) [27, 4] (by kernel_rfl) ?_, _, Try.func13, by kernel_rfl, of_decide_eq_true (by kernel_rfl)⟩, Gm.Spec.of_natl _ _ _ _⟩
 intro ds outs h
 unfold q13 at h
 split at h
 ·simp only [Option.some.injEq, Prod.mk.injEq] at h; obtain ⟨hg, h⟩ := h; cases h; exact f13_spec _ _ hg
 ·cases h
noncomputable def f15c : Code := (Try.f15.body).getD .skip
def f15k : Nat → Kp := kat [⟨[2, 3, 4], [], [], []⟩, ⟨[2, 3, 4, 6], [], [], []⟩, ⟨[2, 3, 4, 6, 30], [], [], []⟩, ⟨[2, 3, 4, 6, 30, 31], [], [], []⟩, ⟨[4, 7, 8], [], [], []⟩, ⟨[4, 5], [], [], []⟩, ⟨[2, 3, 4, 6, 30, 44], [], [], []⟩, ⟨[4, 9, 10], [], [], []⟩, ⟨[4, 5], [], [], []⟩, ⟨[2, 3, 4, 6, 30, 55], [], [], []⟩, ⟨[2, 3, 4, 6, 60], [], [], []⟩, ⟨[4, 5], [], [], []⟩, ⟨[2, 3, 4, 6, 11, 12], [], [], []⟩, ⟨[2, 3, 4, 6, 11, 72], [], [], []⟩, ⟨[4, 5], [], [], []⟩, ⟨[4, 13, 14], [], [], []⟩, ⟨[4, 5], [], [], []⟩, ⟨[2, 3, 4, 6, 30, 86], [], [], []⟩, ⟨[3, 4, 6, 15, 16], [], [], []⟩, ⟨[4, 5], [], [], []⟩, ⟨[2, 3, 4, 6, 30, 103], [], [], []⟩, ⟨[2, 3, 4, 6, 17], [], [], []⟩, ⟨[2, 3, 4, 6, 17, 19, 20], [], [], []⟩, ⟨[2, 3, 4, 6, 17, 19, 127], [], [], []⟩, ⟨[4, 5], [], [], []⟩, ⟨[4, 21, 22], [], [], []⟩, ⟨[4, 5], [], [], []⟩, ⟨[2, 3, 4, 6, 140], [], [], []⟩, ⟨[2, 3, 4, 6, 23, 24], [], [], []⟩, ⟨[2, 3, 4, 6, 23, 150], [], [], []⟩, ⟨[4, 5], [], [], []⟩, ⟨[4, 25, 26], [], [], []⟩, ⟨[4, 5], [], [], []⟩, ⟨[4, 5], [], [], []⟩]
noncomputable def f15e : Env := tab.env [(11, s11), (41, s41), (47, s47), (48, s48), (49, s49), (50, s50), (51, s51)]
theorem f15_run {R : Type} (n : Nat) (k : Kt R) (a0 : NodeT) (a1 : PopT) : evFn f15e f15k n f15c [.ro, .ro] [false, false] false [.cell 4 27, .tmp 5] [27, 4] [.d .node a0, .d .pop a1] k =
 (cond (sm_node (eN a0))
 (cond ((PopT.kind a1) == (1 : Int))
 (cond (gP (eN a0) (PopT.path a1) (eN (PopT.x a1)))
 (k [.d .node (eN ((putPtr (eN a0) (PopT.path a1) (eN (PopT.x a1))).1)), .d .bool ((putPtr (eN a0) (PopT.path a1) (eN (PopT.x a1))).2)])
 none)
 (cond ((PopT.kind a1) == (2 : Int))
 (cond ((fun (x : NodeT) (y : List BA) => sm_node x && smL smStr y) (eN a0) (PopT.path a1))
 (k [.d .node (eN ((cutPtr (eN a0) (PopT.path a1)).1)), .d .bool ((cutPtr (eN a0) (PopT.path a1)).2)])
 none)
 (cond ((PopT.kind a1) == (3 : Int))
 (cond (((PopT.path a1).length : Int) == (0 : Int))
 (cond (sm_node (eN (PopT.x a1)))
 (k [.d .node (eN (PopT.x a1)), .d .bool true])
 none)
 (cond ((fun (x : NodeT) (y : List BA) => sm_node x && smL smStr y) (eN a0) (PopT.path a1))
 (cond (!((cutPtr (eN a0) (PopT.path a1)).2))
 (k [.d .node (eN a0), .d .bool false])
 (cond (gPutW (eN ((cutPtr (eN a0) (PopT.path a1)).1)) (PopT.path a1) (eN (PopT.x a1)) (eN a0))
 (k [.d .node (eN ((putW (eN ((cutPtr (eN a0) (PopT.path a1)).1)) (PopT.path a1) (eN (PopT.x a1)) (eN a0)).1)), .d .bool ((putW (eN ((cutPtr (eN a0) (PopT.path a1)).1)) (PopT.path a1) (eN (PopT.x a1)) (eN a0)).2)])
 none))
 none))
 (cond ((PopT.kind a1) == (4 : Int))
 (cond ((fun (x : NodeT) (y : List BA) => sm_node x && smL smStr y) (eN a0) (PopT.path a1))
 (cond ((atPtr (eN a0) (PopT.path a1)).2)
 (cond (sm2 sm_node (eN ((atPtr (eN a0) (PopT.path a1)).1)) (eN (PopT.x a1)))
 (k [.d .node (eN a0), .d .bool (eqD (eN ((atPtr (eN a0) (PopT.path a1)).1)) (eN (PopT.x a1)))])
 none)
 (k [.d .node (eN a0), .d .bool false]))
 none)
 (cond ((PopT.kind a1) == (5 : Int))
 (cond ((fun (x : NodeT) (y : List BA) => sm_node x && smL smStr y) (eN a0) (PopT.src a1))
 (cond ((fun (x : NodeT) (y : List BA) => sm_node x && smL smStr y) (eN a0) (PopT.src a1))
 (cond (!((cutPtr (eN a0) (PopT.src a1)).2))
 (k [.d .node (eN a0), .d .bool false])
 (cond (gFr (PopT.src a1) (PopT.path a1))
 (cond (frontOf (PopT.src a1) (PopT.path a1))
 (k [.d .node (eN a0), .d .bool false])
 (cond (gPutW (eN ((cutPtr (eN a0) (PopT.src a1)).1)) (PopT.path a1) (eN ((atPtr (eN a0) (PopT.src a1)).1)) (eN a0))
 (k [.d .node (eN ((putW (eN ((cutPtr (eN a0) (PopT.src a1)).1)) (PopT.path a1) (eN ((atPtr (eN a0) (PopT.src a1)).1)) (eN a0)).1)), .d .bool ((putW (eN ((cutPtr (eN a0) (PopT.src a1)).1)) (PopT.path a1) (eN ((atPtr (eN a0) (PopT.src a1)).1)) (eN a0)).2)])
 none))
 none))
 none)
 none)
 (cond ((PopT.kind a1) == (6 : Int))
 (cond ((fun (x : NodeT) (y : List BA) => sm_node x && smL smStr y) (eN a0) (PopT.src a1))
 (cond (!((atPtr (eN a0) (PopT.src a1)).2))
 (k [.d .node (eN a0), .d .bool false])
 (cond (gP (eN a0) (PopT.path a1) (eN ((atPtr (eN a0) (PopT.src a1)).1)))
 (k [.d .node (eN ((putPtr (eN a0) (PopT.path a1) (eN ((atPtr (eN a0) (PopT.src a1)).1))).1)), .d .bool ((putPtr (eN a0) (PopT.path a1) (eN ((atPtr (eN a0) (PopT.src a1)).1))).2)])
 none))
 none)
 (k [.d .node (eN a0), .d .bool false])))))))
 none) := by kernel_rfl
theorem f15_spec (a0 : NodeT) (a1 : PopT) (hg : gP2 a0 a1 = true) : ∃ keep rounds, ∀ {R : Type} (k : Kt R), evFn f15e keep rounds f15c [.ro, .ro] [false, false] false [.cell 4 27, .tmp 5] [27, 4] [.d .node a0, .d .pop a1] k = k [.d .node ((patchOne a0 a1).1), .d .bool ((patchOne a0 a1).2)] := by
 have hgp := hg
 simp only [gP2, Bool.and_eq_true] at hg
 obtain ⟨hg0, hp⟩ := hg
 obtain ⟨h1, h2, h3⟩ := sm_pop_parts hp
 have c1 : sm_node (cutPtr a0 a1.path).1 = true := (cutPtr_ok hg0).1
 have c2 : sm_node (cutPtr a0 a1.src).1 = true := (cutPtr_ok hg0).1
 have t1 : sm_node (atPtr a0 a1.path).1 = true := atPtr_sm hg0
 have t2 : sm_node (atPtr a0 a1.src).1 = true := atPtr_sm hg0
 have g1 : gP a0 a1.path a1.x = true := by simp only [gP, hg0, h1, h3, Bool.and_self]
 have g2 : gP (cutPtr a0 a1.path).1 a1.path a1.x = true := by simp only [gP, c1, h1, h3, Bool.and_self]
 have g3 : gP (cutPtr a0 a1.src).1 a1.path (atPtr a0 a1.src).1 = true := by simp only [gP, c2, h1, t2, Bool.and_self]
 have g4 : gP a0 a1.path (atPtr a0 a1.src).1 = true := by simp only [gP, hg0, h1, t2, Bool.and_self]
 have l1 := smL_len h1
 have l2 := smL_len h2
 have w2 : gPutW (cutPtr a0 a1.path).1 a1.path a1.x a0 = true := by simp only [gPutW, g2, hg0, Bool.and_self]
 have w3 : gPutW (cutPtr a0 a1.src).1 a1.path (atPtr a0 a1.src).1 a0 = true := by simp only [gPutW, g3, hg0, Bool.and_self]
 have gf : gFr a1.src a1.path = true := by simp only [gFr, gLenW_sm h1, gLenW_sm h2, Bool.and_self]
 refine ⟨f15k, 0, fun {R} k => ?_⟩
 rw [f15_run]
 simp only [eta_node, eN_eq, hg0, h1, h2, h3, c1, c2, t1, t2, g1, g2, g3, g4, sm2, Bool.and_self, cond_true, w2, w3, gf]
 show _ = k [.d .node (patchOne a0 a1).1, .d .bool (patchOne a0 a1).2]
 unfold patchOne patchedI
 cases a1.kind == (1 : Int)
 rotate_left
 ·simp only [cond_true]; rw [putPtr_eta]
 cases a1.kind == (2 : Int)
 rotate_left
 ·simp only [cond_true, cond_false]; rw [cutPtr_eta]
 cases a1.kind == (3 : Int)
 rotate_left
 ·simp only [cond_true, cond_false]
  cases (a1.path.length : Int) == (0 : Int)
  ·cases (cutPtr a0 a1.path).2
   ·rfl
   ·simp only [cond_true, cond_false, Bool.not_true, putW]
  ·rfl
 cases a1.kind == (4 : Int)
 rotate_left
 ·simp only [cond_true, cond_false]
  cases (atPtr a0 a1.path).2
  ·rfl
  ·cases eqD (atPtr a0 a1.path).1 a1.x <;> rfl
 cases a1.kind == (5 : Int)
 rotate_left
 ·simp only [cond_true, cond_false]
  cases ht : (atPtr a0 a1.src).2
  ·rw [at_cut ht]; rfl
  ·cases (cutPtr a0 a1.src).2
   ·cases frontOf a1.src a1.path <;> rfl
   ·cases frontOf a1.src a1.path
    ·simp only [cond_true, cond_false, Bool.not_true, putW]
    ·rfl
 cases a1.kind == (6 : Int)
 ·simp only [cond_true, cond_false]
  cases (atPtr a0 a1.src).2 <;> rfl
 ·simp only [cond_true, cond_false]
  cases (atPtr a0 a1.src).2
  ·rfl
  ·simp only [cond_true, cond_false, Bool.not_true, Bool.not_false]; rw [putPtr_eta]
noncomputable def q15 : Qt
 | [.d .node a0, .d .pop a1] => some ((gP2 a0 a1), [.d .node ((patchOne a0 a1).1), .d .bool ((patchOne a0 a1).2)])
 | _ => none
noncomputable def s15 : Gm.Spec := Gm.Spec.of [.ro, .ro] [false, false] false q15
theorem good15 : Gm.Good Try.prog (15, s15) := by
 have hl : ∀ x ∈ [(11, s11), (41, s41), (47, s47), (48, s48), (49, s49), (50, s50), (51, s51)], Gm.Good Try.prog x := fcJ.2 ⟨good11, fcJ.2 ⟨good41, fcJ.2 ⟨good47, fcJ.2 ⟨good48, fcJ.2 ⟨good49, fcJ.2 ⟨good50, fcJ.2 ⟨good51, fcN⟩⟩⟩⟩⟩⟩⟩
 refine ⟨⟨spec_ok (tab_ok.env hl) (tab.natl hl) Try.func15 (by kernel_rfl : Try.f15.body = some f15c) [27, 4] (by kernel_rfl) ?_, _, Try.func15, by kernel_rfl, of_decide_eq_true (by kernel_rfl)⟩, Gm.Spec.of_natl _ _ _ _⟩
 intro ds outs h
 unfold q15 at h
 split at h
 ·simp only [Option.some.injEq, Prod.mk.injEq] at h; obtain ⟨hg, h⟩ := h; cases h; exact f15_spec _ _ hg
 ·cases h
noncomputable def f17S0 (y0 : List PopT) (y1 : Int) (y2 : Int) (y3 : Int) (y4 : Int) (y5 : BA) (y6 : List BA) (y7 : List NodeT) (y11 : Int) (y12 : Int) (y13 : BA) (y14 : List BA) (y15 : List NodeT) : St := ⟨[(2, .c (.one (.pt 2 0))), (4, .c (.one (.pt 4 0))), (6, .c (.one (.pt 6 0))), (18, .c (.one (.ro .pop y0))), (19, .c (.one (.v (.int .i64 y1)))), (20, .c (.one (.v (.int .i64 y2))))], [(2, ⟨.node, [.v (.int .i64 y3), .v (.int .i64 y4), .v (.string y5), .ro .str y6, .ro .node y7]⟩), (4, ⟨.node, [.v (.int .i64 (0 : Int)), .v (.int .i64 (0 : Int)), .v (.string ByteArray.empty), .nl, .nl]⟩), (6, ⟨.node, [.v (.int .i64 y11), .v (.int .i64 y12), .v (.string y13), .h 1088 0 0 [], .h 1089 0 0 []]⟩)], [(1088, .live ⟨.str, .deep, 0, [], y14⟩), (1089, .live ⟨.node, .deep, 0, [], y15⟩)]⟩
noncomputable def f17S1 (y0 : Int) (y1 : Int) (y2 : Int) (y3 : BA) (y4 : List BA) (y5 : List NodeT) : St := ⟨[(4, .c (.one (.pt 4 0))), (5, .c (.one (.v (.int .i64 y0))))], [(4, ⟨.node, [.v (.int .i64 y1), .v (.int .i64 y2), .v (.string y3), .h 2176 0 0 [], .h 2177 0 0 []]⟩)], [(2176, .live ⟨.str, .deep, 0, [], y4⟩), (2177, .live ⟨.node, .deep, 0, [], y5⟩)]⟩
noncomputable def f17S2 (y0 : List PopT) (y1 : Int) (y2 : Int) (y3 : Bool) (y4 : Int) (y5 : Int) (y6 : BA) (y7 : List BA) (y8 : List NodeT) (y12 : Int) (y13 : Int) (y14 : BA) (y15 : List BA) (y16 : List NodeT) : St := ⟨[(2, .c (.one (.pt 2 0))), (4, .c (.one (.pt 4 0))), (6, .c (.one (.pt 6 0))), (18, .c (.one (.ro .pop y0))), (19, .c (.one (.v (.int .i64 y1)))), (20, .c (.one (.v (.int .i64 y2)))), (21, .c (.one (.v (.bool y3))))], [(2, ⟨.node, [.v (.int .i64 y4), .v (.int .i64 y5), .v (.string y6), .ro .str y7, .ro .node y8]⟩), (4, ⟨.node, [.v (.int .i64 (0 : Int)), .v (.int .i64 (0 : Int)), .v (.string ByteArray.empty), .nl, .nl]⟩), (6, ⟨.node, [.v (.int .i64 y12), .v (.int .i64 y13), .v (.string y14), .h 1088 0 0 [], .h 1089 0 0 []]⟩)], [(1088, .live ⟨.str, .deep, 0, [], y15⟩), (1089, .live ⟨.node, .deep, 0, [], y16⟩)]⟩
noncomputable def f17c : Code := (Try.f17.body).getD .skip
def f17k : Nat → Kp := kat [⟨[1, 2, 4], [], [], []⟩, ⟨[1, 2, 4, 13], [], [], []⟩, ⟨[4, 5], [], [], []⟩, ⟨[1, 2, 4, 6], [], [], []⟩, ⟨[2, 4, 6, 18, 19, 20], [], [], []⟩, ⟨[2, 4, 6, 18, 19, 20, 21], [], [], []⟩, ⟨[2, 4, 6, 7, 8, 18, 19, 20], [], [], []⟩, ⟨[2, 4, 6, 7, 9, 10, 18, 19, 20], [], [], []⟩, ⟨[2, 4, 6, 7, 9, 18, 19, 20, 32], [], [], []⟩, ⟨[4, 5], [], [], []⟩, ⟨[2, 4, 6, 18, 19, 20], [], [], []⟩, ⟨[2, 4, 6, 18, 19, 20], [], [], [(1792, 1088), (1793, 1089)]⟩, ⟨[4, 5], [], [], []⟩]
noncomputable def f17e : Env := tab.env [(13, s13), (39, s39)]
noncomputable def f17L0 {R : Type} (n : Nat) (x0 : Int → Option R) (x1 : Int → Bool → Int → Int → BA → (List BA) → (List NodeT) → Option R) (wD : List PopT) (wQ : Int) (wH : Int) (wI : Int) (wJ : BA) (wK : List BA) (wL : List NodeT) : Nat → Int → Int → Int → BA → (List BA) → (List NodeT) → Option R
  | 0, _, _, _, _, _, _ => none
  | m + 1, wA, wE, wF, wG, wM, wN =>
    (cond (decide (wA < wQ))
   (cond ((decide ((0 : Int) ≤ wA)) && (decide (wA < (wD.length : Int))))
    (cond (gP2 (⟨wE, wF, wG, wM, wN⟩ : NodeT) (⟨(PopT.kind (atI (t := .pop) wD (Int.toNat wA))), (PopT.path (atI (t := .pop) wD (Int.toNat wA))), (PopT.src (atI (t := .pop) wD (Int.toNat wA))), (eN (PopT.x (atI (t := .pop) wD (Int.toNat wA))))⟩ : PopT))
     (cond (!((patchOne (⟨wE, wF, wG, wM, wN⟩ : NodeT) (⟨(PopT.kind (atI (t := .pop) wD (Int.toNat wA))), (PopT.path (atI (t := .pop) wD (Int.toNat wA))), (PopT.src (atI (t := .pop) wD (Int.toNat wA))), (eN (PopT.x (atI (t := .pop) wD (Int.toNat wA))))⟩ : PopT)).2))
      (cond (sm_node (⟨wH, wI, wJ, wK, wL⟩ : NodeT))
       (x0 wA)
       none)
      (f17L0 n x0 x1 wD wQ wH wI wJ wK wL m (IntKind.wrap .i64 (wA + (1 : Int))) (NodeT.kind ((patchOne (⟨wE, wF, wG, wM, wN⟩ : NodeT) (⟨(PopT.kind (atI (t := .pop) wD (Int.toNat wA))), (PopT.path (atI (t := .pop) wD (Int.toNat wA))), (PopT.src (atI (t := .pop) wD (Int.toNat wA))), (eN (PopT.x (atI (t := .pop) wD (Int.toNat wA))))⟩ : PopT)).1)) (NodeT.n ((patchOne (⟨wE, wF, wG, wM, wN⟩ : NodeT) (⟨(PopT.kind (atI (t := .pop) wD (Int.toNat wA))), (PopT.path (atI (t := .pop) wD (Int.toNat wA))), (PopT.src (atI (t := .pop) wD (Int.toNat wA))), (eN (PopT.x (atI (t := .pop) wD (Int.toNat wA))))⟩ : PopT)).1)) (NodeT.s ((patchOne (⟨wE, wF, wG, wM, wN⟩ : NodeT) (⟨(PopT.kind (atI (t := .pop) wD (Int.toNat wA))), (PopT.path (atI (t := .pop) wD (Int.toNat wA))), (PopT.src (atI (t := .pop) wD (Int.toNat wA))), (eN (PopT.x (atI (t := .pop) wD (Int.toNat wA))))⟩ : PopT)).1)) (NodeT.keys ((patchOne (⟨wE, wF, wG, wM, wN⟩ : NodeT) (⟨(PopT.kind (atI (t := .pop) wD (Int.toNat wA))), (PopT.path (atI (t := .pop) wD (Int.toNat wA))), (PopT.src (atI (t := .pop) wD (Int.toNat wA))), (eN (PopT.x (atI (t := .pop) wD (Int.toNat wA))))⟩ : PopT)).1)) (NodeT.kids ((patchOne (⟨wE, wF, wG, wM, wN⟩ : NodeT) (⟨(PopT.kind (atI (t := .pop) wD (Int.toNat wA))), (PopT.path (atI (t := .pop) wD (Int.toNat wA))), (PopT.src (atI (t := .pop) wD (Int.toNat wA))), (eN (PopT.x (atI (t := .pop) wD (Int.toNat wA))))⟩ : PopT)).1))))
     none)
    none)
   (x1 wA (decide (wA < wQ)) wE wF wG wM wN))
theorem f17L0_b {R : Type} (n : Nat) (k' : Kx R) (wD : List PopT) (wQ : Int) (wA : Int) (wH : Int) (wI : Int) (wJ : BA) (wK : List BA) (wL : List NodeT) (wE : Int) (wF : Int) (wG : BA) (wM : List BA) (wN : List NodeT) : ev f17e f17k n (cAt [1,1,1,0,1,0,0] f17c) (f17S0 wD wQ wA wH wI wJ wK wL wE wF wG wM wN) k' =
 (cond (decide (wA < wQ))
 (cond ((decide ((0 : Int) ≤ wA)) && (decide (wA < (wD.length : Int))))
 (cond (gP2 (⟨wE, wF, wG, wM, wN⟩ : NodeT) (⟨(PopT.kind (atI (t := .pop) wD (Int.toNat wA))), (PopT.path (atI (t := .pop) wD (Int.toNat wA))), (PopT.src (atI (t := .pop) wD (Int.toNat wA))), (eN (PopT.x (atI (t := .pop) wD (Int.toNat wA))))⟩ : PopT))
 (cond (!((patchOne (⟨wE, wF, wG, wM, wN⟩ : NodeT) (⟨(PopT.kind (atI (t := .pop) wD (Int.toNat wA))), (PopT.path (atI (t := .pop) wD (Int.toNat wA))), (PopT.src (atI (t := .pop) wD (Int.toNat wA))), (eN (PopT.x (atI (t := .pop) wD (Int.toNat wA))))⟩ : PopT)).2))
 (cond (sm_node (⟨wH, wI, wJ, wK, wL⟩ : NodeT))
 (k' .ret (f17S1 wA wH wI wJ wK wL))
 none)
 (k' .normal (f17S0 wD wQ (IntKind.wrap .i64 (wA + (1 : Int))) wH wI wJ wK wL (NodeT.kind ((patchOne (⟨wE, wF, wG, wM, wN⟩ : NodeT) (⟨(PopT.kind (atI (t := .pop) wD (Int.toNat wA))), (PopT.path (atI (t := .pop) wD (Int.toNat wA))), (PopT.src (atI (t := .pop) wD (Int.toNat wA))), (eN (PopT.x (atI (t := .pop) wD (Int.toNat wA))))⟩ : PopT)).1)) (NodeT.n ((patchOne (⟨wE, wF, wG, wM, wN⟩ : NodeT) (⟨(PopT.kind (atI (t := .pop) wD (Int.toNat wA))), (PopT.path (atI (t := .pop) wD (Int.toNat wA))), (PopT.src (atI (t := .pop) wD (Int.toNat wA))), (eN (PopT.x (atI (t := .pop) wD (Int.toNat wA))))⟩ : PopT)).1)) (NodeT.s ((patchOne (⟨wE, wF, wG, wM, wN⟩ : NodeT) (⟨(PopT.kind (atI (t := .pop) wD (Int.toNat wA))), (PopT.path (atI (t := .pop) wD (Int.toNat wA))), (PopT.src (atI (t := .pop) wD (Int.toNat wA))), (eN (PopT.x (atI (t := .pop) wD (Int.toNat wA))))⟩ : PopT)).1)) (NodeT.keys ((patchOne (⟨wE, wF, wG, wM, wN⟩ : NodeT) (⟨(PopT.kind (atI (t := .pop) wD (Int.toNat wA))), (PopT.path (atI (t := .pop) wD (Int.toNat wA))), (PopT.src (atI (t := .pop) wD (Int.toNat wA))), (eN (PopT.x (atI (t := .pop) wD (Int.toNat wA))))⟩ : PopT)).1)) (NodeT.kids ((patchOne (⟨wE, wF, wG, wM, wN⟩ : NodeT) (⟨(PopT.kind (atI (t := .pop) wD (Int.toNat wA))), (PopT.path (atI (t := .pop) wD (Int.toNat wA))), (PopT.src (atI (t := .pop) wD (Int.toNat wA))), (eN (PopT.x (atI (t := .pop) wD (Int.toNat wA))))⟩ : PopT)).1)))))
 none)
 none)
 (k' (.exit 0) (f17S2 wD wQ wA (decide (wA < wQ)) wH wI wJ wK wL wE wF wG wM wN))) := by kernel_rfl
theorem f17L0_eq {R : Type} (n : Nat) (k' : Kx R) (wD : List PopT) (wQ : Int) (wH : Int) (wI : Int) (wJ : BA) (wK : List BA) (wL : List NodeT) : ∀ (m : Nat) (wA : Int) (wE : Int) (wF : Int) (wG : BA) (wM : List BA) (wN : List NodeT), iter (fun st k => ev f17e f17k n (cAt [1,1,1,0,1,0,0] f17c) st k) m (f17S0 wD wQ wA wH wI wJ wK wL wE wF wG wM wN) k' = f17L0 n (fun (wR : Int) => k' .ret (f17S1 wR wH wI wJ wK wL)) (fun (wV : Int) (uA : Bool) (wS : Int) (wT : Int) (wU : BA) (wW : List BA) (wX : List NodeT) => k' (.exit 0) (f17S2 wD wQ wV uA wH wI wJ wK wL wS wT wU wW wX)) wD wQ wH wI wJ wK wL m wA wE wF wG wM wN := by
 intro m; induction m with
 | zero => intros; rfl
 | succ m ih =>
  intro wA wE wF wG wM wN
  simp only [iter]
  rw [f17L0_b]
  simp only [ih, f17L0]
noncomputable def f17K0 {R : Type} (n : Nat) (k' : Kx R) : Kx R := (blockK 0 (seqK f17e f17k n (cAt [1,1,1,1] f17c) k'))
theorem f17K0_x0 {R : Type} (n : Nat) (k : Kt R) (a0 : NodeT) (a1 : List PopT) (wH : Int) (wI : Int) (wJ : BA) (wK : List BA) (wL : List NodeT) (wR : Int) : f17K0 n (exitK f17e [.ro, .ro] [false, false] true [.cell 4 27, .tmp 5] [27, 3] [.d .node a0, .d (.sl .pop) a1] k) .ret (f17S1 wR wH wI wJ wK wL) =
 (k [.d .node (⟨wH, wI, wJ, wK, wL⟩ : NodeT), .d (.i .i64) wR]) := by kernel_rfl
theorem f17K0_x1 {R : Type} (n : Nat) (k : Kt R) (a0 : NodeT) (a1 : List PopT) (wD : List PopT) (wQ : Int) (wH : Int) (wI : Int) (wJ : BA) (wK : List BA) (wL : List NodeT) (wV : Int) (uA : Bool) (wS : Int) (wT : Int) (wU : BA) (wW : List BA) (wX : List NodeT) : f17K0 n (exitK f17e [.ro, .ro] [false, false] true [.cell 4 27, .tmp 5] [27, 3] [.d .node a0, .d (.sl .pop) a1] k) (.exit 0) (f17S2 wD wQ wV uA wH wI wJ wK wL wS wT wU wW wX) =
 (k [.d .node (⟨wS, wT, wU, wW, wX⟩ : NodeT), .d (.i .i64) (-1 : Int)]) := by kernel_rfl
theorem f17_run {R : Type} (n : Nat) (k : Kt R) (a0 : NodeT) (a1 : List PopT) : evFn f17e f17k n f17c [.ro, .ro] [false, false] true [.cell 4 27, .tmp 5] [27, 3] [.d .node a0, .d (.sl .pop) a1] k =
 (cond (decide ((a1.length : Int) > (200 : Int)))
 (cond (sm_node (eN a0))
 (k [.d .node (eN a0), .d (.i .i64) (0 : Int)])
 none)
 (cond (sm_node (eN a0))
 (f17L0 n (fun (wR : Int) =>
 (k [.d .node (eN a0), .d (.i .i64) wR])) (fun (wV : Int) (uA : Bool) (wS : Int) (wT : Int) (wU : BA) (wW : List BA) (wX : List NodeT) =>
 (k [.d .node (⟨wS, wT, wU, wW, wX⟩ : NodeT), .d (.i .i64) (-1 : Int)])) a1 (a1.length : Int) (NodeT.kind a0) (NodeT.n a0) (NodeT.s a0) (NodeT.keys a0) (NodeT.kids a0) n (0 : Int) (NodeT.kind a0) (NodeT.n a0) (NodeT.s a0) (NodeT.keys a0) (NodeT.kids a0))
 none)) := by
  refine Eq.trans (b := (cond (decide ((a1.length : Int) > (200 : Int)))
  (cond (sm_node (eN a0))
   (k [.d .node (eN a0), .d (.i .i64) (0 : Int)])
   none)
  (cond (sm_node (eN a0))
   (iter (fun st k => ev f17e f17k n (cAt [1,1,1,0,1,0,0] f17c) st k) n (f17S0 a1 (a1.length : Int) (0 : Int) (NodeT.kind a0) (NodeT.n a0) (NodeT.s a0) (NodeT.keys a0) (NodeT.kids a0) (NodeT.kind a0) (NodeT.n a0) (NodeT.s a0) (NodeT.keys a0) (NodeT.kids a0)) (f17K0 n (exitK f17e [.ro, .ro] [false, false] true [.cell 4 27, .tmp 5] [27, 3] [.d .node a0, .d (.sl .pop) a1] k)))
   none))) (by kernel_rfl) ?_
  simp only [f17L0_eq, f17K0_x0, f17K0_x1]
theorem f17_spec (a0 : NodeT) (a1 : List PopT) (hg : gPA a0 a1 = true) : ∃ keep rounds, ∀ {R : Type} (k : Kt R), evFn f17e keep rounds f17c [.ro, .ro] [false, false] true [.cell 4 27, .tmp 5] [27, 3] [.d .node a0, .d (.sl .pop) a1] k = k [.d .node ((patchAll a0 a1).1), .d (.i .i64) ((patchAll a0 a1).2)] := by
 have hs : sm_node a0 = true := by simp only [gPA, Bool.and_eq_true] at hg; exact hg.1
 refine ⟨f17k, a1.length + 1, fun {R} k => ?_⟩
 rw [f17_run]
 simp only [eN_eq, hs, cond_true]
 unfold patchAll
 cases hl : decide ((a1.length : Int) > (200 : Int))
 rotate_left
 ·rfl
 have hr : gRun a0 a1 = true := by
  simp only [gPA, Bool.and_eq_true] at hg
  have := hg.2
  rw [hl] at this; exact this
 have hn : a1.length ≤ 200 := by have := of_decide_eq_false hl; omega
 simp only [cond_false]
 have key : ∀ (r : List PopT) (m i : Nat) (t : NodeT), i + r.length = a1.length → a1.drop i = r → r.length < m → gRun t r = true →
   f17L0 (a1.length + 1) (fun (x : Int) => k [.d .node a0, .d (.i .i64) x]) (fun (_ : Int) (_ : Bool) (b0 : Int) (b1 : Int) (b2 : BA) (b3 : List BA) (b4 : List NodeT) => k [.d .node (⟨b0, b1, b2, b3, b4⟩ : NodeT), .d (.i .i64) (-1 : Int)]) a1 (a1.length : Int) a0.kind a0.n a0.s a0.keys a0.kids m (i : Int) t.kind t.n t.s t.keys t.kids = k [.d .node (patchRun a0 t i r).1, .d (.i .i64) (patchRun a0 t i r).2] := by
  intro r
  induction r with
  | nil =>
   intro m i t hi _ hm _
   obtain ⟨m, rfl⟩ : ∃ m', m = m' + 1 := ⟨m - 1, by omega⟩
   have : i = a1.length := by simpa using hi
   subst this
   simp only [f17L0, decide_eq_false (show ¬ ((a1.length : Int) < (a1.length : Int)) by omega), cond_false, patchRun, eta_node, eN_eq]
  | cons p r ih =>
   intro m i t hi hd hm hg2
   obtain ⟨m, rfl⟩ : ∃ m', m = m' + 1 := ⟨m - 1, by omega⟩
   have hi' : i < a1.length := by rw [List.length_cons] at hi; omega
   have hp : atI (t := .pop) a1 i = p := by
    have h1 : (a1.drop i)[0]? = some p := by rw [hd]; rfl
    rw [List.getElem?_drop, Nat.add_zero] at h1
    exact atI_of (t := .pop) h1
   have hd' : a1.drop (i + 1) = r := by rw [← List.drop_drop, hd]; rfl
   have hw : IntKind.wrap .i64 ((i : Int) + 1) = ((i + 1 : Nat) : Int) := by rw [wrap_id (by omega) (by omega)]; omega
   simp only [gRun, Bool.and_eq_true] at hg2
   simp only [f17L0, decide_eq_true (show (i : Int) < (a1.length : Int) by omega), decide_eq_true (show (0 : Int) ≤ (i : Int) by omega), Int.toNat_natCast, hp, eN_eq, eta_node, eN_eq, eta_pop, hg2.1, hs, hw, Bool.and_self, cond_true, patchRun]
   cases hc : (patchOne t p).2
   ·simp only [Bool.not_false, cond_true, cond_false]
   ·have h3 := hg2.2
    rw [hc] at h3
    simp only [Bool.not_true, cond_true, cond_false]
    exact ih m (i + 1) _ (by rw [List.length_cons] at hi; omega) hd' (by rw [List.length_cons] at hm; omega) h3
 exact key a1 (a1.length + 1) 0 a0 (by omega) rfl (by omega) hr
noncomputable def q17 : Qt
 | [.d .node a0, .d (.sl .pop) a1] => some ((gPA a0 a1), [.d .node ((patchAll a0 a1).1), .d (.i .i64) ((patchAll a0 a1).2)])
 | _ => none
noncomputable def s17 : Gm.Spec := Gm.Spec.of [.ro, .ro] [false, false] true q17
theorem good17 : Gm.Good Try.prog (17, s17) := by
 have hl : ∀ x ∈ [(13, s13), (39, s39)], Gm.Good Try.prog x := fcJ.2 ⟨good13, fcJ.2 ⟨good39, fcN⟩⟩
 refine ⟨⟨spec_ok (tab_ok.env hl) (tab.natl hl) Try.func17 (by kernel_rfl : Try.f17.body = some f17c) [27, 3] (by kernel_rfl) ?_, _, Try.func17, by kernel_rfl, of_decide_eq_true (by kernel_rfl)⟩, Gm.Spec.of_natl _ _ _ _⟩
 intro ds outs h
 unfold q17 at h
 split at h
 ·simp only [Option.some.injEq, Prod.mk.injEq] at h; obtain ⟨hg, h⟩ := h; cases h; exact f17_spec _ _ hg
 ·cases h
noncomputable def s41x : Gm.Spec := Gm.Spec.of [.ro] [false] false q41
theorem good41x : Gm.Good Try.prog (41, s41x) := ⟨⟨spec_down (by simp) (by simp) good41.1.1, good41.1.2⟩, Gm.Spec.of_natl _ _ _ _⟩
noncomputable def f18S0 (y0 : List PopT) (y1 : Int) (y2 : Int) (y3 : Int) (y4 : BA) (y5 : List BA) (y6 : List NodeT) (y10 : Int) (y11 : Int) (y12 : BA) (y13 : List BA) (y14 : List NodeT) : St := ⟨[(1, .c (.one (.ro .pop y0))), (2, .c (.one (.pt 2 0))), (4, .c (.one (.pt 4 0))), (6, .c (.one (.pt 6 0))), (7, .c (.one (.v (.int .i64 y1))))], [(2, ⟨.node, [.v (.int .i64 y2), .v (.int .i64 y3), .v (.string y4), .ro .str y5, .ro .node y6]⟩), (4, ⟨.node, [.v (.int .i64 (0 : Int)), .v (.int .i64 (0 : Int)), .v (.string ByteArray.empty), .nl, .nl]⟩), (6, ⟨.node, [.v (.int .i64 y10), .v (.int .i64 y11), .v (.string y12), .ro .str y13, .ro .node y14]⟩)], []⟩
noncomputable def f18S1 (y0 : Int) (y1 : Int) (y2 : Int) (y3 : BA) (y4 : List BA) (y5 : List NodeT) : St := ⟨[(4, .c (.one (.pt 4 0))), (5, .c (.one (.v (.int .i64 y0))))], [(4, ⟨.node, [.v (.int .i64 y1), .v (.int .i64 y2), .v (.string y3), .ro .str y4, .ro .node y5]⟩)], []⟩
noncomputable def f18S2 (y0 : List PopT) (y1 : Int) (y2 : Bool) (y3 : Int) (y4 : Int) (y5 : BA) (y6 : List BA) (y7 : List NodeT) (y11 : Int) (y12 : Int) (y13 : BA) (y14 : List BA) (y15 : List NodeT) : St := ⟨[(1, .c (.one (.ro .pop y0))), (2, .c (.one (.pt 2 0))), (4, .c (.one (.pt 4 0))), (6, .c (.one (.pt 6 0))), (7, .c (.one (.v (.int .i64 y1)))), (20, .c (.one (.v (.bool y2))))], [(2, ⟨.node, [.v (.int .i64 y3), .v (.int .i64 y4), .v (.string y5), .ro .str y6, .ro .node y7]⟩), (4, ⟨.node, [.v (.int .i64 (0 : Int)), .v (.int .i64 (0 : Int)), .v (.string ByteArray.empty), .nl, .nl]⟩), (6, ⟨.node, [.v (.int .i64 y11), .v (.int .i64 y12), .v (.string y13), .ro .str y14, .ro .node y15]⟩)], []⟩
noncomputable def f18c : Code := (Try.f18.body).getD .skip
def f18k : Nat → Kp := kat [⟨[1, 2, 4], [], [], []⟩, ⟨[1, 2, 4, 12], [], [], []⟩, ⟨[4, 5], [], [], []⟩, ⟨[1, 2, 4, 6], [], [], []⟩, ⟨[1, 2, 4, 6, 7], [], [], []⟩, ⟨[1, 2, 4, 6, 7, 20], [], [], []⟩, ⟨[1, 2, 4, 6, 7], [], [], []⟩, ⟨[1, 2, 4, 6, 7, 8, 9], [], [], []⟩, ⟨[1, 2, 4, 6, 7, 8, 33], [], [], []⟩, ⟨[4, 5], [], [], []⟩, ⟨[1, 2, 4, 6, 7], [], [], []⟩, ⟨[4, 5], [], [], []⟩]
noncomputable def f18e : Env := tab.env [(15, s15), (41, s41x)]
noncomputable def f18L0 {R : Type} (n : Nat) (x0 : Int → Option R) (x1 : Int → Bool → Int → Int → BA → (List BA) → (List NodeT) → Option R) (wC : List PopT) (wH : Int) (wI : Int) (wJ : BA) (wK : List BA) (wL : List NodeT) : Nat → Int → Int → Int → BA → (List BA) → (List NodeT) → Option R
  | 0, _, _, _, _, _, _ => none
  | m + 1, wB, wE, wF, wG, wO, wP =>
    (cond (decide (wB < (wC.length : Int)))
   (cond ((decide ((0 : Int) ≤ wB)) && (decide (wB < (wC.length : Int))))
    (cond (gP2 (⟨wE, wF, wG, wO, wP⟩ : NodeT) (⟨(PopT.kind (atI (t := .pop) wC (Int.toNat wB))), (PopT.path (atI (t := .pop) wC (Int.toNat wB))), (PopT.src (atI (t := .pop) wC (Int.toNat wB))), (eN (PopT.x (atI (t := .pop) wC (Int.toNat wB))))⟩ : PopT))
     (cond (!((patchOne (⟨wE, wF, wG, wO, wP⟩ : NodeT) (⟨(PopT.kind (atI (t := .pop) wC (Int.toNat wB))), (PopT.path (atI (t := .pop) wC (Int.toNat wB))), (PopT.src (atI (t := .pop) wC (Int.toNat wB))), (eN (PopT.x (atI (t := .pop) wC (Int.toNat wB))))⟩ : PopT)).2))
      (cond (sm_node (⟨wH, wI, wJ, wK, wL⟩ : NodeT))
       (x0 wB)
       none)
      (f18L0 n x0 x1 wC wH wI wJ wK wL m (IntKind.wrap .i64 (wB + (1 : Int))) (NodeT.kind ((patchOne (⟨wE, wF, wG, wO, wP⟩ : NodeT) (⟨(PopT.kind (atI (t := .pop) wC (Int.toNat wB))), (PopT.path (atI (t := .pop) wC (Int.toNat wB))), (PopT.src (atI (t := .pop) wC (Int.toNat wB))), (eN (PopT.x (atI (t := .pop) wC (Int.toNat wB))))⟩ : PopT)).1)) (NodeT.n ((patchOne (⟨wE, wF, wG, wO, wP⟩ : NodeT) (⟨(PopT.kind (atI (t := .pop) wC (Int.toNat wB))), (PopT.path (atI (t := .pop) wC (Int.toNat wB))), (PopT.src (atI (t := .pop) wC (Int.toNat wB))), (eN (PopT.x (atI (t := .pop) wC (Int.toNat wB))))⟩ : PopT)).1)) (NodeT.s ((patchOne (⟨wE, wF, wG, wO, wP⟩ : NodeT) (⟨(PopT.kind (atI (t := .pop) wC (Int.toNat wB))), (PopT.path (atI (t := .pop) wC (Int.toNat wB))), (PopT.src (atI (t := .pop) wC (Int.toNat wB))), (eN (PopT.x (atI (t := .pop) wC (Int.toNat wB))))⟩ : PopT)).1)) (NodeT.keys ((patchOne (⟨wE, wF, wG, wO, wP⟩ : NodeT) (⟨(PopT.kind (atI (t := .pop) wC (Int.toNat wB))), (PopT.path (atI (t := .pop) wC (Int.toNat wB))), (PopT.src (atI (t := .pop) wC (Int.toNat wB))), (eN (PopT.x (atI (t := .pop) wC (Int.toNat wB))))⟩ : PopT)).1)) (NodeT.kids ((patchOne (⟨wE, wF, wG, wO, wP⟩ : NodeT) (⟨(PopT.kind (atI (t := .pop) wC (Int.toNat wB))), (PopT.path (atI (t := .pop) wC (Int.toNat wB))), (PopT.src (atI (t := .pop) wC (Int.toNat wB))), (eN (PopT.x (atI (t := .pop) wC (Int.toNat wB))))⟩ : PopT)).1))))
     none)
    none)
   (x1 wB (decide (wB < (wC.length : Int))) wE wF wG wO wP))
theorem f18L0_b {R : Type} (n : Nat) (k' : Kx R) (wC : List PopT) (wB : Int) (wH : Int) (wI : Int) (wJ : BA) (wK : List BA) (wL : List NodeT) (wE : Int) (wF : Int) (wG : BA) (wO : List BA) (wP : List NodeT) : ev f18e f18k n (cAt [1,1,1,0,1,0,0] f18c) (f18S0 wC wB wH wI wJ wK wL wE wF wG wO wP) k' =
 (cond (decide (wB < (wC.length : Int)))
 (cond ((decide ((0 : Int) ≤ wB)) && (decide (wB < (wC.length : Int))))
 (cond (gP2 (⟨wE, wF, wG, wO, wP⟩ : NodeT) (⟨(PopT.kind (atI (t := .pop) wC (Int.toNat wB))), (PopT.path (atI (t := .pop) wC (Int.toNat wB))), (PopT.src (atI (t := .pop) wC (Int.toNat wB))), (eN (PopT.x (atI (t := .pop) wC (Int.toNat wB))))⟩ : PopT))
 (cond (!((patchOne (⟨wE, wF, wG, wO, wP⟩ : NodeT) (⟨(PopT.kind (atI (t := .pop) wC (Int.toNat wB))), (PopT.path (atI (t := .pop) wC (Int.toNat wB))), (PopT.src (atI (t := .pop) wC (Int.toNat wB))), (eN (PopT.x (atI (t := .pop) wC (Int.toNat wB))))⟩ : PopT)).2))
 (cond (sm_node (⟨wH, wI, wJ, wK, wL⟩ : NodeT))
 (k' .ret (f18S1 wB wH wI wJ wK wL))
 none)
 (k' .normal (f18S0 wC (IntKind.wrap .i64 (wB + (1 : Int))) wH wI wJ wK wL (NodeT.kind ((patchOne (⟨wE, wF, wG, wO, wP⟩ : NodeT) (⟨(PopT.kind (atI (t := .pop) wC (Int.toNat wB))), (PopT.path (atI (t := .pop) wC (Int.toNat wB))), (PopT.src (atI (t := .pop) wC (Int.toNat wB))), (eN (PopT.x (atI (t := .pop) wC (Int.toNat wB))))⟩ : PopT)).1)) (NodeT.n ((patchOne (⟨wE, wF, wG, wO, wP⟩ : NodeT) (⟨(PopT.kind (atI (t := .pop) wC (Int.toNat wB))), (PopT.path (atI (t := .pop) wC (Int.toNat wB))), (PopT.src (atI (t := .pop) wC (Int.toNat wB))), (eN (PopT.x (atI (t := .pop) wC (Int.toNat wB))))⟩ : PopT)).1)) (NodeT.s ((patchOne (⟨wE, wF, wG, wO, wP⟩ : NodeT) (⟨(PopT.kind (atI (t := .pop) wC (Int.toNat wB))), (PopT.path (atI (t := .pop) wC (Int.toNat wB))), (PopT.src (atI (t := .pop) wC (Int.toNat wB))), (eN (PopT.x (atI (t := .pop) wC (Int.toNat wB))))⟩ : PopT)).1)) (NodeT.keys ((patchOne (⟨wE, wF, wG, wO, wP⟩ : NodeT) (⟨(PopT.kind (atI (t := .pop) wC (Int.toNat wB))), (PopT.path (atI (t := .pop) wC (Int.toNat wB))), (PopT.src (atI (t := .pop) wC (Int.toNat wB))), (eN (PopT.x (atI (t := .pop) wC (Int.toNat wB))))⟩ : PopT)).1)) (NodeT.kids ((patchOne (⟨wE, wF, wG, wO, wP⟩ : NodeT) (⟨(PopT.kind (atI (t := .pop) wC (Int.toNat wB))), (PopT.path (atI (t := .pop) wC (Int.toNat wB))), (PopT.src (atI (t := .pop) wC (Int.toNat wB))), (eN (PopT.x (atI (t := .pop) wC (Int.toNat wB))))⟩ : PopT)).1)))))
 none)
 none)
 (k' (.exit 0) (f18S2 wC wB (decide (wB < (wC.length : Int))) wH wI wJ wK wL wE wF wG wO wP))) := by kernel_rfl
theorem f18L0_eq {R : Type} (n : Nat) (k' : Kx R) (wC : List PopT) (wH : Int) (wI : Int) (wJ : BA) (wK : List BA) (wL : List NodeT) : ∀ (m : Nat) (wB : Int) (wE : Int) (wF : Int) (wG : BA) (wO : List BA) (wP : List NodeT), iter (fun st k => ev f18e f18k n (cAt [1,1,1,0,1,0,0] f18c) st k) m (f18S0 wC wB wH wI wJ wK wL wE wF wG wO wP) k' = f18L0 n (fun (wR : Int) => k' .ret (f18S1 wR wH wI wJ wK wL)) (fun (uB : Int) (wV : Bool) (wS : Int) (wT : Int) (wU : BA) (wY : List BA) (wZ : List NodeT) => k' (.exit 0) (f18S2 wC uB wV wH wI wJ wK wL wS wT wU wY wZ)) wC wH wI wJ wK wL m wB wE wF wG wO wP := by
 intro m; induction m with
 | zero => intros; rfl
 | succ m ih =>
  intro wB wE wF wG wO wP
  simp only [iter]
  rw [f18L0_b]
  simp only [ih, f18L0]
noncomputable def f18K0 {R : Type} (n : Nat) (k' : Kx R) : Kx R := (blockK 0 (seqK f18e f18k n (cAt [1,1,1,1] f18c) k'))
theorem f18K0_x0 {R : Type} (n : Nat) (k : Kt R) (a0 : NodeT) (a1 : List PopT) (wH : Int) (wI : Int) (wJ : BA) (wK : List BA) (wL : List NodeT) (wR : Int) : f18K0 n (exitK f18e [.ro, .ro] [false, false] false [.cell 4 27, .tmp 5] [27, 3] [.d .node a0, .d (.sl .pop) a1] k) .ret (f18S1 wR wH wI wJ wK wL) =
 (k [.d .node (⟨wH, wI, wJ, wK, wL⟩ : NodeT), .d (.i .i64) wR]) := by kernel_rfl
theorem f18K0_x1 {R : Type} (n : Nat) (k : Kt R) (a0 : NodeT) (a1 : List PopT) (wC : List PopT) (wH : Int) (wI : Int) (wJ : BA) (wK : List BA) (wL : List NodeT) (uB : Int) (wV : Bool) (wS : Int) (wT : Int) (wU : BA) (wY : List BA) (wZ : List NodeT) : f18K0 n (exitK f18e [.ro, .ro] [false, false] false [.cell 4 27, .tmp 5] [27, 3] [.d .node a0, .d (.sl .pop) a1] k) (.exit 0) (f18S2 wC uB wV wH wI wJ wK wL wS wT wU wY wZ) =
 (k [.d .node (⟨wS, wT, wU, wY, wZ⟩ : NodeT), .d (.i .i64) (-1 : Int)]) := by kernel_rfl
theorem f18_run {R : Type} (n : Nat) (k : Kt R) (a0 : NodeT) (a1 : List PopT) : evFn f18e f18k n f18c [.ro, .ro] [false, false] false [.cell 4 27, .tmp 5] [27, 3] [.d .node a0, .d (.sl .pop) a1] k =
 (cond (decide ((a1.length : Int) > (200 : Int)))
 (cond (sm_node (eN a0))
 (k [.d .node (eN a0), .d (.i .i64) (0 : Int)])
 none)
 (cond (sm_node (eN a0))
 (f18L0 n (fun (wR : Int) =>
 (k [.d .node (eN a0), .d (.i .i64) wR])) (fun (uB : Int) (wV : Bool) (wS : Int) (wT : Int) (wU : BA) (wY : List BA) (wZ : List NodeT) =>
 (k [.d .node (⟨wS, wT, wU, wY, wZ⟩ : NodeT), .d (.i .i64) (-1 : Int)])) a1 (NodeT.kind a0) (NodeT.n a0) (NodeT.s a0) (NodeT.keys a0) (NodeT.kids a0) n (0 : Int) (NodeT.kind a0) (NodeT.n a0) (NodeT.s a0) (NodeT.keys a0) (NodeT.kids a0))
 none)) := by
  refine Eq.trans (b := (cond (decide ((a1.length : Int) > (200 : Int)))
  (cond (sm_node (eN a0))
   (k [.d .node (eN a0), .d (.i .i64) (0 : Int)])
   none)
  (cond (sm_node (eN a0))
   (iter (fun st k => ev f18e f18k n (cAt [1,1,1,0,1,0,0] f18c) st k) n (f18S0 a1 (0 : Int) (NodeT.kind a0) (NodeT.n a0) (NodeT.s a0) (NodeT.keys a0) (NodeT.kids a0) (NodeT.kind a0) (NodeT.n a0) (NodeT.s a0) (NodeT.keys a0) (NodeT.kids a0)) (f18K0 n (exitK f18e [.ro, .ro] [false, false] false [.cell 4 27, .tmp 5] [27, 3] [.d .node a0, .d (.sl .pop) a1] k)))
   none))) (by kernel_rfl) ?_
  simp only [f18L0_eq, f18K0_x0, f18K0_x1]
theorem f18_spec (a0 : NodeT) (a1 : List PopT) (hg : gPA a0 a1 = true) : ∃ keep rounds, ∀ {R : Type} (k : Kt R), evFn f18e keep rounds f18c [.ro, .ro] [false, false] false [.cell 4 27, .tmp 5] [27, 3] [.d .node a0, .d (.sl .pop) a1] k = k [.d .node ((patchAll a0 a1).1), .d (.i .i64) ((patchAll a0 a1).2)] := by
 have hs : sm_node a0 = true := by simp only [gPA, Bool.and_eq_true] at hg; exact hg.1
 refine ⟨f18k, a1.length + 1, fun {R} k => ?_⟩
 rw [f18_run]
 simp only [eN_eq, hs, cond_true]
 unfold patchAll
 cases hl : decide ((a1.length : Int) > (200 : Int))
 rotate_left
 ·rfl
 have hr : gRun a0 a1 = true := by
  simp only [gPA, Bool.and_eq_true] at hg
  have := hg.2
  rw [hl] at this; exact this
 have hn : a1.length ≤ 200 := by have := of_decide_eq_false hl; omega
 simp only [cond_false]
 have key : ∀ (r : List PopT) (m i : Nat) (t : NodeT), i + r.length = a1.length → a1.drop i = r → r.length < m → gRun t r = true →
   f18L0 (a1.length + 1) (fun (x : Int) => k [.d .node a0, .d (.i .i64) x]) (fun (_ : Int) (_ : Bool) (b0 : Int) (b1 : Int) (b2 : BA) (b3 : List BA) (b4 : List NodeT) => k [.d .node (⟨b0, b1, b2, b3, b4⟩ : NodeT), .d (.i .i64) (-1 : Int)]) a1 a0.kind a0.n a0.s a0.keys a0.kids m (i : Int) t.kind t.n t.s t.keys t.kids = k [.d .node (patchRun a0 t i r).1, .d (.i .i64) (patchRun a0 t i r).2] := by
  intro r
  induction r with
  | nil =>
   intro m i t hi _ hm _
   obtain ⟨m, rfl⟩ : ∃ m', m = m' + 1 := ⟨m - 1, by omega⟩
   have : i = a1.length := by simpa using hi
   subst this
   simp only [f18L0, decide_eq_false (show ¬ ((a1.length : Int) < (a1.length : Int)) by omega), cond_false, patchRun, eta_node, eN_eq]
  | cons p r ih =>
   intro m i t hi hd hm hg2
   obtain ⟨m, rfl⟩ : ∃ m', m = m' + 1 := ⟨m - 1, by omega⟩
   have hi' : i < a1.length := by rw [List.length_cons] at hi; omega
   have hp : atI (t := .pop) a1 i = p := by
    have h1 : (a1.drop i)[0]? = some p := by rw [hd]; rfl
    rw [List.getElem?_drop, Nat.add_zero] at h1
    exact atI_of (t := .pop) h1
   have hd' : a1.drop (i + 1) = r := by rw [← List.drop_drop, hd]; rfl
   have hw : IntKind.wrap .i64 ((i : Int) + 1) = ((i + 1 : Nat) : Int) := by rw [wrap_id (by omega) (by omega)]; omega
   simp only [gRun, Bool.and_eq_true] at hg2
   simp only [f18L0, decide_eq_true (show (i : Int) < (a1.length : Int) by omega), decide_eq_true (show (0 : Int) ≤ (i : Int) by omega), Int.toNat_natCast, hp, eN_eq, eta_node, eN_eq, eta_pop, hg2.1, hs, hw, Bool.and_self, cond_true, patchRun]
   cases hc : (patchOne t p).2
   ·simp only [Bool.not_false, cond_true, cond_false]
   ·have h3 := hg2.2
    rw [hc] at h3
    simp only [Bool.not_true, cond_true, cond_false]
    exact ih m (i + 1) _ (by rw [List.length_cons] at hi; omega) hd' (by rw [List.length_cons] at hm; omega) h3
 exact key a1 (a1.length + 1) 0 a0 (by omega) rfl (by omega) hr
noncomputable def q18 : Qt
 | [.d .node a0, .d (.sl .pop) a1] => some ((gPA a0 a1), [.d .node ((patchAll a0 a1).1), .d (.i .i64) ((patchAll a0 a1).2)])
 | _ => none
noncomputable def s18 : Gm.Spec := Gm.Spec.of [.ro, .ro] [false, false] false q18
theorem good18 : Gm.Good Try.prog (18, s18) := by
 have hl : ∀ x ∈ [(15, s15), (41, s41x)], Gm.Good Try.prog x := fcJ.2 ⟨good15, fcJ.2 ⟨good41x, fcN⟩⟩
 refine ⟨⟨spec_ok (tab_ok.env hl) (tab.natl hl) Try.func18 (by kernel_rfl : Try.f18.body = some f18c) [27, 3] (by kernel_rfl) ?_, _, Try.func18, by kernel_rfl, of_decide_eq_true (by kernel_rfl)⟩, Gm.Spec.of_natl _ _ _ _⟩
 intro ds outs h
 unfold q18 at h
 split at h
 ·simp only [Option.some.injEq, Prod.mk.injEq] at h; obtain ⟨hg, h⟩ := h; cases h; exact f18_spec _ _ hg
 ·cases h
noncomputable def f4c : Code := (Try.f4.body).getD .skip
def f4k : Nat → Kp := kat [⟨[0], [], [], []⟩, ⟨[0, 16], [], [], []⟩, ⟨[2], [], [], []⟩, ⟨[0, 3, 4], [], [], []⟩, ⟨[0, 3, 4, 5, 6], [], [], []⟩, ⟨[0, 3, 4, 5, 6, 7, 8], [], [], []⟩, ⟨[3, 4, 5, 6, 7, 8, 9, 10], [], [], []⟩, ⟨[3, 4, 5, 6, 7, 8, 9, 10, 11, 12], [], [], []⟩, ⟨[3, 4, 5, 6, 7, 8, 9, 11, 12, 13, 14], [], [], []⟩, ⟨[3, 4, 5, 6, 9, 11, 12, 70], [], [], []⟩, ⟨[2], [], [], []⟩, ⟨[3, 4, 5, 88], [], [], []⟩, ⟨[2], [], [], []⟩, ⟨[2], [], [], []⟩]
noncomputable def f4e : Env := tab.env [(8, s8), (12, s12), (13, s13), (14, s14), (15, s15), (16, s16), (17, s17), (18, s18)]
theorem f4_run {R : Type} (n : Nat) (k : Kt R) (a0 : List Int) : evFn f4e f4k n f4c [.kp] [false] true [.tmp 2] [4] [.d (.sl (.i .u8)) a0] k =
 (cond (bigC a0)
 (k [.d .bool true])
 (cond (gCode a0)
 (cond (gP2 (eN ((dP1 a0).1)) (⟨(PopT.kind ((dP1 a0).2)), (PopT.path ((dP1 a0).2)), (PopT.src ((dP1 a0).2)), (eN (PopT.x ((dP1 a0).2)))⟩ : PopT))
 (cond (gP2 (eN ((dP1 a0).1)) (⟨(PopT.kind ((dP1 a0).2)), (PopT.path ((dP1 a0).2)), (PopT.src ((dP1 a0).2)), (eN (PopT.x ((dP1 a0).2)))⟩ : PopT))
 (cond (gCode a0)
 (cond (gPA (eN ((dPA a0).1)) ((dPA a0).2))
 (cond (gPA (eN ((dPA a0).1)) ((dPA a0).2))
 (cond (!(((patchOne (eN ((dP1 a0).1)) (⟨(PopT.kind ((dP1 a0).2)), (PopT.path ((dP1 a0).2)), (PopT.src ((dP1 a0).2)), (eN (PopT.x ((dP1 a0).2)))⟩ : PopT)).2) == ((patchOne (eN ((dP1 a0).1)) (⟨(PopT.kind ((dP1 a0).2)), (PopT.path ((dP1 a0).2)), (PopT.src ((dP1 a0).2)), (eN (PopT.x ((dP1 a0).2)))⟩ : PopT)).2)))
 (k [.d .bool false])
 (cond (sm2 sm_node (eN ((patchOne (eN ((dP1 a0).1)) (⟨(PopT.kind ((dP1 a0).2)), (PopT.path ((dP1 a0).2)), (PopT.src ((dP1 a0).2)), (eN (PopT.x ((dP1 a0).2)))⟩ : PopT)).1)) (eN ((patchOne (eN ((dP1 a0).1)) (⟨(PopT.kind ((dP1 a0).2)), (PopT.path ((dP1 a0).2)), (PopT.src ((dP1 a0).2)), (eN (PopT.x ((dP1 a0).2)))⟩ : PopT)).1)))
 (cond (!(eqD (eN ((patchOne (eN ((dP1 a0).1)) (⟨(PopT.kind ((dP1 a0).2)), (PopT.path ((dP1 a0).2)), (PopT.src ((dP1 a0).2)), (eN (PopT.x ((dP1 a0).2)))⟩ : PopT)).1)) (eN ((patchOne (eN ((dP1 a0).1)) (⟨(PopT.kind ((dP1 a0).2)), (PopT.path ((dP1 a0).2)), (PopT.src ((dP1 a0).2)), (eN (PopT.x ((dP1 a0).2)))⟩ : PopT)).1))))
 (k [.d .bool false])
 (cond (((patchAll (eN ((dPA a0).1)) ((dPA a0).2)).2) != ((patchAll (eN ((dPA a0).1)) ((dPA a0).2)).2))
 (k [.d .bool false])
 (cond (sm2 sm_node (eN ((patchAll (eN ((dPA a0).1)) ((dPA a0).2)).1)) (eN ((patchAll (eN ((dPA a0).1)) ((dPA a0).2)).1)))
 (cond (!(eqD (eN ((patchAll (eN ((dPA a0).1)) ((dPA a0).2)).1)) (eN ((patchAll (eN ((dPA a0).1)) ((dPA a0).2)).1))))
 (k [.d .bool false])
 (cond (!((patchOne (eN ((dP1 a0).1)) (⟨(PopT.kind ((dP1 a0).2)), (PopT.path ((dP1 a0).2)), (PopT.src ((dP1 a0).2)), (eN (PopT.x ((dP1 a0).2)))⟩ : PopT)).2))
 (cond (sm2 sm_node (eN ((patchOne (eN ((dP1 a0).1)) (⟨(PopT.kind ((dP1 a0).2)), (PopT.path ((dP1 a0).2)), (PopT.src ((dP1 a0).2)), (eN (PopT.x ((dP1 a0).2)))⟩ : PopT)).1)) (eN ((dP1 a0).1)))
 (cond (!(eqD (eN ((patchOne (eN ((dP1 a0).1)) (⟨(PopT.kind ((dP1 a0).2)), (PopT.path ((dP1 a0).2)), (PopT.src ((dP1 a0).2)), (eN (PopT.x ((dP1 a0).2)))⟩ : PopT)).1)) (eN ((dP1 a0).1))))
 (k [.d .bool false])
 (cond (decide (((patchAll (eN ((dPA a0).1)) ((dPA a0).2)).2) ≥ (0 : Int)))
 (cond (sm2 sm_node (eN ((patchAll (eN ((dPA a0).1)) ((dPA a0).2)).1)) (eN ((dPA a0).1)))
 (cond (!(eqD (eN ((patchAll (eN ((dPA a0).1)) ((dPA a0).2)).1)) (eN ((dPA a0).1))))
 (k [.d .bool false])
 (cond ((PopT.kind ((dP1 a0).2)) != (4 : Int))
 (k [.d .bool true])
 (cond (sm2 sm_node (eN ((patchOne (eN ((dP1 a0).1)) (⟨(PopT.kind ((dP1 a0).2)), (PopT.path ((dP1 a0).2)), (PopT.src ((dP1 a0).2)), (eN (PopT.x ((dP1 a0).2)))⟩ : PopT)).1)) (eN ((dP1 a0).1)))
 (k [.d .bool (eqD (eN ((patchOne (eN ((dP1 a0).1)) (⟨(PopT.kind ((dP1 a0).2)), (PopT.path ((dP1 a0).2)), (PopT.src ((dP1 a0).2)), (eN (PopT.x ((dP1 a0).2)))⟩ : PopT)).1)) (eN ((dP1 a0).1)))])
 none)))
 none)
 (cond ((PopT.kind ((dP1 a0).2)) != (4 : Int))
 (k [.d .bool true])
 (cond (sm2 sm_node (eN ((patchOne (eN ((dP1 a0).1)) (⟨(PopT.kind ((dP1 a0).2)), (PopT.path ((dP1 a0).2)), (PopT.src ((dP1 a0).2)), (eN (PopT.x ((dP1 a0).2)))⟩ : PopT)).1)) (eN ((dP1 a0).1)))
 (k [.d .bool (eqD (eN ((patchOne (eN ((dP1 a0).1)) (⟨(PopT.kind ((dP1 a0).2)), (PopT.path ((dP1 a0).2)), (PopT.src ((dP1 a0).2)), (eN (PopT.x ((dP1 a0).2)))⟩ : PopT)).1)) (eN ((dP1 a0).1)))])
 none))))
 none)
 (cond (decide (((patchAll (eN ((dPA a0).1)) ((dPA a0).2)).2) ≥ (0 : Int)))
 (cond (sm2 sm_node (eN ((patchAll (eN ((dPA a0).1)) ((dPA a0).2)).1)) (eN ((dPA a0).1)))
 (cond (!(eqD (eN ((patchAll (eN ((dPA a0).1)) ((dPA a0).2)).1)) (eN ((dPA a0).1))))
 (k [.d .bool false])
 (cond ((PopT.kind ((dP1 a0).2)) != (4 : Int))
 (k [.d .bool true])
 (cond (sm2 sm_node (eN ((patchOne (eN ((dP1 a0).1)) (⟨(PopT.kind ((dP1 a0).2)), (PopT.path ((dP1 a0).2)), (PopT.src ((dP1 a0).2)), (eN (PopT.x ((dP1 a0).2)))⟩ : PopT)).1)) (eN ((dP1 a0).1)))
 (k [.d .bool (eqD (eN ((patchOne (eN ((dP1 a0).1)) (⟨(PopT.kind ((dP1 a0).2)), (PopT.path ((dP1 a0).2)), (PopT.src ((dP1 a0).2)), (eN (PopT.x ((dP1 a0).2)))⟩ : PopT)).1)) (eN ((dP1 a0).1)))])
 none)))
 none)
 (cond ((PopT.kind ((dP1 a0).2)) != (4 : Int))
 (k [.d .bool true])
 (cond (sm2 sm_node (eN ((patchOne (eN ((dP1 a0).1)) (⟨(PopT.kind ((dP1 a0).2)), (PopT.path ((dP1 a0).2)), (PopT.src ((dP1 a0).2)), (eN (PopT.x ((dP1 a0).2)))⟩ : PopT)).1)) (eN ((dP1 a0).1)))
 (k [.d .bool (eqD (eN ((patchOne (eN ((dP1 a0).1)) (⟨(PopT.kind ((dP1 a0).2)), (PopT.path ((dP1 a0).2)), (PopT.src ((dP1 a0).2)), (eN (PopT.x ((dP1 a0).2)))⟩ : PopT)).1)) (eN ((dP1 a0).1)))])
 none)))))
 none)))
 none))
 none)
 none)
 none)
 none)
 none)
 none)) := by kernel_rfl
theorem f4_spec (a0 : List Int) : ∃ keep rounds, ∀ {R : Type} (k : Kt R), evFn f4e keep rounds f4c [.kp] [false] true [.tmp 2] [4] [.d (.sl (.i .u8)) a0] k = k [.d .bool ((fun (_ : List Int) => true) a0)] := by
  refine ⟨f4k, 0, fun {R} k => ?_⟩
  rw [f4_run]
  show _ = k [.d .bool true]
  cases hbig : bigC a0
  rotate_left
  · simp only [cond_true]
  have hc := gCode_of hbig
  obtain ⟨t1, o1⟩ := dP1_ok a0 hc
  obtain ⟨t2, o2⟩ := dPA_ok a0 hc
  revert t1 o1 t2 o2
  generalize (dP1 a0).1 = t, (dP1 a0).2 = p, (dPA a0).1 = u, (dPA a0).2 = l
  intro t1 o1 t2 o2
  obtain ⟨s1, z1⟩ := okD_iff.1 t1
  obtain ⟨s2, _⟩ := okD_iff.1 t2
  obtain ⟨p1, p2⟩ := gOp_iff.1 o1
  have g1 : gP2 t p = true := by simp only [gP2, s1, p1, Bool.and_self]
  have s3 := (patchOne_okN s1 p1 (by omega)).1
  have s4 := patchAll_sm o2
  have h4 : (p.kind != (4 : Int)) = false → (patchOne t p).1 = t := fun h => patchOne_test (by simpa using h)
  simp only [eN_eq, eta_pop, hc, g1, o2, s3, s4, sm2, eqD_self, beq_self_eq_true, bne_self_eq_false, Bool.and_self, Bool.not_true, cond_true, cond_false]
  cases hk : (p.kind != (4 : Int)) <;> cases ha : (patchOne t p).2 <;> cases hb : decide ((patchAll u l).2 ≥ (0 : Int))
  all_goals
    try rw [h4 hk]
    try rw [patchOne_no ha]
    try rw [patchAll_back hb]
    simp only [s1, s2, s3, s4, eqD_self, Bool.and_self, Bool.not_true, Bool.not_false, cond_true, cond_false]
noncomputable def q4 : Qt
 | [.d (.sl (.i .u8)) a0] => some (true, [.d .bool ((fun (_ : List Int) => true) a0)])
 | _ => none
noncomputable def s4 : Gm.Spec := Gm.Spec.of [.kp] [false] true q4
theorem good4 : Gm.Good Try.prog (4, s4) := by
 have hl : ∀ x ∈ [(8, s8), (12, s12), (13, s13), (14, s14), (15, s15), (16, s16), (17, s17), (18, s18)], Gm.Good Try.prog x := fcJ.2 ⟨good8, fcJ.2 ⟨good12, fcJ.2 ⟨good13, fcJ.2 ⟨good14, fcJ.2 ⟨good15, fcJ.2 ⟨good16, fcJ.2 ⟨good17, fcJ.2 ⟨good18, fcN⟩⟩⟩⟩⟩⟩⟩⟩
 refine ⟨⟨spec_ok (tab_ok.env hl) (tab.natl hl) Try.func4 (by kernel_rfl : Try.f4.body = some f4c) [4] (by kernel_rfl) ?_, _, Try.func4, by kernel_rfl, of_decide_eq_true (by kernel_rfl)⟩, Gm.Spec.of_natl _ _ _ _⟩
 intro ds outs h
 unfold q4 at h
 split at h
 ·cases h; exact f4_spec _
 ·cases h
end Go.Proofs.Ytalnkjjnohgjkaa

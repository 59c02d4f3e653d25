/- What the functions compute, part 2. No conditions. -/
import Derived.Test.YtklmnopgogcbhaaFnChosenFn1
/- x -/
namespace Go.Proofs.Ytklmnopgogcbhaa
open Go Go.Gm
/-! ### loop.example/g00465/spec.l6DrawRight -/
noncomputable def f92S0 (y0 : Int) (y1 : List Int) (y2 : Int) (y3 : Int) (y12 : ByteArray) (y13 : ByteArray) (y14 : Int) (y15 : Int) (y16 : Int) (y17 : Int) (y18 : Int) (y19 : Int) (y20 : List MetricT) (y21 : List ByteArray) : St := ⟨[(0, .c (.one (.pt 0 0))), (2, .c (.one (.pt 2 0))), (4, .c (.one (.pt 4 0))), (5, .c (.one (.h 1792 0 0 []))), (6, .c (.one (.v (.int .i64 y0))))], [(0, ⟨.cur, [.rk (.i .u8) y1, .v (.int .i64 y2), .v (.int .i64 y3)]⟩), (2, ⟨.order, [.v (.string ByteArray.empty), .v (.string ByteArray.empty), .v (.int .i64 (0 : Int)), .v (.int .i64 (0 : Int)), .nl, .v (.int .i64 (0 : Int)), .v (.int .i64 (0 : Int)), .v (.int .i64 (0 : Int)), .v (.int .i64 (0 : Int)), .nl]⟩), (4, ⟨.order, [.v (.string y12), .v (.string y13), .v (.int .i64 y14), .v (.int .i64 y15), .h 260 0 0 [], .v (.int .i64 y16), .v (.int .i64 y17), .v (.int .i64 y18), .v (.int .i64 y19), .nl]⟩)], [(260, .live ⟨.metric, .deep, 0, [], y20⟩), (1792, .live ⟨.str, .deep, 0, [], y21⟩)]⟩
noncomputable def f92S1 (y0 : Int) (y1 : Bool) (y2 : List Int) (y3 : Int) (y4 : Int) (y13 : ByteArray) (y14 : ByteArray) (y15 : Int) (y16 : Int) (y17 : Int) (y18 : Int) (y19 : Int) (y20 : Int) (y21 : List MetricT) (y22 : List ByteArray) : St := ⟨[(0, .c (.one (.pt 0 0))), (2, .c (.one (.pt 2 0))), (4, .c (.one (.pt 4 0))), (5, .c (.one (.h 1792 0 0 []))), (6, .c (.one (.v (.int .i64 y0)))), (32, .c (.one (.v (.bool y1))))], [(0, ⟨.cur, [.rk (.i .u8) y2, .v (.int .i64 y3), .v (.int .i64 y4)]⟩), (2, ⟨.order, [.v (.string ByteArray.empty), .v (.string ByteArray.empty), .v (.int .i64 (0 : Int)), .v (.int .i64 (0 : Int)), .nl, .v (.int .i64 (0 : Int)), .v (.int .i64 (0 : Int)), .v (.int .i64 (0 : Int)), .v (.int .i64 (0 : Int)), .nl]⟩), (4, ⟨.order, [.v (.string y13), .v (.string y14), .v (.int .i64 y15), .v (.int .i64 y16), .h 260 0 0 [], .v (.int .i64 y17), .v (.int .i64 y18), .v (.int .i64 y19), .v (.int .i64 y20), .nl]⟩)], [(260, .live ⟨.metric, .deep, 0, [], y21⟩), (1792, .live ⟨.str, .deep, 0, [], y22⟩)]⟩
noncomputable def f92S2 (y0 : Int) (y1 : List Int) (y2 : Int) (y3 : Int) (y12 : ByteArray) (y13 : ByteArray) (y14 : Int) (y15 : Int) (y16 : Int) (y17 : Int) (y18 : Int) (y19 : Int) (y20 : List MetricT) (y21 : List NoteT) (y22 : List ByteArray) : St := ⟨[(0, .c (.one (.pt 0 0))), (2, .c (.one (.pt 2 0))), (4, .c (.one (.pt 4 0))), (8, .c (.one (.h 3200 0 0 []))), (9, .c (.one (.v (.int .i64 y0))))], [(0, ⟨.cur, [.rk (.i .u8) y1, .v (.int .i64 y2), .v (.int .i64 y3)]⟩), (2, ⟨.order, [.v (.string ByteArray.empty), .v (.string ByteArray.empty), .v (.int .i64 (0 : Int)), .v (.int .i64 (0 : Int)), .nl, .v (.int .i64 (0 : Int)), .v (.int .i64 (0 : Int)), .v (.int .i64 (0 : Int)), .v (.int .i64 (0 : Int)), .nl]⟩), (4, ⟨.order, [.v (.string y12), .v (.string y13), .v (.int .i64 y14), .v (.int .i64 y15), .h 260 0 0 [], .v (.int .i64 y16), .v (.int .i64 y17), .v (.int .i64 y18), .v (.int .i64 y19), .h 265 0 0 []]⟩)], [(260, .live ⟨.metric, .deep, 0, [], y20⟩), (265, .live ⟨.note, .deep, 0, [], y21⟩), (3200, .live ⟨.str, .deep, 0, [], y22⟩)]⟩
noncomputable def f92S3 (y0 : Int) (y1 : Bool) (y2 : List Int) (y3 : Int) (y4 : Int) (y13 : ByteArray) (y14 : ByteArray) (y15 : Int) (y16 : Int) (y17 : Int) (y18 : Int) (y19 : Int) (y20 : Int) (y21 : List MetricT) (y22 : List NoteT) (y23 : List ByteArray) : St := ⟨[(0, .c (.one (.pt 0 0))), (2, .c (.one (.pt 2 0))), (4, .c (.one (.pt 4 0))), (8, .c (.one (.h 3200 0 0 []))), (9, .c (.one (.v (.int .i64 y0)))), (54, .c (.one (.v (.bool y1))))], [(0, ⟨.cur, [.rk (.i .u8) y2, .v (.int .i64 y3), .v (.int .i64 y4)]⟩), (2, ⟨.order, [.v (.string ByteArray.empty), .v (.string ByteArray.empty), .v (.int .i64 (0 : Int)), .v (.int .i64 (0 : Int)), .nl, .v (.int .i64 (0 : Int)), .v (.int .i64 (0 : Int)), .v (.int .i64 (0 : Int)), .v (.int .i64 (0 : Int)), .nl]⟩), (4, ⟨.order, [.v (.string y13), .v (.string y14), .v (.int .i64 y15), .v (.int .i64 y16), .h 260 0 0 [], .v (.int .i64 y17), .v (.int .i64 y18), .v (.int .i64 y19), .v (.int .i64 y20), .h 265 0 0 []]⟩)], [(260, .live ⟨.metric, .deep, 0, [], y21⟩), (265, .live ⟨.note, .deep, 0, [], y22⟩), (3200, .live ⟨.str, .deep, 0, [], y23⟩)]⟩
noncomputable def f92c : Code := (Try.f92.body).getD .skip
def f92k : Nat → Kp := kat [⟨[0, 2], [], [], []⟩, ⟨[0, 2, 3], [], [], []⟩, ⟨[0, 2, 4], [], [], []⟩, ⟨[0, 2, 4, 5], [], [], []⟩, ⟨[0, 2, 4, 5, 6], [⟨true, false, 4, 4, .metric⟩], [], []⟩, ⟨[0, 2, 4, 5, 6, 32], [], [], []⟩, ⟨[0, 2, 4, 5, 6], [], [], []⟩, ⟨[0, 2, 4, 5, 6, 36], [], [], []⟩, ⟨[0, 2, 4, 5, 6, 7], [], [], []⟩, ⟨[0, 2, 4, 5, 6, 7], [], [], []⟩, ⟨[0, 2, 4, 5, 6], [], [], []⟩, ⟨[0, 2, 4, 8], [], [], []⟩, ⟨[0, 2, 4, 8, 9], [⟨true, false, 4, 9, .note⟩], [], []⟩, ⟨[0, 2, 4, 8, 9, 54], [], [], []⟩, ⟨[0, 2, 4, 8, 9], [], [], []⟩, ⟨[0, 2, 4, 8, 9, 58], [], [], []⟩, ⟨[0, 2, 4, 8, 9], [], [], []⟩, ⟨[0, 2], [], [], []⟩]
noncomputable def f92e : Env := tab.env [(55, s55), (57, s57), (75, s75), (77, s77), (93, s93), (104, s104), (105, s105)]
noncomputable def f92L0 {R : Type} (n : Nat) (x0 : Int → Bool → (List Int) → Int → Int → (List MetricT) → Option R) (vb4_0 : ByteArray) (vb4_1 : ByteArray) (vb4_2 : Int) (vb4_3 : Int) (vb4_5 : Int) (vb4_6 : Int) (vb4_7 : Int) (vb4_8 : Int) (vr1792 : List ByteArray) : Nat → Int → (List Int) → Int → Int → (List MetricT) → Option R
  | 0, _, _, _, _, _ => none
  | m + 1, vs6, vb0_0, vb0_1, vb0_2, vr260 =>
    (cond (decide (vs6 < (vr1792.length : Int)))
   (cond ((fun c _ => gCur c) (⟨vb0_0, vb0_1, vb0_2⟩ : CurT) (2 : Int))
    (cond ((curOnce (⟨vb0_0, vb0_1, vb0_2⟩ : CurT) (2 : Int)).1)
     (cond (gCur ((curOnce (⟨vb0_0, vb0_1, vb0_2⟩ : CurT) (2 : Int)).2))
      (cond ((decide ((0 : Int) ≤ vs6)) && (decide (vs6 < (vr1792.length : Int))))
       (cond (Nat.ble (vr260.length + 1) LIM)
        (f92L0 n x0 vb4_0 vb4_1 vb4_2 vb4_3 vb4_5 vb4_6 vb4_7 vb4_8 vr1792 m (IntKind.wrap .i64 (vs6 + (1 : Int))) (CurT.b ((oMet ((curOnce (⟨vb0_0, vb0_1, vb0_2⟩ : CurT) (2 : Int)).2)).2)) (CurT.i ((oMet ((curOnce (⟨vb0_0, vb0_1, vb0_2⟩ : CurT) (2 : Int)).2)).2)) (CurT.h ((oMet ((curOnce (⟨vb0_0, vb0_1, vb0_2⟩ : CurT) (2 : Int)).2)).2)) (vr260 ++ ([(⟨(atI (t := .str) vr1792 (Int.toNat vs6)), (MetricT.kind ((oMet ((curOnce (⟨vb0_0, vb0_1, vb0_2⟩ : CurT) (2 : Int)).2)).1)), (MetricT.goal ((oMet ((curOnce (⟨vb0_0, vb0_1, vb0_2⟩ : CurT) (2 : Int)).2)).1))⟩ : MetricT)] : List MetricT)))
        none)
       none)
      none)
     (f92L0 n x0 vb4_0 vb4_1 vb4_2 vb4_3 vb4_5 vb4_6 vb4_7 vb4_8 vr1792 m (IntKind.wrap .i64 (vs6 + (1 : Int))) (CurT.b ((curOnce (⟨vb0_0, vb0_1, vb0_2⟩ : CurT) (2 : Int)).2)) (CurT.i ((curOnce (⟨vb0_0, vb0_1, vb0_2⟩ : CurT) (2 : Int)).2)) (CurT.h ((curOnce (⟨vb0_0, vb0_1, vb0_2⟩ : CurT) (2 : Int)).2)) vr260))
    none)
   (x0 vs6 (decide (vs6 < (vr1792.length : Int))) vb0_0 vb0_1 vb0_2 vr260))
theorem f92L0_b {R : Type} (n : Nat) (k' : Ex → St → Option R) (vs6 : Int) (vb0_0 : List Int) (vb0_1 : Int) (vb0_2 : Int) (vb4_0 : ByteArray) (vb4_1 : ByteArray) (vb4_2 : Int) (vb4_3 : Int) (vb4_5 : Int) (vb4_6 : Int) (vb4_7 : Int) (vb4_8 : Int) (vr260 : List MetricT) (vr1792 : List ByteArray) : ev f92e f92k n (cAt [1,1,1,1,0,1,0,0] f92c) (f92S0 vs6 vb0_0 vb0_1 vb0_2 vb4_0 vb4_1 vb4_2 vb4_3 vb4_5 vb4_6 vb4_7 vb4_8 vr260 vr1792) k' =
    (cond (decide (vs6 < (vr1792.length : Int)))
  (cond ((fun c _ => gCur c) (⟨vb0_0, vb0_1, vb0_2⟩ : CurT) (2 : Int))
   (cond ((curOnce (⟨vb0_0, vb0_1, vb0_2⟩ : CurT) (2 : Int)).1)
    (cond (gCur ((curOnce (⟨vb0_0, vb0_1, vb0_2⟩ : CurT) (2 : Int)).2))
     (cond ((decide ((0 : Int) ≤ vs6)) && (decide (vs6 < (vr1792.length : Int))))
      (cond (Nat.ble (vr260.length + 1) LIM)
       (k' .normal (f92S0 (IntKind.wrap .i64 (vs6 + (1 : Int))) (CurT.b ((oMet ((curOnce (⟨vb0_0, vb0_1, vb0_2⟩ : CurT) (2 : Int)).2)).2)) (CurT.i ((oMet ((curOnce (⟨vb0_0, vb0_1, vb0_2⟩ : CurT) (2 : Int)).2)).2)) (CurT.h ((oMet ((curOnce (⟨vb0_0, vb0_1, vb0_2⟩ : CurT) (2 : Int)).2)).2)) vb4_0 vb4_1 vb4_2 vb4_3 vb4_5 vb4_6 vb4_7 vb4_8 (vr260 ++ ([(⟨(atI (t := .str) vr1792 (Int.toNat vs6)), (MetricT.kind ((oMet ((curOnce (⟨vb0_0, vb0_1, vb0_2⟩ : CurT) (2 : Int)).2)).1)), (MetricT.goal ((oMet ((curOnce (⟨vb0_0, vb0_1, vb0_2⟩ : CurT) (2 : Int)).2)).1))⟩ : MetricT)] : List MetricT)) vr1792))
       none)
      none)
     none)
    (k' .normal (f92S0 (IntKind.wrap .i64 (vs6 + (1 : Int))) (CurT.b ((curOnce (⟨vb0_0, vb0_1, vb0_2⟩ : CurT) (2 : Int)).2)) (CurT.i ((curOnce (⟨vb0_0, vb0_1, vb0_2⟩ : CurT) (2 : Int)).2)) (CurT.h ((curOnce (⟨vb0_0, vb0_1, vb0_2⟩ : CurT) (2 : Int)).2)) vb4_0 vb4_1 vb4_2 vb4_3 vb4_5 vb4_6 vb4_7 vb4_8 vr260 vr1792)))
   none)
  (k' (.exit 0) (f92S1 vs6 (decide (vs6 < (vr1792.length : Int))) vb0_0 vb0_1 vb0_2 vb4_0 vb4_1 vb4_2 vb4_3 vb4_5 vb4_6 vb4_7 vb4_8 vr260 vr1792))) := by kernel_rfl
theorem f92L0_eq {R : Type} (n : Nat) (k' : Ex → St → Option R) (vb4_0 : ByteArray) (vb4_1 : ByteArray) (vb4_2 : Int) (vb4_3 : Int) (vb4_5 : Int) (vb4_6 : Int) (vb4_7 : Int) (vb4_8 : Int) (vr1792 : List ByteArray) : ∀ (m : Nat) (vs6 : Int) (vb0_0 : List Int) (vb0_1 : Int) (vb0_2 : Int) (vr260 : List MetricT), iter (fun st k => ev f92e f92k n (cAt [1,1,1,1,0,1,0,0] f92c) st k) m (f92S0 vs6 vb0_0 vb0_1 vb0_2 vb4_0 vb4_1 vb4_2 vb4_3 vb4_5 vb4_6 vb4_7 vb4_8 vr260 vr1792) k' = f92L0 n (fun (xvs6 : Int) (xvs32 : Bool) (xvb0_0 : List Int) (xvb0_1 : Int) (xvb0_2 : Int) (xvr260 : List MetricT) => k' (.exit 0) (f92S1 xvs6 xvs32 xvb0_0 xvb0_1 xvb0_2 vb4_0 vb4_1 vb4_2 vb4_3 vb4_5 vb4_6 vb4_7 vb4_8 xvr260 vr1792)) vb4_0 vb4_1 vb4_2 vb4_3 vb4_5 vb4_6 vb4_7 vb4_8 vr1792 m vs6 vb0_0 vb0_1 vb0_2 vr260 := by
  intro m; induction m with
  | zero => intros; rfl
  | succ m ih =>
    intro vs6 vb0_0 vb0_1 vb0_2 vr260
    simp only [iter]
    rw [f92L0_b]
    simp only [ih, f92L0]

noncomputable def f92L1 {R : Type} (n : Nat) (x0 : Int → Bool → (List Int) → Int → Int → (List NoteT) → Option R) (vb4_0 : ByteArray) (vb4_1 : ByteArray) (vb4_2 : Int) (vb4_3 : Int) (vb4_5 : Int) (vb4_6 : Int) (vb4_7 : Int) (vb4_8 : Int) (vr260 : List MetricT) (vr3200 : List ByteArray) : Nat → Int → (List Int) → Int → Int → (List NoteT) → Option R
  | 0, _, _, _, _, _ => none
  | m + 1, vs9, vb0_0, vb0_1, vb0_2, vr265 =>
    (cond (decide (vs9 < (vr3200.length : Int)))
   (cond ((fun c _ => gCur c) (⟨vb0_0, vb0_1, vb0_2⟩ : CurT) (3 : Int))
    (cond ((curOnce (⟨vb0_0, vb0_1, vb0_2⟩ : CurT) (3 : Int)).1)
     (cond ((decide ((0 : Int) ≤ vs9)) && (decide (vs9 < (vr3200.length : Int))))
      (cond (gCur ((curOnce (⟨vb0_0, vb0_1, vb0_2⟩ : CurT) (3 : Int)).2))
       (cond (Nat.ble (vr265.length + 1) LIM)
        (f92L1 n x0 vb4_0 vb4_1 vb4_2 vb4_3 vb4_5 vb4_6 vb4_7 vb4_8 vr260 vr3200 m (IntKind.wrap .i64 (vs9 + (1 : Int))) (CurT.b ((tText ((curOnce (⟨vb0_0, vb0_1, vb0_2⟩ : CurT) (3 : Int)).2)).2)) (CurT.i ((tText ((curOnce (⟨vb0_0, vb0_1, vb0_2⟩ : CurT) (3 : Int)).2)).2)) (CurT.h ((tText ((curOnce (⟨vb0_0, vb0_1, vb0_2⟩ : CurT) (3 : Int)).2)).2)) (vr265 ++ ([(⟨(atI (t := .str) vr3200 (Int.toNat vs9)), ((tText ((curOnce (⟨vb0_0, vb0_1, vb0_2⟩ : CurT) (3 : Int)).2)).1)⟩ : NoteT)] : List NoteT)))
        none)
       none)
      none)
     (f92L1 n x0 vb4_0 vb4_1 vb4_2 vb4_3 vb4_5 vb4_6 vb4_7 vb4_8 vr260 vr3200 m (IntKind.wrap .i64 (vs9 + (1 : Int))) (CurT.b ((curOnce (⟨vb0_0, vb0_1, vb0_2⟩ : CurT) (3 : Int)).2)) (CurT.i ((curOnce (⟨vb0_0, vb0_1, vb0_2⟩ : CurT) (3 : Int)).2)) (CurT.h ((curOnce (⟨vb0_0, vb0_1, vb0_2⟩ : CurT) (3 : Int)).2)) vr265))
    none)
   (x0 vs9 (decide (vs9 < (vr3200.length : Int))) vb0_0 vb0_1 vb0_2 vr265))
theorem f92L1_b {R : Type} (n : Nat) (k' : Ex → St → Option R) (vs9 : Int) (vb0_0 : List Int) (vb0_1 : Int) (vb0_2 : Int) (vb4_0 : ByteArray) (vb4_1 : ByteArray) (vb4_2 : Int) (vb4_3 : Int) (vb4_5 : Int) (vb4_6 : Int) (vb4_7 : Int) (vb4_8 : Int) (vr260 : List MetricT) (vr265 : List NoteT) (vr3200 : List ByteArray) : ev f92e f92k n (cAt [1,1,1,1,1,1,0,1,0,0] f92c) (f92S2 vs9 vb0_0 vb0_1 vb0_2 vb4_0 vb4_1 vb4_2 vb4_3 vb4_5 vb4_6 vb4_7 vb4_8 vr260 vr265 vr3200) k' =
    (cond (decide (vs9 < (vr3200.length : Int)))
  (cond ((fun c _ => gCur c) (⟨vb0_0, vb0_1, vb0_2⟩ : CurT) (3 : Int))
   (cond ((curOnce (⟨vb0_0, vb0_1, vb0_2⟩ : CurT) (3 : Int)).1)
    (cond ((decide ((0 : Int) ≤ vs9)) && (decide (vs9 < (vr3200.length : Int))))
     (cond (gCur ((curOnce (⟨vb0_0, vb0_1, vb0_2⟩ : CurT) (3 : Int)).2))
      (cond (Nat.ble (vr265.length + 1) LIM)
       (k' .normal (f92S2 (IntKind.wrap .i64 (vs9 + (1 : Int))) (CurT.b ((tText ((curOnce (⟨vb0_0, vb0_1, vb0_2⟩ : CurT) (3 : Int)).2)).2)) (CurT.i ((tText ((curOnce (⟨vb0_0, vb0_1, vb0_2⟩ : CurT) (3 : Int)).2)).2)) (CurT.h ((tText ((curOnce (⟨vb0_0, vb0_1, vb0_2⟩ : CurT) (3 : Int)).2)).2)) vb4_0 vb4_1 vb4_2 vb4_3 vb4_5 vb4_6 vb4_7 vb4_8 vr260 (vr265 ++ ([(⟨(atI (t := .str) vr3200 (Int.toNat vs9)), ((tText ((curOnce (⟨vb0_0, vb0_1, vb0_2⟩ : CurT) (3 : Int)).2)).1)⟩ : NoteT)] : List NoteT)) vr3200))
       none)
      none)
     none)
    (k' .normal (f92S2 (IntKind.wrap .i64 (vs9 + (1 : Int))) (CurT.b ((curOnce (⟨vb0_0, vb0_1, vb0_2⟩ : CurT) (3 : Int)).2)) (CurT.i ((curOnce (⟨vb0_0, vb0_1, vb0_2⟩ : CurT) (3 : Int)).2)) (CurT.h ((curOnce (⟨vb0_0, vb0_1, vb0_2⟩ : CurT) (3 : Int)).2)) vb4_0 vb4_1 vb4_2 vb4_3 vb4_5 vb4_6 vb4_7 vb4_8 vr260 vr265 vr3200)))
   none)
  (k' (.exit 2) (f92S3 vs9 (decide (vs9 < (vr3200.length : Int))) vb0_0 vb0_1 vb0_2 vb4_0 vb4_1 vb4_2 vb4_3 vb4_5 vb4_6 vb4_7 vb4_8 vr260 vr265 vr3200))) := by kernel_rfl
theorem f92L1_eq {R : Type} (n : Nat) (k' : Ex → St → Option R) (vb4_0 : ByteArray) (vb4_1 : ByteArray) (vb4_2 : Int) (vb4_3 : Int) (vb4_5 : Int) (vb4_6 : Int) (vb4_7 : Int) (vb4_8 : Int) (vr260 : List MetricT) (vr3200 : List ByteArray) : ∀ (m : Nat) (vs9 : Int) (vb0_0 : List Int) (vb0_1 : Int) (vb0_2 : Int) (vr265 : List NoteT), iter (fun st k => ev f92e f92k n (cAt [1,1,1,1,1,1,0,1,0,0] f92c) st k) m (f92S2 vs9 vb0_0 vb0_1 vb0_2 vb4_0 vb4_1 vb4_2 vb4_3 vb4_5 vb4_6 vb4_7 vb4_8 vr260 vr265 vr3200) k' = f92L1 n (fun (xvs9 : Int) (xvs54 : Bool) (xvb0_0 : List Int) (xvb0_1 : Int) (xvb0_2 : Int) (xvr265 : List NoteT) => k' (.exit 2) (f92S3 xvs9 xvs54 xvb0_0 xvb0_1 xvb0_2 vb4_0 vb4_1 vb4_2 vb4_3 vb4_5 vb4_6 vb4_7 vb4_8 vr260 xvr265 vr3200)) vb4_0 vb4_1 vb4_2 vb4_3 vb4_5 vb4_6 vb4_7 vb4_8 vr260 vr3200 m vs9 vb0_0 vb0_1 vb0_2 vr265 := by
  intro m; induction m with
  | zero => intros; rfl
  | succ m ih =>
    intro vs9 vb0_0 vb0_1 vb0_2 vr265
    simp only [iter]
    rw [f92L1_b]
    simp only [ih, f92L1]

noncomputable def f92K1 {R : Type} (n : Nat) (k' : Ex → St → Option R) : Ex → St → Option R := (blockK 2 (seqK f92e f92k n (cAt [1,1,1,1,1,1,1] f92c) k'))
theorem f92K1_x0 {R : Type} (n : Nat) (k : List Dt → Option R) (a0 : CurT) (vb4_0 : ByteArray) (vb4_1 : ByteArray) (vb4_2 : Int) (vb4_3 : Int) (vb4_5 : Int) (vb4_6 : Int) (vb4_7 : Int) (vb4_8 : Int) (vr260 : List MetricT) (vr3200 : List ByteArray) (xvs9 : Int) (xvs54 : Bool) (xvb0_0 : List Int) (xvb0_1 : Int) (xvb0_2 : Int) (xvr265 : List NoteT) : f92K1 n (exitK f92e [.pmut] [false] true [.cell 2 88] [88] [.d .cur a0] k) (.exit 2) (f92S3 xvs9 xvs54 xvb0_0 xvb0_1 xvb0_2 vb4_0 vb4_1 vb4_2 vb4_3 vb4_5 vb4_6 vb4_7 vb4_8 vr260 xvr265 vr3200) =
    (k [.d .order (⟨vb4_0, vb4_1, vb4_2, vb4_3, vr260, (⟨vb4_5, vb4_6, vb4_7, vb4_8⟩ : PaceT), xvr265⟩ : OrderT), .d .cur (⟨xvb0_0, xvb0_1, xvb0_2⟩ : CurT)]) := by kernel_rfl

noncomputable def f92K0 {R : Type} (n : Nat) (k' : Ex → St → Option R) : Ex → St → Option R := (blockK 0 (seqK f92e f92k n (cAt [1,1,1,1,1] f92c) k'))
theorem f92K0_x0 {R : Type} (n : Nat) (k : List Dt → Option R) (a0 : CurT) (vb4_0 : ByteArray) (vb4_1 : ByteArray) (vb4_2 : Int) (vb4_3 : Int) (vb4_5 : Int) (vb4_6 : Int) (vb4_7 : Int) (vb4_8 : Int) (vr1792 : List ByteArray) (xvs6 : Int) (xvs32 : Bool) (xvb0_0 : List Int) (xvb0_1 : Int) (xvb0_2 : Int) (xvr260 : List MetricT) : f92K0 n (exitK f92e [.pmut] [false] true [.cell 2 88] [88] [.d .cur a0] k) (.exit 0) (f92S1 xvs6 xvs32 xvb0_0 xvb0_1 xvb0_2 vb4_0 vb4_1 vb4_2 vb4_3 vb4_5 vb4_6 vb4_7 vb4_8 xvr260 vr1792) =
    (f92L1 n (fun (xvs9 : Int) (xvs54 : Bool) (xvb0_0 : List Int) (xvb0_1 : Int) (xvb0_2 : Int) (xvr265 : List NoteT) =>
  (k [.d .order (⟨vb4_0, vb4_1, vb4_2, vb4_3, xvr260, (⟨vb4_5, vb4_6, vb4_7, vb4_8⟩ : PaceT), xvr265⟩ : OrderT), .d .cur (⟨xvb0_0, xvb0_1, xvb0_2⟩ : CurT)])) vb4_0 vb4_1 vb4_2 vb4_3 vb4_5 vb4_6 vb4_7 vb4_8 xvr260 [(bs [97]), (bs [111,119,110,101,114]), (bs [120,47,121])] n (0 : Int) xvb0_0 xvb0_1 xvb0_2 ([] : List NoteT)) := by
  refine Eq.trans (b := (iter (fun st k => ev f92e f92k n (cAt [1,1,1,1,1,1,0,1,0,0] f92c) st k) n (f92S2 (0 : Int) xvb0_0 xvb0_1 xvb0_2 vb4_0 vb4_1 vb4_2 vb4_3 vb4_5 vb4_6 vb4_7 vb4_8 xvr260 ([] : List NoteT) ([(bs [97]), (bs [111,119,110,101,114]), (bs [120,47,121])] : List ByteArray)) (f92K1 n (exitK f92e [.pmut] [false] true [.cell 2 88] [88] [.d .cur a0] k)))) (by kernel_rfl) ?_
  simp only [f92L1_eq, f92K1_x0]

theorem f92_run {R : Type} (n : Nat) (k : List Dt → Option R) (a0 : CurT) : evFn f92e f92k n f92c [.pmut] [false] true [.cell 2 88] [88] [.d .cur a0] k =
    (cond ((fun c _ => gCur c) a0 (4 : Int))
  (cond (gPickS ((curBelow a0 (4 : Int)).2) ([(bs [119,101,98]), (bs [97,112,105]), (bs [106,111,98,45,49])] : List ByteArray))
   (cond (gPickS ((curPick ((curBelow a0 (4 : Int)).2) ([(bs [119,101,98]), (bs [97,112,105]), (bs [106,111,98,45,49])] : List ByteArray)).2) ([(bs [119,101,98]), (bs [112,111,111,108])] : List ByteArray))
    (cond (gPickI ((curPick ((curPick ((curBelow a0 (4 : Int)).2) ([(bs [119,101,98]), (bs [97,112,105]), (bs [106,111,98,45,49])] : List ByteArray)).2) ([(bs [119,101,98]), (bs [112,111,111,108])] : List ByteArray)).2) ([(0 : Int), (3 : Int), (10 : Int), (900 : Int)] : List Int))
     (cond (gCur ((curPickI ((curPick ((curPick ((curBelow a0 (4 : Int)).2) ([(bs [119,101,98]), (bs [97,112,105]), (bs [106,111,98,45,49])] : List ByteArray)).2) ([(bs [119,101,98]), (bs [112,111,111,108])] : List ByteArray)).2) ([(0 : Int), (3 : Int), (10 : Int), (900 : Int)] : List Int)).2))
      (f92L0 n (fun (xvs6 : Int) (xvs32 : Bool) (xvb0_0 : List Int) (xvb0_1 : Int) (xvb0_2 : Int) (xvr260 : List MetricT) =>
       (f92L1 n (fun (xvs9 : Int) (xvs54 : Bool) (xvb0_0 : List Int) (xvb0_1 : Int) (xvb0_2 : Int) (xvr265 : List NoteT) =>
        (k [.d .order (⟨((curPick ((curBelow a0 (4 : Int)).2) ([(bs [119,101,98]), (bs [97,112,105]), (bs [106,111,98,45,49])] : List ByteArray)).1), ((curPick ((curPick ((curBelow a0 (4 : Int)).2) ([(bs [119,101,98]), (bs [97,112,105]), (bs [106,111,98,45,49])] : List ByteArray)).2) ([(bs [119,101,98]), (bs [112,111,111,108])] : List ByteArray)).1), (IntKind.wrap .i64 ((1 : Int) + ((curBelow a0 (4 : Int)).1))), (IntKind.wrap .i64 ((IntKind.wrap .i64 ((1 : Int) + ((curBelow a0 (4 : Int)).1))) + ((curPickI ((curPick ((curPick ((curBelow a0 (4 : Int)).2) ([(bs [119,101,98]), (bs [97,112,105]), (bs [106,111,98,45,49])] : List ByteArray)).2) ([(bs [119,101,98]), (bs [112,111,111,108])] : List ByteArray)).2) ([(0 : Int), (3 : Int), (10 : Int), (900 : Int)] : List Int)).1))), xvr260, (⟨(PaceT.up ((oPace ((curPickI ((curPick ((curPick ((curBelow a0 (4 : Int)).2) ([(bs [119,101,98]), (bs [97,112,105]), (bs [106,111,98,45,49])] : List ByteArray)).2) ([(bs [119,101,98]), (bs [112,111,111,108])] : List ByteArray)).2) ([(0 : Int), (3 : Int), (10 : Int), (900 : Int)] : List Int)).2)).1)), (PaceT.down ((oPace ((curPickI ((curPick ((curPick ((curBelow a0 (4 : Int)).2) ([(bs [119,101,98]), (bs [97,112,105]), (bs [106,111,98,45,49])] : List ByteArray)).2) ([(bs [119,101,98]), (bs [112,111,111,108])] : List ByteArray)).2) ([(0 : Int), (3 : Int), (10 : Int), (900 : Int)] : List Int)).2)).1)), (PaceT.upSpan ((oPace ((curPickI ((curPick ((curPick ((curBelow a0 (4 : Int)).2) ([(bs [119,101,98]), (bs [97,112,105]), (bs [106,111,98,45,49])] : List ByteArray)).2) ([(bs [119,101,98]), (bs [112,111,111,108])] : List ByteArray)).2) ([(0 : Int), (3 : Int), (10 : Int), (900 : Int)] : List Int)).2)).1)), (PaceT.downSpan ((oPace ((curPickI ((curPick ((curPick ((curBelow a0 (4 : Int)).2) ([(bs [119,101,98]), (bs [97,112,105]), (bs [106,111,98,45,49])] : List ByteArray)).2) ([(bs [119,101,98]), (bs [112,111,111,108])] : List ByteArray)).2) ([(0 : Int), (3 : Int), (10 : Int), (900 : Int)] : List Int)).2)).1))⟩ : PaceT), xvr265⟩ : OrderT), .d .cur (⟨xvb0_0, xvb0_1, xvb0_2⟩ : CurT)])) ((curPick ((curBelow a0 (4 : Int)).2) ([(bs [119,101,98]), (bs [97,112,105]), (bs [106,111,98,45,49])] : List ByteArray)).1) ((curPick ((curPick ((curBelow a0 (4 : Int)).2) ([(bs [119,101,98]), (bs [97,112,105]), (bs [106,111,98,45,49])] : List ByteArray)).2) ([(bs [119,101,98]), (bs [112,111,111,108])] : List ByteArray)).1) (IntKind.wrap .i64 ((1 : Int) + ((curBelow a0 (4 : Int)).1))) (IntKind.wrap .i64 ((IntKind.wrap .i64 ((1 : Int) + ((curBelow a0 (4 : Int)).1))) + ((curPickI ((curPick ((curPick ((curBelow a0 (4 : Int)).2) ([(bs [119,101,98]), (bs [97,112,105]), (bs [106,111,98,45,49])] : List ByteArray)).2) ([(bs [119,101,98]), (bs [112,111,111,108])] : List ByteArray)).2) ([(0 : Int), (3 : Int), (10 : Int), (900 : Int)] : List Int)).1))) (PaceT.up ((oPace ((curPickI ((curPick ((curPick ((curBelow a0 (4 : Int)).2) ([(bs [119,101,98]), (bs [97,112,105]), (bs [106,111,98,45,49])] : List ByteArray)).2) ([(bs [119,101,98]), (bs [112,111,111,108])] : List ByteArray)).2) ([(0 : Int), (3 : Int), (10 : Int), (900 : Int)] : List Int)).2)).1)) (PaceT.down ((oPace ((curPickI ((curPick ((curPick ((curBelow a0 (4 : Int)).2) ([(bs [119,101,98]), (bs [97,112,105]), (bs [106,111,98,45,49])] : List ByteArray)).2) ([(bs [119,101,98]), (bs [112,111,111,108])] : List ByteArray)).2) ([(0 : Int), (3 : Int), (10 : Int), (900 : Int)] : List Int)).2)).1)) (PaceT.upSpan ((oPace ((curPickI ((curPick ((curPick ((curBelow a0 (4 : Int)).2) ([(bs [119,101,98]), (bs [97,112,105]), (bs [106,111,98,45,49])] : List ByteArray)).2) ([(bs [119,101,98]), (bs [112,111,111,108])] : List ByteArray)).2) ([(0 : Int), (3 : Int), (10 : Int), (900 : Int)] : List Int)).2)).1)) (PaceT.downSpan ((oPace ((curPickI ((curPick ((curPick ((curBelow a0 (4 : Int)).2) ([(bs [119,101,98]), (bs [97,112,105]), (bs [106,111,98,45,49])] : List ByteArray)).2) ([(bs [119,101,98]), (bs [112,111,111,108])] : List ByteArray)).2) ([(0 : Int), (3 : Int), (10 : Int), (900 : Int)] : List Int)).2)).1)) xvr260 [(bs [97]), (bs [111,119,110,101,114]), (bs [120,47,121])] n (0 : Int) xvb0_0 xvb0_1 xvb0_2 ([] : List NoteT))) ((curPick ((curBelow a0 (4 : Int)).2) ([(bs [119,101,98]), (bs [97,112,105]), (bs [106,111,98,45,49])] : List ByteArray)).1) ((curPick ((curPick ((curBelow a0 (4 : Int)).2) ([(bs [119,101,98]), (bs [97,112,105]), (bs [106,111,98,45,49])] : List ByteArray)).2) ([(bs [119,101,98]), (bs [112,111,111,108])] : List ByteArray)).1) (IntKind.wrap .i64 ((1 : Int) + ((curBelow a0 (4 : Int)).1))) (IntKind.wrap .i64 ((IntKind.wrap .i64 ((1 : Int) + ((curBelow a0 (4 : Int)).1))) + ((curPickI ((curPick ((curPick ((curBelow a0 (4 : Int)).2) ([(bs [119,101,98]), (bs [97,112,105]), (bs [106,111,98,45,49])] : List ByteArray)).2) ([(bs [119,101,98]), (bs [112,111,111,108])] : List ByteArray)).2) ([(0 : Int), (3 : Int), (10 : Int), (900 : Int)] : List Int)).1))) (PaceT.up ((oPace ((curPickI ((curPick ((curPick ((curBelow a0 (4 : Int)).2) ([(bs [119,101,98]), (bs [97,112,105]), (bs [106,111,98,45,49])] : List ByteArray)).2) ([(bs [119,101,98]), (bs [112,111,111,108])] : List ByteArray)).2) ([(0 : Int), (3 : Int), (10 : Int), (900 : Int)] : List Int)).2)).1)) (PaceT.down ((oPace ((curPickI ((curPick ((curPick ((curBelow a0 (4 : Int)).2) ([(bs [119,101,98]), (bs [97,112,105]), (bs [106,111,98,45,49])] : List ByteArray)).2) ([(bs [119,101,98]), (bs [112,111,111,108])] : List ByteArray)).2) ([(0 : Int), (3 : Int), (10 : Int), (900 : Int)] : List Int)).2)).1)) (PaceT.upSpan ((oPace ((curPickI ((curPick ((curPick ((curBelow a0 (4 : Int)).2) ([(bs [119,101,98]), (bs [97,112,105]), (bs [106,111,98,45,49])] : List ByteArray)).2) ([(bs [119,101,98]), (bs [112,111,111,108])] : List ByteArray)).2) ([(0 : Int), (3 : Int), (10 : Int), (900 : Int)] : List Int)).2)).1)) (PaceT.downSpan ((oPace ((curPickI ((curPick ((curPick ((curBelow a0 (4 : Int)).2) ([(bs [119,101,98]), (bs [97,112,105]), (bs [106,111,98,45,49])] : List ByteArray)).2) ([(bs [119,101,98]), (bs [112,111,111,108])] : List ByteArray)).2) ([(0 : Int), (3 : Int), (10 : Int), (900 : Int)] : List Int)).2)).1)) [(bs [99,112,117]), (bs [104,105,116,115]), (bs [109,101,109]), (bs [113,117,101,117,101])] n (0 : Int) (CurT.b ((oPace ((curPickI ((curPick ((curPick ((curBelow a0 (4 : Int)).2) ([(bs [119,101,98]), (bs [97,112,105]), (bs [106,111,98,45,49])] : List ByteArray)).2) ([(bs [119,101,98]), (bs [112,111,111,108])] : List ByteArray)).2) ([(0 : Int), (3 : Int), (10 : Int), (900 : Int)] : List Int)).2)).2)) (CurT.i ((oPace ((curPickI ((curPick ((curPick ((curBelow a0 (4 : Int)).2) ([(bs [119,101,98]), (bs [97,112,105]), (bs [106,111,98,45,49])] : List ByteArray)).2) ([(bs [119,101,98]), (bs [112,111,111,108])] : List ByteArray)).2) ([(0 : Int), (3 : Int), (10 : Int), (900 : Int)] : List Int)).2)).2)) (CurT.h ((oPace ((curPickI ((curPick ((curPick ((curBelow a0 (4 : Int)).2) ([(bs [119,101,98]), (bs [97,112,105]), (bs [106,111,98,45,49])] : List ByteArray)).2) ([(bs [119,101,98]), (bs [112,111,111,108])] : List ByteArray)).2) ([(0 : Int), (3 : Int), (10 : Int), (900 : Int)] : List Int)).2)).2)) ([] : List MetricT))
      none)
     none)
    none)
   none)
  none) := by
  refine Eq.trans (b := (cond ((fun c _ => gCur c) a0 (4 : Int))
  (cond (gPickS ((curBelow a0 (4 : Int)).2) ([(bs [119,101,98]), (bs [97,112,105]), (bs [106,111,98,45,49])] : List ByteArray))
   (cond (gPickS ((curPick ((curBelow a0 (4 : Int)).2) ([(bs [119,101,98]), (bs [97,112,105]), (bs [106,111,98,45,49])] : List ByteArray)).2) ([(bs [119,101,98]), (bs [112,111,111,108])] : List ByteArray))
    (cond (gPickI ((curPick ((curPick ((curBelow a0 (4 : Int)).2) ([(bs [119,101,98]), (bs [97,112,105]), (bs [106,111,98,45,49])] : List ByteArray)).2) ([(bs [119,101,98]), (bs [112,111,111,108])] : List ByteArray)).2) ([(0 : Int), (3 : Int), (10 : Int), (900 : Int)] : List Int))
     (cond (gCur ((curPickI ((curPick ((curPick ((curBelow a0 (4 : Int)).2) ([(bs [119,101,98]), (bs [97,112,105]), (bs [106,111,98,45,49])] : List ByteArray)).2) ([(bs [119,101,98]), (bs [112,111,111,108])] : List ByteArray)).2) ([(0 : Int), (3 : Int), (10 : Int), (900 : Int)] : List Int)).2))
      (iter (fun st k => ev f92e f92k n (cAt [1,1,1,1,0,1,0,0] f92c) st k) n (f92S0 (0 : Int) (CurT.b ((oPace ((curPickI ((curPick ((curPick ((curBelow a0 (4 : Int)).2) ([(bs [119,101,98]), (bs [97,112,105]), (bs [106,111,98,45,49])] : List ByteArray)).2) ([(bs [119,101,98]), (bs [112,111,111,108])] : List ByteArray)).2) ([(0 : Int), (3 : Int), (10 : Int), (900 : Int)] : List Int)).2)).2)) (CurT.i ((oPace ((curPickI ((curPick ((curPick ((curBelow a0 (4 : Int)).2) ([(bs [119,101,98]), (bs [97,112,105]), (bs [106,111,98,45,49])] : List ByteArray)).2) ([(bs [119,101,98]), (bs [112,111,111,108])] : List ByteArray)).2) ([(0 : Int), (3 : Int), (10 : Int), (900 : Int)] : List Int)).2)).2)) (CurT.h ((oPace ((curPickI ((curPick ((curPick ((curBelow a0 (4 : Int)).2) ([(bs [119,101,98]), (bs [97,112,105]), (bs [106,111,98,45,49])] : List ByteArray)).2) ([(bs [119,101,98]), (bs [112,111,111,108])] : List ByteArray)).2) ([(0 : Int), (3 : Int), (10 : Int), (900 : Int)] : List Int)).2)).2)) ((curPick ((curBelow a0 (4 : Int)).2) ([(bs [119,101,98]), (bs [97,112,105]), (bs [106,111,98,45,49])] : List ByteArray)).1) ((curPick ((curPick ((curBelow a0 (4 : Int)).2) ([(bs [119,101,98]), (bs [97,112,105]), (bs [106,111,98,45,49])] : List ByteArray)).2) ([(bs [119,101,98]), (bs [112,111,111,108])] : List ByteArray)).1) (IntKind.wrap .i64 ((1 : Int) + ((curBelow a0 (4 : Int)).1))) (IntKind.wrap .i64 ((IntKind.wrap .i64 ((1 : Int) + ((curBelow a0 (4 : Int)).1))) + ((curPickI ((curPick ((curPick ((curBelow a0 (4 : Int)).2) ([(bs [119,101,98]), (bs [97,112,105]), (bs [106,111,98,45,49])] : List ByteArray)).2) ([(bs [119,101,98]), (bs [112,111,111,108])] : List ByteArray)).2) ([(0 : Int), (3 : Int), (10 : Int), (900 : Int)] : List Int)).1))) (PaceT.up ((oPace ((curPickI ((curPick ((curPick ((curBelow a0 (4 : Int)).2) ([(bs [119,101,98]), (bs [97,112,105]), (bs [106,111,98,45,49])] : List ByteArray)).2) ([(bs [119,101,98]), (bs [112,111,111,108])] : List ByteArray)).2) ([(0 : Int), (3 : Int), (10 : Int), (900 : Int)] : List Int)).2)).1)) (PaceT.down ((oPace ((curPickI ((curPick ((curPick ((curBelow a0 (4 : Int)).2) ([(bs [119,101,98]), (bs [97,112,105]), (bs [106,111,98,45,49])] : List ByteArray)).2) ([(bs [119,101,98]), (bs [112,111,111,108])] : List ByteArray)).2) ([(0 : Int), (3 : Int), (10 : Int), (900 : Int)] : List Int)).2)).1)) (PaceT.upSpan ((oPace ((curPickI ((curPick ((curPick ((curBelow a0 (4 : Int)).2) ([(bs [119,101,98]), (bs [97,112,105]), (bs [106,111,98,45,49])] : List ByteArray)).2) ([(bs [119,101,98]), (bs [112,111,111,108])] : List ByteArray)).2) ([(0 : Int), (3 : Int), (10 : Int), (900 : Int)] : List Int)).2)).1)) (PaceT.downSpan ((oPace ((curPickI ((curPick ((curPick ((curBelow a0 (4 : Int)).2) ([(bs [119,101,98]), (bs [97,112,105]), (bs [106,111,98,45,49])] : List ByteArray)).2) ([(bs [119,101,98]), (bs [112,111,111,108])] : List ByteArray)).2) ([(0 : Int), (3 : Int), (10 : Int), (900 : Int)] : List Int)).2)).1)) ([] : List MetricT) ([(bs [99,112,117]), (bs [104,105,116,115]), (bs [109,101,109]), (bs [113,117,101,117,101])] : List ByteArray)) (f92K0 n (exitK f92e [.pmut] [false] true [.cell 2 88] [88] [.d .cur a0] k)))
      none)
     none)
    none)
   none)
  none)) (by kernel_rfl) ?_
  simp only [f92L0_eq, f92K0_x0, f92L1_eq, f92K1_x0]
def f92_P (a0 : CurT) (o : OrderT × CurT) : Prop := (fun _ o => sm_order o.1 = true ∧ o.1.metrics.length ≤ 4 ∧ o.1.notes.length ≤ 3 ∧ gCur o.2 = true) a0 o ∧ ∃ n : Nat, ∀ {R : Type} (k : List Dt → Option R), evFn f92e f92k n f92c [.pmut] [false] true [.cell 2 88] [88] [.d .cur a0] k = k [.d .order o.1, .d .cur o.2]
theorem f92_ex (a0 : CurT) (hg : gCur a0 = true) : ∃ o : OrderT × CurT, (fun _ o => sm_order o.1 = true ∧ o.1.metrics.length ≤ 4 ∧ o.1.notes.length ≤ 3 ∧ gCur o.2 = true) a0 o ∧ ∃ n : Nat, ∀ {R : Type} (k : List Dt → Option R), evFn f92e f92k n f92c [.pmut] [false] true [.cell 2 88] [88] [.d .cur a0] k = k [.d .order o.1, .d .cur o.2] := by
  have key0 : ∀ (b0 b1 : ByteArray) (b2 b3 b5 b6 b7 b8 : Int) (nm : List ByteArray), nm.all smStr = true → nm.length ≤ 100 → ∀ (d m i : Nat) (ms : List MetricT) (c : CurT), i + d = nm.length → d < m → smL sm_metric ms = true → ms.length ≤ i → gCur c = true →
      ∃ o : List MetricT × CurT, (smL sm_metric o.1 = true ∧ o.1.length ≤ nm.length ∧ gCur o.2 = true) ∧ ∀ {R : Type} (X : Int → Bool → (List Int) → Int → Int → (List MetricT) → Option R),
        (∀ i b c1 c2 c3 ms, X i b c1 c2 c3 ms = X 0 false c1 c2 c3 ms) → f92L0 5 X b0 b1 b2 b3 b5 b6 b7 b8 nm m (i : Int) c.b c.i c.h ms = X 0 false o.2.b o.2.i o.2.h o.1 := by
    intro b0 b1 b2 b3 b5 b6 b7 b8 nm hnm hlen d
    induction d with
    | zero =>
      intro m i ms c hi hm hs hl hc
      obtain ⟨m, rfl⟩ : ∃ m', m = m' + 1 := ⟨m - 1, by omega⟩
      refine ⟨(ms, c), ⟨hs, Nat.le_trans hl (by omega), hc⟩, fun {R} X hX => ?_⟩
      simp only [f92L0, decide_eq_false (show ¬ ((i : Int) < (nm.length : Int)) by omega), cond_false]
      exact hX _ _ _ _ _ _
    | succ d ih =>
      intro m i ms c hi hm hs hl hc
      obtain ⟨m, rfl⟩ : ∃ m', m = m' + 1 := ⟨m - 1, by omega⟩
      obtain ⟨h1, h0, hw, ht⟩ := idx (show i < nm.length by omega) (by omega)
      have g1 := curOnce_g c 2 hc
      have hn : smStr (atI (t := .str) nm i) = true := List.all_eq_true.1 hnm _ (List.mem_of_getElem? (atI_lt (t := .str) (by omega)))
      have hb : Nat.ble (ms.length + 1) LIM = true := ble_lim (by omega)
      cases e : (curOnce c 2).1
      · obtain ⟨o, ho, hh⟩ := ih m (i + 1) ms (curOnce c 2).2 (by omega) (by omega) hs (by omega) g1
        exact ⟨o, ho, fun {R} X hX => by
          simp only [f92L0, eta_cur, h1, hc, e, hw, cond_true, cond_false]
          exact hh X hX⟩
      · obtain ⟨f1, g2⟩ := oMet_ok _ g1
        have hx : sm_metric ((⟨atI (t := .str) nm i, (oMet (curOnce c 2).2).1.kind, (oMet (curOnce c 2).2).1.goal⟩ : MetricT)) = true := by
          simp only [sm_metric, Bool.and_eq_true] at f1 ⊢
          exact ⟨hn, f1.2⟩
        obtain ⟨o, ho, hh⟩ := ih m (i + 1) (ms ++ [(⟨atI (t := .str) nm i, (oMet (curOnce c 2).2).1.kind, (oMet (curOnce c 2).2).1.goal⟩ : MetricT)]) (oMet (curOnce c 2).2).2 (by omega) (by omega) (smL_snoc hs hx (by omega)) (by simp only [List.length_append, List.length_cons, List.length_nil]; omega) g2
        exact ⟨o, ho, fun {R} X hX => by
          simp only [f92L0, eta_cur, h1, h0, ht, hc, g1, e, hw, hb, Bool.and_self, cond_true, cond_false]
          exact hh X hX⟩
  have key1 : ∀ (b0 b1 : ByteArray) (b2 b3 b5 b6 b7 b8 : Int) (mt : List MetricT) (nm : List ByteArray), nm.all smStr = true → nm.length ≤ 100 → ∀ (d m i : Nat) (ms : List NoteT) (c : CurT), i + d = nm.length → d < m → smL sm_note ms = true → ms.length ≤ i → gCur c = true →
      ∃ o : List NoteT × CurT, (smL sm_note o.1 = true ∧ o.1.length ≤ nm.length ∧ gCur o.2 = true) ∧ ∀ {R : Type} (X : Int → Bool → (List Int) → Int → Int → (List NoteT) → Option R),
        (∀ i b c1 c2 c3 ms, X i b c1 c2 c3 ms = X 0 false c1 c2 c3 ms) → f92L1 5 X b0 b1 b2 b3 b5 b6 b7 b8 mt nm m (i : Int) c.b c.i c.h ms = X 0 false o.2.b o.2.i o.2.h o.1 := by
    intro b0 b1 b2 b3 b5 b6 b7 b8 mt nm hnm hlen d
    induction d with
    | zero =>
      intro m i ms c hi hm hs hl hc
      obtain ⟨m, rfl⟩ : ∃ m', m = m' + 1 := ⟨m - 1, by omega⟩
      refine ⟨(ms, c), ⟨hs, Nat.le_trans hl (by omega), hc⟩, fun {R} X hX => ?_⟩
      simp only [f92L1, decide_eq_false (show ¬ ((i : Int) < (nm.length : Int)) by omega), cond_false]
      exact hX _ _ _ _ _ _
    | succ d ih =>
      intro m i ms c hi hm hs hl hc
      obtain ⟨m, rfl⟩ : ∃ m', m = m' + 1 := ⟨m - 1, by omega⟩
      obtain ⟨h1, h0, hw, ht⟩ := idx (show i < nm.length by omega) (by omega)
      have g1 := curOnce_g c 3 hc
      have hn : smStr (atI (t := .str) nm i) = true := List.all_eq_true.1 hnm _ (List.mem_of_getElem? (atI_lt (t := .str) (by omega)))
      have hb : Nat.ble (ms.length + 1) LIM = true := ble_lim (by omega)
      cases e : (curOnce c 3).1
      · obtain ⟨o, ho, hh⟩ := ih m (i + 1) ms (curOnce c 3).2 (by omega) (by omega) hs (by omega) g1
        exact ⟨o, ho, fun {R} X hX => by
          simp only [f92L1, eta_cur, h1, hc, e, hw, cond_true, cond_false]
          exact hh X hX⟩
      · obtain ⟨f1, g2⟩ := tText_ok _ g1
        have hx : sm_note ((⟨atI (t := .str) nm i, (tText (curOnce c 3).2).1⟩ : NoteT)) = true := by
          simp only [sm_note, Bool.and_eq_true] at f1 ⊢
          exact ⟨hn, f1⟩
        obtain ⟨o, ho, hh⟩ := ih m (i + 1) (ms ++ [(⟨atI (t := .str) nm i, (tText (curOnce c 3).2).1⟩ : NoteT)]) (tText (curOnce c 3).2).2 (by omega) (by omega) (smL_snoc hs hx (by omega)) (by simp only [List.length_append, List.length_cons, List.length_nil]; omega) g2
        exact ⟨o, ho, fun {R} X hX => by
          simp only [f92L1, eta_cur, h1, h0, ht, hc, g1, e, hw, hb, Bool.and_self, cond_true, cond_false]
          exact hh X hX⟩
  obtain ⟨x0, x1, g1⟩ := curBelow_ok a0 4 hg
  have p1 := gPickS_of (l := ([(bs [119,101,98]), (bs [97,112,105]), (bs [106,111,98,45,49])] : List ByteArray)) g1 rfl
  obtain ⟨m1, g2⟩ := curPick_ok _ _ p1
  have p2 := gPickS_of (l := ([(bs [119,101,98]), (bs [112,111,111,108])] : List ByteArray)) g2 rfl
  obtain ⟨m2, g3⟩ := curPick_ok _ _ p2
  have p3 := gPickI_of (l := ([(0 : Int), (3 : Int), (10 : Int), (900 : Int)] : List Int)) g3 rfl
  obtain ⟨m3, g4⟩ := curPickI_ok _ _ p3
  obtain ⟨hp, g5⟩ := oPace_ok _ g4
  obtain ⟨o1, ⟨s1, l1, c1⟩, h1⟩ := key0 _ _ _ _ _ _ _ _ ([(bs [99,112,117]), (bs [104,105,116,115]), (bs [109,101,109]), (bs [113,117,101,117,101])] : List ByteArray) (by decide) (by decide) 4 5 0 [] _ rfl (by omega) rfl (Nat.le_refl _) g5
  obtain ⟨o2, ⟨s2, l2, c2⟩, h2⟩ := key1 _ _ _ _ _ _ _ _ o1.1 ([(bs [97]), (bs [111,119,110,101,114]), (bs [120,47,121])] : List ByteArray) (by decide) (by decide) 3 5 0 [] o1.2 rfl (by omega) rfl (Nat.le_refl _) c1
  refine ⟨(?az0, ?bz0), ?gz0, 5, ?rz0⟩
  case rz0 =>
    intro R k
    rw [f92_run]
    simp only [hg, g1, p1, p2, p3, g4, cond_true]
    refine Eq.trans (h1 _ (fun _ _ _ _ _ _ => rfl)) ?_
    refine Eq.trans (h2 _ (fun _ _ _ _ _ _ => rfl)) ?_
    exact rfl
  case gz0 =>
    refine ⟨?_, l1, l2, c2⟩
    simp only [sm_order, Bool.and_eq_true]
    exact ⟨smStr_in m1 (by decide), smStr_in m2 (by decide), okI_wrap _, okI_wrap _, s1, hp, s2⟩

theorem f92_ne (a0 : CurT) : Nonempty {o : OrderT × CurT // gCur a0 = true → f92_P a0 o} := by
  by_cases hg : gCur a0 = true
  · obtain ⟨o, ho⟩ := f92_ex a0 hg
    exact ⟨⟨o, fun _ => ho⟩⟩
  · exact ⟨⟨((zero .order), (zero .cur)), fun h => absurd h hg⟩⟩
noncomputable def oRight (a0 : CurT) : OrderT × CurT := (Classical.choice (f92_ne a0)).val
theorem f92_sp (a0 : CurT) (hg : gCur a0 = true) : f92_P a0 (oRight a0) := (Classical.choice (f92_ne a0)).property hg
theorem oRight_ok (a0 : CurT) (hg : gCur a0 = true) : (fun _ o => sm_order o.1 = true ∧ o.1.metrics.length ≤ 4 ∧ o.1.notes.length ≤ 3 ∧ gCur o.2 = true) a0 (oRight a0) := (f92_sp a0 hg).1
theorem oRight_g (a0 : CurT) (hg : gCur a0 = true) : gCur (oRight a0).2 = true := by
  have h := oRight_ok a0 hg
  first | exact h | exact h.2 | exact h.2.2 | exact h.2.2.2
theorem f92_spec (a0 : CurT) (hg : gCur a0 = true) : ∃ keep rounds, ∀ {R : Type} (k : List Dt → Option R), evFn f92e keep rounds f92c [.pmut] [false] true [.cell 2 88] [88] [.d .cur a0] k = k [.d .order ((oRight a0).1), .d .cur ((oRight a0).2)] := by
  obtain ⟨n, hn⟩ := (f92_sp a0 hg).2
  exact ⟨f92k, n, hn⟩

noncomputable def q92 : List Dt → Option (Bool × List Dt)
  | [.d .cur a0] => some ((gCur a0), [.d .order ((oRight a0).1), .d .cur ((oRight a0).2)])
  | _ => none
noncomputable def s92 : Gm.Spec := Gm.Spec.of [.pmut] [false] true q92
theorem good92 : Gm.Good Try.prog (92, s92) := by
  have hl : ∀ x ∈ [(55, s55), (57, s57), (75, s75), (77, s77), (93, s93), (104, s104), (105, s105)], Gm.Good Try.prog x := List.forall_mem_cons.2 ⟨good55, List.forall_mem_cons.2 ⟨good57, List.forall_mem_cons.2 ⟨good75, List.forall_mem_cons.2 ⟨good77, List.forall_mem_cons.2 ⟨good93, List.forall_mem_cons.2 ⟨good104, List.forall_mem_cons.2 ⟨good105, List.forall_mem_nil _⟩⟩⟩⟩⟩⟩⟩
  refine ⟨⟨spec_ok (tab_ok.env hl) (tab.natl hl) Try.func92 (by kernel_rfl : Try.f92.body = some f92c) [88] (by kernel_rfl) ?_, _, Try.func92, by kernel_rfl, of_decide_eq_true (by kernel_rfl)⟩, Gm.Spec.of_natl _ _ _ _⟩
  intro ds outs h
  unfold q92 at h
  split at h
  · simp only [Option.some.injEq, Prod.mk.injEq] at h; obtain ⟨hg, h⟩ := h; cases h; exact f92_spec _ hg
  · cases h
/-! ### loop.example/g00465/spec.l6Draw -/
noncomputable def f76c : Code := (Try.f76.body).getD .skip
def f76k : Nat → Kp := kat [⟨[0, 2], [], [], []⟩, ⟨[0, 2, 3], [], [], []⟩, ⟨[0, 2, 3, 7], [], [], []⟩, ⟨[0, 2, 3, 7, 8], [], [], []⟩, ⟨[0, 2, 3], [], [], []⟩, ⟨[0, 2, 3, 7, 14], [], [], []⟩, ⟨[0, 2, 3], [], [], []⟩, ⟨[0, 2, 3, 7, 20], [], [], []⟩, ⟨[0, 2, 3], [], [], []⟩, ⟨[0, 2, 3, 7, 26], [], [], []⟩, ⟨[0, 2, 3], [], [], []⟩, ⟨[0, 2, 3, 7, 35], [], [], []⟩, ⟨[0, 2, 3], [], [], []⟩, ⟨[0, 2, 3, 7, 42], [], [], []⟩, ⟨[0, 2, 3], [], [], []⟩, ⟨[0, 2, 3, 7, 53], [], [], []⟩, ⟨[0, 2, 3], [], [], []⟩, ⟨[0, 2, 3, 60], [], [], []⟩, ⟨[0, 2, 3, 65], [], [], []⟩, ⟨[0, 2, 3], [], [], []⟩, ⟨[0, 2], [], [], []⟩]
noncomputable def f76e : Env := tab.env [(57, s57), (75, s75), (77, s77), (92, s92), (93, s93)]
noncomputable def f76v0 (a0 : CurT) : List MetricT :=
  ((OrderT.metrics ((oRight a0).1)).set 0 (⟨(MetricT.name (atI (t := .metric) (OrderT.metrics ((oRight a0).1)) 0)), (MetricT.kind (atI (t := .metric) (OrderT.metrics ((oRight a0).1)) 0)), ((curPickI ((curBelow ((oRight a0).2) (16 : Int)).2) ([(0 : Int), (-1 : Int), (1000000 : Int), (1000001 : Int)] : List Int)).1)⟩ : MetricT))
theorem f76_run {R : Type} (n : Nat) (k : List Dt → Option R) (a0 : CurT) : evFn f76e f76k n f76c [.pmut] [false] true [.cell 2 88] [88] [.d .cur a0] k =
    (cond (gCur a0)
  (cond ((fun c _ => gCur c) ((oRight a0).2) (16 : Int))
   (cond (((curBelow ((oRight a0).2) (16 : Int)).1) == (0 : Int))
    (cond (gPickS ((curBelow ((oRight a0).2) (16 : Int)).2) ([ByteArray.empty, (bs [49,97]), (bs [65]), (bs [97,98,99,100,101,102,103,104,105,106,107,108,109,110,111,112,113,114,115,116,117])] : List ByteArray))
     (k [.d .order (⟨((curPick ((curBelow ((oRight a0).2) (16 : Int)).2) ([ByteArray.empty, (bs [49,97]), (bs [65]), (bs [97,98,99,100,101,102,103,104,105,106,107,108,109,110,111,112,113,114,115,116,117])] : List ByteArray)).1), (OrderT.target ((oRight a0).1)), (OrderT.low ((oRight a0).1)), (OrderT.high ((oRight a0).1)), (OrderT.metrics ((oRight a0).1)), (OrderT.pace ((oRight a0).1)), (OrderT.notes ((oRight a0).1))⟩ : OrderT), .d .cur ((curPick ((curBelow ((oRight a0).2) (16 : Int)).2) ([ByteArray.empty, (bs [49,97]), (bs [65]), (bs [97,98,99,100,101,102,103,104,105,106,107,108,109,110,111,112,113,114,115,116,117])] : List ByteArray)).2)])
     none)
    (cond (((curBelow ((oRight a0).2) (16 : Int)).1) == (1 : Int))
     (cond (gPickI ((curBelow ((oRight a0).2) (16 : Int)).2) ([(0 : Int), (-1 : Int), (1001 : Int)] : List Int))
      (k [.d .order (⟨(OrderT.name ((oRight a0).1)), (OrderT.target ((oRight a0).1)), ((curPickI ((curBelow ((oRight a0).2) (16 : Int)).2) ([(0 : Int), (-1 : Int), (1001 : Int)] : List Int)).1), (OrderT.high ((oRight a0).1)), (OrderT.metrics ((oRight a0).1)), (OrderT.pace ((oRight a0).1)), (OrderT.notes ((oRight a0).1))⟩ : OrderT), .d .cur ((curPickI ((curBelow ((oRight a0).2) (16 : Int)).2) ([(0 : Int), (-1 : Int), (1001 : Int)] : List Int)).2)])
      none)
     (cond (((curBelow ((oRight a0).2) (16 : Int)).1) == (2 : Int))
      (cond (gPickI ((curBelow ((oRight a0).2) (16 : Int)).2) ([(0 : Int), (1000 : Int), (1001 : Int)] : List Int))
       (k [.d .order (⟨(OrderT.name ((oRight a0).1)), (OrderT.target ((oRight a0).1)), (OrderT.low ((oRight a0).1)), ((curPickI ((curBelow ((oRight a0).2) (16 : Int)).2) ([(0 : Int), (1000 : Int), (1001 : Int)] : List Int)).1), (OrderT.metrics ((oRight a0).1)), (OrderT.pace ((oRight a0).1)), (OrderT.notes ((oRight a0).1))⟩ : OrderT), .d .cur ((curPickI ((curBelow ((oRight a0).2) (16 : Int)).2) ([(0 : Int), (1000 : Int), (1001 : Int)] : List Int)).2)])
       none)
      (cond (((curBelow ((oRight a0).2) (16 : Int)).1) == (3 : Int))
       (cond (gCur ((curBelow ((oRight a0).2) (16 : Int)).2))
        (cond (Nat.ble ((OrderT.metrics ((oRight a0).1)).length + 1) LIM)
         (k [.d .order (⟨(OrderT.name ((oRight a0).1)), (OrderT.target ((oRight a0).1)), (OrderT.low ((oRight a0).1)), (OrderT.high ((oRight a0).1)), ((OrderT.metrics ((oRight a0).1)) ++ ([((oMet ((curBelow ((oRight a0).2) (16 : Int)).2)).1)] : List MetricT)), (OrderT.pace ((oRight a0).1)), (OrderT.notes ((oRight a0).1))⟩ : OrderT), .d .cur ((oMet ((curBelow ((oRight a0).2) (16 : Int)).2)).2)])
         none)
        none)
       (cond (((curBelow ((oRight a0).2) (16 : Int)).1) == (4 : Int))
        (cond (gPickI ((curBelow ((oRight a0).2) (16 : Int)).2) ([(-1 : Int), (1000 : Int), (1001 : Int)] : List Int))
         (k [.d .order (⟨(OrderT.name ((oRight a0).1)), (OrderT.target ((oRight a0).1)), (OrderT.low ((oRight a0).1)), (OrderT.high ((oRight a0).1)), (OrderT.metrics ((oRight a0).1)), (⟨((curPickI ((curBelow ((oRight a0).2) (16 : Int)).2) ([(-1 : Int), (1000 : Int), (1001 : Int)] : List Int)).1), (PaceT.down (OrderT.pace ((oRight a0).1))), (PaceT.upSpan (OrderT.pace ((oRight a0).1))), (PaceT.downSpan (OrderT.pace ((oRight a0).1)))⟩ : PaceT), (OrderT.notes ((oRight a0).1))⟩ : OrderT), .d .cur ((curPickI ((curBelow ((oRight a0).2) (16 : Int)).2) ([(-1 : Int), (1000 : Int), (1001 : Int)] : List Int)).2)])
         none)
        (cond (((curBelow ((oRight a0).2) (16 : Int)).1) == (5 : Int))
         (cond (gPickS ((curBelow ((oRight a0).2) (16 : Int)).2) ([(bs [122]), (bs [113,117,97,121,47,112,97,99,101]), (bs [49]), ByteArray.empty] : List ByteArray))
          (cond (Nat.ble ((OrderT.notes ((oRight a0).1)).length + 1) LIM)
           (k [.d .order (⟨(OrderT.name ((oRight a0).1)), (OrderT.target ((oRight a0).1)), (OrderT.low ((oRight a0).1)), (OrderT.high ((oRight a0).1)), (OrderT.metrics ((oRight a0).1)), (OrderT.pace ((oRight a0).1)), ((OrderT.notes ((oRight a0).1)) ++ ([(⟨((curPick ((curBelow ((oRight a0).2) (16 : Int)).2) ([(bs [122]), (bs [113,117,97,121,47,112,97,99,101]), (bs [49]), ByteArray.empty] : List ByteArray)).1), (bs [120])⟩ : NoteT)] : List NoteT))⟩ : OrderT), .d .cur ((curPick ((curBelow ((oRight a0).2) (16 : Int)).2) ([(bs [122]), (bs [113,117,97,121,47,112,97,99,101]), (bs [49]), ByteArray.empty] : List ByteArray)).2)])
           none)
          none)
         (cond (((curBelow ((oRight a0).2) (16 : Int)).1) == (6 : Int))
          (cond (gPickI ((curBelow ((oRight a0).2) (16 : Int)).2) ([(-1 : Int), (3600 : Int), (3601 : Int)] : List Int))
           (k [.d .order (⟨(OrderT.name ((oRight a0).1)), (OrderT.target ((oRight a0).1)), (OrderT.low ((oRight a0).1)), (OrderT.high ((oRight a0).1)), (OrderT.metrics ((oRight a0).1)), (⟨(PaceT.up (OrderT.pace ((oRight a0).1))), (PaceT.down (OrderT.pace ((oRight a0).1))), (PaceT.upSpan (OrderT.pace ((oRight a0).1))), ((curPickI ((curBelow ((oRight a0).2) (16 : Int)).2) ([(-1 : Int), (3600 : Int), (3601 : Int)] : List Int)).1)⟩ : PaceT), (OrderT.notes ((oRight a0).1))⟩ : OrderT), .d .cur ((curPickI ((curBelow ((oRight a0).2) (16 : Int)).2) ([(-1 : Int), (3600 : Int), (3601 : Int)] : List Int)).2)])
           none)
          (cond (((curBelow ((oRight a0).2) (16 : Int)).1) == (7 : Int))
           (cond (decide (((OrderT.metrics ((oRight a0).1)).length : Int) > (0 : Int)))
            (cond (gPickI ((curBelow ((oRight a0).2) (16 : Int)).2) ([(0 : Int), (-1 : Int), (1000000 : Int), (1000001 : Int)] : List Int))
             (cond (decide ((0 : Int) < ((OrderT.metrics ((oRight a0).1)).length : Int)))
              (k [.d .order (⟨(OrderT.name ((oRight a0).1)), (OrderT.target ((oRight a0).1)), (OrderT.low ((oRight a0).1)), (OrderT.high ((oRight a0).1)), (f76v0 a0), (OrderT.pace ((oRight a0).1)), (OrderT.notes ((oRight a0).1))⟩ : OrderT), .d .cur ((curPickI ((curBelow ((oRight a0).2) (16 : Int)).2) ([(0 : Int), (-1 : Int), (1000000 : Int), (1000001 : Int)] : List Int)).2)])
              none)
             none)
            (k [.d .order ((oRight a0).1), .d .cur ((curBelow ((oRight a0).2) (16 : Int)).2)]))
           (k [.d .order ((oRight a0).1), .d .cur ((curBelow ((oRight a0).2) (16 : Int)).2)])))))))))
   none)
  none) := by kernel_rfl
def f76_P (a0 : CurT) (o : OrderT × CurT) : Prop := (fun _ o => sm_order o.1 = true ∧ gCur o.2 = true) a0 o ∧ ∃ n : Nat, ∀ {R : Type} (k : List Dt → Option R), evFn f76e f76k n f76c [.pmut] [false] true [.cell 2 88] [88] [.d .cur a0] k = k [.d .order o.1, .d .cur o.2]
theorem f76_ex (a0 : CurT) (hg : gCur a0 = true) : ∃ o : OrderT × CurT, (fun _ o => sm_order o.1 = true ∧ gCur o.2 = true) a0 o ∧ ∃ n : Nat, ∀ {R : Type} (k : List Dt → Option R), evFn f76e f76k n f76c [.pmut] [false] true [.cell 2 88] [88] [.d .cur a0] k = k [.d .order o.1, .d .cur o.2] := by
  obtain ⟨hs, l1, l2, g1⟩ := oRight_ok a0 hg
  simp only [sm_order, Bool.and_eq_true] at hs
  obtain ⟨q1, q2, q3, q4, q5, q6, q7⟩ := hs
  have q6' := q6
  simp only [sm_pace, Bool.and_eq_true] at q6'
  obtain ⟨q61, q62, q63, q64⟩ := q6'
  have b1 := ble_lim (n := (oRight a0).1.metrics.length) (by omega)
  have b2 := ble_lim (n := (oRight a0).1.notes.length) (by omega)
  replace l1 := blt_of (n := (oRight a0).1.metrics.length) (m := 1048576) (by omega)
  replace l2 := blt_of (n := (oRight a0).1.notes.length) (m := 1048576) (by omega)
  have tm : sm_metric (oMet (curBelow (oRight a0).2 16).2).1 = true := (oMet_ok _ (curBelow_g _ 16 g1)).1
  simp only [sm_metric, Bool.and_eq_true] at tm
  obtain ⟨t1, t2, t3⟩ := tm
  cases e0 : (((curBelow ((oRight a0).2) (16 : Int)).1) == (0 : Int))
  · skip
    cases e1 : (((curBelow ((oRight a0).2) (16 : Int)).1) == (1 : Int))
    · skip
      cases e2 : (((curBelow ((oRight a0).2) (16 : Int)).1) == (2 : Int))
      · skip
        cases e3 : (((curBelow ((oRight a0).2) (16 : Int)).1) == (3 : Int))
        · skip
          cases e4 : (((curBelow ((oRight a0).2) (16 : Int)).1) == (4 : Int))
          · skip
            cases e5 : (((curBelow ((oRight a0).2) (16 : Int)).1) == (5 : Int))
            · skip
              cases e6 : (((curBelow ((oRight a0).2) (16 : Int)).1) == (6 : Int))
              · skip
                cases e7 : (((curBelow ((oRight a0).2) (16 : Int)).1) == (7 : Int))
                · skip
                  refine ⟨(?a0x8, ?a1x8), ?gx8, 0, ?rx8⟩
                  case rx8 =>
                    intro R k
                    rw [f76_run]
                    simp (decide := true) (maxDischargeDepth := 60) only [hg, curNew_g, curByte_g, curBelow_g, curOnce_g, curPick_g, curPickI_g, tText_g, oMet_g, oPace_g, oRight_g, gPickS_of, gPickI_of, cond_true, cond_false, Bool.not_true, Bool.not_false, e0, e1, e2, e3, e4, e5, e6, e7, sm_order, smL_app, smL_set, met_at_name, met_at_kind, q1, q2, q3, q4, q5, q6, q61, q62, q63, q64, q7, l1, l2, b1, b2, g1, t1, t2, t3, f76v0]
                    exact rfl
                  case gx8 =>
                    simp (decide := true) (maxDischargeDepth := 60) only [hg, curNew_g, curByte_g, curBelow_g, curOnce_g, curPick_g, curPickI_g, tText_g, oMet_g, oPace_g, oRight_g, smStr_pick, okI_pickI, okI_wrap, okI_below, sm_metric, sm_pace, sm_note, Bool.and_eq_true, and_self, true_and, and_true, gPickS_of, gPickI_of, e0, e1, e2, e3, e4, e5, e6, e7, sm_order, smL_app, smL_set, met_at_name, met_at_kind, q1, q2, q3, q4, q5, q6, q61, q62, q63, q64, q7, l1, l2, b1, b2, g1, t1, t2, t3, f76v0]
                cases e9 : (decide (((OrderT.metrics ((oRight a0).1)).length : Int) > (0 : Int)))
                · skip
                  refine ⟨(?a0x10, ?a1x10), ?gx10, 0, ?rx10⟩
                  case rx10 =>
                    intro R k
                    rw [f76_run]
                    simp (decide := true) (maxDischargeDepth := 60) only [hg, curNew_g, curByte_g, curBelow_g, curOnce_g, curPick_g, curPickI_g, tText_g, oMet_g, oPace_g, oRight_g, gPickS_of, gPickI_of, cond_true, cond_false, Bool.not_true, Bool.not_false, e0, e1, e2, e3, e4, e5, e6, e7, e9, sm_order, smL_app, smL_set, met_at_name, met_at_kind, q1, q2, q3, q4, q5, q6, q61, q62, q63, q64, q7, l1, l2, b1, b2, g1, t1, t2, t3, f76v0]
                    exact rfl
                  case gx10 =>
                    simp (decide := true) (maxDischargeDepth := 60) only [hg, curNew_g, curByte_g, curBelow_g, curOnce_g, curPick_g, curPickI_g, tText_g, oMet_g, oPace_g, oRight_g, smStr_pick, okI_pickI, okI_wrap, okI_below, sm_metric, sm_pace, sm_note, Bool.and_eq_true, and_self, true_and, and_true, gPickS_of, gPickI_of, e0, e1, e2, e3, e4, e5, e6, e7, e9, sm_order, smL_app, smL_set, met_at_name, met_at_kind, q1, q2, q3, q4, q5, q6, q61, q62, q63, q64, q7, l1, l2, b1, b2, g1, t1, t2, t3, f76v0]
                refine ⟨(?a0x11, ?a1x11), ?gx11, 0, ?rx11⟩
                case rx11 =>
                  intro R k
                  rw [f76_run]
                  simp (decide := true) (maxDischargeDepth := 60) only [hg, curNew_g, curByte_g, curBelow_g, curOnce_g, curPick_g, curPickI_g, tText_g, oMet_g, oPace_g, oRight_g, gPickS_of, gPickI_of, cond_true, cond_false, Bool.not_true, Bool.not_false, e0, e1, e2, e3, e4, e5, e6, e7, e9, sm_order, smL_app, smL_set, met_at_name, met_at_kind, q1, q2, q3, q4, q5, q6, q61, q62, q63, q64, q7, l1, l2, b1, b2, g1, t1, t2, t3, f76v0]
                  exact rfl
                case gx11 =>
                  simp (decide := true) (maxDischargeDepth := 60) only [hg, curNew_g, curByte_g, curBelow_g, curOnce_g, curPick_g, curPickI_g, tText_g, oMet_g, oPace_g, oRight_g, smStr_pick, okI_pickI, okI_wrap, okI_below, sm_metric, sm_pace, sm_note, Bool.and_eq_true, and_self, true_and, and_true, gPickS_of, gPickI_of, e0, e1, e2, e3, e4, e5, e6, e7, e9, sm_order, smL_app, smL_set, met_at_name, met_at_kind, q1, q2, q3, q4, q5, q6, q61, q62, q63, q64, q7, l1, l2, b1, b2, g1, t1, t2, t3, f76v0]
              refine ⟨(?a0x12, ?a1x12), ?gx12, 0, ?rx12⟩
              case rx12 =>
                intro R k
                rw [f76_run]
                simp (decide := true) (maxDischargeDepth := 60) only [hg, curNew_g, curByte_g, curBelow_g, curOnce_g, curPick_g, curPickI_g, tText_g, oMet_g, oPace_g, oRight_g, gPickS_of, gPickI_of, cond_true, cond_false, Bool.not_true, Bool.not_false, e0, e1, e2, e3, e4, e5, e6, sm_order, smL_app, smL_set, met_at_name, met_at_kind, q1, q2, q3, q4, q5, q6, q61, q62, q63, q64, q7, l1, l2, b1, b2, g1, t1, t2, t3, f76v0]
                exact rfl
              case gx12 =>
                simp (decide := true) (maxDischargeDepth := 60) only [hg, curNew_g, curByte_g, curBelow_g, curOnce_g, curPick_g, curPickI_g, tText_g, oMet_g, oPace_g, oRight_g, smStr_pick, okI_pickI, okI_wrap, okI_below, sm_metric, sm_pace, sm_note, Bool.and_eq_true, and_self, true_and, and_true, gPickS_of, gPickI_of, e0, e1, e2, e3, e4, e5, e6, sm_order, smL_app, smL_set, met_at_name, met_at_kind, q1, q2, q3, q4, q5, q6, q61, q62, q63, q64, q7, l1, l2, b1, b2, g1, t1, t2, t3, f76v0]
            refine ⟨(?a0x13, ?a1x13), ?gx13, 0, ?rx13⟩
            case rx13 =>
              intro R k
              rw [f76_run]
              simp (decide := true) (maxDischargeDepth := 60) only [hg, curNew_g, curByte_g, curBelow_g, curOnce_g, curPick_g, curPickI_g, tText_g, oMet_g, oPace_g, oRight_g, gPickS_of, gPickI_of, cond_true, cond_false, Bool.not_true, Bool.not_false, e0, e1, e2, e3, e4, e5, sm_order, smL_app, smL_set, met_at_name, met_at_kind, q1, q2, q3, q4, q5, q6, q61, q62, q63, q64, q7, l1, l2, b1, b2, g1, t1, t2, t3, f76v0]
              exact rfl
            case gx13 =>
              simp (decide := true) (maxDischargeDepth := 60) only [hg, curNew_g, curByte_g, curBelow_g, curOnce_g, curPick_g, curPickI_g, tText_g, oMet_g, oPace_g, oRight_g, smStr_pick, okI_pickI, okI_wrap, okI_below, sm_metric, sm_pace, sm_note, Bool.and_eq_true, and_self, true_and, and_true, gPickS_of, gPickI_of, e0, e1, e2, e3, e4, e5, sm_order, smL_app, smL_set, met_at_name, met_at_kind, q1, q2, q3, q4, q5, q6, q61, q62, q63, q64, q7, l1, l2, b1, b2, g1, t1, t2, t3, f76v0]
          refine ⟨(?a0x14, ?a1x14), ?gx14, 0, ?rx14⟩
          case rx14 =>
            intro R k
            rw [f76_run]
            simp (decide := true) (maxDischargeDepth := 60) only [hg, curNew_g, curByte_g, curBelow_g, curOnce_g, curPick_g, curPickI_g, tText_g, oMet_g, oPace_g, oRight_g, gPickS_of, gPickI_of, cond_true, cond_false, Bool.not_true, Bool.not_false, e0, e1, e2, e3, e4, sm_order, smL_app, smL_set, met_at_name, met_at_kind, q1, q2, q3, q4, q5, q6, q61, q62, q63, q64, q7, l1, l2, b1, b2, g1, t1, t2, t3, f76v0]
            exact rfl
          case gx14 =>
            simp (decide := true) (maxDischargeDepth := 60) only [hg, curNew_g, curByte_g, curBelow_g, curOnce_g, curPick_g, curPickI_g, tText_g, oMet_g, oPace_g, oRight_g, smStr_pick, okI_pickI, okI_wrap, okI_below, sm_metric, sm_pace, sm_note, Bool.and_eq_true, and_self, true_and, and_true, gPickS_of, gPickI_of, e0, e1, e2, e3, e4, sm_order, smL_app, smL_set, met_at_name, met_at_kind, q1, q2, q3, q4, q5, q6, q61, q62, q63, q64, q7, l1, l2, b1, b2, g1, t1, t2, t3, f76v0]
        refine ⟨(?a0x15, ?a1x15), ?gx15, 0, ?rx15⟩
        case rx15 =>
          intro R k
          rw [f76_run]
          simp (decide := true) (maxDischargeDepth := 60) only [hg, curNew_g, curByte_g, curBelow_g, curOnce_g, curPick_g, curPickI_g, tText_g, oMet_g, oPace_g, oRight_g, gPickS_of, gPickI_of, cond_true, cond_false, Bool.not_true, Bool.not_false, e0, e1, e2, e3, sm_order, smL_app, smL_set, met_at_name, met_at_kind, q1, q2, q3, q4, q5, q6, q61, q62, q63, q64, q7, l1, l2, b1, b2, g1, t1, t2, t3, f76v0]
          exact rfl
        case gx15 =>
          simp (decide := true) (maxDischargeDepth := 60) only [hg, curNew_g, curByte_g, curBelow_g, curOnce_g, curPick_g, curPickI_g, tText_g, oMet_g, oPace_g, oRight_g, smStr_pick, okI_pickI, okI_wrap, okI_below, sm_metric, sm_pace, sm_note, Bool.and_eq_true, and_self, true_and, and_true, gPickS_of, gPickI_of, e0, e1, e2, e3, sm_order, smL_app, smL_set, met_at_name, met_at_kind, q1, q2, q3, q4, q5, q6, q61, q62, q63, q64, q7, l1, l2, b1, b2, g1, t1, t2, t3, f76v0]
      refine ⟨(?a0x16, ?a1x16), ?gx16, 0, ?rx16⟩
      case rx16 =>
        intro R k
        rw [f76_run]
        simp (decide := true) (maxDischargeDepth := 60) only [hg, curNew_g, curByte_g, curBelow_g, curOnce_g, curPick_g, curPickI_g, tText_g, oMet_g, oPace_g, oRight_g, gPickS_of, gPickI_of, cond_true, cond_false, Bool.not_true, Bool.not_false, e0, e1, e2, sm_order, smL_app, smL_set, met_at_name, met_at_kind, q1, q2, q3, q4, q5, q6, q61, q62, q63, q64, q7, l1, l2, b1, b2, g1, t1, t2, t3, f76v0]
        exact rfl
      case gx16 =>
        simp (decide := true) (maxDischargeDepth := 60) only [hg, curNew_g, curByte_g, curBelow_g, curOnce_g, curPick_g, curPickI_g, tText_g, oMet_g, oPace_g, oRight_g, smStr_pick, okI_pickI, okI_wrap, okI_below, sm_metric, sm_pace, sm_note, Bool.and_eq_true, and_self, true_and, and_true, gPickS_of, gPickI_of, e0, e1, e2, sm_order, smL_app, smL_set, met_at_name, met_at_kind, q1, q2, q3, q4, q5, q6, q61, q62, q63, q64, q7, l1, l2, b1, b2, g1, t1, t2, t3, f76v0]
    refine ⟨(?a0x17, ?a1x17), ?gx17, 0, ?rx17⟩
    case rx17 =>
      intro R k
      rw [f76_run]
      simp (decide := true) (maxDischargeDepth := 60) only [hg, curNew_g, curByte_g, curBelow_g, curOnce_g, curPick_g, curPickI_g, tText_g, oMet_g, oPace_g, oRight_g, gPickS_of, gPickI_of, cond_true, cond_false, Bool.not_true, Bool.not_false, e0, e1, sm_order, smL_app, smL_set, met_at_name, met_at_kind, q1, q2, q3, q4, q5, q6, q61, q62, q63, q64, q7, l1, l2, b1, b2, g1, t1, t2, t3, f76v0]
      exact rfl
    case gx17 =>
      simp (decide := true) (maxDischargeDepth := 60) only [hg, curNew_g, curByte_g, curBelow_g, curOnce_g, curPick_g, curPickI_g, tText_g, oMet_g, oPace_g, oRight_g, smStr_pick, okI_pickI, okI_wrap, okI_below, sm_metric, sm_pace, sm_note, Bool.and_eq_true, and_self, true_and, and_true, gPickS_of, gPickI_of, e0, e1, sm_order, smL_app, smL_set, met_at_name, met_at_kind, q1, q2, q3, q4, q5, q6, q61, q62, q63, q64, q7, l1, l2, b1, b2, g1, t1, t2, t3, f76v0]
  refine ⟨(?a0x18, ?a1x18), ?gx18, 0, ?rx18⟩
  case rx18 =>
    intro R k
    rw [f76_run]
    simp (decide := true) (maxDischargeDepth := 60) only [hg, curNew_g, curByte_g, curBelow_g, curOnce_g, curPick_g, curPickI_g, tText_g, oMet_g, oPace_g, oRight_g, gPickS_of, gPickI_of, cond_true, cond_false, Bool.not_true, Bool.not_false, e0, sm_order, smL_app, smL_set, met_at_name, met_at_kind, q1, q2, q3, q4, q5, q6, q61, q62, q63, q64, q7, l1, l2, b1, b2, g1, t1, t2, t3, f76v0]
    exact rfl
  case gx18 =>
    simp (decide := true) (maxDischargeDepth := 60) only [hg, curNew_g, curByte_g, curBelow_g, curOnce_g, curPick_g, curPickI_g, tText_g, oMet_g, oPace_g, oRight_g, smStr_pick, okI_pickI, okI_wrap, okI_below, sm_metric, sm_pace, sm_note, Bool.and_eq_true, and_self, true_and, and_true, gPickS_of, gPickI_of, e0, sm_order, smL_app, smL_set, met_at_name, met_at_kind, q1, q2, q3, q4, q5, q6, q61, q62, q63, q64, q7, l1, l2, b1, b2, g1, t1, t2, t3, f76v0]

theorem f76_ne (a0 : CurT) : Nonempty {o : OrderT × CurT // gCur a0 = true → f76_P a0 o} := by
  by_cases hg : gCur a0 = true
  · obtain ⟨o, ho⟩ := f76_ex a0 hg
    exact ⟨⟨o, fun _ => ho⟩⟩
  · exact ⟨⟨((zero .order), (zero .cur)), fun h => absurd h hg⟩⟩
noncomputable def oDraw (a0 : CurT) : OrderT × CurT := (Classical.choice (f76_ne a0)).val
theorem f76_sp (a0 : CurT) (hg : gCur a0 = true) : f76_P a0 (oDraw a0) := (Classical.choice (f76_ne a0)).property hg
theorem oDraw_ok (a0 : CurT) (hg : gCur a0 = true) : (fun _ o => sm_order o.1 = true ∧ gCur o.2 = true) a0 (oDraw a0) := (f76_sp a0 hg).1
theorem oDraw_g (a0 : CurT) (hg : gCur a0 = true) : gCur (oDraw a0).2 = true := by
  have h := oDraw_ok a0 hg
  first | exact h | exact h.2 | exact h.2.2 | exact h.2.2.2
theorem f76_spec (a0 : CurT) (hg : gCur a0 = true) : ∃ keep rounds, ∀ {R : Type} (k : List Dt → Option R), evFn f76e keep rounds f76c [.pmut] [false] true [.cell 2 88] [88] [.d .cur a0] k = k [.d .order ((oDraw a0).1), .d .cur ((oDraw a0).2)] := by
  obtain ⟨n, hn⟩ := (f76_sp a0 hg).2
  exact ⟨f76k, n, hn⟩

noncomputable def q76 : List Dt → Option (Bool × List Dt)
  | [.d .cur a0] => some ((gCur a0), [.d .order ((oDraw a0).1), .d .cur ((oDraw a0).2)])
  | _ => none
noncomputable def s76 : Gm.Spec := Gm.Spec.of [.pmut] [false] true q76
theorem good76 : Gm.Good Try.prog (76, s76) := by
  have hl : ∀ x ∈ [(57, s57), (75, s75), (77, s77), (92, s92), (93, s93)], Gm.Good Try.prog x := List.forall_mem_cons.2 ⟨good57, List.forall_mem_cons.2 ⟨good75, List.forall_mem_cons.2 ⟨good77, List.forall_mem_cons.2 ⟨good92, List.forall_mem_cons.2 ⟨good93, List.forall_mem_nil _⟩⟩⟩⟩⟩
  refine ⟨⟨spec_ok (tab_ok.env hl) (tab.natl hl) Try.func76 (by kernel_rfl : Try.f76.body = some f76c) [88] (by kernel_rfl) ?_, _, Try.func76, by kernel_rfl, of_decide_eq_true (by kernel_rfl)⟩, Gm.Spec.of_natl _ _ _ _⟩
  intro ds outs h
  unfold q76 at h
  split at h
  · simp only [Option.some.injEq, Prod.mk.injEq] at h; obtain ⟨hg, h⟩ := h; cases h; exact f76_spec _ hg
  · cases h
end Go.Proofs.Ytklmnopgogcbhaa

/- x -/
namespace Go.Proofs.Ytklmnopgogcbhaa
open Go Go.Gm
/-! ### loop.example/g00465/spec.l13DrawRight -/
noncomputable def f74S0 (y0 : Int) (y1 : List Int) (y2 : Int) (y3 : Int) (y5 : Int) (y6 : List ItemT) : St := ⟨[(0, .c (.one (.pt 0 0))), (2, .c (.one (.pt 2 0))), (3, .c (.one (.pt 3 0))), (4, .c (.one (.v (.int .i64 y0))))], [(0, ⟨.cur, [.rk (.i .u8) y1, .v (.int .i64 y2), .v (.int .i64 y3)]⟩), (2, ⟨.store, [.nl, .v (.int .i64 (0 : Int))]⟩), (3, ⟨.store, [.h 320 0 0 [], .v (.int .i64 y5)]⟩)], [(320, .live ⟨.item, .deep, 0, [], y6⟩)]⟩
noncomputable def f74S1 (y0 : Int) (y1 : Bool) (y2 : List Int) (y3 : Int) (y4 : Int) (y6 : Int) (y7 : List ItemT) : St := ⟨[(0, .c (.one (.pt 0 0))), (2, .c (.one (.pt 2 0))), (3, .c (.one (.pt 3 0))), (4, .c (.one (.v (.int .i64 y0)))), (9, .c (.one (.v (.bool y1))))], [(0, ⟨.cur, [.rk (.i .u8) y2, .v (.int .i64 y3), .v (.int .i64 y4)]⟩), (2, ⟨.store, [.nl, .v (.int .i64 (0 : Int))]⟩), (3, ⟨.store, [.h 320 0 0 [], .v (.int .i64 y6)]⟩)], [(320, .live ⟨.item, .deep, 0, [], y7⟩)]⟩
noncomputable def f74c : Code := (Try.f74.body).getD .skip
def f74k : Nat → Kp := kat [⟨[0, 2], [], [], []⟩, ⟨[0, 2, 3], [], [], []⟩, ⟨[0, 2, 3, 4], [], [], []⟩, ⟨[0, 2, 3, 4, 9], [], [], []⟩, ⟨[0, 2, 3, 4], [], [], [(1216, 320), (1664, 320)]⟩, ⟨[0, 2, 3, 4, 13], [], [], []⟩, ⟨[0, 2, 3, 4], [], [], []⟩, ⟨[0, 2, 3, 4], [], [], []⟩, ⟨[0, 2], [], [], []⟩]
noncomputable def f74e : Env := tab.env [(55, s55), (57, s57), (77, s77), (89, s89), (90, s90), (91, s91), (92, s92)]
noncomputable def f74L0 {R : Type} (n : Nat) (x0 : Int → Bool → (List Int) → Int → Int → Int → (List ItemT) → Option R)  : Nat → Int → (List Int) → Int → Int → Int → (List ItemT) → Option R
  | 0, _, _, _, _, _, _ => none
  | m + 1, vs4, vb0_0, vb0_1, vb0_2, vb3_1, vr320 =>
    (cond ((fun c _ => gCur c) (⟨vb0_0, vb0_1, vb0_2⟩ : CurT) (6 : Int))
   (cond (decide (vs4 < ((curBelow (⟨vb0_0, vb0_1, vb0_2⟩ : CurT) (6 : Int)).1)))
    (cond ((fun c _ => gCur c) ((curBelow (⟨vb0_0, vb0_1, vb0_2⟩ : CurT) (6 : Int)).2) (6 : Int))
     (cond ((curOnce ((curBelow (⟨vb0_0, vb0_1, vb0_2⟩ : CurT) (6 : Int)).2) (6 : Int)).1)
      (cond (gPickS ((curOnce ((curBelow (⟨vb0_0, vb0_1, vb0_2⟩ : CurT) (6 : Int)).2) (6 : Int)).2) ([(bs [119,101,98]), (bs [97,112,105])] : List ByteArray))
       (cond (gSD (⟨vr320, vb3_1⟩ : StoreT) ((curPick ((curOnce ((curBelow (⟨vb0_0, vb0_1, vb0_2⟩ : CurT) (6 : Int)).2) (6 : Int)).2) ([(bs [119,101,98]), (bs [97,112,105])] : List ByteArray)).1))
        (f74L0 n x0 m (IntKind.wrap .i64 (vs4 + (1 : Int))) (CurT.b ((curPick ((curOnce ((curBelow (⟨vb0_0, vb0_1, vb0_2⟩ : CurT) (6 : Int)).2) (6 : Int)).2) ([(bs [119,101,98]), (bs [97,112,105])] : List ByteArray)).2)) (CurT.i ((curPick ((curOnce ((curBelow (⟨vb0_0, vb0_1, vb0_2⟩ : CurT) (6 : Int)).2) (6 : Int)).2) ([(bs [119,101,98]), (bs [97,112,105])] : List ByteArray)).2)) (CurT.h ((curPick ((curOnce ((curBelow (⟨vb0_0, vb0_1, vb0_2⟩ : CurT) (6 : Int)).2) (6 : Int)).2) ([(bs [119,101,98]), (bs [97,112,105])] : List ByteArray)).2)) (StoreT.next ((sDrop (⟨vr320, vb3_1⟩ : StoreT) ((curPick ((curOnce ((curBelow (⟨vb0_0, vb0_1, vb0_2⟩ : CurT) (6 : Int)).2) (6 : Int)).2) ([(bs [119,101,98]), (bs [97,112,105])] : List ByteArray)).1)).1)) (StoreT.items ((sDrop (⟨vr320, vb3_1⟩ : StoreT) ((curPick ((curOnce ((curBelow (⟨vb0_0, vb0_1, vb0_2⟩ : CurT) (6 : Int)).2) (6 : Int)).2) ([(bs [119,101,98]), (bs [97,112,105])] : List ByteArray)).1)).1)))
        none)
       none)
      (cond (gCur ((curOnce ((curBelow (⟨vb0_0, vb0_1, vb0_2⟩ : CurT) (6 : Int)).2) (6 : Int)).2))
       (cond (gSP (⟨vr320, vb3_1⟩ : StoreT) ((oRight ((curOnce ((curBelow (⟨vb0_0, vb0_1, vb0_2⟩ : CurT) (6 : Int)).2) (6 : Int)).2)).1))
        (f74L0 n x0 m (IntKind.wrap .i64 (vs4 + (1 : Int))) (CurT.b ((oRight ((curOnce ((curBelow (⟨vb0_0, vb0_1, vb0_2⟩ : CurT) (6 : Int)).2) (6 : Int)).2)).2)) (CurT.i ((oRight ((curOnce ((curBelow (⟨vb0_0, vb0_1, vb0_2⟩ : CurT) (6 : Int)).2) (6 : Int)).2)).2)) (CurT.h ((oRight ((curOnce ((curBelow (⟨vb0_0, vb0_1, vb0_2⟩ : CurT) (6 : Int)).2) (6 : Int)).2)).2)) (StoreT.next ((sPut (⟨vr320, vb3_1⟩ : StoreT) ((oRight ((curOnce ((curBelow (⟨vb0_0, vb0_1, vb0_2⟩ : CurT) (6 : Int)).2) (6 : Int)).2)).1)).1)) (StoreT.items ((sPut (⟨vr320, vb3_1⟩ : StoreT) ((oRight ((curOnce ((curBelow (⟨vb0_0, vb0_1, vb0_2⟩ : CurT) (6 : Int)).2) (6 : Int)).2)).1)).1)))
        none)
       none))
     none)
    (x0 vs4 (decide (vs4 < ((curBelow (⟨vb0_0, vb0_1, vb0_2⟩ : CurT) (6 : Int)).1))) (CurT.b ((curBelow (⟨vb0_0, vb0_1, vb0_2⟩ : CurT) (6 : Int)).2)) (CurT.i ((curBelow (⟨vb0_0, vb0_1, vb0_2⟩ : CurT) (6 : Int)).2)) (CurT.h ((curBelow (⟨vb0_0, vb0_1, vb0_2⟩ : CurT) (6 : Int)).2)) vb3_1 vr320))
   none)
theorem f74L0_b {R : Type} (n : Nat) (k' : Ex → St → Option R) (vs4 : Int) (vb0_0 : List Int) (vb0_1 : Int) (vb0_2 : Int) (vb3_1 : Int) (vr320 : List ItemT) : ev f74e f74k n (cAt [1,1,0,1,0,0] f74c) (f74S0 vs4 vb0_0 vb0_1 vb0_2 vb3_1 vr320) k' =
    (cond ((fun c _ => gCur c) (⟨vb0_0, vb0_1, vb0_2⟩ : CurT) (6 : Int))
  (cond (decide (vs4 < ((curBelow (⟨vb0_0, vb0_1, vb0_2⟩ : CurT) (6 : Int)).1)))
   (cond ((fun c _ => gCur c) ((curBelow (⟨vb0_0, vb0_1, vb0_2⟩ : CurT) (6 : Int)).2) (6 : Int))
    (cond ((curOnce ((curBelow (⟨vb0_0, vb0_1, vb0_2⟩ : CurT) (6 : Int)).2) (6 : Int)).1)
     (cond (gPickS ((curOnce ((curBelow (⟨vb0_0, vb0_1, vb0_2⟩ : CurT) (6 : Int)).2) (6 : Int)).2) ([(bs [119,101,98]), (bs [97,112,105])] : List ByteArray))
      (cond (gSD (⟨vr320, vb3_1⟩ : StoreT) ((curPick ((curOnce ((curBelow (⟨vb0_0, vb0_1, vb0_2⟩ : CurT) (6 : Int)).2) (6 : Int)).2) ([(bs [119,101,98]), (bs [97,112,105])] : List ByteArray)).1))
       (k' .normal (f74S0 (IntKind.wrap .i64 (vs4 + (1 : Int))) (CurT.b ((curPick ((curOnce ((curBelow (⟨vb0_0, vb0_1, vb0_2⟩ : CurT) (6 : Int)).2) (6 : Int)).2) ([(bs [119,101,98]), (bs [97,112,105])] : List ByteArray)).2)) (CurT.i ((curPick ((curOnce ((curBelow (⟨vb0_0, vb0_1, vb0_2⟩ : CurT) (6 : Int)).2) (6 : Int)).2) ([(bs [119,101,98]), (bs [97,112,105])] : List ByteArray)).2)) (CurT.h ((curPick ((curOnce ((curBelow (⟨vb0_0, vb0_1, vb0_2⟩ : CurT) (6 : Int)).2) (6 : Int)).2) ([(bs [119,101,98]), (bs [97,112,105])] : List ByteArray)).2)) (StoreT.next ((sDrop (⟨vr320, vb3_1⟩ : StoreT) ((curPick ((curOnce ((curBelow (⟨vb0_0, vb0_1, vb0_2⟩ : CurT) (6 : Int)).2) (6 : Int)).2) ([(bs [119,101,98]), (bs [97,112,105])] : List ByteArray)).1)).1)) (StoreT.items ((sDrop (⟨vr320, vb3_1⟩ : StoreT) ((curPick ((curOnce ((curBelow (⟨vb0_0, vb0_1, vb0_2⟩ : CurT) (6 : Int)).2) (6 : Int)).2) ([(bs [119,101,98]), (bs [97,112,105])] : List ByteArray)).1)).1))))
       none)
      none)
     (cond (gCur ((curOnce ((curBelow (⟨vb0_0, vb0_1, vb0_2⟩ : CurT) (6 : Int)).2) (6 : Int)).2))
      (cond (gSP (⟨vr320, vb3_1⟩ : StoreT) ((oRight ((curOnce ((curBelow (⟨vb0_0, vb0_1, vb0_2⟩ : CurT) (6 : Int)).2) (6 : Int)).2)).1))
       (k' .normal (f74S0 (IntKind.wrap .i64 (vs4 + (1 : Int))) (CurT.b ((oRight ((curOnce ((curBelow (⟨vb0_0, vb0_1, vb0_2⟩ : CurT) (6 : Int)).2) (6 : Int)).2)).2)) (CurT.i ((oRight ((curOnce ((curBelow (⟨vb0_0, vb0_1, vb0_2⟩ : CurT) (6 : Int)).2) (6 : Int)).2)).2)) (CurT.h ((oRight ((curOnce ((curBelow (⟨vb0_0, vb0_1, vb0_2⟩ : CurT) (6 : Int)).2) (6 : Int)).2)).2)) (StoreT.next ((sPut (⟨vr320, vb3_1⟩ : StoreT) ((oRight ((curOnce ((curBelow (⟨vb0_0, vb0_1, vb0_2⟩ : CurT) (6 : Int)).2) (6 : Int)).2)).1)).1)) (StoreT.items ((sPut (⟨vr320, vb3_1⟩ : StoreT) ((oRight ((curOnce ((curBelow (⟨vb0_0, vb0_1, vb0_2⟩ : CurT) (6 : Int)).2) (6 : Int)).2)).1)).1))))
       none)
      none))
    none)
   (k' (.exit 0) (f74S1 vs4 (decide (vs4 < ((curBelow (⟨vb0_0, vb0_1, vb0_2⟩ : CurT) (6 : Int)).1))) (CurT.b ((curBelow (⟨vb0_0, vb0_1, vb0_2⟩ : CurT) (6 : Int)).2)) (CurT.i ((curBelow (⟨vb0_0, vb0_1, vb0_2⟩ : CurT) (6 : Int)).2)) (CurT.h ((curBelow (⟨vb0_0, vb0_1, vb0_2⟩ : CurT) (6 : Int)).2)) vb3_1 vr320)))
  none) := by kernel_rfl
theorem f74L0_eq {R : Type} (n : Nat) (k' : Ex → St → Option R)  : ∀ (m : Nat) (vs4 : Int) (vb0_0 : List Int) (vb0_1 : Int) (vb0_2 : Int) (vb3_1 : Int) (vr320 : List ItemT), iter (fun st k => ev f74e f74k n (cAt [1,1,0,1,0,0] f74c) st k) m (f74S0 vs4 vb0_0 vb0_1 vb0_2 vb3_1 vr320) k' = f74L0 n (fun (xvs4 : Int) (xvs9 : Bool) (xvb0_0 : List Int) (xvb0_1 : Int) (xvb0_2 : Int) (xvb3_1 : Int) (xvr320 : List ItemT) => k' (.exit 0) (f74S1 xvs4 xvs9 xvb0_0 xvb0_1 xvb0_2 xvb3_1 xvr320)) m vs4 vb0_0 vb0_1 vb0_2 vb3_1 vr320 := by
  intro m; induction m with
  | zero => intros; rfl
  | succ m ih =>
    intro vs4 vb0_0 vb0_1 vb0_2 vb3_1 vr320
    simp only [iter]
    rw [f74L0_b]
    simp only [ih, f74L0]

noncomputable def f74K0 {R : Type} (n : Nat) (k' : Ex → St → Option R) : Ex → St → Option R := (blockK 0 (seqK f74e f74k n (cAt [1,1,1] f74c) k'))
theorem f74K0_x0 {R : Type} (n : Nat) (k : List Dt → Option R) (a0 : CurT) (xvs4 : Int) (xvs9 : Bool) (xvb0_0 : List Int) (xvb0_1 : Int) (xvb0_2 : Int) (xvb3_1 : Int) (xvr320 : List ItemT) : f74K0 n (exitK f74e [.pmut] [false] true [.cell 2 43] [43] [.d .cur a0] k) (.exit 0) (f74S1 xvs4 xvs9 xvb0_0 xvb0_1 xvb0_2 xvb3_1 xvr320) =
    (k [.d .store (⟨xvr320, xvb3_1⟩ : StoreT), .d .cur (⟨xvb0_0, xvb0_1, xvb0_2⟩ : CurT)]) := by kernel_rfl

theorem f74_run {R : Type} (n : Nat) (k : List Dt → Option R) (a0 : CurT) : evFn f74e f74k n f74c [.pmut] [false] true [.cell 2 43] [43] [.d .cur a0] k =
    (f74L0 n (fun (xvs4 : Int) (xvs9 : Bool) (xvb0_0 : List Int) (xvb0_1 : Int) (xvb0_2 : Int) (xvb3_1 : Int) (xvr320 : List ItemT) =>
  (k [.d .store (⟨xvr320, xvb3_1⟩ : StoreT), .d .cur (⟨xvb0_0, xvb0_1, xvb0_2⟩ : CurT)])) n (0 : Int) (CurT.b a0) (CurT.i a0) (CurT.h a0) (StoreT.next storeNew) (StoreT.items storeNew)) := by
  refine Eq.trans (b := (iter (fun st k => ev f74e f74k n (cAt [1,1,0,1,0,0] f74c) st k) n (f74S0 (0 : Int) (CurT.b a0) (CurT.i a0) (CurT.h a0) (StoreT.next storeNew) (StoreT.items storeNew)) (f74K0 n (exitK f74e [.pmut] [false] true [.cell 2 43] [43] [.d .cur a0] k)))) (by kernel_rfl) ?_
  simp only [f74L0_eq, f74K0_x0]
def f74_P (a0 : CurT) (o : StoreT × CurT) : Prop := (fun _ o => sm_store o.1 = true ∧ o.1.items.length ≤ 6 ∧ gCur o.2 = true) a0 o ∧ ∃ n : Nat, ∀ {R : Type} (k : List Dt → Option R), evFn f74e f74k n f74c [.pmut] [false] true [.cell 2 43] [43] [.d .cur a0] k = k [.d .store o.1, .d .cur o.2]
theorem f74_ex (a0 : CurT) (hg : gCur a0 = true) : ∃ o : StoreT × CurT, (fun _ o => sm_store o.1 = true ∧ o.1.items.length ≤ 6 ∧ gCur o.2 = true) a0 o ∧ ∃ n : Nat, ∀ {R : Type} (k : List Dt → Option R), evFn f74e f74k n f74c [.pmut] [false] true [.cell 2 43] [43] [.d .cur a0] k = k [.d .store o.1, .d .cur o.2] := by
  have key : ∀ (d m : Nat) (i : Int) (s : StoreT) (c : CurT), 0 ≤ i → 6 ≤ i + d → i ≤ 6 → d < m → sm_store s = true → (s.items.length : Int) ≤ i → gCur c = true →
      ∃ o : StoreT × CurT, (sm_store o.1 = true ∧ o.1.items.length ≤ 6 ∧ gCur o.2 = true) ∧ ∀ {R : Type} (X : Int → Bool → (List Int) → Int → Int → Int → (List ItemT) → Option R) (Z : StoreT → CurT → Option R), (∀ i b c1 c2 c3 n l, X i b c1 c2 c3 n l = Z ⟨l, n⟩ ⟨c1, c2, c3⟩) → f74L0 7 X m i c.b c.i c.h s.next s.items = Z o.1 o.2 := by
    intro d
    induction d with
    | zero =>
      intro m i s c h0 hi hi2 hm hs hl hc
      obtain ⟨m, rfl⟩ : ∃ m', m = m' + 1 := ⟨m - 1, by omega⟩
      obtain ⟨b0, b1, g1⟩ := curBelow_ok c 6 hc
      have b1 := b1 (by omega)
      refine ⟨(s, (curBelow c 6).2), ⟨hs, by show s.items.length ≤ 6; omega, g1⟩, fun {R} X Z hX => ?_⟩
      simp only [f74L0, eta_cur, hc, decide_eq_false (show ¬ i < (curBelow c 6).1 by omega), cond_true, cond_false, hX]
    | succ d ih =>
      intro m i s c h0 hi hi2 hm hs hl hc
      obtain ⟨m, rfl⟩ : ∃ m', m = m' + 1 := ⟨m - 1, by omega⟩
      obtain ⟨b0, b1, g1⟩ := curBelow_ok c 6 hc
      have b1 := b1 (by omega)
      cases hd : decide (i < (curBelow c 6).1)
      · refine ⟨(s, (curBelow c 6).2), ⟨hs, by show s.items.length ≤ 6; omega, g1⟩, fun {R} X Z hX => ?_⟩
        simp only [f74L0, eta_cur, hc, hd, cond_true, cond_false, hX]
      have hlt := of_decide_eq_true hd
      have hw : IntKind.wrap .i64 (i + 1) = i + 1 := wrap_id (by omega) (by omega)
      have g2 := curOnce_ok (curBelow c 6).2 6 g1
      have hes : (⟨s.items, s.next⟩ : StoreT) = s := rfl
      cases ho : (curOnce (curBelow c 6).2 6).1
      · obtain ⟨r1, r2, r3, g3⟩ := oRight_ok _ g2
        have hgs : gSP s (oRight (curOnce (curBelow c 6).2 6).2).1 = true := by
          simp only [gSP, hs, r1, Bool.true_and]; exact Nat.ble_eq_true_of_le (by omega)
        obtain ⟨p1, p2⟩ := sPut_ok _ _ hgs
        obtain ⟨o1, ho1, hh1⟩ := ih m (i + 1) (sPut s (oRight (curOnce (curBelow c 6).2 6).2).1).1 (oRight (curOnce (curBelow c 6).2 6).2).2 (by omega) (by omega) (by omega) (by omega) p1 (by omega) g3
        exact ⟨o1, ho1, fun {R} X Z hX => by
          simp only [f74L0, eta_cur, hc, hd, g1, ho, g2, hgs, hw, cond_true, cond_false]
          exact hh1 X Z hX⟩
      · have hp := gPickS_of (l := ([(bs [119,101,98]), (bs [97,112,105])] : List ByteArray)) g2 rfl
        obtain ⟨hmem, g3⟩ := curPick_ok _ _ hp
        have hgs : gSD s (curPick (curOnce (curBelow c 6).2 6).2 ([(bs [119,101,98]), (bs [97,112,105])] : List ByteArray)).1 = true := by
          simp only [gSD, hs, Bool.true_and]; exact Nat.ble_eq_true_of_le (by omega)
        obtain ⟨p1, p2⟩ := sDrop_ok _ _ hgs
        obtain ⟨o1, ho1, hh1⟩ := ih m (i + 1) (sDrop s (curPick (curOnce (curBelow c 6).2 6).2 ([(bs [119,101,98]), (bs [97,112,105])] : List ByteArray)).1).1 (curPick (curOnce (curBelow c 6).2 6).2 ([(bs [119,101,98]), (bs [97,112,105])] : List ByteArray)).2 (by omega) (by omega) (by omega) (by omega) p1 (by omega) g3
        exact ⟨o1, ho1, fun {R} X Z hX => by
          simp only [f74L0, eta_cur, hc, hd, g1, ho, hp, hgs, hw, cond_true, cond_false]
          exact hh1 X Z hX⟩
  obtain ⟨o, ho, hh⟩ := key 6 7 0 storeNew a0 (by omega) (by omega) (by omega) (by omega) rfl (by decide) hg
  refine ⟨o, ho, 7, fun {R} k => ?_⟩
  rw [f74_run]
  exact hh _ (fun s c => k [.d .store s, .d .cur c]) (fun _ _ _ _ _ _ _ => rfl)

theorem f74_ne (a0 : CurT) : Nonempty {o : StoreT × CurT // gCur a0 = true → f74_P a0 o} := by
  by_cases hg : gCur a0 = true
  · obtain ⟨o, ho⟩ := f74_ex a0 hg
    exact ⟨⟨o, fun _ => ho⟩⟩
  · exact ⟨⟨((zero .store), (zero .cur)), fun h => absurd h hg⟩⟩
noncomputable def sRight (a0 : CurT) : StoreT × CurT := (Classical.choice (f74_ne a0)).val
theorem f74_sp (a0 : CurT) (hg : gCur a0 = true) : f74_P a0 (sRight a0) := (Classical.choice (f74_ne a0)).property hg
theorem sRight_ok (a0 : CurT) (hg : gCur a0 = true) : (fun _ o => sm_store o.1 = true ∧ o.1.items.length ≤ 6 ∧ gCur o.2 = true) a0 (sRight a0) := (f74_sp a0 hg).1
theorem sRight_g (a0 : CurT) (hg : gCur a0 = true) : gCur (sRight a0).2 = true := by
  have h := sRight_ok a0 hg
  first | exact h | exact h.2 | exact h.2.2 | exact h.2.2.2
theorem f74_spec (a0 : CurT) (hg : gCur a0 = true) : ∃ keep rounds, ∀ {R : Type} (k : List Dt → Option R), evFn f74e keep rounds f74c [.pmut] [false] true [.cell 2 43] [43] [.d .cur a0] k = k [.d .store ((sRight a0).1), .d .cur ((sRight a0).2)] := by
  obtain ⟨n, hn⟩ := (f74_sp a0 hg).2
  exact ⟨f74k, n, hn⟩

noncomputable def q74 : List Dt → Option (Bool × List Dt)
  | [.d .cur a0] => some ((gCur a0), [.d .store ((sRight a0).1), .d .cur ((sRight a0).2)])
  | _ => none
noncomputable def s74 : Gm.Spec := Gm.Spec.of [.pmut] [false] true q74
theorem good74 : Gm.Good Try.prog (74, s74) := by
  have hl : ∀ x ∈ [(55, s55), (57, s57), (77, s77), (89, s89), (90, s90), (91, s91), (92, s92)], Gm.Good Try.prog x := List.forall_mem_cons.2 ⟨good55, List.forall_mem_cons.2 ⟨good57, List.forall_mem_cons.2 ⟨good77, List.forall_mem_cons.2 ⟨good89, List.forall_mem_cons.2 ⟨good90, List.forall_mem_cons.2 ⟨good91, List.forall_mem_cons.2 ⟨good92, List.forall_mem_nil _⟩⟩⟩⟩⟩⟩⟩
  refine ⟨⟨spec_ok (tab_ok.env hl) (tab.natl hl) Try.func74 (by kernel_rfl : Try.f74.body = some f74c) [43] (by kernel_rfl) ?_, _, Try.func74, by kernel_rfl, of_decide_eq_true (by kernel_rfl)⟩, Gm.Spec.of_natl _ _ _ _⟩
  intro ds outs h
  unfold q74 at h
  split at h
  · simp only [Option.some.injEq, Prod.mk.injEq] at h; obtain ⟨hg, h⟩ := h; cases h; exact f74_spec _ hg
  · cases h
/-! ### loop.example/g00465/spec.l13Draw -/
noncomputable def f54c : Code := (Try.f54.body).getD .skip
def f54k : Nat → Kp := kat [⟨[0, 2], [], [], []⟩, ⟨[0, 2, 3], [], [], []⟩, ⟨[0, 2, 3, 7], [], [], []⟩, ⟨[0, 2, 3, 7, 8], [], [], []⟩, ⟨[0, 2, 3], [], [], []⟩, ⟨[0, 2, 3, 7, 14], [], [], []⟩, ⟨[0, 2, 3], [], [], []⟩, ⟨[0, 2, 3, 26], [], [], []⟩, ⟨[0, 2, 3, 31], [], [], []⟩, ⟨[0, 2, 3], [], [], []⟩, ⟨[0, 2], [], [], []⟩]
noncomputable def f54e : Env := tab.env [(57, s57), (74, s74), (75, s75), (76, s76)]
noncomputable def f54v0 (a0 : CurT) : List ItemT :=
  ((StoreT.items ((sRight a0).1)).set 0 (⟨(ItemT.order (atI (t := .item) (StoreT.items ((sRight a0).1)) 0)), ((curPickI ((curBelow ((sRight a0).2) (12 : Int)).2) ([(0 : Int), (1 : Int), (2 : Int), (9 : Int)] : List Int)).1)⟩ : ItemT))
theorem f54_run {R : Type} (n : Nat) (k : List Dt → Option R) (a0 : CurT) : evFn f54e f54k n f54c [.pmut] [false] true [.cell 2 43] [43] [.d .cur a0] k =
    (cond (gCur a0)
  (cond ((fun c _ => gCur c) ((sRight a0).2) (12 : Int))
   (cond (((curBelow ((sRight a0).2) (12 : Int)).1) == (0 : Int))
    (cond (gPickI ((curBelow ((sRight a0).2) (12 : Int)).2) ([(0 : Int), (1 : Int), (100000 : Int), (100001 : Int)] : List Int))
     (k [.d .store (⟨(StoreT.items ((sRight a0).1)), ((curPickI ((curBelow ((sRight a0).2) (12 : Int)).2) ([(0 : Int), (1 : Int), (100000 : Int), (100001 : Int)] : List Int)).1)⟩ : StoreT), .d .cur ((curPickI ((curBelow ((sRight a0).2) (12 : Int)).2) ([(0 : Int), (1 : Int), (100000 : Int), (100001 : Int)] : List Int)).2)])
     none)
    (cond (((curBelow ((sRight a0).2) (12 : Int)).1) == (1 : Int))
     (cond (gCur ((curBelow ((sRight a0).2) (12 : Int)).2))
      (cond ((fun c _ => gCur c) ((oDraw ((curBelow ((sRight a0).2) (12 : Int)).2)).2) (4 : Int))
       (cond (Nat.ble ((StoreT.items ((sRight a0).1)).length + 1) LIM)
        (k [.d .store (⟨((StoreT.items ((sRight a0).1)) ++ ([(⟨((oDraw ((curBelow ((sRight a0).2) (12 : Int)).2)).1), ((curBelow ((oDraw ((curBelow ((sRight a0).2) (12 : Int)).2)).2) (4 : Int)).1)⟩ : ItemT)] : List ItemT)), (StoreT.next ((sRight a0).1))⟩ : StoreT), .d .cur ((curBelow ((oDraw ((curBelow ((sRight a0).2) (12 : Int)).2)).2) (4 : Int)).2)])
        none)
       none)
      none)
     (cond (((curBelow ((sRight a0).2) (12 : Int)).1) == (2 : Int))
      (cond (decide (((StoreT.items ((sRight a0).1)).length : Int) > (0 : Int)))
       (cond (gPickI ((curBelow ((sRight a0).2) (12 : Int)).2) ([(0 : Int), (1 : Int), (2 : Int), (9 : Int)] : List Int))
        (cond (decide ((0 : Int) < ((StoreT.items ((sRight a0).1)).length : Int)))
         (k [.d .store (⟨(f54v0 a0), (StoreT.next ((sRight a0).1))⟩ : StoreT), .d .cur ((curPickI ((curBelow ((sRight a0).2) (12 : Int)).2) ([(0 : Int), (1 : Int), (2 : Int), (9 : Int)] : List Int)).2)])
         none)
        none)
       (k [.d .store ((sRight a0).1), .d .cur ((curBelow ((sRight a0).2) (12 : Int)).2)]))
      (k [.d .store ((sRight a0).1), .d .cur ((curBelow ((sRight a0).2) (12 : Int)).2)]))))
   none)
  none) := by kernel_rfl
def f54_P (a0 : CurT) (o : StoreT × CurT) : Prop := (fun _ o => sm_store o.1 = true ∧ o.1.items.length ≤ 7 ∧ gCur o.2 = true) a0 o ∧ ∃ n : Nat, ∀ {R : Type} (k : List Dt → Option R), evFn f54e f54k n f54c [.pmut] [false] true [.cell 2 43] [43] [.d .cur a0] k = k [.d .store o.1, .d .cur o.2]
theorem f54_ex (a0 : CurT) (hg : gCur a0 = true) : ∃ o : StoreT × CurT, (fun _ o => sm_store o.1 = true ∧ o.1.items.length ≤ 7 ∧ gCur o.2 = true) a0 o ∧ ∃ n : Nat, ∀ {R : Type} (k : List Dt → Option R), evFn f54e f54k n f54c [.pmut] [false] true [.cell 2 43] [43] [.d .cur a0] k = k [.d .store o.1, .d .cur o.2] := by
  obtain ⟨hs, hl, g1⟩ := sRight_ok a0 hg
  obtain ⟨hi0, hnx⟩ := store_parts hs
  obtain ⟨b0, b1, g2⟩ := curBelow_ok (sRight a0).2 12 g1
  cases e0 : ((curBelow (sRight a0).2 12).1 == (0 : Int))
  rotate_left
  · have hp := gPickI_of (l := ([(0 : Int), (1 : Int), (100000 : Int), (100001 : Int)] : List Int)) g2 rfl
    obtain ⟨hm, g3⟩ := curPickI_ok _ _ hp
    refine ⟨(?az0, ?bz0), ?gz0, 0, ?rz0⟩
    case rz0 =>
      intro R k
      rw [f54_run]
      simp only [hg, g1, e0, hp, Bool.not_true, Bool.not_false, cond_true, cond_false]
      exact rfl
    case gz0 => exact ⟨store_mk hi0 (List.all_eq_true.1 (show (([(0 : Int), (1 : Int), (100000 : Int), (100001 : Int)] : List Int).all okI) = true from rfl) _ hm), by show (sRight a0).1.items.length ≤ 7; omega, g3⟩
  cases e1 : ((curBelow (sRight a0).2 12).1 == (1 : Int))
  rotate_left
  · obtain ⟨ho, g3⟩ := oDraw_ok _ g2
    obtain ⟨c0, c1, g4⟩ := curBelow_ok (oDraw (curBelow (sRight a0).2 12).2).2 4 g3
    have c1 := c1 (by omega)
    have hb : Nat.ble ((sRight a0).1.items.length + 1) LIM = true := lim_le (by omega)
    refine ⟨(?az1, ?bz1), ?gz1, 0, ?rz1⟩
    case rz1 =>
      intro R k
      rw [f54_run]
      simp only [hg, g1, e0, e1, g2, g3, hb, Bool.not_true, Bool.not_false, cond_true, cond_false]
      exact rfl
    case gz1 => exact ⟨store_mk (smL_snoc hi0 (item_mk ho (okI_of (by omega) (by omega))) (by omega)) hnx, by simp only [List.length_append, List.length_cons, List.length_nil]; omega, g4⟩
  cases e2 : ((curBelow (sRight a0).2 12).1 == (2 : Int))
  · refine ⟨(?az2, ?bz2), ?gz2, 0, ?rz2⟩
    case rz2 =>
      intro R k
      rw [f54_run]
      simp only [hg, g1, e0, e1, e2, Bool.not_true, Bool.not_false, cond_true, cond_false]
      exact rfl
    case gz2 => exact ⟨hs, by show (sRight a0).1.items.length ≤ 7; omega, g2⟩
  cases e3 : decide (((sRight a0).1.items.length : Int) > (0 : Int))
  · refine ⟨(?az3, ?bz3), ?gz3, 0, ?rz3⟩
    case rz3 =>
      intro R k
      rw [f54_run]
      simp only [hg, g1, e0, e1, e2, e3, Bool.not_true, Bool.not_false, cond_true, cond_false]
      exact rfl
    case gz3 => exact ⟨hs, by show (sRight a0).1.items.length ≤ 7; omega, g2⟩
  have hp := gPickI_of (l := ([(0 : Int), (1 : Int), (2 : Int), (9 : Int)] : List Int)) g2 rfl
  obtain ⟨hm, g3⟩ := curPickI_ok _ _ hp
  have h0 := item_at hi0 0
  simp only [sm_item, Bool.and_eq_true] at h0
  have e4 : decide ((0 : Int) < ((sRight a0).1.items.length : Int)) = true := e3
  refine ⟨(?az4, ?bz4), ?gz4, 0, ?rz4⟩
  case rz4 =>
    intro R k
    rw [f54_run]
    simp only [hg, g1, e0, e1, e2, e3, e4, hp, Bool.not_true, Bool.not_false, cond_true, cond_false]
    exact rfl
  case gz4 => exact ⟨store_mk (items_set hi0 (item_mk h0.1 (List.all_eq_true.1 (show (([(0 : Int), (1 : Int), (2 : Int), (9 : Int)] : List Int).all okI) = true from rfl) _ hm)) 0) hnx, by simp only [f54v0, List.length_set]; omega, g3⟩

theorem f54_ne (a0 : CurT) : Nonempty {o : StoreT × CurT // gCur a0 = true → f54_P a0 o} := by
  by_cases hg : gCur a0 = true
  · obtain ⟨o, ho⟩ := f54_ex a0 hg
    exact ⟨⟨o, fun _ => ho⟩⟩
  · exact ⟨⟨((zero .store), (zero .cur)), fun h => absurd h hg⟩⟩
noncomputable def sDraw (a0 : CurT) : StoreT × CurT := (Classical.choice (f54_ne a0)).val
theorem f54_sp (a0 : CurT) (hg : gCur a0 = true) : f54_P a0 (sDraw a0) := (Classical.choice (f54_ne a0)).property hg
theorem sDraw_ok (a0 : CurT) (hg : gCur a0 = true) : (fun _ o => sm_store o.1 = true ∧ o.1.items.length ≤ 7 ∧ gCur o.2 = true) a0 (sDraw a0) := (f54_sp a0 hg).1
theorem sDraw_g (a0 : CurT) (hg : gCur a0 = true) : gCur (sDraw a0).2 = true := by
  have h := sDraw_ok a0 hg
  first | exact h | exact h.2 | exact h.2.2 | exact h.2.2.2
theorem f54_spec (a0 : CurT) (hg : gCur a0 = true) : ∃ keep rounds, ∀ {R : Type} (k : List Dt → Option R), evFn f54e keep rounds f54c [.pmut] [false] true [.cell 2 43] [43] [.d .cur a0] k = k [.d .store ((sDraw a0).1), .d .cur ((sDraw a0).2)] := by
  obtain ⟨n, hn⟩ := (f54_sp a0 hg).2
  exact ⟨f54k, n, hn⟩

noncomputable def q54 : List Dt → Option (Bool × List Dt)
  | [.d .cur a0] => some ((gCur a0), [.d .store ((sDraw a0).1), .d .cur ((sDraw a0).2)])
  | _ => none
noncomputable def s54 : Gm.Spec := Gm.Spec.of [.pmut] [false] true q54
theorem good54 : Gm.Good Try.prog (54, s54) := by
  have hl : ∀ x ∈ [(57, s57), (74, s74), (75, s75), (76, s76)], Gm.Good Try.prog x := List.forall_mem_cons.2 ⟨good57, List.forall_mem_cons.2 ⟨good74, List.forall_mem_cons.2 ⟨good75, List.forall_mem_cons.2 ⟨good76, List.forall_mem_nil _⟩⟩⟩⟩
  refine ⟨⟨spec_ok (tab_ok.env hl) (tab.natl hl) Try.func54 (by kernel_rfl : Try.f54.body = some f54c) [43] (by kernel_rfl) ?_, _, Try.func54, by kernel_rfl, of_decide_eq_true (by kernel_rfl)⟩, Gm.Spec.of_natl _ _ _ _⟩
  intro ds outs h
  unfold q54 at h
  split at h
  · simp only [Option.some.injEq, Prod.mk.injEq] at h; obtain ⟨hg, h⟩ := h; cases h; exact f54_spec _ hg
  · cases h
end Go.Proofs.Ytklmnopgogcbhaa

/- x -/
namespace Go.Proofs.Ytklmnopgogcbhaa
open Go Go.Gm
/-! ### loop.example/g00465/spec.l25DrawRight -/
noncomputable def f79c : Code := (Try.f79.body).getD .skip
def f79k : Nat → Kp := kat [⟨[0, 2], [], [], []⟩, ⟨[0, 2, 3], [], [], []⟩, ⟨[0, 2, 3, 13], [], [], []⟩, ⟨[0, 2, 3], [], [], []⟩, ⟨[0, 2, 3, 30], [], [], []⟩, ⟨[0, 2, 3], [], [], []⟩, ⟨[0, 2], [], [], []⟩]
noncomputable def f79e : Env := tab.env [(55, s55), (57, s57), (77, s77)]
theorem f79_run {R : Type} (n : Nat) (k : List Dt → Option R) (a0 : CurT) : evFn f79e f79k n f79c [.pmut] [false] true [.cell 2 27] [27] [.d .cur a0] k =
    (cond ((fun c _ => gCur c) a0 (6 : Int))
  (cond (gPickS ((curBelow a0 (6 : Int)).2) ([(bs [116,101,97,109]), (bs [101,110,118]), (bs [97])] : List ByteArray))
   (cond (decide ((IntKind.wrap .i64 ((1 : Int) + ((curBelow a0 (6 : Int)).1))) ≤ (4 : Int)))
    (cond (gPickS ((curPick ((curBelow a0 (6 : Int)).2) ([(bs [116,101,97,109]), (bs [101,110,118]), (bs [97])] : List ByteArray)).2) ([(bs [99,111,114,101]), (bs [100,101,118])] : List ByteArray))
     (cond ((IntKind.wrap .i64 ((1 : Int) + ((curBelow a0 (6 : Int)).1))) == (3 : Int))
      (cond ((fun c _ => gCur c) ((curPick ((curPick ((curBelow a0 (6 : Int)).2) ([(bs [116,101,97,109]), (bs [101,110,118]), (bs [97])] : List ByteArray)).2) ([(bs [99,111,114,101]), (bs [100,101,118])] : List ByteArray)).2) (2 : Int))
       (cond ((curOnce ((curPick ((curPick ((curBelow a0 (6 : Int)).2) ([(bs [116,101,97,109]), (bs [101,110,118]), (bs [97])] : List ByteArray)).2) ([(bs [99,111,114,101]), (bs [100,101,118])] : List ByteArray)).2) (2 : Int)).1)
        (k [.d .pick (⟨(IntKind.wrap .i64 ((1 : Int) + ((curBelow a0 (6 : Int)).1))), ((curPick ((curBelow a0 (6 : Int)).2) ([(bs [116,101,97,109]), (bs [101,110,118]), (bs [97])] : List ByteArray)).1), [(bs [99,111,114,101]), (bs [100,101,118]), (bs [120])]⟩ : PickT), .d .cur ((curOnce ((curPick ((curPick ((curBelow a0 (6 : Int)).2) ([(bs [116,101,97,109]), (bs [101,110,118]), (bs [97])] : List ByteArray)).2) ([(bs [99,111,114,101]), (bs [100,101,118])] : List ByteArray)).2) (2 : Int)).2)])
        (k [.d .pick (⟨(IntKind.wrap .i64 ((1 : Int) + ((curBelow a0 (6 : Int)).1))), ((curPick ((curBelow a0 (6 : Int)).2) ([(bs [116,101,97,109]), (bs [101,110,118]), (bs [97])] : List ByteArray)).1), [((curPick ((curPick ((curBelow a0 (6 : Int)).2) ([(bs [116,101,97,109]), (bs [101,110,118]), (bs [97])] : List ByteArray)).2) ([(bs [99,111,114,101]), (bs [100,101,118])] : List ByteArray)).1)]⟩ : PickT), .d .cur ((curOnce ((curPick ((curPick ((curBelow a0 (6 : Int)).2) ([(bs [116,101,97,109]), (bs [101,110,118]), (bs [97])] : List ByteArray)).2) ([(bs [99,111,114,101]), (bs [100,101,118])] : List ByteArray)).2) (2 : Int)).2)]))
       none)
      (cond ((IntKind.wrap .i64 ((1 : Int) + ((curBelow a0 (6 : Int)).1))) == (4 : Int))
       (cond ((fun c _ => gCur c) ((curPick ((curPick ((curBelow a0 (6 : Int)).2) ([(bs [116,101,97,109]), (bs [101,110,118]), (bs [97])] : List ByteArray)).2) ([(bs [99,111,114,101]), (bs [100,101,118])] : List ByteArray)).2) (2 : Int))
        (cond ((curOnce ((curPick ((curPick ((curBelow a0 (6 : Int)).2) ([(bs [116,101,97,109]), (bs [101,110,118]), (bs [97])] : List ByteArray)).2) ([(bs [99,111,114,101]), (bs [100,101,118])] : List ByteArray)).2) (2 : Int)).1)
         (k [.d .pick (⟨(IntKind.wrap .i64 ((1 : Int) + ((curBelow a0 (6 : Int)).1))), ((curPick ((curBelow a0 (6 : Int)).2) ([(bs [116,101,97,109]), (bs [101,110,118]), (bs [97])] : List ByteArray)).1), [(bs [99,111,114,101]), (bs [100,101,118]), (bs [120])]⟩ : PickT), .d .cur ((curOnce ((curPick ((curPick ((curBelow a0 (6 : Int)).2) ([(bs [116,101,97,109]), (bs [101,110,118]), (bs [97])] : List ByteArray)).2) ([(bs [99,111,114,101]), (bs [100,101,118])] : List ByteArray)).2) (2 : Int)).2)])
         (k [.d .pick (⟨(IntKind.wrap .i64 ((1 : Int) + ((curBelow a0 (6 : Int)).1))), ((curPick ((curBelow a0 (6 : Int)).2) ([(bs [116,101,97,109]), (bs [101,110,118]), (bs [97])] : List ByteArray)).1), [((curPick ((curPick ((curBelow a0 (6 : Int)).2) ([(bs [116,101,97,109]), (bs [101,110,118]), (bs [97])] : List ByteArray)).2) ([(bs [99,111,114,101]), (bs [100,101,118])] : List ByteArray)).1)]⟩ : PickT), .d .cur ((curOnce ((curPick ((curPick ((curBelow a0 (6 : Int)).2) ([(bs [116,101,97,109]), (bs [101,110,118]), (bs [97])] : List ByteArray)).2) ([(bs [99,111,114,101]), (bs [100,101,118])] : List ByteArray)).2) (2 : Int)).2)]))
        none)
       (k [.d .pick (⟨(IntKind.wrap .i64 ((1 : Int) + ((curBelow a0 (6 : Int)).1))), ((curPick ((curBelow a0 (6 : Int)).2) ([(bs [116,101,97,109]), (bs [101,110,118]), (bs [97])] : List ByteArray)).1), [((curPick ((curPick ((curBelow a0 (6 : Int)).2) ([(bs [116,101,97,109]), (bs [101,110,118]), (bs [97])] : List ByteArray)).2) ([(bs [99,111,114,101]), (bs [100,101,118])] : List ByteArray)).1)]⟩ : PickT), .d .cur ((curPick ((curPick ((curBelow a0 (6 : Int)).2) ([(bs [116,101,97,109]), (bs [101,110,118]), (bs [97])] : List ByteArray)).2) ([(bs [99,111,114,101]), (bs [100,101,118])] : List ByteArray)).2)])))
     none)
    (cond ((IntKind.wrap .i64 ((1 : Int) + ((curBelow a0 (6 : Int)).1))) == (3 : Int))
     (cond ((fun c _ => gCur c) ((curPick ((curBelow a0 (6 : Int)).2) ([(bs [116,101,97,109]), (bs [101,110,118]), (bs [97])] : List ByteArray)).2) (2 : Int))
      (cond ((curOnce ((curPick ((curBelow a0 (6 : Int)).2) ([(bs [116,101,97,109]), (bs [101,110,118]), (bs [97])] : List ByteArray)).2) (2 : Int)).1)
       (k [.d .pick (⟨(IntKind.wrap .i64 ((1 : Int) + ((curBelow a0 (6 : Int)).1))), ((curPick ((curBelow a0 (6 : Int)).2) ([(bs [116,101,97,109]), (bs [101,110,118]), (bs [97])] : List ByteArray)).1), [(bs [99,111,114,101]), (bs [100,101,118]), (bs [120])]⟩ : PickT), .d .cur ((curOnce ((curPick ((curBelow a0 (6 : Int)).2) ([(bs [116,101,97,109]), (bs [101,110,118]), (bs [97])] : List ByteArray)).2) (2 : Int)).2)])
       (k [.d .pick (⟨(IntKind.wrap .i64 ((1 : Int) + ((curBelow a0 (6 : Int)).1))), ((curPick ((curBelow a0 (6 : Int)).2) ([(bs [116,101,97,109]), (bs [101,110,118]), (bs [97])] : List ByteArray)).1), ([] : List ByteArray)⟩ : PickT), .d .cur ((curOnce ((curPick ((curBelow a0 (6 : Int)).2) ([(bs [116,101,97,109]), (bs [101,110,118]), (bs [97])] : List ByteArray)).2) (2 : Int)).2)]))
      none)
     (cond ((IntKind.wrap .i64 ((1 : Int) + ((curBelow a0 (6 : Int)).1))) == (4 : Int))
      (cond ((fun c _ => gCur c) ((curPick ((curBelow a0 (6 : Int)).2) ([(bs [116,101,97,109]), (bs [101,110,118]), (bs [97])] : List ByteArray)).2) (2 : Int))
       (cond ((curOnce ((curPick ((curBelow a0 (6 : Int)).2) ([(bs [116,101,97,109]), (bs [101,110,118]), (bs [97])] : List ByteArray)).2) (2 : Int)).1)
        (k [.d .pick (⟨(IntKind.wrap .i64 ((1 : Int) + ((curBelow a0 (6 : Int)).1))), ((curPick ((curBelow a0 (6 : Int)).2) ([(bs [116,101,97,109]), (bs [101,110,118]), (bs [97])] : List ByteArray)).1), [(bs [99,111,114,101]), (bs [100,101,118]), (bs [120])]⟩ : PickT), .d .cur ((curOnce ((curPick ((curBelow a0 (6 : Int)).2) ([(bs [116,101,97,109]), (bs [101,110,118]), (bs [97])] : List ByteArray)).2) (2 : Int)).2)])
        (k [.d .pick (⟨(IntKind.wrap .i64 ((1 : Int) + ((curBelow a0 (6 : Int)).1))), ((curPick ((curBelow a0 (6 : Int)).2) ([(bs [116,101,97,109]), (bs [101,110,118]), (bs [97])] : List ByteArray)).1), ([] : List ByteArray)⟩ : PickT), .d .cur ((curOnce ((curPick ((curBelow a0 (6 : Int)).2) ([(bs [116,101,97,109]), (bs [101,110,118]), (bs [97])] : List ByteArray)).2) (2 : Int)).2)]))
       none)
      (k [.d .pick (⟨(IntKind.wrap .i64 ((1 : Int) + ((curBelow a0 (6 : Int)).1))), ((curPick ((curBelow a0 (6 : Int)).2) ([(bs [116,101,97,109]), (bs [101,110,118]), (bs [97])] : List ByteArray)).1), ([] : List ByteArray)⟩ : PickT), .d .cur ((curPick ((curBelow a0 (6 : Int)).2) ([(bs [116,101,97,109]), (bs [101,110,118]), (bs [97])] : List ByteArray)).2)]))))
   none)
  none) := by kernel_rfl
def f79_P (a0 : CurT) (o : PickT × CurT) : Prop := (fun _ o => sm_pick o.1 = true ∧ o.1.vals.length ≤ 3 ∧ gCur o.2 = true) a0 o ∧ ∃ n : Nat, ∀ {R : Type} (k : List Dt → Option R), evFn f79e f79k n f79c [.pmut] [false] true [.cell 2 27] [27] [.d .cur a0] k = k [.d .pick o.1, .d .cur o.2]
theorem f79_ex (a0 : CurT) (hg : gCur a0 = true) : ∃ o : PickT × CurT, (fun _ o => sm_pick o.1 = true ∧ o.1.vals.length ≤ 3 ∧ gCur o.2 = true) a0 o ∧ ∃ n : Nat, ∀ {R : Type} (k : List Dt → Option R), evFn f79e f79k n f79c [.pmut] [false] true [.cell 2 27] [27] [.d .cur a0] k = k [.d .pick o.1, .d .cur o.2] := by
  cases e0 : (decide ((IntKind.wrap .i64 ((1 : Int) + ((curBelow a0 (6 : Int)).1))) ≤ (4 : Int)))
  · skip
    cases e1 : ((IntKind.wrap .i64 ((1 : Int) + ((curBelow a0 (6 : Int)).1))) == (3 : Int))
    · skip
      cases e2 : ((IntKind.wrap .i64 ((1 : Int) + ((curBelow a0 (6 : Int)).1))) == (4 : Int))
      · skip
        refine ⟨(?a0x3, ?a1x3), ?gx3, 0, ?rx3⟩
        case rx3 =>
          intro R k
          rw [f79_run]
          simp (decide := true) (maxDischargeDepth := 60) only [hg, curNew_g, curByte_g, curBelow_g, curOnce_g, curPick_g, curPickI_g, tText_g, oMet_g, oPace_g, oRight_g, oDraw_g, sRight_g, sDraw_g, gPickS_of, gPickI_of, cond_true, cond_false, Bool.not_true, Bool.not_false, e0, e1, e2, sm_pick, okI_wrap, smL, List.all_cons, List.all_nil, List.length_cons, List.length_nil, smStr_pick, Bool.and_true]
          exact rfl
        case gx3 =>
          simp (decide := true) (maxDischargeDepth := 60) only [hg, curNew_g, curByte_g, curBelow_g, curOnce_g, curPick_g, curPickI_g, tText_g, oMet_g, oPace_g, oRight_g, oDraw_g, sRight_g, sDraw_g, smStr_pick, okI_pickI, okI_wrap, okI_below, sm_metric, sm_pace, sm_note, Bool.and_eq_true, and_self, true_and, and_true, gPickS_of, gPickI_of, e0, e1, e2, sm_pick, okI_wrap, smL, List.all_cons, List.all_nil, List.length_cons, List.length_nil, smStr_pick, Bool.and_true]
      cases e4 : ((curOnce ((curPick ((curBelow a0 (6 : Int)).2) ([(bs [116,101,97,109]), (bs [101,110,118]), (bs [97])] : List ByteArray)).2) (2 : Int)).1)
      · skip
        refine ⟨(?a0x5, ?a1x5), ?gx5, 0, ?rx5⟩
        case rx5 =>
          intro R k
          rw [f79_run]
          simp (decide := true) (maxDischargeDepth := 60) only [hg, curNew_g, curByte_g, curBelow_g, curOnce_g, curPick_g, curPickI_g, tText_g, oMet_g, oPace_g, oRight_g, oDraw_g, sRight_g, sDraw_g, gPickS_of, gPickI_of, cond_true, cond_false, Bool.not_true, Bool.not_false, e0, e1, e2, e4, sm_pick, okI_wrap, smL, List.all_cons, List.all_nil, List.length_cons, List.length_nil, smStr_pick, Bool.and_true]
          exact rfl
        case gx5 =>
          simp (decide := true) (maxDischargeDepth := 60) only [hg, curNew_g, curByte_g, curBelow_g, curOnce_g, curPick_g, curPickI_g, tText_g, oMet_g, oPace_g, oRight_g, oDraw_g, sRight_g, sDraw_g, smStr_pick, okI_pickI, okI_wrap, okI_below, sm_metric, sm_pace, sm_note, Bool.and_eq_true, and_self, true_and, and_true, gPickS_of, gPickI_of, e0, e1, e2, e4, sm_pick, okI_wrap, smL, List.all_cons, List.all_nil, List.length_cons, List.length_nil, smStr_pick, Bool.and_true]
      refine ⟨(?a0x6, ?a1x6), ?gx6, 0, ?rx6⟩
      case rx6 =>
        intro R k
        rw [f79_run]
        simp (decide := true) (maxDischargeDepth := 60) only [hg, curNew_g, curByte_g, curBelow_g, curOnce_g, curPick_g, curPickI_g, tText_g, oMet_g, oPace_g, oRight_g, oDraw_g, sRight_g, sDraw_g, gPickS_of, gPickI_of, cond_true, cond_false, Bool.not_true, Bool.not_false, e0, e1, e2, e4, sm_pick, okI_wrap, smL, List.all_cons, List.all_nil, List.length_cons, List.length_nil, smStr_pick, Bool.and_true]
        exact rfl
      case gx6 =>
        simp (decide := true) (maxDischargeDepth := 60) only [hg, curNew_g, curByte_g, curBelow_g, curOnce_g, curPick_g, curPickI_g, tText_g, oMet_g, oPace_g, oRight_g, oDraw_g, sRight_g, sDraw_g, smStr_pick, okI_pickI, okI_wrap, okI_below, sm_metric, sm_pace, sm_note, Bool.and_eq_true, and_self, true_and, and_true, gPickS_of, gPickI_of, e0, e1, e2, e4, sm_pick, okI_wrap, smL, List.all_cons, List.all_nil, List.length_cons, List.length_nil, smStr_pick, Bool.and_true]
    cases e7 : ((curOnce ((curPick ((curBelow a0 (6 : Int)).2) ([(bs [116,101,97,109]), (bs [101,110,118]), (bs [97])] : List ByteArray)).2) (2 : Int)).1)
    · skip
      refine ⟨(?a0x8, ?a1x8), ?gx8, 0, ?rx8⟩
      case rx8 =>
        intro R k
        rw [f79_run]
        simp (decide := true) (maxDischargeDepth := 60) only [hg, curNew_g, curByte_g, curBelow_g, curOnce_g, curPick_g, curPickI_g, tText_g, oMet_g, oPace_g, oRight_g, oDraw_g, sRight_g, sDraw_g, gPickS_of, gPickI_of, cond_true, cond_false, Bool.not_true, Bool.not_false, e0, e1, e7, sm_pick, okI_wrap, smL, List.all_cons, List.all_nil, List.length_cons, List.length_nil, smStr_pick, Bool.and_true]
        exact rfl
      case gx8 =>
        simp (decide := true) (maxDischargeDepth := 60) only [hg, curNew_g, curByte_g, curBelow_g, curOnce_g, curPick_g, curPickI_g, tText_g, oMet_g, oPace_g, oRight_g, oDraw_g, sRight_g, sDraw_g, smStr_pick, okI_pickI, okI_wrap, okI_below, sm_metric, sm_pace, sm_note, Bool.and_eq_true, and_self, true_and, and_true, gPickS_of, gPickI_of, e0, e1, e7, sm_pick, okI_wrap, smL, List.all_cons, List.all_nil, List.length_cons, List.length_nil, smStr_pick, Bool.and_true]
    refine ⟨(?a0x9, ?a1x9), ?gx9, 0, ?rx9⟩
    case rx9 =>
      intro R k
      rw [f79_run]
      simp (decide := true) (maxDischargeDepth := 60) only [hg, curNew_g, curByte_g, curBelow_g, curOnce_g, curPick_g, curPickI_g, tText_g, oMet_g, oPace_g, oRight_g, oDraw_g, sRight_g, sDraw_g, gPickS_of, gPickI_of, cond_true, cond_false, Bool.not_true, Bool.not_false, e0, e1, e7, sm_pick, okI_wrap, smL, List.all_cons, List.all_nil, List.length_cons, List.length_nil, smStr_pick, Bool.and_true]
      exact rfl
    case gx9 =>
      simp (decide := true) (maxDischargeDepth := 60) only [hg, curNew_g, curByte_g, curBelow_g, curOnce_g, curPick_g, curPickI_g, tText_g, oMet_g, oPace_g, oRight_g, oDraw_g, sRight_g, sDraw_g, smStr_pick, okI_pickI, okI_wrap, okI_below, sm_metric, sm_pace, sm_note, Bool.and_eq_true, and_self, true_and, and_true, gPickS_of, gPickI_of, e0, e1, e7, sm_pick, okI_wrap, smL, List.all_cons, List.all_nil, List.length_cons, List.length_nil, smStr_pick, Bool.and_true]
  cases e10 : ((IntKind.wrap .i64 ((1 : Int) + ((curBelow a0 (6 : Int)).1))) == (3 : Int))
  · skip
    cases e11 : ((IntKind.wrap .i64 ((1 : Int) + ((curBelow a0 (6 : Int)).1))) == (4 : Int))
    · skip
      refine ⟨(?a0x12, ?a1x12), ?gx12, 0, ?rx12⟩
      case rx12 =>
        intro R k
        rw [f79_run]
        simp (decide := true) (maxDischargeDepth := 60) only [hg, curNew_g, curByte_g, curBelow_g, curOnce_g, curPick_g, curPickI_g, tText_g, oMet_g, oPace_g, oRight_g, oDraw_g, sRight_g, sDraw_g, gPickS_of, gPickI_of, cond_true, cond_false, Bool.not_true, Bool.not_false, e0, e10, e11, sm_pick, okI_wrap, smL, List.all_cons, List.all_nil, List.length_cons, List.length_nil, smStr_pick, Bool.and_true]
        exact rfl
      case gx12 =>
        simp (decide := true) (maxDischargeDepth := 60) only [hg, curNew_g, curByte_g, curBelow_g, curOnce_g, curPick_g, curPickI_g, tText_g, oMet_g, oPace_g, oRight_g, oDraw_g, sRight_g, sDraw_g, smStr_pick, okI_pickI, okI_wrap, okI_below, sm_metric, sm_pace, sm_note, Bool.and_eq_true, and_self, true_and, and_true, gPickS_of, gPickI_of, e0, e10, e11, sm_pick, okI_wrap, smL, List.all_cons, List.all_nil, List.length_cons, List.length_nil, smStr_pick, Bool.and_true]
    cases e13 : ((curOnce ((curPick ((curPick ((curBelow a0 (6 : Int)).2) ([(bs [116,101,97,109]), (bs [101,110,118]), (bs [97])] : List ByteArray)).2) ([(bs [99,111,114,101]), (bs [100,101,118])] : List ByteArray)).2) (2 : Int)).1)
    · skip
      refine ⟨(?a0x14, ?a1x14), ?gx14, 0, ?rx14⟩
      case rx14 =>
        intro R k
        rw [f79_run]
        simp (decide := true) (maxDischargeDepth := 60) only [hg, curNew_g, curByte_g, curBelow_g, curOnce_g, curPick_g, curPickI_g, tText_g, oMet_g, oPace_g, oRight_g, oDraw_g, sRight_g, sDraw_g, gPickS_of, gPickI_of, cond_true, cond_false, Bool.not_true, Bool.not_false, e0, e10, e11, e13, sm_pick, okI_wrap, smL, List.all_cons, List.all_nil, List.length_cons, List.length_nil, smStr_pick, Bool.and_true]
        exact rfl
      case gx14 =>
        simp (decide := true) (maxDischargeDepth := 60) only [hg, curNew_g, curByte_g, curBelow_g, curOnce_g, curPick_g, curPickI_g, tText_g, oMet_g, oPace_g, oRight_g, oDraw_g, sRight_g, sDraw_g, smStr_pick, okI_pickI, okI_wrap, okI_below, sm_metric, sm_pace, sm_note, Bool.and_eq_true, and_self, true_and, and_true, gPickS_of, gPickI_of, e0, e10, e11, e13, sm_pick, okI_wrap, smL, List.all_cons, List.all_nil, List.length_cons, List.length_nil, smStr_pick, Bool.and_true]
    refine ⟨(?a0x15, ?a1x15), ?gx15, 0, ?rx15⟩
    case rx15 =>
      intro R k
      rw [f79_run]
      simp (decide := true) (maxDischargeDepth := 60) only [hg, curNew_g, curByte_g, curBelow_g, curOnce_g, curPick_g, curPickI_g, tText_g, oMet_g, oPace_g, oRight_g, oDraw_g, sRight_g, sDraw_g, gPickS_of, gPickI_of, cond_true, cond_false, Bool.not_true, Bool.not_false, e0, e10, e11, e13, sm_pick, okI_wrap, smL, List.all_cons, List.all_nil, List.length_cons, List.length_nil, smStr_pick, Bool.and_true]
      exact rfl
    case gx15 =>
      simp (decide := true) (maxDischargeDepth := 60) only [hg, curNew_g, curByte_g, curBelow_g, curOnce_g, curPick_g, curPickI_g, tText_g, oMet_g, oPace_g, oRight_g, oDraw_g, sRight_g, sDraw_g, smStr_pick, okI_pickI, okI_wrap, okI_below, sm_metric, sm_pace, sm_note, Bool.and_eq_true, and_self, true_and, and_true, gPickS_of, gPickI_of, e0, e10, e11, e13, sm_pick, okI_wrap, smL, List.all_cons, List.all_nil, List.length_cons, List.length_nil, smStr_pick, Bool.and_true]
  cases e16 : ((curOnce ((curPick ((curPick ((curBelow a0 (6 : Int)).2) ([(bs [116,101,97,109]), (bs [101,110,118]), (bs [97])] : List ByteArray)).2) ([(bs [99,111,114,101]), (bs [100,101,118])] : List ByteArray)).2) (2 : Int)).1)
  · skip
    refine ⟨(?a0x17, ?a1x17), ?gx17, 0, ?rx17⟩
    case rx17 =>
      intro R k
      rw [f79_run]
      simp (decide := true) (maxDischargeDepth := 60) only [hg, curNew_g, curByte_g, curBelow_g, curOnce_g, curPick_g, curPickI_g, tText_g, oMet_g, oPace_g, oRight_g, oDraw_g, sRight_g, sDraw_g, gPickS_of, gPickI_of, cond_true, cond_false, Bool.not_true, Bool.not_false, e0, e10, e16, sm_pick, okI_wrap, smL, List.all_cons, List.all_nil, List.length_cons, List.length_nil, smStr_pick, Bool.and_true]
      exact rfl
    case gx17 =>
      simp (decide := true) (maxDischargeDepth := 60) only [hg, curNew_g, curByte_g, curBelow_g, curOnce_g, curPick_g, curPickI_g, tText_g, oMet_g, oPace_g, oRight_g, oDraw_g, sRight_g, sDraw_g, smStr_pick, okI_pickI, okI_wrap, okI_below, sm_metric, sm_pace, sm_note, Bool.and_eq_true, and_self, true_and, and_true, gPickS_of, gPickI_of, e0, e10, e16, sm_pick, okI_wrap, smL, List.all_cons, List.all_nil, List.length_cons, List.length_nil, smStr_pick, Bool.and_true]
  refine ⟨(?a0x18, ?a1x18), ?gx18, 0, ?rx18⟩
  case rx18 =>
    intro R k
    rw [f79_run]
    simp (decide := true) (maxDischargeDepth := 60) only [hg, curNew_g, curByte_g, curBelow_g, curOnce_g, curPick_g, curPickI_g, tText_g, oMet_g, oPace_g, oRight_g, oDraw_g, sRight_g, sDraw_g, gPickS_of, gPickI_of, cond_true, cond_false, Bool.not_true, Bool.not_false, e0, e10, e16, sm_pick, okI_wrap, smL, List.all_cons, List.all_nil, List.length_cons, List.length_nil, smStr_pick, Bool.and_true]
    exact rfl
  case gx18 =>
    simp (decide := true) (maxDischargeDepth := 60) only [hg, curNew_g, curByte_g, curBelow_g, curOnce_g, curPick_g, curPickI_g, tText_g, oMet_g, oPace_g, oRight_g, oDraw_g, sRight_g, sDraw_g, smStr_pick, okI_pickI, okI_wrap, okI_below, sm_metric, sm_pace, sm_note, Bool.and_eq_true, and_self, true_and, and_true, gPickS_of, gPickI_of, e0, e10, e16, sm_pick, okI_wrap, smL, List.all_cons, List.all_nil, List.length_cons, List.length_nil, smStr_pick, Bool.and_true]

theorem f79_ne (a0 : CurT) : Nonempty {o : PickT × CurT // gCur a0 = true → f79_P a0 o} := by
  by_cases hg : gCur a0 = true
  · obtain ⟨o, ho⟩ := f79_ex a0 hg
    exact ⟨⟨o, fun _ => ho⟩⟩
  · exact ⟨⟨((zero .pick), (zero .cur)), fun h => absurd h hg⟩⟩
noncomputable def kRight (a0 : CurT) : PickT × CurT := (Classical.choice (f79_ne a0)).val
theorem f79_sp (a0 : CurT) (hg : gCur a0 = true) : f79_P a0 (kRight a0) := (Classical.choice (f79_ne a0)).property hg
theorem kRight_ok (a0 : CurT) (hg : gCur a0 = true) : (fun _ o => sm_pick o.1 = true ∧ o.1.vals.length ≤ 3 ∧ gCur o.2 = true) a0 (kRight a0) := (f79_sp a0 hg).1
theorem kRight_g (a0 : CurT) (hg : gCur a0 = true) : gCur (kRight a0).2 = true := by
  have h := kRight_ok a0 hg
  first | exact h | exact h.2 | exact h.2.2 | exact h.2.2.2
theorem f79_spec (a0 : CurT) (hg : gCur a0 = true) : ∃ keep rounds, ∀ {R : Type} (k : List Dt → Option R), evFn f79e keep rounds f79c [.pmut] [false] true [.cell 2 27] [27] [.d .cur a0] k = k [.d .pick ((kRight a0).1), .d .cur ((kRight a0).2)] := by
  obtain ⟨n, hn⟩ := (f79_sp a0 hg).2
  exact ⟨f79k, n, hn⟩

noncomputable def q79 : List Dt → Option (Bool × List Dt)
  | [.d .cur a0] => some ((gCur a0), [.d .pick ((kRight a0).1), .d .cur ((kRight a0).2)])
  | _ => none
noncomputable def s79 : Gm.Spec := Gm.Spec.of [.pmut] [false] true q79
theorem good79 : Gm.Good Try.prog (79, s79) := by
  have hl : ∀ x ∈ [(55, s55), (57, s57), (77, s77)], Gm.Good Try.prog x := List.forall_mem_cons.2 ⟨good55, List.forall_mem_cons.2 ⟨good57, List.forall_mem_cons.2 ⟨good77, List.forall_mem_nil _⟩⟩⟩
  refine ⟨⟨spec_ok (tab_ok.env hl) (tab.natl hl) Try.func79 (by kernel_rfl : Try.f79.body = some f79c) [27] (by kernel_rfl) ?_, _, Try.func79, by kernel_rfl, of_decide_eq_true (by kernel_rfl)⟩, Gm.Spec.of_natl _ _ _ _⟩
  intro ds outs h
  unfold q79 at h
  split at h
  · simp only [Option.some.injEq, Prod.mk.injEq] at h; obtain ⟨hg, h⟩ := h; cases h; exact f79_spec _ hg
  · cases h
/-! ### loop.example/g00465/spec.l25Draw -/
noncomputable def f58c : Code := (Try.f58.body).getD .skip
def f58k : Nat → Kp := kat [⟨[0, 2], [], [], []⟩, ⟨[0, 2, 3], [], [], []⟩, ⟨[0, 2, 3, 7], [], [], []⟩, ⟨[0, 2, 3, 7, 8], [], [], []⟩, ⟨[0, 2, 3], [], [], []⟩, ⟨[0, 2, 3, 7, 14], [], [], []⟩, ⟨[0, 2, 3], [], [], []⟩, ⟨[0, 2, 3, 20], [], [], []⟩, ⟨[0, 2, 3], [], [], []⟩, ⟨[0, 2], [], [], []⟩]
noncomputable def f58e : Env := tab.env [(57, s57), (77, s77), (79, s79)]
theorem f58_run {R : Type} (n : Nat) (k : List Dt → Option R) (a0 : CurT) : evFn f58e f58k n f58c [.pmut] [false] true [.cell 2 27] [27] [.d .cur a0] k =
    (cond (gCur a0)
  (cond ((fun c _ => gCur c) ((kRight a0).2) (10 : Int))
   (cond (((curBelow ((kRight a0).2) (10 : Int)).1) == (0 : Int))
    (cond ((fun c _ => gCur c) ((curBelow ((kRight a0).2) (10 : Int)).2) (9 : Int))
     (k [.d .pick (⟨(IntKind.wrap .i64 (((curBelow ((curBelow ((kRight a0).2) (10 : Int)).2) (9 : Int)).1) - (1 : Int))), (PickT.key ((kRight a0).1)), (PickT.vals ((kRight a0).1))⟩ : PickT), .d .cur ((curBelow ((curBelow ((kRight a0).2) (10 : Int)).2) (9 : Int)).2)])
     none)
    (cond (((curBelow ((kRight a0).2) (10 : Int)).1) == (1 : Int))
     (cond (gPickS ((curBelow ((kRight a0).2) (10 : Int)).2) ([ByteArray.empty, (bs [49,97]), (bs [97,32,98])] : List ByteArray))
      (k [.d .pick (⟨(PickT.op ((kRight a0).1)), ((curPick ((curBelow ((kRight a0).2) (10 : Int)).2) ([ByteArray.empty, (bs [49,97]), (bs [97,32,98])] : List ByteArray)).1), (PickT.vals ((kRight a0).1))⟩ : PickT), .d .cur ((curPick ((curBelow ((kRight a0).2) (10 : Int)).2) ([ByteArray.empty, (bs [49,97]), (bs [97,32,98])] : List ByteArray)).2)])
      none)
     (cond (((curBelow ((kRight a0).2) (10 : Int)).1) == (2 : Int))
      (cond (gPickS ((curBelow ((kRight a0).2) (10 : Int)).2) ([(bs [97]), (bs [122]), ByteArray.empty] : List ByteArray))
       (cond (Nat.ble ((PickT.vals ((kRight a0).1)).length + 1) LIM)
        (k [.d .pick (⟨(PickT.op ((kRight a0).1)), (PickT.key ((kRight a0).1)), ((PickT.vals ((kRight a0).1)) ++ ([((curPick ((curBelow ((kRight a0).2) (10 : Int)).2) ([(bs [97]), (bs [122]), ByteArray.empty] : List ByteArray)).1)] : List ByteArray))⟩ : PickT), .d .cur ((curPick ((curBelow ((kRight a0).2) (10 : Int)).2) ([(bs [97]), (bs [122]), ByteArray.empty] : List ByteArray)).2)])
        none)
       none)
      (k [.d .pick ((kRight a0).1), .d .cur ((curBelow ((kRight a0).2) (10 : Int)).2)]))))
   none)
  none) := by kernel_rfl
def f58_P (a0 : CurT) (o : PickT × CurT) : Prop := (fun _ o => sm_pick o.1 = true ∧ gCur o.2 = true) a0 o ∧ ∃ n : Nat, ∀ {R : Type} (k : List Dt → Option R), evFn f58e f58k n f58c [.pmut] [false] true [.cell 2 27] [27] [.d .cur a0] k = k [.d .pick o.1, .d .cur o.2]
theorem f58_ex (a0 : CurT) (hg : gCur a0 = true) : ∃ o : PickT × CurT, (fun _ o => sm_pick o.1 = true ∧ gCur o.2 = true) a0 o ∧ ∃ n : Nat, ∀ {R : Type} (k : List Dt → Option R), evFn f58e f58k n f58c [.pmut] [false] true [.cell 2 27] [27] [.d .cur a0] k = k [.d .pick o.1, .d .cur o.2] := by
  obtain ⟨hs, l1, g1⟩ := kRight_ok a0 hg
  simp only [sm_pick, Bool.and_eq_true] at hs
  obtain ⟨q1, q2, q3⟩ := hs
  have b1 := ble_lim (n := (kRight a0).1.vals.length) (by omega)
  replace l1 := blt_of (n := (kRight a0).1.vals.length) (m := 1048576) (by omega)
  cases e0 : (((curBelow ((kRight a0).2) (10 : Int)).1) == (0 : Int))
  · skip
    cases e1 : (((curBelow ((kRight a0).2) (10 : Int)).1) == (1 : Int))
    · skip
      cases e2 : (((curBelow ((kRight a0).2) (10 : Int)).1) == (2 : Int))
      · skip
        refine ⟨(?a0x3, ?a1x3), ?gx3, 0, ?rx3⟩
        case rx3 =>
          intro R k
          rw [f58_run]
          simp (decide := true) (maxDischargeDepth := 60) only [hg, curNew_g, curByte_g, curBelow_g, curOnce_g, curPick_g, curPickI_g, tText_g, oMet_g, oPace_g, oRight_g, oDraw_g, sRight_g, sDraw_g, kRight_g, gPickS_of, gPickI_of, cond_true, cond_false, Bool.not_true, Bool.not_false, e0, e1, e2, sm_pick, okI_wrap, smStr_pick, smL_app, q1, q2, q3, l1, b1, g1]
          exact rfl
        case gx3 =>
          simp (decide := true) (maxDischargeDepth := 60) only [hg, curNew_g, curByte_g, curBelow_g, curOnce_g, curPick_g, curPickI_g, tText_g, oMet_g, oPace_g, oRight_g, oDraw_g, sRight_g, sDraw_g, kRight_g, smStr_pick, okI_pickI, okI_wrap, okI_below, sm_metric, sm_pace, sm_note, Bool.and_eq_true, and_self, true_and, and_true, gPickS_of, gPickI_of, e0, e1, e2, sm_pick, okI_wrap, smStr_pick, smL_app, q1, q2, q3, l1, b1, g1]
      refine ⟨(?a0x4, ?a1x4), ?gx4, 0, ?rx4⟩
      case rx4 =>
        intro R k
        rw [f58_run]
        simp (decide := true) (maxDischargeDepth := 60) only [hg, curNew_g, curByte_g, curBelow_g, curOnce_g, curPick_g, curPickI_g, tText_g, oMet_g, oPace_g, oRight_g, oDraw_g, sRight_g, sDraw_g, kRight_g, gPickS_of, gPickI_of, cond_true, cond_false, Bool.not_true, Bool.not_false, e0, e1, e2, sm_pick, okI_wrap, smStr_pick, smL_app, q1, q2, q3, l1, b1, g1]
        exact rfl
      case gx4 =>
        simp (decide := true) (maxDischargeDepth := 60) only [hg, curNew_g, curByte_g, curBelow_g, curOnce_g, curPick_g, curPickI_g, tText_g, oMet_g, oPace_g, oRight_g, oDraw_g, sRight_g, sDraw_g, kRight_g, smStr_pick, okI_pickI, okI_wrap, okI_below, sm_metric, sm_pace, sm_note, Bool.and_eq_true, and_self, true_and, and_true, gPickS_of, gPickI_of, e0, e1, e2, sm_pick, okI_wrap, smStr_pick, smL_app, q1, q2, q3, l1, b1, g1]
    refine ⟨(?a0x5, ?a1x5), ?gx5, 0, ?rx5⟩
    case rx5 =>
      intro R k
      rw [f58_run]
      simp (decide := true) (maxDischargeDepth := 60) only [hg, curNew_g, curByte_g, curBelow_g, curOnce_g, curPick_g, curPickI_g, tText_g, oMet_g, oPace_g, oRight_g, oDraw_g, sRight_g, sDraw_g, kRight_g, gPickS_of, gPickI_of, cond_true, cond_false, Bool.not_true, Bool.not_false, e0, e1, sm_pick, okI_wrap, smStr_pick, smL_app, q1, q2, q3, l1, b1, g1]
      exact rfl
    case gx5 =>
      simp (decide := true) (maxDischargeDepth := 60) only [hg, curNew_g, curByte_g, curBelow_g, curOnce_g, curPick_g, curPickI_g, tText_g, oMet_g, oPace_g, oRight_g, oDraw_g, sRight_g, sDraw_g, kRight_g, smStr_pick, okI_pickI, okI_wrap, okI_below, sm_metric, sm_pace, sm_note, Bool.and_eq_true, and_self, true_and, and_true, gPickS_of, gPickI_of, e0, e1, sm_pick, okI_wrap, smStr_pick, smL_app, q1, q2, q3, l1, b1, g1]
  refine ⟨(?a0x6, ?a1x6), ?gx6, 0, ?rx6⟩
  case rx6 =>
    intro R k
    rw [f58_run]
    simp (decide := true) (maxDischargeDepth := 60) only [hg, curNew_g, curByte_g, curBelow_g, curOnce_g, curPick_g, curPickI_g, tText_g, oMet_g, oPace_g, oRight_g, oDraw_g, sRight_g, sDraw_g, kRight_g, gPickS_of, gPickI_of, cond_true, cond_false, Bool.not_true, Bool.not_false, e0, sm_pick, okI_wrap, smStr_pick, smL_app, q1, q2, q3, l1, b1, g1]
    exact rfl
  case gx6 =>
    simp (decide := true) (maxDischargeDepth := 60) only [hg, curNew_g, curByte_g, curBelow_g, curOnce_g, curPick_g, curPickI_g, tText_g, oMet_g, oPace_g, oRight_g, oDraw_g, sRight_g, sDraw_g, kRight_g, smStr_pick, okI_pickI, okI_wrap, okI_below, sm_metric, sm_pace, sm_note, Bool.and_eq_true, and_self, true_and, and_true, gPickS_of, gPickI_of, e0, sm_pick, okI_wrap, smStr_pick, smL_app, q1, q2, q3, l1, b1, g1]

theorem f58_ne (a0 : CurT) : Nonempty {o : PickT × CurT // gCur a0 = true → f58_P a0 o} := by
  by_cases hg : gCur a0 = true
  · obtain ⟨o, ho⟩ := f58_ex a0 hg
    exact ⟨⟨o, fun _ => ho⟩⟩
  · exact ⟨⟨((zero .pick), (zero .cur)), fun h => absurd h hg⟩⟩
noncomputable def kDraw (a0 : CurT) : PickT × CurT := (Classical.choice (f58_ne a0)).val
theorem f58_sp (a0 : CurT) (hg : gCur a0 = true) : f58_P a0 (kDraw a0) := (Classical.choice (f58_ne a0)).property hg
theorem kDraw_ok (a0 : CurT) (hg : gCur a0 = true) : (fun _ o => sm_pick o.1 = true ∧ gCur o.2 = true) a0 (kDraw a0) := (f58_sp a0 hg).1
theorem f58_spec (a0 : CurT) (hg : gCur a0 = true) : ∃ keep rounds, ∀ {R : Type} (k : List Dt → Option R), evFn f58e keep rounds f58c [.pmut] [false] true [.cell 2 27] [27] [.d .cur a0] k = k [.d .pick ((kDraw a0).1), .d .cur ((kDraw a0).2)] := by
  obtain ⟨n, hn⟩ := (f58_sp a0 hg).2
  exact ⟨f58k, n, hn⟩

noncomputable def q58 : List Dt → Option (Bool × List Dt)
  | [.d .cur a0] => some ((gCur a0), [.d .pick ((kDraw a0).1), .d .cur ((kDraw a0).2)])
  | _ => none
noncomputable def s58 : Gm.Spec := Gm.Spec.of [.pmut] [false] true q58
theorem good58 : Gm.Good Try.prog (58, s58) := by
  have hl : ∀ x ∈ [(57, s57), (77, s77), (79, s79)], Gm.Good Try.prog x := List.forall_mem_cons.2 ⟨good57, List.forall_mem_cons.2 ⟨good77, List.forall_mem_cons.2 ⟨good79, List.forall_mem_nil _⟩⟩⟩
  refine ⟨⟨spec_ok (tab_ok.env hl) (tab.natl hl) Try.func58 (by kernel_rfl : Try.f58.body = some f58c) [27] (by kernel_rfl) ?_, _, Try.func58, by kernel_rfl, of_decide_eq_true (by kernel_rfl)⟩, Gm.Spec.of_natl _ _ _ _⟩
  intro ds outs h
  unfold q58 at h
  split at h
  · simp only [Option.some.injEq, Prod.mk.injEq] at h; obtain ⟨hg, h⟩ := h; cases h; exact f58_spec _ hg
  · cases h
/-! ### loop.example/g00465/spec.l25DrawNotes -/
noncomputable def f56S0 (y0 : Int) (y1 : List Int) (y2 : Int) (y3 : Int) (y4 : List NoteT) : St := ⟨[(0, .c (.one (.pt 0 0))), (3, .c (.one (.h 384 0 0 []))), (4, .c (.one (.v (.int .i64 y0))))], [(0, ⟨.cur, [.rk (.i .u8) y1, .v (.int .i64 y2), .v (.int .i64 y3)]⟩)], [(384, .live ⟨.note, .deep, 0, [], y4⟩)]⟩
noncomputable def f56S1 (y0 : Int) (y1 : Bool) (y2 : List Int) (y3 : Int) (y4 : Int) (y5 : List NoteT) : St := ⟨[(0, .c (.one (.pt 0 0))), (3, .c (.one (.h 384 0 0 []))), (4, .c (.one (.v (.int .i64 y0)))), (10, .c (.one (.v (.bool y1))))], [(0, ⟨.cur, [.rk (.i .u8) y2, .v (.int .i64 y3), .v (.int .i64 y4)]⟩)], [(384, .live ⟨.note, .deep, 0, [], y5⟩)]⟩
noncomputable def f56c : Code := (Try.f56.body).getD .skip
def f56k : Nat → Kp := kat [⟨[0], [], [], []⟩, ⟨[0, 3], [], [], []⟩, ⟨[0, 3, 4], [], [], []⟩, ⟨[0, 3, 4, 10], [], [], []⟩, ⟨[0, 3, 4], [], [], []⟩, ⟨[0, 3, 4, 5], [], [], []⟩, ⟨[0, 3, 4], [], [], []⟩, ⟨[0, 2], [], [], []⟩]
noncomputable def f56e : Env := tab.env [(57, s57), (77, s77)]
noncomputable def f56L0 {R : Type} (n : Nat) (x0 : Int → Bool → (List Int) → Int → Int → (List NoteT) → Option R)  : Nat → Int → (List Int) → Int → Int → (List NoteT) → Option R
  | 0, _, _, _, _, _ => none
  | m + 1, vs4, vb0_0, vb0_1, vb0_2, vr384 =>
    (cond ((fun c _ => gCur c) (⟨vb0_0, vb0_1, vb0_2⟩ : CurT) (4 : Int))
   (cond (decide (vs4 < ((curBelow (⟨vb0_0, vb0_1, vb0_2⟩ : CurT) (4 : Int)).1)))
    (cond (gPickS ((curBelow (⟨vb0_0, vb0_1, vb0_2⟩ : CurT) (4 : Int)).2) ([(bs [116,101,97,109]), (bs [101,110,118]), (bs [97])] : List ByteArray))
     (cond (gPickS ((curPick ((curBelow (⟨vb0_0, vb0_1, vb0_2⟩ : CurT) (4 : Int)).2) ([(bs [116,101,97,109]), (bs [101,110,118]), (bs [97])] : List ByteArray)).2) ([(bs [99,111,114,101]), (bs [100,101,118]), ByteArray.empty, (bs [120])] : List ByteArray))
      (cond (Nat.ble (vr384.length + 1) LIM)
       (f56L0 n x0 m (IntKind.wrap .i64 (vs4 + (1 : Int))) (CurT.b ((curPick ((curPick ((curBelow (⟨vb0_0, vb0_1, vb0_2⟩ : CurT) (4 : Int)).2) ([(bs [116,101,97,109]), (bs [101,110,118]), (bs [97])] : List ByteArray)).2) ([(bs [99,111,114,101]), (bs [100,101,118]), ByteArray.empty, (bs [120])] : List ByteArray)).2)) (CurT.i ((curPick ((curPick ((curBelow (⟨vb0_0, vb0_1, vb0_2⟩ : CurT) (4 : Int)).2) ([(bs [116,101,97,109]), (bs [101,110,118]), (bs [97])] : List ByteArray)).2) ([(bs [99,111,114,101]), (bs [100,101,118]), ByteArray.empty, (bs [120])] : List ByteArray)).2)) (CurT.h ((curPick ((curPick ((curBelow (⟨vb0_0, vb0_1, vb0_2⟩ : CurT) (4 : Int)).2) ([(bs [116,101,97,109]), (bs [101,110,118]), (bs [97])] : List ByteArray)).2) ([(bs [99,111,114,101]), (bs [100,101,118]), ByteArray.empty, (bs [120])] : List ByteArray)).2)) (vr384 ++ ([(⟨((curPick ((curBelow (⟨vb0_0, vb0_1, vb0_2⟩ : CurT) (4 : Int)).2) ([(bs [116,101,97,109]), (bs [101,110,118]), (bs [97])] : List ByteArray)).1), ((curPick ((curPick ((curBelow (⟨vb0_0, vb0_1, vb0_2⟩ : CurT) (4 : Int)).2) ([(bs [116,101,97,109]), (bs [101,110,118]), (bs [97])] : List ByteArray)).2) ([(bs [99,111,114,101]), (bs [100,101,118]), ByteArray.empty, (bs [120])] : List ByteArray)).1)⟩ : NoteT)] : List NoteT)))
       none)
      none)
     none)
    (x0 vs4 (decide (vs4 < ((curBelow (⟨vb0_0, vb0_1, vb0_2⟩ : CurT) (4 : Int)).1))) (CurT.b ((curBelow (⟨vb0_0, vb0_1, vb0_2⟩ : CurT) (4 : Int)).2)) (CurT.i ((curBelow (⟨vb0_0, vb0_1, vb0_2⟩ : CurT) (4 : Int)).2)) (CurT.h ((curBelow (⟨vb0_0, vb0_1, vb0_2⟩ : CurT) (4 : Int)).2)) vr384))
   none)
theorem f56L0_b {R : Type} (n : Nat) (k' : Ex → St → Option R) (vs4 : Int) (vb0_0 : List Int) (vb0_1 : Int) (vb0_2 : Int) (vr384 : List NoteT) : ev f56e f56k n (cAt [1,1,0,1,0,0] f56c) (f56S0 vs4 vb0_0 vb0_1 vb0_2 vr384) k' =
    (cond ((fun c _ => gCur c) (⟨vb0_0, vb0_1, vb0_2⟩ : CurT) (4 : Int))
  (cond (decide (vs4 < ((curBelow (⟨vb0_0, vb0_1, vb0_2⟩ : CurT) (4 : Int)).1)))
   (cond (gPickS ((curBelow (⟨vb0_0, vb0_1, vb0_2⟩ : CurT) (4 : Int)).2) ([(bs [116,101,97,109]), (bs [101,110,118]), (bs [97])] : List ByteArray))
    (cond (gPickS ((curPick ((curBelow (⟨vb0_0, vb0_1, vb0_2⟩ : CurT) (4 : Int)).2) ([(bs [116,101,97,109]), (bs [101,110,118]), (bs [97])] : List ByteArray)).2) ([(bs [99,111,114,101]), (bs [100,101,118]), ByteArray.empty, (bs [120])] : List ByteArray))
     (cond (Nat.ble (vr384.length + 1) LIM)
      (k' .normal (f56S0 (IntKind.wrap .i64 (vs4 + (1 : Int))) (CurT.b ((curPick ((curPick ((curBelow (⟨vb0_0, vb0_1, vb0_2⟩ : CurT) (4 : Int)).2) ([(bs [116,101,97,109]), (bs [101,110,118]), (bs [97])] : List ByteArray)).2) ([(bs [99,111,114,101]), (bs [100,101,118]), ByteArray.empty, (bs [120])] : List ByteArray)).2)) (CurT.i ((curPick ((curPick ((curBelow (⟨vb0_0, vb0_1, vb0_2⟩ : CurT) (4 : Int)).2) ([(bs [116,101,97,109]), (bs [101,110,118]), (bs [97])] : List ByteArray)).2) ([(bs [99,111,114,101]), (bs [100,101,118]), ByteArray.empty, (bs [120])] : List ByteArray)).2)) (CurT.h ((curPick ((curPick ((curBelow (⟨vb0_0, vb0_1, vb0_2⟩ : CurT) (4 : Int)).2) ([(bs [116,101,97,109]), (bs [101,110,118]), (bs [97])] : List ByteArray)).2) ([(bs [99,111,114,101]), (bs [100,101,118]), ByteArray.empty, (bs [120])] : List ByteArray)).2)) (vr384 ++ ([(⟨((curPick ((curBelow (⟨vb0_0, vb0_1, vb0_2⟩ : CurT) (4 : Int)).2) ([(bs [116,101,97,109]), (bs [101,110,118]), (bs [97])] : List ByteArray)).1), ((curPick ((curPick ((curBelow (⟨vb0_0, vb0_1, vb0_2⟩ : CurT) (4 : Int)).2) ([(bs [116,101,97,109]), (bs [101,110,118]), (bs [97])] : List ByteArray)).2) ([(bs [99,111,114,101]), (bs [100,101,118]), ByteArray.empty, (bs [120])] : List ByteArray)).1)⟩ : NoteT)] : List NoteT))))
      none)
     none)
    none)
   (k' (.exit 0) (f56S1 vs4 (decide (vs4 < ((curBelow (⟨vb0_0, vb0_1, vb0_2⟩ : CurT) (4 : Int)).1))) (CurT.b ((curBelow (⟨vb0_0, vb0_1, vb0_2⟩ : CurT) (4 : Int)).2)) (CurT.i ((curBelow (⟨vb0_0, vb0_1, vb0_2⟩ : CurT) (4 : Int)).2)) (CurT.h ((curBelow (⟨vb0_0, vb0_1, vb0_2⟩ : CurT) (4 : Int)).2)) vr384)))
  none) := by kernel_rfl
theorem f56L0_eq {R : Type} (n : Nat) (k' : Ex → St → Option R)  : ∀ (m : Nat) (vs4 : Int) (vb0_0 : List Int) (vb0_1 : Int) (vb0_2 : Int) (vr384 : List NoteT), iter (fun st k => ev f56e f56k n (cAt [1,1,0,1,0,0] f56c) st k) m (f56S0 vs4 vb0_0 vb0_1 vb0_2 vr384) k' = f56L0 n (fun (xvs4 : Int) (xvs10 : Bool) (xvb0_0 : List Int) (xvb0_1 : Int) (xvb0_2 : Int) (xvr384 : List NoteT) => k' (.exit 0) (f56S1 xvs4 xvs10 xvb0_0 xvb0_1 xvb0_2 xvr384)) m vs4 vb0_0 vb0_1 vb0_2 vr384 := by
  intro m; induction m with
  | zero => intros; rfl
  | succ m ih =>
    intro vs4 vb0_0 vb0_1 vb0_2 vr384
    simp only [iter]
    rw [f56L0_b]
    simp only [ih, f56L0]

noncomputable def f56K0 {R : Type} (n : Nat) (k' : Ex → St → Option R) : Ex → St → Option R := (blockK 0 (seqK f56e f56k n (cAt [1,1,1] f56c) k'))
theorem f56K0_x0 {R : Type} (n : Nat) (k : List Dt → Option R) (a0 : CurT) (xvs4 : Int) (xvs10 : Bool) (xvb0_0 : List Int) (xvb0_1 : Int) (xvb0_2 : Int) (xvr384 : List NoteT) : f56K0 n (exitK f56e [.pmut] [false] true [.tmp 2] [35] [.d .cur a0] k) (.exit 0) (f56S1 xvs4 xvs10 xvb0_0 xvb0_1 xvb0_2 xvr384) =
    (k [.d (.sl .note) xvr384, .d .cur (⟨xvb0_0, xvb0_1, xvb0_2⟩ : CurT)]) := by kernel_rfl

theorem f56_run {R : Type} (n : Nat) (k : List Dt → Option R) (a0 : CurT) : evFn f56e f56k n f56c [.pmut] [false] true [.tmp 2] [35] [.d .cur a0] k =
    (f56L0 n (fun (xvs4 : Int) (xvs10 : Bool) (xvb0_0 : List Int) (xvb0_1 : Int) (xvb0_2 : Int) (xvr384 : List NoteT) =>
  (k [.d (.sl .note) xvr384, .d .cur (⟨xvb0_0, xvb0_1, xvb0_2⟩ : CurT)])) n (0 : Int) (CurT.b a0) (CurT.i a0) (CurT.h a0) ([] : List NoteT)) := by
  refine Eq.trans (b := (iter (fun st k => ev f56e f56k n (cAt [1,1,0,1,0,0] f56c) st k) n (f56S0 (0 : Int) (CurT.b a0) (CurT.i a0) (CurT.h a0) ([] : List NoteT)) (f56K0 n (exitK f56e [.pmut] [false] true [.tmp 2] [35] [.d .cur a0] k)))) (by kernel_rfl) ?_
  simp only [f56L0_eq, f56K0_x0]
def f56_P (a0 : CurT) (o : List NoteT × CurT) : Prop := (fun _ o => smL sm_note o.1 = true ∧ gCur o.2 = true) a0 o ∧ ∃ n : Nat, ∀ {R : Type} (k : List Dt → Option R), evFn f56e f56k n f56c [.pmut] [false] true [.tmp 2] [35] [.d .cur a0] k = k [.d (.sl .note) o.1, .d .cur o.2]
theorem f56_ex (a0 : CurT) (hg : gCur a0 = true) : ∃ o : List NoteT × CurT, (fun _ o => smL sm_note o.1 = true ∧ gCur o.2 = true) a0 o ∧ ∃ n : Nat, ∀ {R : Type} (k : List Dt → Option R), evFn f56e f56k n f56c [.pmut] [false] true [.tmp 2] [35] [.d .cur a0] k = k [.d (.sl .note) o.1, .d .cur o.2] := by
  have key : ∀ (d m : Nat) (i : Int) (ns : List NoteT) (c : CurT), 0 ≤ i → 4 ≤ i + d → i ≤ 4 → d < m → smL sm_note ns = true → (ns.length : Int) ≤ i → gCur c = true →
      ∃ o : List NoteT × CurT, (smL sm_note o.1 = true ∧ gCur o.2 = true) ∧ ∀ {R : Type} (X : Int → Bool → (List Int) → Int → Int → (List NoteT) → Option R) (Z : List NoteT → CurT → Option R), (∀ i b c1 c2 c3 l, X i b c1 c2 c3 l = Z l ⟨c1, c2, c3⟩) → f56L0 5 X m i c.b c.i c.h ns = Z o.1 o.2 := by
    intro d
    induction d with
    | zero =>
      intro m i ns c h0 hi hi2 hm hs hl hc
      obtain ⟨m, rfl⟩ : ∃ m', m = m' + 1 := ⟨m - 1, by omega⟩
      obtain ⟨b0, b1, g1⟩ := curBelow_ok c 4 hc
      have b1 := b1 (by omega)
      refine ⟨(ns, (curBelow c 4).2), ⟨hs, g1⟩, fun {R} X Z hX => ?_⟩
      simp only [f56L0, eta_cur, hc, decide_eq_false (show ¬ i < (curBelow c 4).1 by omega), cond_true, cond_false, hX]
    | succ d ih =>
      intro m i ns c h0 hi hi2 hm hs hl hc
      obtain ⟨m, rfl⟩ : ∃ m', m = m' + 1 := ⟨m - 1, by omega⟩
      obtain ⟨b0, b1, g1⟩ := curBelow_ok c 4 hc
      have b1 := b1 (by omega)
      cases hd : decide (i < (curBelow c 4).1)
      · refine ⟨(ns, (curBelow c 4).2), ⟨hs, g1⟩, fun {R} X Z hX => ?_⟩
        simp only [f56L0, eta_cur, hc, hd, cond_true, cond_false, hX]
      have hlt := of_decide_eq_true hd
      have hw : IntKind.wrap .i64 (i + 1) = i + 1 := wrap_id (by omega) (by omega)
      have p1 := gPickS_of (l := ([(bs [116,101,97,109]), (bs [101,110,118]), (bs [97])] : List ByteArray)) g1 rfl
      obtain ⟨m1, g2⟩ := curPick_ok _ _ p1
      have p2 := gPickS_of (l := ([(bs [99,111,114,101]), (bs [100,101,118]), ByteArray.empty, (bs [120])] : List ByteArray)) g2 rfl
      obtain ⟨m2, g3⟩ := curPick_ok _ _ p2
      have hb : Nat.ble (ns.length + 1) LIM = true := ble_lim (by omega)
      have hx : sm_note ⟨(curPick (curBelow c 4).2 ([(bs [116,101,97,109]), (bs [101,110,118]), (bs [97])] : List ByteArray)).1, (curPick (curPick (curBelow c 4).2 ([(bs [116,101,97,109]), (bs [101,110,118]), (bs [97])] : List ByteArray)).2 ([(bs [99,111,114,101]), (bs [100,101,118]), ByteArray.empty, (bs [120])] : List ByteArray)).1⟩ = true := by
        simp only [sm_note, smStr_in m1 (by decide), smStr_in m2 (by decide), Bool.and_self]
      obtain ⟨o1, ho1, hh1⟩ := ih m (i + 1) (ns ++ [⟨(curPick (curBelow c 4).2 ([(bs [116,101,97,109]), (bs [101,110,118]), (bs [97])] : List ByteArray)).1, (curPick (curPick (curBelow c 4).2 ([(bs [116,101,97,109]), (bs [101,110,118]), (bs [97])] : List ByteArray)).2 ([(bs [99,111,114,101]), (bs [100,101,118]), ByteArray.empty, (bs [120])] : List ByteArray)).1⟩]) (curPick (curPick (curBelow c 4).2 ([(bs [116,101,97,109]), (bs [101,110,118]), (bs [97])] : List ByteArray)).2 ([(bs [99,111,114,101]), (bs [100,101,118]), ByteArray.empty, (bs [120])] : List ByteArray)).2 (by omega) (by omega) (by omega) (by omega) (smL_snoc hs hx (by omega)) (by simp only [List.length_append, List.length_cons, List.length_nil]; omega) g3
      exact ⟨o1, ho1, fun {R} X Z hX => by
        simp only [f56L0, eta_cur, hc, hd, p1, p2, hb, hw, cond_true, cond_false]
        exact hh1 X Z hX⟩
  obtain ⟨o, ho, hh⟩ := key 4 5 0 [] a0 (by omega) (by omega) (by omega) (by omega) rfl (by decide) hg
  refine ⟨o, ho, 5, fun {R} k => ?_⟩
  rw [f56_run]
  exact hh _ (fun s c => k [.d (.sl .note) s, .d .cur c]) (fun _ _ _ _ _ _ => rfl)

theorem f56_ne (a0 : CurT) : Nonempty {o : List NoteT × CurT // gCur a0 = true → f56_P a0 o} := by
  by_cases hg : gCur a0 = true
  · obtain ⟨o, ho⟩ := f56_ex a0 hg
    exact ⟨⟨o, fun _ => ho⟩⟩
  · exact ⟨⟨([], (zero .cur)), fun h => absurd h hg⟩⟩
noncomputable def kNotes (a0 : CurT) : List NoteT × CurT := (Classical.choice (f56_ne a0)).val
theorem f56_sp (a0 : CurT) (hg : gCur a0 = true) : f56_P a0 (kNotes a0) := (Classical.choice (f56_ne a0)).property hg
theorem kNotes_ok (a0 : CurT) (hg : gCur a0 = true) : (fun _ o => smL sm_note o.1 = true ∧ gCur o.2 = true) a0 (kNotes a0) := (f56_sp a0 hg).1
theorem f56_spec (a0 : CurT) (hg : gCur a0 = true) : ∃ keep rounds, ∀ {R : Type} (k : List Dt → Option R), evFn f56e keep rounds f56c [.pmut] [false] true [.tmp 2] [35] [.d .cur a0] k = k [.d (.sl .note) ((kNotes a0).1), .d .cur ((kNotes a0).2)] := by
  obtain ⟨n, hn⟩ := (f56_sp a0 hg).2
  exact ⟨f56k, n, hn⟩

noncomputable def q56 : List Dt → Option (Bool × List Dt)
  | [.d .cur a0] => some ((gCur a0), [.d (.sl .note) ((kNotes a0).1), .d .cur ((kNotes a0).2)])
  | _ => none
noncomputable def s56 : Gm.Spec := Gm.Spec.of [.pmut] [false] true q56
theorem good56 : Gm.Good Try.prog (56, s56) := by
  have hl : ∀ x ∈ [(57, s57), (77, s77)], Gm.Good Try.prog x := List.forall_mem_cons.2 ⟨good57, List.forall_mem_cons.2 ⟨good77, List.forall_mem_nil _⟩⟩
  refine ⟨⟨spec_ok (tab_ok.env hl) (tab.natl hl) Try.func56 (by kernel_rfl : Try.f56.body = some f56c) [35] (by kernel_rfl) ?_, _, Try.func56, by kernel_rfl, of_decide_eq_true (by kernel_rfl)⟩, Gm.Spec.of_natl _ _ _ _⟩
  intro ds outs h
  unfold q56 at h
  split at h
  · simp only [Option.some.injEq, Prod.mk.injEq] at h; obtain ⟨hg, h⟩ := h; cases h; exact f56_spec _ hg
  · cases h
/-! ### loop.example/g00465/spec.DrawChosen -/
noncomputable def f21S0 (y0 : Int) (y2 : Int) (y3 : List Int) (y4 : Int) (y5 : Int) (y6 : List ItemT) : St := ⟨[(2, .c (.one (.pt 2 0))), (4, .c (.one (.pt 10 0))), (5, .c (.one (.pt 5 0))), (6, .c (.one (.v (.int .i64 y0))))], [(2, ⟨.store, [.nl, .v (.int .i64 (0 : Int))]⟩), (5, ⟨.store, [.h 768 0 0 [], .v (.int .i64 y2)]⟩), (10, ⟨.cur, [.rk (.i .u8) y3, .v (.int .i64 y4), .v (.int .i64 y5)]⟩)], [(768, .live ⟨.item, .deep, 0, [], y6⟩)]⟩
noncomputable def f21S1 (y0 : Int) (y1 : Bool) (y3 : Int) (y4 : List Int) (y5 : Int) (y6 : Int) (y7 : List ItemT) : St := ⟨[(2, .c (.one (.pt 2 0))), (4, .c (.one (.pt 10 0))), (5, .c (.one (.pt 5 0))), (6, .c (.one (.v (.int .i64 y0)))), (17, .c (.one (.v (.bool y1))))], [(2, ⟨.store, [.nl, .v (.int .i64 (0 : Int))]⟩), (5, ⟨.store, [.h 768 0 0 [], .v (.int .i64 y3)]⟩), (10, ⟨.cur, [.rk (.i .u8) y4, .v (.int .i64 y5), .v (.int .i64 y6)]⟩)], [(768, .live ⟨.item, .deep, 0, [], y7⟩)]⟩
noncomputable def f21S2 (y0 : Int) (y2 : Int) (y3 : List Int) (y4 : Int) (y5 : Int) (y6 : List ItemT) (y7 : List PickT) : St := ⟨[(2, .c (.one (.pt 2 0))), (4, .c (.one (.pt 10 0))), (5, .c (.one (.pt 5 0))), (7, .c (.one (.h 1920 0 0 []))), (8, .c (.one (.v (.int .i64 y0))))], [(2, ⟨.store, [.nl, .v (.int .i64 (0 : Int))]⟩), (5, ⟨.store, [.h 768 0 0 [], .v (.int .i64 y2)]⟩), (10, ⟨.cur, [.rk (.i .u8) y3, .v (.int .i64 y4), .v (.int .i64 y5)]⟩)], [(768, .live ⟨.item, .deep, 0, [], y6⟩), (1920, .live ⟨.pick, .deep, 0, [], y7⟩)]⟩
noncomputable def f21S3 (y0 : Int) (y1 : Bool) (y3 : Int) (y4 : List Int) (y5 : Int) (y6 : Int) (y7 : List ItemT) (y8 : List PickT) : St := ⟨[(2, .c (.one (.pt 2 0))), (4, .c (.one (.pt 10 0))), (5, .c (.one (.pt 5 0))), (7, .c (.one (.h 1920 0 0 []))), (8, .c (.one (.v (.int .i64 y0)))), (34, .c (.one (.v (.bool y1))))], [(2, ⟨.store, [.nl, .v (.int .i64 (0 : Int))]⟩), (5, ⟨.store, [.h 768 0 0 [], .v (.int .i64 y3)]⟩), (10, ⟨.cur, [.rk (.i .u8) y4, .v (.int .i64 y5), .v (.int .i64 y6)]⟩)], [(768, .live ⟨.item, .deep, 0, [], y7⟩), (1920, .live ⟨.pick, .deep, 0, [], y8⟩)]⟩
noncomputable def f21c : Code := (Try.f21.body).getD .skip
def f21k : Nat → Kp := kat [⟨[0, 2], [], [], []⟩, ⟨[2, 4], [], [], []⟩, ⟨[2, 4, 5], [], [], []⟩, ⟨[2, 4, 5, 6], [], [], []⟩, ⟨[2, 4, 5, 6, 17], [], [], []⟩, ⟨[2, 4, 5, 6], [], [], []⟩, ⟨[2, 4, 5, 6, 21], [], [], []⟩, ⟨[2, 4, 5, 6], [], [], []⟩, ⟨[2, 4, 5, 7], [], [], []⟩, ⟨[2, 4, 5, 7, 8], [], [], []⟩, ⟨[2, 4, 5, 7, 8, 34], [], [], []⟩, ⟨[2, 4, 5, 7, 8], [], [], []⟩, ⟨[2, 4, 5, 7, 8], [], [], []⟩, ⟨[2, 3], [], [], []⟩]
noncomputable def f21e : Env := tab.env [(53, s53), (54, s54), (55, s55), (56, s56), (57, s57), (58, s58)]
noncomputable def f21v0 (vr768 : List ItemT) (vs6 : Int) (vb10_0 : List Int) (vb10_1 : Int) (vb10_2 : Int) : List ItemT :=
  (vr768.set (Int.toNat vs6) (⟨(⟨(OrderT.name (ItemT.order (atI (t := .item) vr768 (Int.toNat vs6)))), (OrderT.target (ItemT.order (atI (t := .item) vr768 (Int.toNat vs6)))), (OrderT.low (ItemT.order (atI (t := .item) vr768 (Int.toNat vs6)))), (OrderT.high (ItemT.order (atI (t := .item) vr768 (Int.toNat vs6)))), (OrderT.metrics (ItemT.order (atI (t := .item) vr768 (Int.toNat vs6)))), (OrderT.pace (ItemT.order (atI (t := .item) vr768 (Int.toNat vs6)))), ((kNotes ((curOnce (⟨vb10_0, vb10_1, vb10_2⟩ : CurT) (2 : Int)).2)).1)⟩ : OrderT), (ItemT.ver (atI (t := .item) vr768 (Int.toNat vs6)))⟩ : ItemT))
noncomputable def f21L0 {R : Type} (n : Nat) (x0 : Int → Bool → (List Int) → Int → Int → (List ItemT) → Option R) (vb5_1 : Int) : Nat → Int → (List Int) → Int → Int → (List ItemT) → Option R
  | 0, _, _, _, _, _ => none
  | m + 1, vs6, vb10_0, vb10_1, vb10_2, vr768 =>
    (cond (decide (vs6 < (vr768.length : Int)))
   (cond ((fun c _ => gCur c) (⟨vb10_0, vb10_1, vb10_2⟩ : CurT) (2 : Int))
    (cond ((curOnce (⟨vb10_0, vb10_1, vb10_2⟩ : CurT) (2 : Int)).1)
     (cond (gCur ((curOnce (⟨vb10_0, vb10_1, vb10_2⟩ : CurT) (2 : Int)).2))
      (cond ((decide ((0 : Int) ≤ vs6)) && (decide (vs6 < (vr768.length : Int))))
       (f21L0 n x0 vb5_1 m (IntKind.wrap .i64 (vs6 + (1 : Int))) (CurT.b ((kNotes ((curOnce (⟨vb10_0, vb10_1, vb10_2⟩ : CurT) (2 : Int)).2)).2)) (CurT.i ((kNotes ((curOnce (⟨vb10_0, vb10_1, vb10_2⟩ : CurT) (2 : Int)).2)).2)) (CurT.h ((kNotes ((curOnce (⟨vb10_0, vb10_1, vb10_2⟩ : CurT) (2 : Int)).2)).2)) (f21v0 vr768 vs6 vb10_0 vb10_1 vb10_2))
       none)
      none)
     (f21L0 n x0 vb5_1 m (IntKind.wrap .i64 (vs6 + (1 : Int))) (CurT.b ((curOnce (⟨vb10_0, vb10_1, vb10_2⟩ : CurT) (2 : Int)).2)) (CurT.i ((curOnce (⟨vb10_0, vb10_1, vb10_2⟩ : CurT) (2 : Int)).2)) (CurT.h ((curOnce (⟨vb10_0, vb10_1, vb10_2⟩ : CurT) (2 : Int)).2)) vr768))
    none)
   (x0 vs6 (decide (vs6 < (vr768.length : Int))) vb10_0 vb10_1 vb10_2 vr768))
theorem f21L0_b {R : Type} (n : Nat) (k' : Ex → St → Option R) (vs6 : Int) (vb5_1 : Int) (vb10_0 : List Int) (vb10_1 : Int) (vb10_2 : Int) (vr768 : List ItemT) : ev f21e f21k n (cAt [1,1,1,0,1,0,0] f21c) (f21S0 vs6 vb5_1 vb10_0 vb10_1 vb10_2 vr768) k' =
    (cond (decide (vs6 < (vr768.length : Int)))
  (cond ((fun c _ => gCur c) (⟨vb10_0, vb10_1, vb10_2⟩ : CurT) (2 : Int))
   (cond ((curOnce (⟨vb10_0, vb10_1, vb10_2⟩ : CurT) (2 : Int)).1)
    (cond (gCur ((curOnce (⟨vb10_0, vb10_1, vb10_2⟩ : CurT) (2 : Int)).2))
     (cond ((decide ((0 : Int) ≤ vs6)) && (decide (vs6 < (vr768.length : Int))))
      (k' .normal (f21S0 (IntKind.wrap .i64 (vs6 + (1 : Int))) vb5_1 (CurT.b ((kNotes ((curOnce (⟨vb10_0, vb10_1, vb10_2⟩ : CurT) (2 : Int)).2)).2)) (CurT.i ((kNotes ((curOnce (⟨vb10_0, vb10_1, vb10_2⟩ : CurT) (2 : Int)).2)).2)) (CurT.h ((kNotes ((curOnce (⟨vb10_0, vb10_1, vb10_2⟩ : CurT) (2 : Int)).2)).2)) (f21v0 vr768 vs6 vb10_0 vb10_1 vb10_2)))
      none)
     none)
    (k' .normal (f21S0 (IntKind.wrap .i64 (vs6 + (1 : Int))) vb5_1 (CurT.b ((curOnce (⟨vb10_0, vb10_1, vb10_2⟩ : CurT) (2 : Int)).2)) (CurT.i ((curOnce (⟨vb10_0, vb10_1, vb10_2⟩ : CurT) (2 : Int)).2)) (CurT.h ((curOnce (⟨vb10_0, vb10_1, vb10_2⟩ : CurT) (2 : Int)).2)) vr768)))
   none)
  (k' (.exit 0) (f21S1 vs6 (decide (vs6 < (vr768.length : Int))) vb5_1 vb10_0 vb10_1 vb10_2 vr768))) := by kernel_rfl
theorem f21L0_eq {R : Type} (n : Nat) (k' : Ex → St → Option R) (vb5_1 : Int) : ∀ (m : Nat) (vs6 : Int) (vb10_0 : List Int) (vb10_1 : Int) (vb10_2 : Int) (vr768 : List ItemT), iter (fun st k => ev f21e f21k n (cAt [1,1,1,0,1,0,0] f21c) st k) m (f21S0 vs6 vb5_1 vb10_0 vb10_1 vb10_2 vr768) k' = f21L0 n (fun (xvs6 : Int) (xvs17 : Bool) (xvb10_0 : List Int) (xvb10_1 : Int) (xvb10_2 : Int) (xvr768 : List ItemT) => k' (.exit 0) (f21S1 xvs6 xvs17 vb5_1 xvb10_0 xvb10_1 xvb10_2 xvr768)) vb5_1 m vs6 vb10_0 vb10_1 vb10_2 vr768 := by
  intro m; induction m with
  | zero => intros; rfl
  | succ m ih =>
    intro vs6 vb10_0 vb10_1 vb10_2 vr768
    simp only [iter]
    rw [f21L0_b]
    simp only [ih, f21L0]

noncomputable def f21L1 {R : Type} (n : Nat) (x0 : Int → Bool → (List Int) → Int → Int → (List PickT) → Option R) (vb5_1 : Int) (vr768 : List ItemT) : Nat → Int → (List Int) → Int → Int → (List PickT) → Option R
  | 0, _, _, _, _, _ => none
  | m + 1, vs8, vb10_0, vb10_1, vb10_2, vr1920 =>
    (cond ((fun c _ => gCur c) (⟨vb10_0, vb10_1, vb10_2⟩ : CurT) (3 : Int))
   (cond (decide (vs8 < ((curBelow (⟨vb10_0, vb10_1, vb10_2⟩ : CurT) (3 : Int)).1)))
    (cond (gCur ((curBelow (⟨vb10_0, vb10_1, vb10_2⟩ : CurT) (3 : Int)).2))
     (cond (Nat.ble (vr1920.length + 1) LIM)
      (f21L1 n x0 vb5_1 vr768 m (IntKind.wrap .i64 (vs8 + (1 : Int))) (CurT.b ((kDraw ((curBelow (⟨vb10_0, vb10_1, vb10_2⟩ : CurT) (3 : Int)).2)).2)) (CurT.i ((kDraw ((curBelow (⟨vb10_0, vb10_1, vb10_2⟩ : CurT) (3 : Int)).2)).2)) (CurT.h ((kDraw ((curBelow (⟨vb10_0, vb10_1, vb10_2⟩ : CurT) (3 : Int)).2)).2)) (vr1920 ++ ([((kDraw ((curBelow (⟨vb10_0, vb10_1, vb10_2⟩ : CurT) (3 : Int)).2)).1)] : List PickT)))
      none)
     none)
    (x0 vs8 (decide (vs8 < ((curBelow (⟨vb10_0, vb10_1, vb10_2⟩ : CurT) (3 : Int)).1))) (CurT.b ((curBelow (⟨vb10_0, vb10_1, vb10_2⟩ : CurT) (3 : Int)).2)) (CurT.i ((curBelow (⟨vb10_0, vb10_1, vb10_2⟩ : CurT) (3 : Int)).2)) (CurT.h ((curBelow (⟨vb10_0, vb10_1, vb10_2⟩ : CurT) (3 : Int)).2)) vr1920))
   none)
theorem f21L1_b {R : Type} (n : Nat) (k' : Ex → St → Option R) (vs8 : Int) (vb5_1 : Int) (vb10_0 : List Int) (vb10_1 : Int) (vb10_2 : Int) (vr768 : List ItemT) (vr1920 : List PickT) : ev f21e f21k n (cAt [1,1,1,1,1,0,1,0,0] f21c) (f21S2 vs8 vb5_1 vb10_0 vb10_1 vb10_2 vr768 vr1920) k' =
    (cond ((fun c _ => gCur c) (⟨vb10_0, vb10_1, vb10_2⟩ : CurT) (3 : Int))
  (cond (decide (vs8 < ((curBelow (⟨vb10_0, vb10_1, vb10_2⟩ : CurT) (3 : Int)).1)))
   (cond (gCur ((curBelow (⟨vb10_0, vb10_1, vb10_2⟩ : CurT) (3 : Int)).2))
    (cond (Nat.ble (vr1920.length + 1) LIM)
     (k' .normal (f21S2 (IntKind.wrap .i64 (vs8 + (1 : Int))) vb5_1 (CurT.b ((kDraw ((curBelow (⟨vb10_0, vb10_1, vb10_2⟩ : CurT) (3 : Int)).2)).2)) (CurT.i ((kDraw ((curBelow (⟨vb10_0, vb10_1, vb10_2⟩ : CurT) (3 : Int)).2)).2)) (CurT.h ((kDraw ((curBelow (⟨vb10_0, vb10_1, vb10_2⟩ : CurT) (3 : Int)).2)).2)) vr768 (vr1920 ++ ([((kDraw ((curBelow (⟨vb10_0, vb10_1, vb10_2⟩ : CurT) (3 : Int)).2)).1)] : List PickT))))
     none)
    none)
   (k' (.exit 2) (f21S3 vs8 (decide (vs8 < ((curBelow (⟨vb10_0, vb10_1, vb10_2⟩ : CurT) (3 : Int)).1))) vb5_1 (CurT.b ((curBelow (⟨vb10_0, vb10_1, vb10_2⟩ : CurT) (3 : Int)).2)) (CurT.i ((curBelow (⟨vb10_0, vb10_1, vb10_2⟩ : CurT) (3 : Int)).2)) (CurT.h ((curBelow (⟨vb10_0, vb10_1, vb10_2⟩ : CurT) (3 : Int)).2)) vr768 vr1920)))
  none) := by kernel_rfl
theorem f21L1_eq {R : Type} (n : Nat) (k' : Ex → St → Option R) (vb5_1 : Int) (vr768 : List ItemT) : ∀ (m : Nat) (vs8 : Int) (vb10_0 : List Int) (vb10_1 : Int) (vb10_2 : Int) (vr1920 : List PickT), iter (fun st k => ev f21e f21k n (cAt [1,1,1,1,1,0,1,0,0] f21c) st k) m (f21S2 vs8 vb5_1 vb10_0 vb10_1 vb10_2 vr768 vr1920) k' = f21L1 n (fun (xvs8 : Int) (xvs34 : Bool) (xvb10_0 : List Int) (xvb10_1 : Int) (xvb10_2 : Int) (xvr1920 : List PickT) => k' (.exit 2) (f21S3 xvs8 xvs34 vb5_1 xvb10_0 xvb10_1 xvb10_2 vr768 xvr1920)) vb5_1 vr768 m vs8 vb10_0 vb10_1 vb10_2 vr1920 := by
  intro m; induction m with
  | zero => intros; rfl
  | succ m ih =>
    intro vs8 vb10_0 vb10_1 vb10_2 vr1920
    simp only [iter]
    rw [f21L1_b]
    simp only [ih, f21L1]

noncomputable def f21K1 {R : Type} (n : Nat) (k' : Ex → St → Option R) : Ex → St → Option R := (blockK 2 (seqK f21e f21k n (cAt [1,1,1,1,1,1] f21c) k'))
theorem f21K1_x0 {R : Type} (n : Nat) (k : List Dt → Option R) (a0 : List Int) (vb5_1 : Int) (vr768 : List ItemT) (xvs8 : Int) (xvs34 : Bool) (xvb10_0 : List Int) (xvb10_1 : Int) (xvb10_2 : Int) (xvr1920 : List PickT) : f21K1 n (exitK f21e [.kp] [false, false] true [.cell 2 43, .tmp 3] [43, 44] [.d (.sl (.i .u8)) a0] k) (.exit 2) (f21S3 xvs8 xvs34 vb5_1 xvb10_0 xvb10_1 xvb10_2 vr768 xvr1920) =
    (k [.d .store (⟨vr768, vb5_1⟩ : StoreT), .d (.sl .pick) xvr1920]) := by kernel_rfl

noncomputable def f21K0 {R : Type} (n : Nat) (k' : Ex → St → Option R) : Ex → St → Option R := (blockK 0 (seqK f21e f21k n (cAt [1,1,1,1] f21c) k'))
theorem f21K0_x0 {R : Type} (n : Nat) (k : List Dt → Option R) (a0 : List Int) (vb5_1 : Int) (xvs6 : Int) (xvs17 : Bool) (xvb10_0 : List Int) (xvb10_1 : Int) (xvb10_2 : Int) (xvr768 : List ItemT) : f21K0 n (exitK f21e [.kp] [false, false] true [.cell 2 43, .tmp 3] [43, 44] [.d (.sl (.i .u8)) a0] k) (.exit 0) (f21S1 xvs6 xvs17 vb5_1 xvb10_0 xvb10_1 xvb10_2 xvr768) =
    (f21L1 n (fun (xvs8 : Int) (xvs34 : Bool) (xvb10_0 : List Int) (xvb10_1 : Int) (xvb10_2 : Int) (xvr1920 : List PickT) =>
  (k [.d .store (⟨xvr768, vb5_1⟩ : StoreT), .d (.sl .pick) xvr1920])) vb5_1 xvr768 n (0 : Int) xvb10_0 xvb10_1 xvb10_2 ([] : List PickT)) := by
  refine Eq.trans (b := (iter (fun st k => ev f21e f21k n (cAt [1,1,1,1,1,0,1,0,0] f21c) st k) n (f21S2 (0 : Int) vb5_1 xvb10_0 xvb10_1 xvb10_2 xvr768 ([] : List PickT)) (f21K1 n (exitK f21e [.kp] [false, false] true [.cell 2 43, .tmp 3] [43, 44] [.d (.sl (.i .u8)) a0] k)))) (by kernel_rfl) ?_
  simp only [f21L1_eq, f21K1_x0]

theorem f21_run {R : Type} (n : Nat) (k : List Dt → Option R) (a0 : List Int) : evFn f21e f21k n f21c [.kp] [false, false] true [.cell 2 43, .tmp 3] [43, 44] [.d (.sl (.i .u8)) a0] k =
    (cond (gCode a0)
  (cond (gCur (curNew a0))
   (f21L0 n (fun (xvs6 : Int) (xvs17 : Bool) (xvb10_0 : List Int) (xvb10_1 : Int) (xvb10_2 : Int) (xvr768 : List ItemT) =>
    (f21L1 n (fun (xvs8 : Int) (xvs34 : Bool) (xvb10_0 : List Int) (xvb10_1 : Int) (xvb10_2 : Int) (xvr1920 : List PickT) =>
     (k [.d .store (⟨xvr768, (StoreT.next ((sDraw (curNew a0)).1))⟩ : StoreT), .d (.sl .pick) xvr1920])) (StoreT.next ((sDraw (curNew a0)).1)) xvr768 n (0 : Int) xvb10_0 xvb10_1 xvb10_2 ([] : List PickT))) (StoreT.next ((sDraw (curNew a0)).1)) n (0 : Int) (CurT.b ((sDraw (curNew a0)).2)) (CurT.i ((sDraw (curNew a0)).2)) (CurT.h ((sDraw (curNew a0)).2)) (StoreT.items ((sDraw (curNew a0)).1)))
   none)
  none) := by
  refine Eq.trans (b := (cond (gCode a0)
  (cond (gCur (curNew a0))
   (iter (fun st k => ev f21e f21k n (cAt [1,1,1,0,1,0,0] f21c) st k) n (f21S0 (0 : Int) (StoreT.next ((sDraw (curNew a0)).1)) (CurT.b ((sDraw (curNew a0)).2)) (CurT.i ((sDraw (curNew a0)).2)) (CurT.h ((sDraw (curNew a0)).2)) (StoreT.items ((sDraw (curNew a0)).1))) (f21K0 n (exitK f21e [.kp] [false, false] true [.cell 2 43, .tmp 3] [43, 44] [.d (.sl (.i .u8)) a0] k)))
   none)
  none)) (by kernel_rfl) ?_
  simp only [f21L0_eq, f21K0_x0, f21L1_eq, f21K1_x0]
def f21_P (a0 : List Int) (o : StoreT × List PickT) : Prop := (fun _ o => sm_store o.1 = true ∧ smL sm_pick o.2 = true) a0 o ∧ ∃ n : Nat, ∀ {R : Type} (k : List Dt → Option R), evFn f21e f21k n f21c [.kp] [false, false] true [.cell 2 43, .tmp 3] [43, 44] [.d (.sl (.i .u8)) a0] k = k [.d .store o.1, .d (.sl .pick) o.2]
theorem f21_ex (a0 : List Int) (hg : gCode a0 = true) : ∃ o : StoreT × List PickT, (fun _ o => sm_store o.1 = true ∧ smL sm_pick o.2 = true) a0 o ∧ ∃ n : Nat, ∀ {R : Type} (k : List Dt → Option R), evFn f21e f21k n f21c [.kp] [false, false] true [.cell 2 43, .tmp 3] [43, 44] [.d (.sl (.i .u8)) a0] k = k [.d .store o.1, .d (.sl .pick) o.2] := by
  have key0 : ∀ (nx : Int) (d m j : Nat) (its : List ItemT) (c : CurT), j + d = its.length → d < m → its.length ≤ 7 → smL sm_item its = true → gCur c = true →
      ∃ o : List ItemT × CurT, (smL sm_item o.1 = true ∧ gCur o.2 = true) ∧ ∀ {R : Type} (X : Int → Bool → (List Int) → Int → Int → (List ItemT) → Option R) (Z : List ItemT → CurT → Option R), (∀ i b c1 c2 c3 l, X i b c1 c2 c3 l = Z l ⟨c1, c2, c3⟩) → f21L0 10 X nx m (j : Int) c.b c.i c.h its = Z o.1 o.2 := by
    intro nx d
    induction d with
    | zero =>
      intro m j its c hj hm hl hs hc
      obtain ⟨m, rfl⟩ : ∃ m', m = m' + 1 := ⟨m - 1, by omega⟩
      refine ⟨(its, c), ⟨hs, hc⟩, fun {R} X Z hX => ?_⟩
      simp only [f21L0, decide_eq_false (show ¬ ((j : Int) < (its.length : Int)) by omega), cond_false, hX, eta_cur]
    | succ d ih =>
      intro m j its c hj hm hl hs hc
      obtain ⟨m, rfl⟩ : ∃ m', m = m' + 1 := ⟨m - 1, by omega⟩
      obtain ⟨h1, h0, hw, ht⟩ := idx (show j < its.length by omega) (by omega)
      have g1 := curOnce_ok c 2 hc
      cases e : (curOnce c 2).1
      · obtain ⟨o, ho, hh⟩ := ih m (j + 1) its (curOnce c 2).2 (by omega) (by omega) hl hs g1
        exact ⟨o, ho, fun {R} X Z hX => by
          simp only [f21L0, eta_cur, h1, hw, hc, e, cond_true, cond_false]
          exact hh X Z hX⟩
      · obtain ⟨hn, g2⟩ := kNotes_ok _ g1
        have hv : smL sm_item (f21v0 its (j : Int) c.b c.i c.h) = true := by
          unfold f21v0
          exact items_set hs (notes_put (item_at hs _) hn) _
        have hvl : (f21v0 its (j : Int) c.b c.i c.h).length = its.length := by unfold f21v0; rw [List.length_set]
        obtain ⟨o, ho, hh⟩ := ih m (j + 1) (f21v0 its (j : Int) c.b c.i c.h) (kNotes (curOnce c 2).2).2 (by omega) (by omega) (by omega) hv g2
        exact ⟨o, ho, fun {R} X Z hX => by
          simp only [f21L0, eta_cur, h1, h0, hw, hc, g1, e, Bool.and_self, cond_true]
          exact hh X Z hX⟩
  have key1 : ∀ (nx : Int) (its : List ItemT) (d m : Nat) (i : Int) (ps : List PickT) (c : CurT), 0 ≤ i → 3 ≤ i + d → i ≤ 3 → d < m → smL sm_pick ps = true → (ps.length : Int) ≤ i → gCur c = true →
      ∃ o : List PickT × CurT, (smL sm_pick o.1 = true ∧ gCur o.2 = true) ∧ ∀ {R : Type} (X : Int → Bool → (List Int) → Int → Int → (List PickT) → Option R) (Z : List PickT → CurT → Option R), (∀ i b c1 c2 c3 l, X i b c1 c2 c3 l = Z l ⟨c1, c2, c3⟩) → f21L1 10 X nx its m i c.b c.i c.h ps = Z o.1 o.2 := by
    intro nx its d
    induction d with
    | zero =>
      intro m i ps c h0 hi hi2 hm hs hl hc
      obtain ⟨m, rfl⟩ : ∃ m', m = m' + 1 := ⟨m - 1, by omega⟩
      obtain ⟨b0, b1, g1⟩ := curBelow_ok c 3 hc
      have b1 := b1 (by omega)
      refine ⟨(ps, (curBelow c 3).2), ⟨hs, g1⟩, fun {R} X Z hX => ?_⟩
      simp only [f21L1, eta_cur, hc, decide_eq_false (show ¬ i < (curBelow c 3).1 by omega), cond_true, cond_false, hX]
    | succ d ih =>
      intro m i ps c h0 hi hi2 hm hs hl hc
      obtain ⟨m, rfl⟩ : ∃ m', m = m' + 1 := ⟨m - 1, by omega⟩
      obtain ⟨b0, b1, g1⟩ := curBelow_ok c 3 hc
      have b1 := b1 (by omega)
      cases hd : decide (i < (curBelow c 3).1)
      · refine ⟨(ps, (curBelow c 3).2), ⟨hs, g1⟩, fun {R} X Z hX => ?_⟩
        simp only [f21L1, eta_cur, hc, hd, cond_true, cond_false, hX]
      have hlt := of_decide_eq_true hd
      have hw : IntKind.wrap .i64 (i + 1) = i + 1 := wrap_id (by omega) (by omega)
      obtain ⟨hx, g2⟩ := kDraw_ok _ g1
      have hb : Nat.ble (ps.length + 1) LIM = true := ble_lim (by omega)
      obtain ⟨o1, ho1, hh1⟩ := ih m (i + 1) (ps ++ [(kDraw (curBelow c 3).2).1]) (kDraw (curBelow c 3).2).2 (by omega) (by omega) (by omega) (by omega) (smL_snoc hs hx (by omega)) (by simp only [List.length_append, List.length_cons, List.length_nil]; omega) g2
      exact ⟨o1, ho1, fun {R} X Z hX => by
        simp only [f21L1, eta_cur, hc, hd, g1, hb, hw, cond_true, cond_false]
        exact hh1 X Z hX⟩
  have g0 := curNew_ok a0 hg
  obtain ⟨hs, hl, g1⟩ := sDraw_ok _ g0
  obtain ⟨hi0, hnx⟩ := store_parts hs
  obtain ⟨o1, ⟨s1, c1⟩, hh1⟩ := key0 (sDraw (curNew a0)).1.next (sDraw (curNew a0)).1.items.length 10 0 (sDraw (curNew a0)).1.items (sDraw (curNew a0)).2 (by omega) (by omega) hl hi0 g1
  obtain ⟨o2, ⟨s2, c2⟩, hh2⟩ := key1 (sDraw (curNew a0)).1.next o1.1 3 10 0 [] o1.2 (by omega) (by omega) (by omega) (by omega) rfl (by decide) c1
  refine ⟨(⟨o1.1, (sDraw (curNew a0)).1.next⟩, o2.1), ⟨store_mk s1 hnx, s2⟩, 10, fun {R} k => ?_⟩
  rw [f21_run]
  simp only [hg, g0, cond_true]
  refine Eq.trans (hh1 _ (fun l c => f21L1 10 (fun _ _ _ _ _ ps => k [.d .store ⟨l, (sDraw (curNew a0)).1.next⟩, .d (.sl .pick) ps]) (sDraw (curNew a0)).1.next l 10 0 c.b c.i c.h []) (fun _ _ _ _ _ _ => rfl)) ?_
  exact hh2 _ (fun ps _ => k [.d .store ⟨o1.1, (sDraw (curNew a0)).1.next⟩, .d (.sl .pick) ps]) (fun _ _ _ _ _ _ => rfl)

theorem f21_ne (a0 : List Int) : Nonempty {o : StoreT × List PickT // gCode a0 = true → f21_P a0 o} := by
  by_cases hg : gCode a0 = true
  · obtain ⟨o, ho⟩ := f21_ex a0 hg
    exact ⟨⟨o, fun _ => ho⟩⟩
  · exact ⟨⟨((zero .store), []), fun h => absurd h hg⟩⟩
noncomputable def dChosen (a0 : List Int) : StoreT × List PickT := (Classical.choice (f21_ne a0)).val
theorem f21_sp (a0 : List Int) (hg : gCode a0 = true) : f21_P a0 (dChosen a0) := (Classical.choice (f21_ne a0)).property hg
theorem dChosen_ok (a0 : List Int) (hg : gCode a0 = true) : (fun _ o => sm_store o.1 = true ∧ smL sm_pick o.2 = true) a0 (dChosen a0) := (f21_sp a0 hg).1
theorem f21_spec (a0 : List Int) (hg : gCode a0 = true) : ∃ keep rounds, ∀ {R : Type} (k : List Dt → Option R), evFn f21e keep rounds f21c [.kp] [false, false] true [.cell 2 43, .tmp 3] [43, 44] [.d (.sl (.i .u8)) a0] k = k [.d .store ((dChosen a0).1), .d (.sl .pick) ((dChosen a0).2)] := by
  obtain ⟨n, hn⟩ := (f21_sp a0 hg).2
  exact ⟨f21k, n, hn⟩

noncomputable def q21 : List Dt → Option (Bool × List Dt)
  | [.d (.sl (.i .u8)) a0] => some ((gCode a0), [.d .store ((dChosen a0).1), .d (.sl .pick) ((dChosen a0).2)])
  | _ => none
noncomputable def s21 : Gm.Spec := Gm.Spec.of [.kp] [false, false] true q21
theorem good21 : Gm.Good Try.prog (21, s21) := by
  have hl : ∀ x ∈ [(53, s53), (54, s54), (55, s55), (56, s56), (57, s57), (58, s58)], Gm.Good Try.prog x := List.forall_mem_cons.2 ⟨good53, List.forall_mem_cons.2 ⟨good54, List.forall_mem_cons.2 ⟨good55, List.forall_mem_cons.2 ⟨good56, List.forall_mem_cons.2 ⟨good57, List.forall_mem_cons.2 ⟨good58, List.forall_mem_nil _⟩⟩⟩⟩⟩⟩
  refine ⟨⟨spec_ok (tab_ok.env hl) (tab.natl hl) Try.func21 (by kernel_rfl : Try.f21.body = some f21c) [43, 44] (by kernel_rfl) ?_, _, Try.func21, by kernel_rfl, of_decide_eq_true (by kernel_rfl)⟩, Gm.Spec.of_natl _ _ _ _⟩
  intro ds outs h
  unfold q21 at h
  split at h
  · simp only [Option.some.injEq, Prod.mk.injEq] at h; obtain ⟨hg, h⟩ := h; cases h; exact f21_spec _ hg
  · cases h
end Go.Proofs.Ytklmnopgogcbhaa

/- x -/
namespace Go.Proofs.Ytklmnopgogcbhaa
open Go Go.Gm
/-! ### loop.example/g00465/laws.big -/
noncomputable def f20c : Code := (Try.f20.body).getD .skip
def f20k : Nat → Kp := kat [⟨[0], [], [], []⟩, ⟨[2], [], [], []⟩]
noncomputable def f20e : Env := tab.env []
theorem f20_run {R : Type} (n : Nat) (k : List Dt → Option R) (a0 : List Int) : evFn f20e f20k n f20c [.ro] [false] true [.tmp 2] [4] [.d (.sl (.i .u8)) a0] k =
    (k [.d .bool (decide ((a0.length : Int) > (1048576 : Int)))]) := by kernel_rfl
theorem f20_spec (a0 : List Int) : ∃ keep rounds, ∀ {R : Type} (k : List Dt → Option R), evFn f20e keep rounds f20c [.ro] [false] true [.tmp 2] [4] [.d (.sl (.i .u8)) a0] k = k [.d .bool (bigC a0)] := by
  exact ⟨f20k, 0, fun k => f20_run 0 k a0⟩

noncomputable def q20 : List Dt → Option (Bool × List Dt)
  | [.d (.sl (.i .u8)) a0] => some (true, [.d .bool (bigC a0)])
  | _ => none
noncomputable def s20 : Gm.Spec := Gm.Spec.of [.ro] [false] true q20
theorem good20 : Gm.Good Try.prog (20, s20) := by
  have hl : ∀ x ∈ ([] : List (Nat × Gm.Spec)), Gm.Good Try.prog x := fun _ h => by cases h
  refine ⟨⟨spec_ok (tab_ok.env hl) (tab.natl hl) Try.func20 (by kernel_rfl : Try.f20.body = some f20c) [4] (by kernel_rfl) ?_, _, Try.func20, by kernel_rfl, of_decide_eq_true (by kernel_rfl)⟩, Gm.Spec.of_natl _ _ _ _⟩
  intro ds outs h
  unfold q20 at h
  split at h
  · cases h; exact f20_spec _
  · cases h
/-! ### loop.example/g00465/laws.sameTexts -/
noncomputable def f23S0 (y0 : List ByteArray) (y1 : List ByteArray) (y2 : Int) : St := ⟨[(0, .c (.one (.ro .str y0))), (1, .c (.one (.ro .str y1))), (5, .c (.one (.v (.int .i64 y2))))], [], []⟩
noncomputable def f23S1 : St := ⟨[(4, .c (.one (.v (.bool false))))], [], []⟩
noncomputable def f23S2 (y0 : List ByteArray) (y1 : List ByteArray) (y2 : Int) (y3 : Bool) : St := ⟨[(0, .c (.one (.ro .str y0))), (1, .c (.one (.ro .str y1))), (5, .c (.one (.v (.int .i64 y2)))), (14, .c (.one (.v (.bool y3))))], [], []⟩
noncomputable def f23c : Code := (Try.f23.body).getD .skip
def f23k : Nat → Kp := kat [⟨[0, 1], [], [], []⟩, ⟨[0, 1, 10], [], [], []⟩, ⟨[4], [], [], []⟩, ⟨[0, 1, 5], [], [], []⟩, ⟨[0, 1, 5, 14], [], [], []⟩, ⟨[0, 1, 5], [], [], []⟩, ⟨[0, 1, 5, 25], [], [], []⟩, ⟨[4], [], [], []⟩, ⟨[4], [], [], []⟩]
noncomputable def f23e : Env := tab.env []
noncomputable def f23L0 {R : Type} (n : Nat) (x0 : Option R) (x1 : Int → Bool → Option R) (vs0 : List ByteArray) (vs1 : List ByteArray) : Nat → Int → Option R
  | 0, _ => none
  | m + 1, vs5 =>
    (cond (decide (vs5 < (vs0.length : Int)))
   (cond ((decide ((0 : Int) ≤ vs5)) && (decide (vs5 < (vs0.length : Int))))
    (cond ((decide ((0 : Int) ≤ vs5)) && (decide (vs5 < (vs1.length : Int))))
     (cond (!(sEq (atI (t := .str) vs0 (Int.toNat vs5)) (atI (t := .str) vs1 (Int.toNat vs5))))
      (x0)
      (f23L0 n x0 x1 vs0 vs1 m (IntKind.wrap .i64 (vs5 + (1 : Int)))))
     none)
    none)
   (x1 vs5 (decide (vs5 < (vs0.length : Int)))))
theorem f23L0_b {R : Type} (n : Nat) (k' : Ex → St → Option R) (vs0 : List ByteArray) (vs1 : List ByteArray) (vs5 : Int) : ev f23e f23k n (cAt [1,1,0,1,0,0] f23c) (f23S0 vs0 vs1 vs5) k' =
    (cond (decide (vs5 < (vs0.length : Int)))
  (cond ((decide ((0 : Int) ≤ vs5)) && (decide (vs5 < (vs0.length : Int))))
   (cond ((decide ((0 : Int) ≤ vs5)) && (decide (vs5 < (vs1.length : Int))))
    (cond (!(sEq (atI (t := .str) vs0 (Int.toNat vs5)) (atI (t := .str) vs1 (Int.toNat vs5))))
     (k' .ret f23S1)
     (k' .normal (f23S0 vs0 vs1 (IntKind.wrap .i64 (vs5 + (1 : Int))))))
    none)
   none)
  (k' (.exit 0) (f23S2 vs0 vs1 vs5 (decide (vs5 < (vs0.length : Int)))))) := by kernel_rfl
theorem f23L0_eq {R : Type} (n : Nat) (k' : Ex → St → Option R) (vs0 : List ByteArray) (vs1 : List ByteArray) : ∀ (m : Nat) (vs5 : Int), iter (fun st k => ev f23e f23k n (cAt [1,1,0,1,0,0] f23c) st k) m (f23S0 vs0 vs1 vs5) k' = f23L0 n (k' .ret f23S1) (fun (xvs5 : Int) (xvs14 : Bool) => k' (.exit 0) (f23S2 vs0 vs1 xvs5 xvs14)) vs0 vs1 m vs5 := by
  intro m; induction m with
  | zero => intros; rfl
  | succ m ih =>
    intro vs5
    simp only [iter]
    rw [f23L0_b]
    simp only [ih, f23L0]

noncomputable def f23K0 {R : Type} (n : Nat) (k' : Ex → St → Option R) : Ex → St → Option R := (blockK 0 (seqK f23e f23k n (cAt [1,1,1] f23c) k'))
theorem f23K0_x0 {R : Type} (n : Nat) (k : List Dt → Option R) (a0 : List ByteArray) (a1 : List ByteArray)  : f23K0 n (exitK f23e [.ro, .ro] [false] true [.tmp 4] [4] [.d (.sl .str) a0, .d (.sl .str) a1] k) .ret f23S1 =
    (k [.d .bool false]) := by kernel_rfl
theorem f23K0_x1 {R : Type} (n : Nat) (k : List Dt → Option R) (a0 : List ByteArray) (a1 : List ByteArray) (vs0 : List ByteArray) (vs1 : List ByteArray) (xvs5 : Int) (xvs14 : Bool) : f23K0 n (exitK f23e [.ro, .ro] [false] true [.tmp 4] [4] [.d (.sl .str) a0, .d (.sl .str) a1] k) (.exit 0) (f23S2 vs0 vs1 xvs5 xvs14) =
    (k [.d .bool true]) := by kernel_rfl

theorem f23_run {R : Type} (n : Nat) (k : List Dt → Option R) (a0 : List ByteArray) (a1 : List ByteArray) : evFn f23e f23k n f23c [.ro, .ro] [false] true [.tmp 4] [4] [.d (.sl .str) a0, .d (.sl .str) a1] k =
    (cond ((a0.length : Int) != (a1.length : Int))
  (k [.d .bool false])
  (f23L0 n (k [.d .bool false]) (fun (xvs5 : Int) (xvs14 : Bool) =>
   (k [.d .bool true])) a0 a1 n (0 : Int))) := by
  refine Eq.trans (b := (cond ((a0.length : Int) != (a1.length : Int))
  (k [.d .bool false])
  (iter (fun st k => ev f23e f23k n (cAt [1,1,0,1,0,0] f23c) st k) n (f23S0 a0 a1 (0 : Int)) (f23K0 n (exitK f23e [.ro, .ro] [false] true [.tmp 4] [4] [.d (.sl .str) a0, .d (.sl .str) a1] k))))) (by kernel_rfl) ?_
  simp only [f23L0_eq, f23K0_x0, f23K0_x1]
theorem f23_spec (a0 : List ByteArray) (a1 : List ByteArray) (hg : gSame gLenW a0 a1 = true) : ∃ keep rounds, ∀ {R : Type} (k : List Dt → Option R), evFn f23e keep rounds f23c [.ro, .ro] [false] true [.tmp 4] [4] [.d (.sl .str) a0, .d (.sl .str) a1] k = k [.d .bool ((fun (_ _ : List ByteArray) => true) a0 a1)] := by
  obtain ⟨hl, rfl⟩ := gSame_iff.1 hg
  have hl := gLenW_le hl
  refine ⟨f23k, a0.length + 1, fun {R} k => ?_⟩
  rw [f23_run, bne_self_eq_false]
  show _ = k [.d .bool true]
  have key : ∀ (X : Option R) (Y : Int → Bool → Option R), (∀ i b, Y i b = k [.d .bool true]) → ∀ d j m, j + d = a0.length → d < m → f23L0 (a0.length + 1) X Y a0 a0 m (j : Int) = k [.d .bool true] := by
    intro X Y hY d
    induction d with
    | zero =>
      intro j m hj hm
      obtain ⟨m, rfl⟩ : ∃ m', m = m' + 1 := ⟨m - 1, by omega⟩
      simp only [f23L0, decide_eq_false (show ¬ ((j : Int) < (a0.length : Int)) by omega), cond_false, hY]
    | succ d ih =>
      intro j m hj hm
      obtain ⟨m, rfl⟩ : ∃ m', m = m' + 1 := ⟨m - 1, by omega⟩
      obtain ⟨h1, h0, hw, ht⟩ := idx (show j < a0.length by omega) (by omega)
      simp only [f23L0, h1, h0, hw, ht, sEq_self, bab_self, beq_self_eq_true, Bool.and_self, Bool.not_true, cond_true, cond_false]
      exact ih (j + 1) m (by omega) (by omega)
  exact key _ _ (fun _ _ => rfl) a0.length 0 (a0.length + 1) (by omega) (by omega)

noncomputable def q23 : List Dt → Option (Bool × List Dt)
  | [.d (.sl .str) a0, .d (.sl .str) a1] => some (((gSame (gLenW (α := ByteArray))) a0 a1), [.d .bool ((fun (_ _ : List ByteArray) => true) a0 a1)])
  | _ => none
noncomputable def s23 : Gm.Spec := Gm.Spec.of [.ro, .ro] [false] true q23
theorem good23 : Gm.Good Try.prog (23, s23) := by
  have hl : ∀ x ∈ ([] : List (Nat × Gm.Spec)), Gm.Good Try.prog x := fun _ h => by cases h
  refine ⟨⟨spec_ok (tab_ok.env hl) (tab.natl hl) Try.func23 (by kernel_rfl : Try.f23.body = some f23c) [4] (by kernel_rfl) ?_, _, Try.func23, by kernel_rfl, of_decide_eq_true (by kernel_rfl)⟩, Gm.Spec.of_natl _ _ _ _⟩
  intro ds outs h
  unfold q23 at h
  split at h
  · simp only [Option.some.injEq, Prod.mk.injEq] at h; obtain ⟨hg, h⟩ := h; cases h; exact f23_spec _ _ hg
  · cases h
/-! ### loop.example/g00465/laws.withinTexts -/
noncomputable def f25S0 (y0 : List ByteArray) (y1 : ByteArray) (y2 : Int) : St := ⟨[(0, .c (.one (.ro .str y0))), (1, .c (.one (.v (.string y1)))), (5, .c (.one (.v (.int .i64 y2))))], [], []⟩
noncomputable def f25S1 : St := ⟨[(4, .c (.one (.v (.bool true))))], [], []⟩
noncomputable def f25S2 (y0 : List ByteArray) (y1 : ByteArray) (y2 : Int) (y3 : Bool) : St := ⟨[(0, .c (.one (.ro .str y0))), (1, .c (.one (.v (.string y1)))), (5, .c (.one (.v (.int .i64 y2)))), (9, .c (.one (.v (.bool y3))))], [], []⟩
noncomputable def f25c : Code := (Try.f25.body).getD .skip
def f25k : Nat → Kp := kat [⟨[0, 1], [], [], []⟩, ⟨[0, 1, 5], [], [], []⟩, ⟨[0, 1, 5, 9], [], [], []⟩, ⟨[0, 1, 5], [], [], []⟩, ⟨[0, 1, 5, 17], [], [], []⟩, ⟨[4], [], [], []⟩, ⟨[4], [], [], []⟩]
noncomputable def f25e : Env := tab.env []
noncomputable def f25L0 {R : Type} (n : Nat) (x0 : Option R) (x1 : Int → Bool → Option R) (vs0 : List ByteArray) (vs1 : ByteArray) : Nat → Int → Option R
  | 0, _ => none
  | m + 1, vs5 =>
    (cond (decide (vs5 < (vs0.length : Int)))
   (cond ((decide ((0 : Int) ≤ vs5)) && (decide (vs5 < (vs0.length : Int))))
    (cond (sEq (atI (t := .str) vs0 (Int.toNat vs5)) vs1)
     (x0)
     (f25L0 n x0 x1 vs0 vs1 m (IntKind.wrap .i64 (vs5 + (1 : Int)))))
    none)
   (x1 vs5 (decide (vs5 < (vs0.length : Int)))))
theorem f25L0_b {R : Type} (n : Nat) (k' : Ex → St → Option R) (vs0 : List ByteArray) (vs1 : ByteArray) (vs5 : Int) : ev f25e f25k n (cAt [1,0,1,0,0] f25c) (f25S0 vs0 vs1 vs5) k' =
    (cond (decide (vs5 < (vs0.length : Int)))
  (cond ((decide ((0 : Int) ≤ vs5)) && (decide (vs5 < (vs0.length : Int))))
   (cond (sEq (atI (t := .str) vs0 (Int.toNat vs5)) vs1)
    (k' .ret f25S1)
    (k' .normal (f25S0 vs0 vs1 (IntKind.wrap .i64 (vs5 + (1 : Int))))))
   none)
  (k' (.exit 0) (f25S2 vs0 vs1 vs5 (decide (vs5 < (vs0.length : Int)))))) := by kernel_rfl
theorem f25L0_eq {R : Type} (n : Nat) (k' : Ex → St → Option R) (vs0 : List ByteArray) (vs1 : ByteArray) : ∀ (m : Nat) (vs5 : Int), iter (fun st k => ev f25e f25k n (cAt [1,0,1,0,0] f25c) st k) m (f25S0 vs0 vs1 vs5) k' = f25L0 n (k' .ret f25S1) (fun (xvs5 : Int) (xvs9 : Bool) => k' (.exit 0) (f25S2 vs0 vs1 xvs5 xvs9)) vs0 vs1 m vs5 := by
  intro m; induction m with
  | zero => intros; rfl
  | succ m ih =>
    intro vs5
    simp only [iter]
    rw [f25L0_b]
    simp only [ih, f25L0]

noncomputable def f25K0 {R : Type} (n : Nat) (k' : Ex → St → Option R) : Ex → St → Option R := (blockK 0 (seqK f25e f25k n (cAt [1,1] f25c) k'))
theorem f25K0_x0 {R : Type} (n : Nat) (k : List Dt → Option R) (a0 : List ByteArray) (a1 : ByteArray)  : f25K0 n (exitK f25e [.ro, .ro] [false] true [.tmp 4] [4] [.d (.sl .str) a0, .d .str a1] k) .ret f25S1 =
    (k [.d .bool true]) := by kernel_rfl
theorem f25K0_x1 {R : Type} (n : Nat) (k : List Dt → Option R) (a0 : List ByteArray) (a1 : ByteArray) (vs0 : List ByteArray) (vs1 : ByteArray) (xvs5 : Int) (xvs9 : Bool) : f25K0 n (exitK f25e [.ro, .ro] [false] true [.tmp 4] [4] [.d (.sl .str) a0, .d .str a1] k) (.exit 0) (f25S2 vs0 vs1 xvs5 xvs9) =
    (k [.d .bool false]) := by kernel_rfl

theorem f25_run {R : Type} (n : Nat) (k : List Dt → Option R) (a0 : List ByteArray) (a1 : ByteArray) : evFn f25e f25k n f25c [.ro, .ro] [false] true [.tmp 4] [4] [.d (.sl .str) a0, .d .str a1] k =
    (f25L0 n (k [.d .bool true]) (fun (xvs5 : Int) (xvs9 : Bool) =>
  (k [.d .bool false])) a0 a1 n (0 : Int)) := by
  refine Eq.trans (b := (iter (fun st k => ev f25e f25k n (cAt [1,0,1,0,0] f25c) st k) n (f25S0 a0 a1 (0 : Int)) (f25K0 n (exitK f25e [.ro, .ro] [false] true [.tmp 4] [4] [.d (.sl .str) a0, .d .str a1] k)))) (by kernel_rfl) ?_
  simp only [f25L0_eq, f25K0_x0, f25K0_x1]
theorem f25_spec (a0 : List ByteArray) (a1 : ByteArray) (hg : gLenW a0 = true) : ∃ keep rounds, ∀ {R : Type} (k : List Dt → Option R), evFn f25e keep rounds f25c [.ro, .ro] [false] true [.tmp 4] [4] [.d (.sl .str) a0, .d .str a1] k = k [.d .bool (isIn a0 a1)] := by
  have hl := gLenW_le hg
  refine ⟨f25k, a0.length + 1, fun k => ?_⟩
  rw [f25_run]
  refine Eq.trans (loop_find (n := a0.length) (F := fun m i => f25L0 (a0.length + 1) _ _ a0 a1 m i) (p := fun j => sEq (atI (t := .str) a0 j) a1) (hit := fun i => k [.d .bool true]) (miss := k [.d .bool false])
    (fun m j hj => ?_) (fun m => by simp only [f25L0, idxE, cond_false]) a0.length 0 (a0.length + 1) (by omega) (by omega)) ?_
  · obtain ⟨h1, h0, hw, ht⟩ := idx hj (by omega)
    simp only [f25L0, h1, h0, hw, ht, Bool.and_self, cond_true]
  · show _ = k [.d .bool (isIn a0 a1)]
    unfold isIn
    rw [← firstN_any (t := .str)]
    cases firstN (fun j => sEq (atI (t := .str) a0 j) a1) 0 a0.length <;> rfl

noncomputable def q25 : List Dt → Option (Bool × List Dt)
  | [.d (.sl .str) a0, .d .str a1] => some (((fun (x : List ByteArray) (_ : ByteArray) => gLenW x) a0 a1), [.d .bool (isIn a0 a1)])
  | _ => none
noncomputable def s25 : Gm.Spec := Gm.Spec.of [.ro, .ro] [false] true q25
theorem good25 : Gm.Good Try.prog (25, s25) := by
  have hl : ∀ x ∈ ([] : List (Nat × Gm.Spec)), Gm.Good Try.prog x := fun _ h => by cases h
  refine ⟨⟨spec_ok (tab_ok.env hl) (tab.natl hl) Try.func25 (by kernel_rfl : Try.f25.body = some f25c) [4] (by kernel_rfl) ?_, _, Try.func25, by kernel_rfl, of_decide_eq_true (by kernel_rfl)⟩, Gm.Spec.of_natl _ _ _ _⟩
  intro ds outs h
  unfold q25 at h
  split at h
  · simp only [Option.some.injEq, Prod.mk.injEq] at h; obtain ⟨hg, h⟩ := h; cases h; exact f25_spec _ _ hg
  · cases h
end Go.Proofs.Ytklmnopgogcbhaa

/- x -/
namespace Go.Proofs.Ytklmnopgogcbhaa
open Go Go.Gm
/-! ### loop.example/g00465/spec.l25Vals -/
noncomputable def f39S0 (y0 : List ByteArray) (y1 : Int) : St := ⟨[(0, .c (.one (.ro .str y0))), (3, .c (.one (.v (.int .i64 y1))))], [], []⟩
noncomputable def f39S1 : St := ⟨[(2, .c (.one (.v (.bool false))))], [], []⟩
noncomputable def f39S2 (y0 : List ByteArray) (y1 : Int) (y2 : Bool) : St := ⟨[(0, .c (.one (.ro .str y0))), (3, .c (.one (.v (.int .i64 y1)))), (7, .c (.one (.v (.bool y2))))], [], []⟩
noncomputable def f39c : Code := (Try.f39.body).getD .skip
def f39k : Nat → Kp := kat [⟨[0], [], [], []⟩, ⟨[0, 3], [], [], []⟩, ⟨[0, 3, 7], [], [], []⟩, ⟨[0, 3], [], [], []⟩, ⟨[0, 3, 31], [], [], []⟩, ⟨[2], [], [], []⟩, ⟨[2], [], [], []⟩]
noncomputable def f39e : Env := tab.env [(38, s38)]
noncomputable def f39L0 {R : Type} (n : Nat) (x0 : Option R) (x1 : Int → Bool → Option R) (vs0 : List ByteArray) : Nat → Int → Option R
  | 0, _ => none
  | m + 1, vs3 =>
    (cond (decide (vs3 < (vs0.length : Int)))
   (cond ((decide ((0 : Int) ≤ vs3)) && (decide (vs3 < (vs0.length : Int))))
    (cond (okStr (atI (t := .str) vs0 (Int.toNat vs3)))
     (cond (!(plainOk (atI (t := .str) vs0 (Int.toNat vs3))))
      (x0)
      (cond (decide (vs3 > (0 : Int)))
       (cond ((decide ((0 : Int) ≤ (IntKind.wrap .i64 (vs3 - (1 : Int))))) && (decide ((IntKind.wrap .i64 (vs3 - (1 : Int))) < (vs0.length : Int))))
        (cond ((decide ((0 : Int) ≤ vs3)) && (decide (vs3 < (vs0.length : Int))))
         (cond (!(sLt (atI (t := .str) vs0 (Int.toNat (IntKind.wrap .i64 (vs3 - (1 : Int))))) (atI (t := .str) vs0 (Int.toNat vs3))))
          (x0)
          (f39L0 n x0 x1 vs0 m (IntKind.wrap .i64 (vs3 + (1 : Int)))))
         none)
        none)
       (f39L0 n x0 x1 vs0 m (IntKind.wrap .i64 (vs3 + (1 : Int))))))
     none)
    none)
   (x1 vs3 (decide (vs3 < (vs0.length : Int)))))
theorem f39L0_b {R : Type} (n : Nat) (k' : Ex → St → Option R) (vs0 : List ByteArray) (vs3 : Int) : ev f39e f39k n (cAt [1,0,1,0,0] f39c) (f39S0 vs0 vs3) k' =
    (cond (decide (vs3 < (vs0.length : Int)))
  (cond ((decide ((0 : Int) ≤ vs3)) && (decide (vs3 < (vs0.length : Int))))
   (cond (okStr (atI (t := .str) vs0 (Int.toNat vs3)))
    (cond (!(plainOk (atI (t := .str) vs0 (Int.toNat vs3))))
     (k' .ret f39S1)
     (cond (decide (vs3 > (0 : Int)))
      (cond ((decide ((0 : Int) ≤ (IntKind.wrap .i64 (vs3 - (1 : Int))))) && (decide ((IntKind.wrap .i64 (vs3 - (1 : Int))) < (vs0.length : Int))))
       (cond ((decide ((0 : Int) ≤ vs3)) && (decide (vs3 < (vs0.length : Int))))
        (cond (!(sLt (atI (t := .str) vs0 (Int.toNat (IntKind.wrap .i64 (vs3 - (1 : Int))))) (atI (t := .str) vs0 (Int.toNat vs3))))
         (k' .ret f39S1)
         (k' .normal (f39S0 vs0 (IntKind.wrap .i64 (vs3 + (1 : Int))))))
        none)
       none)
      (k' .normal (f39S0 vs0 (IntKind.wrap .i64 (vs3 + (1 : Int)))))))
    none)
   none)
  (k' (.exit 0) (f39S2 vs0 vs3 (decide (vs3 < (vs0.length : Int)))))) := by kernel_rfl
theorem f39L0_eq {R : Type} (n : Nat) (k' : Ex → St → Option R) (vs0 : List ByteArray) : ∀ (m : Nat) (vs3 : Int), iter (fun st k => ev f39e f39k n (cAt [1,0,1,0,0] f39c) st k) m (f39S0 vs0 vs3) k' = f39L0 n (k' .ret f39S1) (fun (xvs3 : Int) (xvs7 : Bool) => k' (.exit 0) (f39S2 vs0 xvs3 xvs7)) vs0 m vs3 := by
  intro m; induction m with
  | zero => intros; rfl
  | succ m ih =>
    intro vs3
    simp only [iter]
    rw [f39L0_b]
    simp only [ih, f39L0]

noncomputable def f39K0 {R : Type} (n : Nat) (k' : Ex → St → Option R) : Ex → St → Option R := (blockK 0 (seqK f39e f39k n (cAt [1,1] f39c) k'))
theorem f39K0_x0 {R : Type} (n : Nat) (k : List Dt → Option R) (a0 : List ByteArray)  : f39K0 n (exitK f39e [.ro] [false] true [.tmp 2] [4] [.d (.sl .str) a0] k) .ret f39S1 =
    (k [.d .bool false]) := by kernel_rfl
theorem f39K0_x1 {R : Type} (n : Nat) (k : List Dt → Option R) (a0 : List ByteArray) (vs0 : List ByteArray) (xvs3 : Int) (xvs7 : Bool) : f39K0 n (exitK f39e [.ro] [false] true [.tmp 2] [4] [.d (.sl .str) a0] k) (.exit 0) (f39S2 vs0 xvs3 xvs7) =
    (k [.d .bool true]) := by kernel_rfl

theorem f39_run {R : Type} (n : Nat) (k : List Dt → Option R) (a0 : List ByteArray) : evFn f39e f39k n f39c [.ro] [false] true [.tmp 2] [4] [.d (.sl .str) a0] k =
    (f39L0 n (k [.d .bool false]) (fun (xvs3 : Int) (xvs7 : Bool) =>
  (k [.d .bool true])) a0 n (0 : Int)) := by
  refine Eq.trans (b := (iter (fun st k => ev f39e f39k n (cAt [1,0,1,0,0] f39c) st k) n (f39S0 a0 (0 : Int)) (f39K0 n (exitK f39e [.ro] [false] true [.tmp 2] [4] [.d (.sl .str) a0] k)))) (by kernel_rfl) ?_
  simp only [f39L0_eq, f39K0_x0, f39K0_x1]
theorem f39_spec (a0 : List ByteArray) (hg : okL okStr a0 = true) : ∃ keep rounds, ∀ {R : Type} (k : List Dt → Option R), evFn f39e keep rounds f39c [.ro] [false] true [.tmp 2] [4] [.d (.sl .str) a0] k = k [.d .bool (valsOk a0)] := by
  simp only [okL, Bool.and_eq_true] at hg
  obtain ⟨hl, hs⟩ := hg
  have hl : a0.length ≤ 9223372036854775807 := bleN hl
  refine ⟨f39k, a0.length + 1, fun k => ?_⟩
  rw [f39_run]
  refine Eq.trans (loop_idx (n := a0.length) (F := fun m i => f39L0 (a0.length + 1) _ _ a0 m i) (p := valC a0) (good := _) (bad := k [.d .bool false])
    (fun m j hj => ?_) (fun m => by simp only [f39L0, idxE, cond_false]; rfl) a0.length 0 (a0.length + 1) (by omega) (by omega)) ?_
  · obtain ⟨h1, h0, hw, ht⟩ := idx hj (by omega)
    simp only [f39L0, h1, h0, hw, ht, okStr_at hs hj, Bool.and_self, cond_true]
    unfold valC
    cases plainOk (atI (t := .str) a0 j)
    · rfl
    · by_cases hz : (j : Int) > 0
      · obtain ⟨h2, h3, _, h5⟩ := idx (show j - 1 < a0.length by omega) (by omega)
        simp only [hz, decide_true, cond_true, idxM hj (by omega) (by omega), h2, h3, h5, Bool.and_self]
        cases sLt (atI (t := .str) a0 (j - 1)) (atI (t := .str) a0 j) <;> rfl
      · simp only [hz, decide_false, cond_false]; rfl
  · unfold valsOk
    cases allN (valC a0) 0 a0.length <;> rfl

noncomputable def q39 : List Dt → Option (Bool × List Dt)
  | [.d (.sl .str) a0] => some ((okL okStr a0), [.d .bool (valsOk a0)])
  | _ => none
noncomputable def s39 : Gm.Spec := Gm.Spec.of [.ro] [false] true q39
theorem good39 : Gm.Good Try.prog (39, s39) := by
  have hl : ∀ x ∈ [(38, s38)], Gm.Good Try.prog x := List.forall_mem_cons.2 ⟨good38, List.forall_mem_nil _⟩
  refine ⟨⟨spec_ok (tab_ok.env hl) (tab.natl hl) Try.func39 (by kernel_rfl : Try.f39.body = some f39c) [4] (by kernel_rfl) ?_, _, Try.func39, by kernel_rfl, of_decide_eq_true (by kernel_rfl)⟩, Gm.Spec.of_natl _ _ _ _⟩
  intro ds outs h
  unfold q39 at h
  split at h
  · simp only [Option.some.injEq, Prod.mk.injEq] at h; obtain ⟨hg, h⟩ := h; cases h; exact f39_spec _ hg
  · cases h
/-! ### loop.example/g00465/spec.PickOk -/
noncomputable def f9c : Code := (Try.f9.body).getD .skip
def f9k : Nat → Kp := kat [⟨[1], [], [], []⟩, ⟨[1, 3, 4], [], [], []⟩, ⟨[1, 3, 4, 6], [], [], []⟩, ⟨[2], [], [], []⟩, ⟨[1, 3, 4, 6, 7], [], [], []⟩, ⟨[1, 3, 4, 6, 7], [], [], []⟩, ⟨[1, 3, 4], [], [], []⟩, ⟨[1, 3, 4, 6, 10], [], [], []⟩, ⟨[1, 3, 4, 6, 10], [], [], []⟩, ⟨[1, 3, 4], [], [], []⟩, ⟨[1, 3, 4, 6, 13], [], [], []⟩, ⟨[1, 3, 4, 13], [], [], []⟩, ⟨[2], [], [], []⟩]
noncomputable def f9e : Env := tab.env [(38, s38), (39, s39), (40, s40)]
theorem f9_run {R : Type} (n : Nat) (k : List Dt → Option R) (a0 : PickT) : evFn f9e f9k n f9c [.ro] [false] true [.tmp 2] [4] [.d .pick a0] k =
    (cond ((PickT.op a0) == (1 : Int))
  (cond ((PickT.op a0) == (1 : Int))
   (cond (okStr (PickT.key a0))
    (cond (plainOk (PickT.key a0))
     (cond (okL okStr (PickT.vals a0))
      (cond (valsOk (PickT.vals a0))
       (k [.d .bool (inR ((PickT.vals a0).length : Int) (1 : Int) (1 : Int))])
       (k [.d .bool false]))
      none)
     (k [.d .bool false]))
    none)
   (cond ((PickT.op a0) == (3 : Int))
    (cond ((PickT.op a0) == (3 : Int))
     (cond (okStr (PickT.key a0))
      (cond (plainOk (PickT.key a0))
       (cond (okL okStr (PickT.vals a0))
        (cond (valsOk (PickT.vals a0))
         (k [.d .bool (inR ((PickT.vals a0).length : Int) (1 : Int) (4 : Int))])
         (k [.d .bool false]))
        none)
       (k [.d .bool false]))
      none)
     (cond ((PickT.op a0) == (5 : Int))
      (cond ((PickT.op a0) == (5 : Int))
       (cond (okStr (PickT.key a0))
        (cond (plainOk (PickT.key a0))
         (cond (okL okStr (PickT.vals a0))
          (cond (valsOk (PickT.vals a0))
           (k [.d .bool (inR ((PickT.vals a0).length : Int) (0 : Int) (0 : Int))])
           (k [.d .bool false]))
          none)
         (k [.d .bool false]))
        none)
       (k [.d .bool false]))
      (cond ((PickT.op a0) == (6 : Int))
       (cond (okStr (PickT.key a0))
        (cond (plainOk (PickT.key a0))
         (cond (okL okStr (PickT.vals a0))
          (cond (valsOk (PickT.vals a0))
           (k [.d .bool (inR ((PickT.vals a0).length : Int) (0 : Int) (0 : Int))])
           (k [.d .bool false]))
          none)
         (k [.d .bool false]))
        none)
       (k [.d .bool false]))))
    (cond ((PickT.op a0) == (4 : Int))
     (cond (okStr (PickT.key a0))
      (cond (plainOk (PickT.key a0))
       (cond (okL okStr (PickT.vals a0))
        (cond (valsOk (PickT.vals a0))
         (k [.d .bool (inR ((PickT.vals a0).length : Int) (1 : Int) (4 : Int))])
         (k [.d .bool false]))
        none)
       (k [.d .bool false]))
      none)
     (cond ((PickT.op a0) == (5 : Int))
      (cond ((PickT.op a0) == (5 : Int))
       (cond (okStr (PickT.key a0))
        (cond (plainOk (PickT.key a0))
         (cond (okL okStr (PickT.vals a0))
          (cond (valsOk (PickT.vals a0))
           (k [.d .bool (inR ((PickT.vals a0).length : Int) (0 : Int) (0 : Int))])
           (k [.d .bool false]))
          none)
         (k [.d .bool false]))
        none)
       (k [.d .bool false]))
      (cond ((PickT.op a0) == (6 : Int))
       (cond (okStr (PickT.key a0))
        (cond (plainOk (PickT.key a0))
         (cond (okL okStr (PickT.vals a0))
          (cond (valsOk (PickT.vals a0))
           (k [.d .bool (inR ((PickT.vals a0).length : Int) (0 : Int) (0 : Int))])
           (k [.d .bool false]))
          none)
         (k [.d .bool false]))
        none)
       (k [.d .bool false]))))))
  (cond ((PickT.op a0) == (2 : Int))
   (cond (okStr (PickT.key a0))
    (cond (plainOk (PickT.key a0))
     (cond (okL okStr (PickT.vals a0))
      (cond (valsOk (PickT.vals a0))
       (k [.d .bool (inR ((PickT.vals a0).length : Int) (1 : Int) (1 : Int))])
       (k [.d .bool false]))
      none)
     (k [.d .bool false]))
    none)
   (cond ((PickT.op a0) == (3 : Int))
    (cond ((PickT.op a0) == (3 : Int))
     (cond (okStr (PickT.key a0))
      (cond (plainOk (PickT.key a0))
       (cond (okL okStr (PickT.vals a0))
        (cond (valsOk (PickT.vals a0))
         (k [.d .bool (inR ((PickT.vals a0).length : Int) (1 : Int) (4 : Int))])
         (k [.d .bool false]))
        none)
       (k [.d .bool false]))
      none)
     (cond ((PickT.op a0) == (5 : Int))
      (cond ((PickT.op a0) == (5 : Int))
       (cond (okStr (PickT.key a0))
        (cond (plainOk (PickT.key a0))
         (cond (okL okStr (PickT.vals a0))
          (cond (valsOk (PickT.vals a0))
           (k [.d .bool (inR ((PickT.vals a0).length : Int) (0 : Int) (0 : Int))])
           (k [.d .bool false]))
          none)
         (k [.d .bool false]))
        none)
       (k [.d .bool false]))
      (cond ((PickT.op a0) == (6 : Int))
       (cond (okStr (PickT.key a0))
        (cond (plainOk (PickT.key a0))
         (cond (okL okStr (PickT.vals a0))
          (cond (valsOk (PickT.vals a0))
           (k [.d .bool (inR ((PickT.vals a0).length : Int) (0 : Int) (0 : Int))])
           (k [.d .bool false]))
          none)
         (k [.d .bool false]))
        none)
       (k [.d .bool false]))))
    (cond ((PickT.op a0) == (4 : Int))
     (cond (okStr (PickT.key a0))
      (cond (plainOk (PickT.key a0))
       (cond (okL okStr (PickT.vals a0))
        (cond (valsOk (PickT.vals a0))
         (k [.d .bool (inR ((PickT.vals a0).length : Int) (1 : Int) (4 : Int))])
         (k [.d .bool false]))
        none)
       (k [.d .bool false]))
      none)
     (cond ((PickT.op a0) == (5 : Int))
      (cond ((PickT.op a0) == (5 : Int))
       (cond (okStr (PickT.key a0))
        (cond (plainOk (PickT.key a0))
         (cond (okL okStr (PickT.vals a0))
          (cond (valsOk (PickT.vals a0))
           (k [.d .bool (inR ((PickT.vals a0).length : Int) (0 : Int) (0 : Int))])
           (k [.d .bool false]))
          none)
         (k [.d .bool false]))
        none)
       (k [.d .bool false]))
      (cond ((PickT.op a0) == (6 : Int))
       (cond (okStr (PickT.key a0))
        (cond (plainOk (PickT.key a0))
         (cond (okL okStr (PickT.vals a0))
          (cond (valsOk (PickT.vals a0))
           (k [.d .bool (inR ((PickT.vals a0).length : Int) (0 : Int) (0 : Int))])
           (k [.d .bool false]))
          none)
         (k [.d .bool false]))
        none)
       (k [.d .bool false]))))))) := by kernel_rfl
theorem f9_spec (a0 : PickT) (hg : okPick a0 = true) : ∃ keep rounds, ∀ {R : Type} (k : List Dt → Option R), evFn f9e keep rounds f9c [.ro] [false] true [.tmp 2] [4] [.d .pick a0] k = k [.d .bool (pickOk a0)] := by
  simp only [okPick, Bool.and_eq_true] at hg
  obtain ⟨hk, hv⟩ := hg
  refine ⟨f9k, 0, fun k => ?_⟩
  rw [f9_run, hk, hv]
  simp only [cond_true]
  unfold pickOk
  cases plainOk a0.key <;> cases valsOk a0.vals <;>
    cases h1 : (a0.op == (1 : Int)) <;> cases h2 : (a0.op == (2 : Int)) <;> cases h3 : (a0.op == (3 : Int)) <;> cases h4 : (a0.op == (4 : Int)) <;> cases h5 : (a0.op == (5 : Int)) <;> cases h6 : (a0.op == (6 : Int)) <;>
    first
      | (exfalso; simp only [beq_iff_eq] at h1 h2 h3 h4 h5 h6; omega)
      | (simp only [cond_true, cond_false, Bool.true_and, Bool.false_and, Bool.or_false, Bool.false_or, Bool.true_or, Bool.or_true])
      | rfl

noncomputable def q9 : List Dt → Option (Bool × List Dt)
  | [.d .pick a0] => some ((okPick a0), [.d .bool (pickOk a0)])
  | _ => none
noncomputable def s9 : Gm.Spec := Gm.Spec.of [.ro] [false] true q9
theorem good9 : Gm.Good Try.prog (9, s9) := by
  have hl : ∀ x ∈ [(38, s38), (39, s39), (40, s40)], Gm.Good Try.prog x := List.forall_mem_cons.2 ⟨good38, List.forall_mem_cons.2 ⟨good39, List.forall_mem_cons.2 ⟨good40, List.forall_mem_nil _⟩⟩⟩
  refine ⟨⟨spec_ok (tab_ok.env hl) (tab.natl hl) Try.func9 (by kernel_rfl : Try.f9.body = some f9c) [4] (by kernel_rfl) ?_, _, Try.func9, by kernel_rfl, of_decide_eq_true (by kernel_rfl)⟩, Gm.Spec.of_natl _ _ _ _⟩
  intro ds outs h
  unfold q9 at h
  split at h
  · simp only [Option.some.injEq, Prod.mk.injEq] at h; obtain ⟨hg, h⟩ := h; cases h; exact f9_spec _ hg
  · cases h
/-! ### loop.example/g00465/impl.PickOk -/
noncomputable def f11S0 (y0 : List ByteArray) (y1 : Int) (y2 : Int) (y3 : Int) (y4 : ByteArray) (y5 : List ByteArray) : St := ⟨[(1, .c (.one (.pt 1 0))), (8, .c (.one (.ro .str y0))), (9, .c (.one (.v (.int .i64 y1)))), (10, .c (.one (.v (.int .i64 y2))))], [(1, ⟨.pick, [.v (.int .i64 y3), .v (.string y4), .ro .str y5]⟩)], []⟩
noncomputable def f11S1 : St := ⟨[(2, .c (.one (.v (.bool false))))], [], []⟩
noncomputable def f11S2 (y0 : List ByteArray) (y1 : Int) (y2 : Int) (y3 : Bool) (y4 : Int) (y5 : ByteArray) (y6 : List ByteArray) : St := ⟨[(1, .c (.one (.pt 1 0))), (8, .c (.one (.ro .str y0))), (9, .c (.one (.v (.int .i64 y1)))), (10, .c (.one (.v (.int .i64 y2)))), (11, .c (.one (.v (.bool y3))))], [(1, ⟨.pick, [.v (.int .i64 y4), .v (.string y5), .ro .str y6]⟩)], []⟩
noncomputable def f11c : Code := (Try.f11.body).getD .skip
def f11k : Nat → Kp := kat [⟨[1], [], [], []⟩, ⟨[1, 8, 9, 10], [], [], []⟩, ⟨[1, 8, 9, 10, 11], [], [], []⟩, ⟨[1, 3, 4, 8, 9, 10], [], [], []⟩, ⟨[1, 8, 9, 10, 31], [], [], []⟩, ⟨[2], [], [], []⟩, ⟨[1, 8, 9, 10], [], [], []⟩, ⟨[1, 5, 6], [], [], []⟩, ⟨[1, 5, 6, 34], [], [], []⟩, ⟨[2], [], [], []⟩, ⟨[1, 5, 6, 34, 35], [], [], []⟩, ⟨[1, 5, 6, 34, 35], [], [], []⟩, ⟨[1, 5, 6], [], [], []⟩, ⟨[1, 5, 6, 34, 38], [], [], []⟩, ⟨[1, 5, 6, 34, 38], [], [], []⟩, ⟨[1, 5, 6], [], [], []⟩, ⟨[1, 5, 6, 34, 41], [], [], []⟩, ⟨[1, 5, 6, 41], [], [], []⟩, ⟨[2], [], [], []⟩]
noncomputable def f11e : Env := tab.env [(42, s42), (43, s43)]
noncomputable def f11L0 {R : Type} (n : Nat) (x0 : Option R) (x1 : Int → Bool → Option R) (vs8 : List ByteArray) (vs9 : Int) (vb1_0 : Int) (vb1_1 : ByteArray) (vb1_2 : List ByteArray) : Nat → Int → Option R
  | 0, _ => none
  | m + 1, vs10 =>
    (cond (decide (vs10 < vs9))
   (cond ((decide ((0 : Int) ≤ vs10)) && (decide (vs10 < (vs8.length : Int))))
    (cond (okStr (atI (t := .str) vs8 (Int.toNat vs10)))
     (cond (!(plainOk (atI (t := .str) vs8 (Int.toNat vs10))))
      (x0)
      (cond (decide (vs10 > (0 : Int)))
       (cond ((decide ((0 : Int) ≤ (IntKind.wrap .i64 (vs10 - (1 : Int))))) && (decide ((IntKind.wrap .i64 (vs10 - (1 : Int))) < (vb1_2.length : Int))))
        (cond (!(sLt (atI (t := .str) vb1_2 (Int.toNat (IntKind.wrap .i64 (vs10 - (1 : Int))))) (atI (t := .str) vs8 (Int.toNat vs10))))
         (x0)
         (f11L0 n x0 x1 vs8 vs9 vb1_0 vb1_1 vb1_2 m (IntKind.wrap .i64 (vs10 + (1 : Int)))))
        none)
       (f11L0 n x0 x1 vs8 vs9 vb1_0 vb1_1 vb1_2 m (IntKind.wrap .i64 (vs10 + (1 : Int))))))
     none)
    none)
   (x1 vs10 (decide (vs10 < vs9))))
theorem f11L0_b {R : Type} (n : Nat) (k' : Ex → St → Option R) (vs8 : List ByteArray) (vs9 : Int) (vs10 : Int) (vb1_0 : Int) (vb1_1 : ByteArray) (vb1_2 : List ByteArray) : ev f11e f11k n (cAt [1,0,1,0,0] f11c) (f11S0 vs8 vs9 vs10 vb1_0 vb1_1 vb1_2) k' =
    (cond (decide (vs10 < vs9))
  (cond ((decide ((0 : Int) ≤ vs10)) && (decide (vs10 < (vs8.length : Int))))
   (cond (okStr (atI (t := .str) vs8 (Int.toNat vs10)))
    (cond (!(plainOk (atI (t := .str) vs8 (Int.toNat vs10))))
     (k' .ret f11S1)
     (cond (decide (vs10 > (0 : Int)))
      (cond ((decide ((0 : Int) ≤ (IntKind.wrap .i64 (vs10 - (1 : Int))))) && (decide ((IntKind.wrap .i64 (vs10 - (1 : Int))) < (vb1_2.length : Int))))
       (cond (!(sLt (atI (t := .str) vb1_2 (Int.toNat (IntKind.wrap .i64 (vs10 - (1 : Int))))) (atI (t := .str) vs8 (Int.toNat vs10))))
        (k' .ret f11S1)
        (k' .normal (f11S0 vs8 vs9 (IntKind.wrap .i64 (vs10 + (1 : Int))) vb1_0 vb1_1 vb1_2)))
       none)
      (k' .normal (f11S0 vs8 vs9 (IntKind.wrap .i64 (vs10 + (1 : Int))) vb1_0 vb1_1 vb1_2))))
    none)
   none)
  (k' (.exit 0) (f11S2 vs8 vs9 vs10 (decide (vs10 < vs9)) vb1_0 vb1_1 vb1_2))) := by kernel_rfl
theorem f11L0_eq {R : Type} (n : Nat) (k' : Ex → St → Option R) (vs8 : List ByteArray) (vs9 : Int) (vb1_0 : Int) (vb1_1 : ByteArray) (vb1_2 : List ByteArray) : ∀ (m : Nat) (vs10 : Int), iter (fun st k => ev f11e f11k n (cAt [1,0,1,0,0] f11c) st k) m (f11S0 vs8 vs9 vs10 vb1_0 vb1_1 vb1_2) k' = f11L0 n (k' .ret f11S1) (fun (xvs10 : Int) (xvs11 : Bool) => k' (.exit 0) (f11S2 vs8 vs9 xvs10 xvs11 vb1_0 vb1_1 vb1_2)) vs8 vs9 vb1_0 vb1_1 vb1_2 m vs10 := by
  intro m; induction m with
  | zero => intros; rfl
  | succ m ih =>
    intro vs10
    simp only [iter]
    rw [f11L0_b]
    simp only [ih, f11L0]

noncomputable def f11K0 {R : Type} (n : Nat) (k' : Ex → St → Option R) : Ex → St → Option R := (blockK 0 (seqK f11e f11k n (cAt [1,1] f11c) k'))
theorem f11K0_x0 {R : Type} (n : Nat) (k : List Dt → Option R) (a0 : PickT)  : f11K0 n (exitK f11e [.ro] [false] true [.tmp 2] [4] [.d .pick a0] k) .ret f11S1 =
    (k [.d .bool false]) := by kernel_rfl
theorem f11K0_x1 {R : Type} (n : Nat) (k : List Dt → Option R) (a0 : PickT) (vs8 : List ByteArray) (vs9 : Int) (vb1_0 : Int) (vb1_1 : ByteArray) (vb1_2 : List ByteArray) (xvs10 : Int) (xvs11 : Bool) : f11K0 n (exitK f11e [.ro] [false] true [.tmp 2] [4] [.d .pick a0] k) (.exit 0) (f11S2 vs8 vs9 xvs10 xvs11 vb1_0 vb1_1 vb1_2) =
    (cond (vb1_0 == (1 : Int))
  (cond (vb1_0 == (1 : Int))
   (cond (okStr vb1_1)
    (cond (plainOk vb1_1)
     (k [.d .bool (inR (vb1_2.length : Int) (1 : Int) (1 : Int))])
     (k [.d .bool false]))
    none)
   (cond (vb1_0 == (3 : Int))
    (cond (vb1_0 == (3 : Int))
     (cond (okStr vb1_1)
      (cond (plainOk vb1_1)
       (k [.d .bool (inR (vb1_2.length : Int) (1 : Int) (4 : Int))])
       (k [.d .bool false]))
      none)
     (cond (vb1_0 == (5 : Int))
      (cond (vb1_0 == (5 : Int))
       (cond (okStr vb1_1)
        (cond (plainOk vb1_1)
         (k [.d .bool (inR (vb1_2.length : Int) (0 : Int) (0 : Int))])
         (k [.d .bool false]))
        none)
       (k [.d .bool false]))
      (cond (vb1_0 == (6 : Int))
       (cond (okStr vb1_1)
        (cond (plainOk vb1_1)
         (k [.d .bool (inR (vb1_2.length : Int) (0 : Int) (0 : Int))])
         (k [.d .bool false]))
        none)
       (k [.d .bool false]))))
    (cond (vb1_0 == (4 : Int))
     (cond (okStr vb1_1)
      (cond (plainOk vb1_1)
       (k [.d .bool (inR (vb1_2.length : Int) (1 : Int) (4 : Int))])
       (k [.d .bool false]))
      none)
     (cond (vb1_0 == (5 : Int))
      (cond (vb1_0 == (5 : Int))
       (cond (okStr vb1_1)
        (cond (plainOk vb1_1)
         (k [.d .bool (inR (vb1_2.length : Int) (0 : Int) (0 : Int))])
         (k [.d .bool false]))
        none)
       (k [.d .bool false]))
      (cond (vb1_0 == (6 : Int))
       (cond (okStr vb1_1)
        (cond (plainOk vb1_1)
         (k [.d .bool (inR (vb1_2.length : Int) (0 : Int) (0 : Int))])
         (k [.d .bool false]))
        none)
       (k [.d .bool false]))))))
  (cond (vb1_0 == (2 : Int))
   (cond (okStr vb1_1)
    (cond (plainOk vb1_1)
     (k [.d .bool (inR (vb1_2.length : Int) (1 : Int) (1 : Int))])
     (k [.d .bool false]))
    none)
   (cond (vb1_0 == (3 : Int))
    (cond (vb1_0 == (3 : Int))
     (cond (okStr vb1_1)
      (cond (plainOk vb1_1)
       (k [.d .bool (inR (vb1_2.length : Int) (1 : Int) (4 : Int))])
       (k [.d .bool false]))
      none)
     (cond (vb1_0 == (5 : Int))
      (cond (vb1_0 == (5 : Int))
       (cond (okStr vb1_1)
        (cond (plainOk vb1_1)
         (k [.d .bool (inR (vb1_2.length : Int) (0 : Int) (0 : Int))])
         (k [.d .bool false]))
        none)
       (k [.d .bool false]))
      (cond (vb1_0 == (6 : Int))
       (cond (okStr vb1_1)
        (cond (plainOk vb1_1)
         (k [.d .bool (inR (vb1_2.length : Int) (0 : Int) (0 : Int))])
         (k [.d .bool false]))
        none)
       (k [.d .bool false]))))
    (cond (vb1_0 == (4 : Int))
     (cond (okStr vb1_1)
      (cond (plainOk vb1_1)
       (k [.d .bool (inR (vb1_2.length : Int) (1 : Int) (4 : Int))])
       (k [.d .bool false]))
      none)
     (cond (vb1_0 == (5 : Int))
      (cond (vb1_0 == (5 : Int))
       (cond (okStr vb1_1)
        (cond (plainOk vb1_1)
         (k [.d .bool (inR (vb1_2.length : Int) (0 : Int) (0 : Int))])
         (k [.d .bool false]))
        none)
       (k [.d .bool false]))
      (cond (vb1_0 == (6 : Int))
       (cond (okStr vb1_1)
        (cond (plainOk vb1_1)
         (k [.d .bool (inR (vb1_2.length : Int) (0 : Int) (0 : Int))])
         (k [.d .bool false]))
        none)
       (k [.d .bool false]))))))) := by kernel_rfl

theorem f11_run {R : Type} (n : Nat) (k : List Dt → Option R) (a0 : PickT) : evFn f11e f11k n f11c [.ro] [false] true [.tmp 2] [4] [.d .pick a0] k =
    (f11L0 n (k [.d .bool false]) (fun (xvs10 : Int) (xvs11 : Bool) =>
  (cond ((PickT.op a0) == (1 : Int))
   (cond ((PickT.op a0) == (1 : Int))
    (cond (okStr (PickT.key a0))
     (cond (plainOk (PickT.key a0))
      (k [.d .bool (inR ((PickT.vals a0).length : Int) (1 : Int) (1 : Int))])
      (k [.d .bool false]))
     none)
    (cond ((PickT.op a0) == (3 : Int))
     (cond ((PickT.op a0) == (3 : Int))
      (cond (okStr (PickT.key a0))
       (cond (plainOk (PickT.key a0))
        (k [.d .bool (inR ((PickT.vals a0).length : Int) (1 : Int) (4 : Int))])
        (k [.d .bool false]))
       none)
      (cond ((PickT.op a0) == (5 : Int))
       (cond ((PickT.op a0) == (5 : Int))
        (cond (okStr (PickT.key a0))
         (cond (plainOk (PickT.key a0))
          (k [.d .bool (inR ((PickT.vals a0).length : Int) (0 : Int) (0 : Int))])
          (k [.d .bool false]))
         none)
        (k [.d .bool false]))
       (cond ((PickT.op a0) == (6 : Int))
        (cond (okStr (PickT.key a0))
         (cond (plainOk (PickT.key a0))
          (k [.d .bool (inR ((PickT.vals a0).length : Int) (0 : Int) (0 : Int))])
          (k [.d .bool false]))
         none)
        (k [.d .bool false]))))
     (cond ((PickT.op a0) == (4 : Int))
      (cond (okStr (PickT.key a0))
       (cond (plainOk (PickT.key a0))
        (k [.d .bool (inR ((PickT.vals a0).length : Int) (1 : Int) (4 : Int))])
        (k [.d .bool false]))
       none)
      (cond ((PickT.op a0) == (5 : Int))
       (cond ((PickT.op a0) == (5 : Int))
        (cond (okStr (PickT.key a0))
         (cond (plainOk (PickT.key a0))
          (k [.d .bool (inR ((PickT.vals a0).length : Int) (0 : Int) (0 : Int))])
          (k [.d .bool false]))
         none)
        (k [.d .bool false]))
       (cond ((PickT.op a0) == (6 : Int))
        (cond (okStr (PickT.key a0))
         (cond (plainOk (PickT.key a0))
          (k [.d .bool (inR ((PickT.vals a0).length : Int) (0 : Int) (0 : Int))])
          (k [.d .bool false]))
         none)
        (k [.d .bool false]))))))
   (cond ((PickT.op a0) == (2 : Int))
    (cond (okStr (PickT.key a0))
     (cond (plainOk (PickT.key a0))
      (k [.d .bool (inR ((PickT.vals a0).length : Int) (1 : Int) (1 : Int))])
      (k [.d .bool false]))
     none)
    (cond ((PickT.op a0) == (3 : Int))
     (cond ((PickT.op a0) == (3 : Int))
      (cond (okStr (PickT.key a0))
       (cond (plainOk (PickT.key a0))
        (k [.d .bool (inR ((PickT.vals a0).length : Int) (1 : Int) (4 : Int))])
        (k [.d .bool false]))
       none)
      (cond ((PickT.op a0) == (5 : Int))
       (cond ((PickT.op a0) == (5 : Int))
        (cond (okStr (PickT.key a0))
         (cond (plainOk (PickT.key a0))
          (k [.d .bool (inR ((PickT.vals a0).length : Int) (0 : Int) (0 : Int))])
          (k [.d .bool false]))
         none)
        (k [.d .bool false]))
       (cond ((PickT.op a0) == (6 : Int))
        (cond (okStr (PickT.key a0))
         (cond (plainOk (PickT.key a0))
          (k [.d .bool (inR ((PickT.vals a0).length : Int) (0 : Int) (0 : Int))])
          (k [.d .bool false]))
         none)
        (k [.d .bool false]))))
     (cond ((PickT.op a0) == (4 : Int))
      (cond (okStr (PickT.key a0))
       (cond (plainOk (PickT.key a0))
        (k [.d .bool (inR ((PickT.vals a0).length : Int) (1 : Int) (4 : Int))])
        (k [.d .bool false]))
       none)
      (cond ((PickT.op a0) == (5 : Int))
       (cond ((PickT.op a0) == (5 : Int))
        (cond (okStr (PickT.key a0))
         (cond (plainOk (PickT.key a0))
          (k [.d .bool (inR ((PickT.vals a0).length : Int) (0 : Int) (0 : Int))])
          (k [.d .bool false]))
         none)
        (k [.d .bool false]))
       (cond ((PickT.op a0) == (6 : Int))
        (cond (okStr (PickT.key a0))
         (cond (plainOk (PickT.key a0))
          (k [.d .bool (inR ((PickT.vals a0).length : Int) (0 : Int) (0 : Int))])
          (k [.d .bool false]))
         none)
        (k [.d .bool false])))))))) (PickT.vals a0) ((PickT.vals a0).length : Int) (PickT.op a0) (PickT.key a0) (PickT.vals a0) n (0 : Int)) := by
  refine Eq.trans (b := (iter (fun st k => ev f11e f11k n (cAt [1,0,1,0,0] f11c) st k) n (f11S0 (PickT.vals a0) ((PickT.vals a0).length : Int) (0 : Int) (PickT.op a0) (PickT.key a0) (PickT.vals a0)) (f11K0 n (exitK f11e [.ro] [false] true [.tmp 2] [4] [.d .pick a0] k)))) (by kernel_rfl) ?_
  simp only [f11L0_eq, f11K0_x0, f11K0_x1]
theorem f11_spec (a0 : PickT) (hg : okPick a0 = true) : ∃ keep rounds, ∀ {R : Type} (k : List Dt → Option R), evFn f11e keep rounds f11c [.ro] [false] true [.tmp 2] [4] [.d .pick a0] k = k [.d .bool (pickOk a0)] := by
  simp only [okPick, okL, Bool.and_eq_true] at hg
  obtain ⟨hk, hl, hs⟩ := hg
  have hl : a0.vals.length ≤ 9223372036854775807 := bleN hl
  refine ⟨f11k, a0.vals.length + 1, fun k => ?_⟩
  rw [f11_run]
  refine Eq.trans (loop_idx (n := a0.vals.length) (F := fun m i => f11L0 (a0.vals.length + 1) _ _ a0.vals (a0.vals.length : Int) a0.op a0.key a0.vals m i) (p := valC a0.vals) (good := _) (bad := k [.d .bool false])
    (fun m j hj => ?_) (fun m => by simp only [f11L0, idxE, cond_false]; rfl) a0.vals.length 0 (a0.vals.length + 1) (by omega) (by omega)) ?_
  · obtain ⟨h1, h0, hw, ht⟩ := idx hj (by omega)
    simp only [f11L0, h1, h0, hw, ht, okStr_at hs hj, Bool.and_self, cond_true]
    unfold valC
    cases plainOk (atI (t := .str) a0.vals j)
    · rfl
    · by_cases hz : (j : Int) > 0
      · obtain ⟨h2, h3, _, h5⟩ := idx (show j - 1 < a0.vals.length by omega) (by omega)
        simp only [hz, decide_true, cond_true, idxM hj (by omega) (by omega), h2, h3, h5, Bool.and_self]
        cases sLt (atI (t := .str) a0.vals (j - 1)) (atI (t := .str) a0.vals j) <;> rfl
      · simp only [hz, decide_false, cond_false]; rfl
  · rw [hk]
    simp only [cond_true]
    unfold pickOk valsOk
    cases plainOk a0.key <;> cases allN (valC a0.vals) 0 a0.vals.length <;>
      cases h1 : (a0.op == (1 : Int)) <;> cases h2 : (a0.op == (2 : Int)) <;> cases h3 : (a0.op == (3 : Int)) <;> cases h4 : (a0.op == (4 : Int)) <;> cases h5 : (a0.op == (5 : Int)) <;> cases h6 : (a0.op == (6 : Int)) <;>
      first
        | (exfalso; simp only [beq_iff_eq] at h1 h2 h3 h4 h5 h6; omega)
        | (simp only [cond_true, cond_false, Bool.true_and, Bool.false_and, Bool.or_false, Bool.false_or, Bool.true_or, Bool.or_true])
        | rfl

noncomputable def q11 : List Dt → Option (Bool × List Dt)
  | [.d .pick a0] => some ((okPick a0), [.d .bool (pickOk a0)])
  | _ => none
noncomputable def s11 : Gm.Spec := Gm.Spec.of [.ro] [false] true q11
theorem good11 : Gm.Good Try.prog (11, s11) := by
  have hl : ∀ x ∈ [(42, s42), (43, s43)], Gm.Good Try.prog x := List.forall_mem_cons.2 ⟨good42, List.forall_mem_cons.2 ⟨good43, List.forall_mem_nil _⟩⟩
  refine ⟨⟨spec_ok (tab_ok.env hl) (tab.natl hl) Try.func11 (by kernel_rfl : Try.f11.body = some f11c) [4] (by kernel_rfl) ?_, _, Try.func11, by kernel_rfl, of_decide_eq_true (by kernel_rfl)⟩, Gm.Spec.of_natl _ _ _ _⟩
  intro ds outs h
  unfold q11 at h
  split at h
  · simp only [Option.some.injEq, Prod.mk.injEq] at h; obtain ⟨hg, h⟩ := h; cases h; exact f11_spec _ hg
  · cases h
end Go.Proofs.Ytklmnopgogcbhaa

/- What the functions compute, part 1. No conditions. -/
import Derived.Test.YtinbejnakemfjaaGm4
import Derived.Test.YtinbejnakemfjaaRows
import Derived.Lib.Strings
import Derived.Lib.Slices
import Derived.Lib.SliceRun
import Derived.Lib.Walk
import Derived.WalkKit
import Derived.Deep.RegionLaw
import Derived.Lib.AppendZeros
import Derived.Laws.Externs
namespace Go.Proofs.Ytinbejnakemfjaa
open Go Go.Gm
def tab : Tab := { code := [(2, (.i .i64)), (3, (.i .i64)), (4, .bool), (5, (.i .u8)), (6, (.i .u8)), (9, .str), (10, .str), (11, .str), (12, (.i .u64)), (21, (.i .i32)), (22, (.sl .str)), (23, (.sl .node)), (25, .node), (27, (.sl (.sl .str))), (29, (.sl .node)), (31, .node), (46, (.sl (.i .u8))), (84, .cur), (89, (.sl (.i .i64))), (100, (.i .u64)), (109, (.i .u32)), (110, (.i .u8)), (111, (.i .u8)), (114, (.i .i32)), (115, (.i .i32))], eqs := [], fld := [(25, [(0, 3), (1, 3), (2, 9), (3, 22), (4, 23)]), (31, [(0, 3), (1, 3), (2, 9), (3, 22), (4, 29)]), (84, [(0, 46), (1, 3), (2, 3)])] }
theorem und2 : UndOk (tab.env []) Try.prog 2 (.i .i64) := (by kernel_rfl : Try.prog.underlying 2 = some (.int .i64))
theorem und3 : UndOk (tab.env []) Try.prog 3 (.i .i64) := (by kernel_rfl : Try.prog.underlying 3 = some (.int .i64))
theorem und4 : UndOk (tab.env []) Try.prog 4 .bool := (by kernel_rfl : Try.prog.underlying 4 = some .bool)
theorem und5 : UndOk (tab.env []) Try.prog 5 (.i .u8) := (by kernel_rfl : Try.prog.underlying 5 = some (.int .u8))
theorem und6 : UndOk (tab.env []) Try.prog 6 (.i .u8) := (by kernel_rfl : Try.prog.underlying 6 = some (.int .u8))
theorem und9 : UndOk (tab.env []) Try.prog 9 .str := (by kernel_rfl : Try.prog.underlying 9 = some .string)
theorem und10 : UndOk (tab.env []) Try.prog 10 .str := (by kernel_rfl : Try.prog.underlying 10 = some .string)
theorem und11 : UndOk (tab.env []) Try.prog 11 .str := (by kernel_rfl : Try.prog.underlying 11 = some .string)
theorem und12 : UndOk (tab.env []) Try.prog 12 (.i .u64) := (by kernel_rfl : Try.prog.underlying 12 = some (.int .u64))
theorem und21 : UndOk (tab.env []) Try.prog 21 (.i .i32) := (by kernel_rfl : Try.prog.underlying 21 = some (.int .i32))
theorem und22 : UndOk (tab.env []) Try.prog 22 (.sl .str) := ⟨9, by kernel_rfl, by kernel_rfl⟩
theorem und23 : UndOk (tab.env []) Try.prog 23 (.sl .node) := ⟨25, by kernel_rfl, by kernel_rfl⟩
theorem und25 : UndOk (tab.env []) Try.prog 25 .node := ⟨_, Try.underlying25⟩
theorem und27 : UndOk (tab.env []) Try.prog 27 (.sl (.sl .str)) := ⟨22, by kernel_rfl, by kernel_rfl⟩
theorem und29 : UndOk (tab.env []) Try.prog 29 (.sl .node) := ⟨31, by kernel_rfl, by kernel_rfl⟩
theorem und31 : UndOk (tab.env []) Try.prog 31 .node := ⟨_, Try.underlying31⟩
theorem und46 : UndOk (tab.env []) Try.prog 46 (.sl (.i .u8)) := ⟨5, by kernel_rfl, by kernel_rfl⟩
theorem und84 : UndOk (tab.env []) Try.prog 84 .cur := ⟨_, Try.underlying84⟩
theorem und89 : UndOk (tab.env []) Try.prog 89 (.sl (.i .i64)) := ⟨3, by kernel_rfl, by kernel_rfl⟩
theorem und100 : UndOk (tab.env []) Try.prog 100 (.i .u64) := (by kernel_rfl : Try.prog.underlying 100 = some (.int .u64))
theorem und109 : UndOk (tab.env []) Try.prog 109 (.i .u32) := (by kernel_rfl : Try.prog.underlying 109 = some (.int .u32))
theorem und110 : UndOk (tab.env []) Try.prog 110 (.i .u8) := (by kernel_rfl : Try.prog.underlying 110 = some (.int .u8))
theorem und111 : UndOk (tab.env []) Try.prog 111 (.i .u8) := (by kernel_rfl : Try.prog.underlying 111 = some (.int .u8))
theorem und114 : UndOk (tab.env []) Try.prog 114 (.i .i32) := (by kernel_rfl : Try.prog.underlying 114 = some (.int .i32))
theorem und115 : UndOk (tab.env []) Try.prog 115 (.i .i32) := (by kernel_rfl : Try.prog.underlying 115 = some (.int .i32))
theorem fld25 : ∃ fs : Array Field, Try.prog.underlying 25 = some (.struct fs) ∧ [(0, 3), (1, 3), (2, 9), (3, 22), (4, 23)] = fs.toList.map (fun f => (f.offset, f.type)) ∧ (∀ y ∈ ([(0, 3), (1, 3), (2, 9), (3, 22), (4, 23)] : List (Nat × Nat)), (aget tab.code y.2).isSome) ∧ (fs.toList.mapM (fun f => (Try.prog.info? f.type).map fun i => (f.offset, i.size))).isSome :=
 ⟨_, Try.underlying25, by kernel_rfl, List.all_eq_true.1 (by kernel_rfl), by kernel_rfl⟩
theorem fld31 : ∃ fs : Array Field, Try.prog.underlying 31 = some (.struct fs) ∧ [(0, 3), (1, 3), (2, 9), (3, 22), (4, 29)] = fs.toList.map (fun f => (f.offset, f.type)) ∧ (∀ y ∈ ([(0, 3), (1, 3), (2, 9), (3, 22), (4, 29)] : List (Nat × Nat)), (aget tab.code y.2).isSome) ∧ (fs.toList.mapM (fun f => (Try.prog.info? f.type).map fun i => (f.offset, i.size))).isSome :=
 ⟨_, Try.underlying31, by kernel_rfl, List.all_eq_true.1 (by kernel_rfl), by kernel_rfl⟩
theorem fld84 : ∃ fs : Array Field, Try.prog.underlying 84 = some (.struct fs) ∧ [(0, 46), (1, 3), (2, 3)] = fs.toList.map (fun f => (f.offset, f.type)) ∧ (∀ y ∈ ([(0, 46), (1, 3), (2, 3)] : List (Nat × Nat)), (aget tab.code y.2).isSome) ∧ (fs.toList.mapM (fun f => (Try.prog.info? f.type).map fun i => (f.offset, i.size))).isSome :=
 ⟨_, Try.underlying84, by kernel_rfl, List.all_eq_true.1 (by kernel_rfl), by kernel_rfl⟩
theorem tab_ok : tab.Ok Try.prog := {
 info := infoChk_ok (by kernel_rfl)
 und := fcJ.2 ⟨und2, fcJ.2 ⟨und3, fcJ.2 ⟨und4, fcJ.2 ⟨und5, fcJ.2 ⟨und6, fcJ.2 ⟨und9, fcJ.2 ⟨und10, fcJ.2 ⟨und11, fcJ.2 ⟨und12, fcJ.2 ⟨und21, fcJ.2 ⟨und22, fcJ.2 ⟨und23, fcJ.2 ⟨und25, fcJ.2 ⟨und27, fcJ.2 ⟨und29, fcJ.2 ⟨und31, fcJ.2 ⟨und46, fcJ.2 ⟨und84, fcJ.2 ⟨und89, fcJ.2 ⟨und100, fcJ.2 ⟨und109, fcJ.2 ⟨und110, fcJ.2 ⟨und111, fcJ.2 ⟨und114, fcJ.2 ⟨und115, fcN⟩⟩⟩⟩⟩⟩⟩⟩⟩⟩⟩⟩⟩⟩⟩⟩⟩⟩⟩⟩⟩⟩⟩⟩⟩
 fld := fcJ.2 ⟨fld25, fcJ.2 ⟨fld31, fcJ.2 ⟨fld84, fcN⟩⟩⟩
 sts := fcJ.2 ⟨fun h => by first | (cases h; done) | (simp; done), fcJ.2 ⟨fun h => by first | (cases h; done) | (simp; done), fcJ.2 ⟨fun h => by first | (cases h; done) | (simp; done), fcJ.2 ⟨fun h => by first | (cases h; done) | (simp; done), fcJ.2 ⟨fun h => by first | (cases h; done) | (simp; done), fcJ.2 ⟨fun h => by first | (cases h; done) | (simp; done), fcJ.2 ⟨fun h => by first | (cases h; done) | (simp; done), fcJ.2 ⟨fun h => by first | (cases h; done) | (simp; done), fcJ.2 ⟨fun h => by first | (cases h; done) | (simp; done), fcJ.2 ⟨fun h => by first | (cases h; done) | (simp; done), fcJ.2 ⟨fun h => by first | (cases h; done) | (simp; done), fcJ.2 ⟨fun h => by first | (cases h; done) | (simp; done), fcJ.2 ⟨fun _ => by simp [tab], fcJ.2 ⟨fun h => by first | (cases h; done) | (simp; done), fcJ.2 ⟨fun h => by first | (cases h; done) | (simp; done), fcJ.2 ⟨fun _ => by simp [tab], fcJ.2 ⟨fun h => by first | (cases h; done) | (simp; done), fcJ.2 ⟨fun _ => by simp [tab], fcJ.2 ⟨fun h => by first | (cases h; done) | (simp; done), fcJ.2 ⟨fun h => by first | (cases h; done) | (simp; done), fcJ.2 ⟨fun h => by first | (cases h; done) | (simp; done), fcJ.2 ⟨fun h => by first | (cases h; done) | (simp; done), fcJ.2 ⟨fun h => by first | (cases h; done) | (simp; done), fcJ.2 ⟨fun h => by first | (cases h; done) | (simp; done), fcJ.2 ⟨fun h => by first | (cases h; done) | (simp; done), fcN⟩⟩⟩⟩⟩⟩⟩⟩⟩⟩⟩⟩⟩⟩⟩⟩⟩⟩⟩⟩⟩⟩⟩⟩⟩
 eqs := fcN
 ord := by kernel_rfl }
noncomputable def f60S0 (y0 : List Int) (y1 : Int) (y2 : Int) : St := ⟨[(0, .c (.one (.rk (.i .u8) y0))), (3, .c (.one (.v (.int .i64 y1)))), (4, .c (.one (.v (.int .i64 y2))))], [], []⟩
noncomputable def f60S1 (y0 : List Int) (y1 : Int) (y2 : Int) (y3 : Bool) : St := ⟨[(0, .c (.one (.rk (.i .u8) y0))), (3, .c (.one (.v (.int .i64 y1)))), (4, .c (.one (.v (.int .i64 y2)))), (15, .c (.one (.v (.bool y3))))], [], []⟩
noncomputable def f60c : Code := (Try.f60.body).getD .skip
def f60k : Nat → Kp := kat [⟨[0], [], [], []⟩, ⟨[0, 3], [], [], []⟩, ⟨[0, 3, 4], [], [], []⟩, ⟨[0, 3, 4, 15], [], [], []⟩, ⟨[0, 3, 4], [], [], []⟩, ⟨[0, 3, 4], [], [], []⟩, ⟨[2], [], [], []⟩]
noncomputable def f60e : Env := tab.env []
noncomputable def f60L0 {R : Type} (n : Nat) (x0 : Int → Int → Bool → Option R) (x1 : Int → Int → Option R) (wB : List Int) : Nat → Int → Int → Option R
  | 0, _, _ => none
  | m + 1, wD, wA =>
    (cond (decide (wA < (wB.length : Int)))
   (cond (decide (wA < (4000 : Int)))
    (cond ((decide ((0 : Int) ≤ wA)) && (decide (wA < (wB.length : Int))))
     (f60L0 n x0 x1 wB m (IntKind.wrap .i64 ((BitVec.toNat (BitVec.ofInt (IntKind.bits .i64) (IntKind.wrap .i64 ((IntKind.wrap .i64 ((IntKind.wrap .i64 (wD * (131 : Int))) + (IntKind.wrap .i64 (atI (t := (.i .u8)) wB (Int.toNat wA))))) + (7 : Int))) &&& BitVec.ofInt (IntKind.bits .i64) (1073741823 : Int)) : Nat) : Int)) (IntKind.wrap .i64 (wA + (1 : Int))))
     none)
    (x0 wD wA (decide (wA < (4000 : Int)))))
   (x1 wD wA))
theorem f60L0_b {R : Type} (n : Nat) (k' : Ex → St → Option R) (wB : List Int) (wD : Int) (wA : Int) : ev f60e f60k n (cAt [1,1,0,1,0,0] f60c) (f60S0 wB wD wA) k' =
 (cond (decide (wA < (wB.length : Int)))
 (cond (decide (wA < (4000 : Int)))
 (cond ((decide ((0 : Int) ≤ wA)) && (decide (wA < (wB.length : Int))))
 (k' .normal (f60S0 wB (IntKind.wrap .i64 ((BitVec.toNat (BitVec.ofInt (IntKind.bits .i64) (IntKind.wrap .i64 ((IntKind.wrap .i64 ((IntKind.wrap .i64 (wD * (131 : Int))) + (IntKind.wrap .i64 (atI (t := (.i .u8)) wB (Int.toNat wA))))) + (7 : Int))) &&& BitVec.ofInt (IntKind.bits .i64) (1073741823 : Int)) : Nat) : Int)) (IntKind.wrap .i64 (wA + (1 : Int)))))
 none)
 (k' (.exit 0) (f60S1 wB wD wA (decide (wA < (4000 : Int))))))
 (k' (.exit 0) (f60S1 wB wD wA false))) := by kernel_rfl
theorem f60L0_eq {R : Type} (n : Nat) (k' : Ex → St → Option R) (wB : List Int) : ∀ (m : Nat) (wD : Int) (wA : Int), iter (fun st k => ev f60e f60k n (cAt [1,1,0,1,0,0] f60c) st k) m (f60S0 wB wD wA) k' = f60L0 n (fun (wC : Int) (wE : Int) (wF : Bool) => k' (.exit 0) (f60S1 wB wC wE wF)) (fun (wC : Int) (wE : Int) => k' (.exit 0) (f60S1 wB wC wE false)) wB m wD wA := by
 intro m; induction m with
 | zero => intros; rfl
 | succ m ih =>
  intro wD wA
  simp only [iter]
  rw [f60L0_b]
  simp only [ih, f60L0]
noncomputable def f60K0 {R : Type} (n : Nat) (k' : Ex → St → Option R) : Ex → St → Option R := (blockK 0 (seqK f60e f60k n (cAt [1,1,1] f60c) k'))
theorem f60K0_x0 {R : Type} (n : Nat) (k : List Dt → Option R) (a0 : List Int) (wB : List Int) (wC : Int) (wE : Int) (wF : Bool) : f60K0 n (exitK f60e [.kp] [true] true [.tmp 2] [70] [.d (.sl (.i .u8)) a0] k) (.exit 0) (f60S1 wB wC wE wF) =
 (k [.d .cur (⟨wB, (0 : Int), wC⟩ : CurT)]) := by kernel_rfl
theorem f60K0_x1 {R : Type} (n : Nat) (k : List Dt → Option R) (a0 : List Int) (wB : List Int) (wC : Int) (wE : Int) : f60K0 n (exitK f60e [.kp] [true] true [.tmp 2] [70] [.d (.sl (.i .u8)) a0] k) (.exit 0) (f60S1 wB wC wE false) =
 (k [.d .cur (⟨wB, (0 : Int), wC⟩ : CurT)]) := by kernel_rfl
theorem f60_run {R : Type} (n : Nat) (k : List Dt → Option R) (a0 : List Int) : evFn f60e f60k n f60c [.kp] [true] true [.tmp 2] [70] [.d (.sl (.i .u8)) a0] k =
 (f60L0 n (fun (wC : Int) (wE : Int) (wF : Bool) =>
 (k [.d .cur (⟨a0, (0 : Int), wC⟩ : CurT)])) (fun (wC : Int) (wE : Int) =>
 (k [.d .cur (⟨a0, (0 : Int), wC⟩ : CurT)])) a0 n (IntKind.wrap .i64 ((27212 : Int) + (a0.length : Int))) (0 : Int)) := by
 refine Eq.trans (b := (iter (fun st k => ev f60e f60k n (cAt [1,1,0,1,0,0] f60c) st k) n (f60S0 a0 (IntKind.wrap .i64 ((27212 : Int) + (a0.length : Int))) (0 : Int)) (f60K0 n (exitK f60e [.kp] [true] true [.tmp 2] [70] [.d (.sl (.i .u8)) a0] k)))) (by kernel_rfl) ?_
 simp only [f60L0_eq, f60K0_x0, f60K0_x1]
def f60_P (a0 : List Int) (o : CurT) : Prop := (fun _ o => gCur o = true) a0 o ∧ ∃ n : Nat, ∀ {R : Type} (k : List Dt → Option R), evFn f60e f60k n f60c [.kp] [true] true [.tmp 2] [70] [.d (.sl (.i .u8)) a0] k = k [.d .cur o]
theorem f60_ex (a0 : List Int) (hg : gCode a0 = true) : ∃ o : CurT, (fun _ o => gCur o = true) a0 o ∧ ∃ n : Nat, ∀ {R : Type} (k : List Dt → Option R), evFn f60e f60k n f60c [.kp] [true] true [.tmp 2] [70] [.d (.sl (.i .u8)) a0] k = k [.d .cur o] := by
 have hl : a0.length ≤ 1048576 := bleN hg
 have key : ∀ (d : Nat) (m : Nat) (h : Int) (i : Nat), i + d = 4000 → d < m → ∃ h' : Int, ∀ {R : Type} (X : Int → Int → Bool → Option R) (Y : Int → Int → Option R) (Z : Int → Option R), (∀ x y z, X x y z = Z x) → (∀ x y, Y x y = Z x) → f60L0 4001 X Y a0 m h (i : Int) = Z h' := by
  intro d
  induction d with
  | zero =>
   intro m h i hi hm
   obtain ⟨m, rfl⟩ : ∃ m', m = m' + 1 := ⟨m - 1, by omega⟩
   refine ⟨h, fun {R} X Y Z hX hY => ?_⟩
   simp only [f60L0, decide_eq_false (show ¬ ((i : Int) < 4000) by omega), cond_false]
   cases decide ((i : Int) < (a0.length : Int)) <;> simp only [cond_true, cond_false, hX, hY]
  | succ d ih =>
   intro m h i hi hm
   obtain ⟨m, rfl⟩ : ∃ m', m = m' + 1 := ⟨m - 1, by omega⟩
   cases hd : decide ((i : Int) < (a0.length : Int))
   ·refine ⟨h, fun {R} X Y Z hX hY => ?_⟩
    simp only [f60L0, hd, cond_false, hY]
   ·obtain ⟨h', hh⟩ := ih m _ (i + 1) (by omega) (by omega)
    refine ⟨h', fun {R} X Y Z hX hY => ?_⟩
    simp only [f60L0, hd, decide_eq_true (show (i : Int) < 4000 by omega), decide_eq_true (show (0 : Int) ≤ (i : Int) by omega), Bool.and_self, cond_true, wrap_id (x := (i : Int) + 1) (by omega) (by omega)]
    exact hh X Y Z hX hY
 obtain ⟨h', hh⟩ := key 4000 4001 (IntKind.wrap .i64 ((27212 : Int) + (a0.length : Int))) 0 rfl (by omega)
 refine ⟨⟨a0, 0, h'⟩, gCur_iff.2 ⟨Int.le_refl _, hl⟩, 4001, fun {R} k => ?_⟩
 rw [f60_run]
 exact hh _ _ (fun x => k [.d .cur ⟨a0, 0, x⟩]) (fun _ _ _ => rfl) (fun _ _ => rfl)
theorem f60_ne (a0 : List Int) : Nonempty {o : CurT // gCode a0 = true → f60_P a0 o} := by
 by_cases hg : gCode a0 = true
 ·obtain ⟨o, ho⟩ := f60_ex a0 hg
  exact ⟨⟨o, fun _ => ho⟩⟩
 ·exact ⟨⟨((zero .cur)), fun h => absurd h hg⟩⟩
noncomputable def curNew (a0 : List Int) : CurT := (Classical.choice (f60_ne a0)).val
theorem f60_sp (a0 : List Int) (hg : gCode a0 = true) : f60_P a0 (curNew a0) := (Classical.choice (f60_ne a0)).property hg
theorem curNew_ok (a0 : List Int) (hg : gCode a0 = true) : (fun _ o => gCur o = true) a0 (curNew a0) := (f60_sp a0 hg).1
theorem f60_spec (a0 : List Int) (hg : gCode a0 = true) : ∃ keep rounds, ∀ {R : Type} (k : List Dt → Option R), evFn f60e keep rounds f60c [.kp] [true] true [.tmp 2] [70] [.d (.sl (.i .u8)) a0] k = k [.d .cur (curNew a0)] := by
 obtain ⟨n, hn⟩ := (f60_sp a0 hg).2
 exact ⟨f60k, n, hn⟩
noncomputable def q60 : List Dt → Option (Bool × List Dt)
 | [.d (.sl (.i .u8)) a0] => some ((gCode a0), [.d .cur (curNew a0)])
 | _ => none
noncomputable def s60 : Gm.Spec := Gm.Spec.of [.kp] [true] true q60
theorem good60 : Gm.Good Try.prog (60, s60) := by
 have hl : ∀ x ∈ ([] : List (Nat × Gm.Spec)), Gm.Good Try.prog x := fun _ h => by cases h
 refine ⟨⟨spec_ok (tab_ok.env hl) (tab.natl hl) Try.func60 (by kernel_rfl : Try.f60.body = some f60c) [70] (by kernel_rfl) ?_, _, Try.func60, by kernel_rfl, of_decide_eq_true (by kernel_rfl)⟩, Gm.Spec.of_natl _ _ _ _⟩
 intro ds outs h
 unfold q60 at h
 split at h
 ·simp only [Option.some.injEq, Prod.mk.injEq] at h; obtain ⟨hg, h⟩ := h; cases h; exact f60_spec _ hg
 ·cases h
noncomputable def f92c : Code := (Try.f92.body).getD .skip
def f92k : Nat → Kp := kat [⟨[0], [], [], []⟩, ⟨[0], [], [], []⟩, ⟨[0, 3], [], [], []⟩, ⟨[0, 3, 34], [], [], []⟩, ⟨[0, 3], [], [], []⟩, ⟨[0, 3], [], [], []⟩, ⟨[0, 2], [], [], []⟩]
noncomputable def f92e : Env := tab.env []
theorem f92_run {R : Type} (n : Nat) (k : List Dt → Option R) (a0 : CurT) : evFn f92e f92k n f92c [.pmut] [false] true [.tmp 2] [3] [.d .cur a0] k =
 (cond (decide ((CurT.i a0) < ((CurT.b a0).length : Int)))
 (cond ((decide ((0 : Int) ≤ (CurT.i a0))) && (decide ((CurT.i a0) < ((CurT.b a0).length : Int))))
 (k [.d (.i .i64) (IntKind.wrap .i64 ((BitVec.toNat (BitVec.ofInt (IntKind.bits .i64) (IntKind.wrap .i64 ((IntKind.wrap .i64 ((BitVec.toNat (BitVec.ofInt (IntKind.bits .i64) (IntKind.wrap .i64 ((BitVec.toNat (BitVec.ofInt (IntKind.bits .i64) (Int.fdiv (IntKind.wrap .i64 ((IntKind.wrap .i64 ((CurT.h a0) * (6364136223846793005 : Int))) + (1442695040888963407 : Int))) (2 ^ (min (Int.toNat (33 : Int)) (IntKind.bits .i64)))) ^^^ BitVec.ofInt (IntKind.bits .i64) (Int.fdiv (IntKind.wrap .i64 ((IntKind.wrap .i64 ((CurT.h a0) * (6364136223846793005 : Int))) + (1442695040888963407 : Int))) (2 ^ (min (Int.toNat (45 : Int)) (IntKind.bits .i64))))) : Nat) : Int)) &&& BitVec.ofInt (IntKind.bits .i64) (255 : Int)) : Nat) : Int)) + (IntKind.wrap .i64 (atI (t := (.i .u8)) (CurT.b a0) (Int.toNat (CurT.i a0)))))) &&& BitVec.ofInt (IntKind.bits .i64) (255 : Int)) : Nat) : Int)), .d .cur (⟨(CurT.b a0), (IntKind.wrap .i64 ((CurT.i a0) + (1 : Int))), (IntKind.wrap .i64 ((IntKind.wrap .i64 ((CurT.h a0) * (6364136223846793005 : Int))) + (1442695040888963407 : Int)))⟩ : CurT)])
 none)
 (k [.d (.i .i64) (IntKind.wrap .i64 ((BitVec.toNat (BitVec.ofInt (IntKind.bits .i64) (IntKind.wrap .i64 ((BitVec.toNat (BitVec.ofInt (IntKind.bits .i64) (Int.fdiv (IntKind.wrap .i64 ((IntKind.wrap .i64 ((CurT.h a0) * (6364136223846793005 : Int))) + (1442695040888963407 : Int))) (2 ^ (min (Int.toNat (33 : Int)) (IntKind.bits .i64)))) ^^^ BitVec.ofInt (IntKind.bits .i64) (Int.fdiv (IntKind.wrap .i64 ((IntKind.wrap .i64 ((CurT.h a0) * (6364136223846793005 : Int))) + (1442695040888963407 : Int))) (2 ^ (min (Int.toNat (45 : Int)) (IntKind.bits .i64))))) : Nat) : Int)) &&& BitVec.ofInt (IntKind.bits .i64) (255 : Int)) : Nat) : Int)), .d .cur (⟨(CurT.b a0), (CurT.i a0), (IntKind.wrap .i64 ((IntKind.wrap .i64 ((CurT.h a0) * (6364136223846793005 : Int))) + (1442695040888963407 : Int)))⟩ : CurT)])) := by kernel_rfl
def f92_P (a0 : CurT) (o : Int × CurT) : Prop := (fun _ o => (0 ≤ o.1 ∧ o.1 ≤ 255) ∧ gCur o.2 = true) a0 o ∧ ∃ n : Nat, ∀ {R : Type} (k : List Dt → Option R), evFn f92e f92k n f92c [.pmut] [false] true [.tmp 2] [3] [.d .cur a0] k = k [.d (.i .i64) o.1, .d .cur o.2]
theorem f92_ex (a0 : CurT) (hg : gCur a0 = true) : ∃ o : Int × CurT, (fun _ o => (0 ≤ o.1 ∧ o.1 ≤ 255) ∧ gCur o.2 = true) a0 o ∧ ∃ n : Nat, ∀ {R : Type} (k : List Dt → Option R), evFn f92e f92k n f92c [.pmut] [false] true [.tmp 2] [3] [.d .cur a0] k = k [.d (.i .i64) o.1, .d .cur o.2] := by
 obtain ⟨h0, hl⟩ := gCur_iff.1 hg
 cases hd : decide (CurT.i a0 < ((CurT.b a0).length : Int))
 ·refine ⟨(?az0, ?bz0), ?gz0, 0, ?rz0⟩
  case rz0 =>
   intro R k
   rw [f92_run]
   simp only [hd, Bool.and_self, cond_true, cond_false]
   exact rfl
  case gz0 => exact ⟨and255w _, gCur_iff.2 ⟨h0, hl⟩⟩
 ·have hlt := of_decide_eq_true hd
  refine ⟨(?az1, ?bz1), ?gz1, 0, ?rz1⟩
  case rz1 =>
   intro R k
   rw [f92_run]
   simp only [hd, decide_eq_true h0, Bool.and_self, cond_true, cond_false]
   exact rfl
  case gz1 =>
   refine ⟨and255w _, gCur_iff.2 ⟨?_, hl⟩⟩
   show 0 ≤ IntKind.wrap .i64 (CurT.i a0 + 1)
   rw [wrap_id (by omega) (by omega)]; omega
theorem f92_ne (a0 : CurT) : Nonempty {o : Int × CurT // gCur a0 = true → f92_P a0 o} := by
 by_cases hg : gCur a0 = true
 ·obtain ⟨o, ho⟩ := f92_ex a0 hg
  exact ⟨⟨o, fun _ => ho⟩⟩
 ·exact ⟨⟨((zero (.i .i64)), (zero .cur)), fun h => absurd h hg⟩⟩
noncomputable def curByte (a0 : CurT) : Int × CurT := (Classical.choice (f92_ne a0)).val
theorem f92_sp (a0 : CurT) (hg : gCur a0 = true) : f92_P a0 (curByte a0) := (Classical.choice (f92_ne a0)).property hg
theorem curByte_ok (a0 : CurT) (hg : gCur a0 = true) : (fun _ o => (0 ≤ o.1 ∧ o.1 ≤ 255) ∧ gCur o.2 = true) a0 (curByte a0) := (f92_sp a0 hg).1
theorem f92_spec (a0 : CurT) (hg : gCur a0 = true) : ∃ keep rounds, ∀ {R : Type} (k : List Dt → Option R), evFn f92e keep rounds f92c [.pmut] [false] true [.tmp 2] [3] [.d .cur a0] k = k [.d (.i .i64) ((curByte a0).1), .d .cur ((curByte a0).2)] := by
 obtain ⟨n, hn⟩ := (f92_sp a0 hg).2
 exact ⟨f92k, n, hn⟩
noncomputable def q92 : List Dt → Option (Bool × List Dt)
 | [.d .cur a0] => some ((gCur a0), [.d (.i .i64) ((curByte a0).1), .d .cur ((curByte a0).2)])
 | _ => none
noncomputable def s92 : Gm.Spec := Gm.Spec.of [.pmut] [false] true q92
theorem good92 : Gm.Good Try.prog (92, s92) := by
 have hl : ∀ x ∈ ([] : List (Nat × Gm.Spec)), Gm.Good Try.prog x := fun _ h => by cases h
 refine ⟨⟨spec_ok (tab_ok.env hl) (tab.natl hl) Try.func92 (by kernel_rfl : Try.f92.body = some f92c) [3] (by kernel_rfl) ?_, _, Try.func92, by kernel_rfl, of_decide_eq_true (by kernel_rfl)⟩, Gm.Spec.of_natl _ _ _ _⟩
 intro ds outs h
 unfold q92 at h
 split at h
 ·simp only [Option.some.injEq, Prod.mk.injEq] at h; obtain ⟨hg, h⟩ := h; cases h; exact f92_spec _ hg
 ·cases h
noncomputable def f80c : Code := (Try.f80.body).getD .skip
def f80k : Nat → Kp := kat [⟨[0, 1], [], [], []⟩, ⟨[0, 1, 10], [], [], []⟩, ⟨[0, 4], [], [], []⟩, ⟨[0, 1, 12], [], [], []⟩, ⟨[0, 4], [], [], []⟩, ⟨[0, 1, 5], [], [], []⟩, ⟨[0, 1, 5, 6], [], [], []⟩, ⟨[0, 1, 5, 6, 7], [], [], []⟩, ⟨[0, 1, 5, 6, 7, 8], [], [], []⟩, ⟨[0, 4], [], [], []⟩]
noncomputable def f80e : Env := tab.env [(92, s92)]
theorem f80_run {R : Type} (n : Nat) (k : List Dt → Option R) (a0 : CurT) (a1 : Int) : evFn f80e f80k n f80c [.pmut, .ro] [false] true [.tmp 4] [3] [.d .cur a0, .d (.i .i64) a1] k =
 (cond (decide (a1 ≤ (0 : Int)))
 (k [.d (.i .i64) (0 : Int), .d .cur a0])
 (cond (decide (a1 ≤ (256 : Int)))
 (cond (gCur a0)
 (cond (decide (a1 = 0))
 none
 (k [.d (.i .i64) (Int.tmod ((curByte a0).1) a1), .d .cur ((curByte a0).2)]))
 none)
 (cond (gCur a0)
 (cond (gCur ((curByte a0).2))
 (cond (gCur ((curByte ((curByte a0).2)).2))
 (cond (gCur ((curByte ((curByte ((curByte a0).2)).2)).2))
 (cond (decide (a1 = 0))
 none
 (k [.d (.i .i64) (Int.tmod (IntKind.wrap .i64 ((IntKind.wrap .i64 ((IntKind.wrap .i64 ((IntKind.wrap .i64 (((curByte a0).1) * (16777216 : Int))) + (IntKind.wrap .i64 (((curByte ((curByte a0).2)).1) * (65536 : Int))))) + (IntKind.wrap .i64 (((curByte ((curByte ((curByte a0).2)).2)).1) * (256 : Int))))) + ((curByte ((curByte ((curByte ((curByte a0).2)).2)).2)).1))) a1), .d .cur ((curByte ((curByte ((curByte ((curByte a0).2)).2)).2)).2)]))
 none)
 none)
 none)
 none))) := by kernel_rfl
def f80_P (a0 : CurT) (a1 : Int) (o : Int × CurT) : Prop := (fun _ n o => 0 ≤ o.1 ∧ (0 < n → o.1 < n) ∧ gCur o.2 = true) a0 a1 o ∧ ∃ n : Nat, ∀ {R : Type} (k : List Dt → Option R), evFn f80e f80k n f80c [.pmut, .ro] [false] true [.tmp 4] [3] [.d .cur a0, .d (.i .i64) a1] k = k [.d (.i .i64) o.1, .d .cur o.2]
theorem f80_ex (a0 : CurT) (a1 : Int) (hg : (fun c _ => gCur c) a0 a1 = true) : ∃ o : Int × CurT, (fun _ n o => 0 ≤ o.1 ∧ (0 < n → o.1 < n) ∧ gCur o.2 = true) a0 a1 o ∧ ∃ n : Nat, ∀ {R : Type} (k : List Dt → Option R), evFn f80e f80k n f80c [.pmut, .ro] [false] true [.tmp 4] [3] [.d .cur a0, .d (.i .i64) a1] k = k [.d (.i .i64) o.1, .d .cur o.2] := by
 have hg : gCur a0 = true := hg
 cases h1 : decide (a1 ≤ (0 : Int))
 ·have hn := of_decide_eq_false h1
  have hz : decide (a1 = 0) = false := decide_eq_false (by omega)
  obtain ⟨b1, g1⟩ := curByte_ok a0 hg
  cases h2 : decide (a1 ≤ (256 : Int))
  ·obtain ⟨b2, g2⟩ := curByte_ok _ g1
   obtain ⟨b3, g3⟩ := curByte_ok _ g2
   obtain ⟨b4, g4⟩ := curByte_ok _ g3
   refine ⟨(?az0, ?bz0), ?gz0, 0, ?rz0⟩
   case rz0 =>
    intro R k
    rw [f80_run]
    simp only [h1, h2, hz, hg, g1, g2, g3, Bool.and_self, cond_true, cond_false]
    exact rfl
   case gz0 =>
    have := tmod_bd (below4 b1 b2 b3 b4) (show 0 < a1 by omega)
    exact ⟨this.1, fun _ => this.2, g4⟩
  ·refine ⟨(?az1, ?bz1), ?gz1, 0, ?rz1⟩
   case rz1 =>
    intro R k
    rw [f80_run]
    simp only [h1, h2, hz, hg, Bool.and_self, cond_true, cond_false]
    exact rfl
   case gz1 =>
    have := tmod_bd b1.1 (show 0 < a1 by omega)
    exact ⟨this.1, fun _ => this.2, g1⟩
 ·have hn := of_decide_eq_true h1
  refine ⟨(?az2, ?bz2), ?gz2, 0, ?rz2⟩
  case rz2 =>
   intro R k
   rw [f80_run]
   simp only [h1, Bool.and_self, cond_true, cond_false]
   exact rfl
  case gz2 => exact ⟨Int.le_refl _, fun h => by omega, hg⟩
theorem f80_ne (a0 : CurT) (a1 : Int) : Nonempty {o : Int × CurT // (fun c _ => gCur c) a0 a1 = true → f80_P a0 a1 o} := by
 by_cases hg : (fun c _ => gCur c) a0 a1 = true
 ·obtain ⟨o, ho⟩ := f80_ex a0 a1 hg
  exact ⟨⟨o, fun _ => ho⟩⟩
 ·exact ⟨⟨((zero (.i .i64)), (zero .cur)), fun h => absurd h hg⟩⟩
noncomputable def curBelow (a0 : CurT) (a1 : Int) : Int × CurT := (Classical.choice (f80_ne a0 a1)).val
theorem f80_sp (a0 : CurT) (a1 : Int) (hg : (fun c _ => gCur c) a0 a1 = true) : f80_P a0 a1 (curBelow a0 a1) := (Classical.choice (f80_ne a0 a1)).property hg
theorem curBelow_ok (a0 : CurT) (a1 : Int) (hg : (fun c _ => gCur c) a0 a1 = true) : (fun _ n o => 0 ≤ o.1 ∧ (0 < n → o.1 < n) ∧ gCur o.2 = true) a0 a1 (curBelow a0 a1) := (f80_sp a0 a1 hg).1
theorem curBelow_g (a0 : CurT) (a1 : Int) (hg : gCur a0 = true) : gCur (curBelow a0 a1).2 = true := by
  have h := curBelow_ok a0 a1 hg
  first | exact h | exact h.2 | exact h.2.2 | exact h.2.2.2
theorem f80_spec (a0 : CurT) (a1 : Int) (hg : (fun c _ => gCur c) a0 a1 = true) : ∃ keep rounds, ∀ {R : Type} (k : List Dt → Option R), evFn f80e keep rounds f80c [.pmut, .ro] [false] true [.tmp 4] [3] [.d .cur a0, .d (.i .i64) a1] k = k [.d (.i .i64) ((curBelow a0 a1).1), .d .cur ((curBelow a0 a1).2)] := by
 obtain ⟨n, hn⟩ := (f80_sp a0 a1 hg).2
 exact ⟨f80k, n, hn⟩
noncomputable def q80 : List Dt → Option (Bool × List Dt)
 | [.d .cur a0, .d (.i .i64) a1] => some (((fun c _ => gCur c) a0 a1), [.d (.i .i64) ((curBelow a0 a1).1), .d .cur ((curBelow a0 a1).2)])
 | _ => none
noncomputable def s80 : Gm.Spec := Gm.Spec.of [.pmut, .ro] [false] true q80
theorem good80 : Gm.Good Try.prog (80, s80) := by
 have hl : ∀ x ∈ [(92, s92)], Gm.Good Try.prog x := fcJ.2 ⟨good92, fcN⟩
 refine ⟨⟨spec_ok (tab_ok.env hl) (tab.natl hl) Try.func80 (by kernel_rfl : Try.f80.body = some f80c) [3] (by kernel_rfl) ?_, _, Try.func80, by kernel_rfl, of_decide_eq_true (by kernel_rfl)⟩, Gm.Spec.of_natl _ _ _ _⟩
 intro ds outs h
 unfold q80 at h
 split at h
 ·simp only [Option.some.injEq, Prod.mk.injEq] at h; obtain ⟨hg, h⟩ := h; cases h; exact f80_spec _ _ hg
 ·cases h
noncomputable def f79c : Code := (Try.f79.body).getD .skip
def f79k : Nat → Kp := kat [⟨[0, 1], [], [], []⟩, ⟨[0, 4], [], [], []⟩]
noncomputable def f79e : Env := tab.env [(80, s80)]
theorem f79_run {R : Type} (n : Nat) (k : List Dt → Option R) (a0 : CurT) (a1 : Int) : evFn f79e f79k n f79c [.pmut, .ro] [false] true [.tmp 4] [4] [.d .cur a0, .d (.i .i64) a1] k =
 (cond ((fun c _ => gCur c) a0 a1)
 (k [.d .bool (((curBelow a0 a1).1) == (0 : Int)), .d .cur ((curBelow a0 a1).2)])
 none) := by kernel_rfl
def f79_P (a0 : CurT) (a1 : Int) (o : Bool × CurT) : Prop := (fun _ _ o => gCur o.2 = true) a0 a1 o ∧ ∃ n : Nat, ∀ {R : Type} (k : List Dt → Option R), evFn f79e f79k n f79c [.pmut, .ro] [false] true [.tmp 4] [4] [.d .cur a0, .d (.i .i64) a1] k = k [.d .bool o.1, .d .cur o.2]
theorem f79_ex (a0 : CurT) (a1 : Int) (hg : (fun c _ => gCur c) a0 a1 = true) : ∃ o : Bool × CurT, (fun _ _ o => gCur o.2 = true) a0 a1 o ∧ ∃ n : Nat, ∀ {R : Type} (k : List Dt → Option R), evFn f79e f79k n f79c [.pmut, .ro] [false] true [.tmp 4] [4] [.d .cur a0, .d (.i .i64) a1] k = k [.d .bool o.1, .d .cur o.2] := by
 have hg : gCur a0 = true := hg
 obtain ⟨_, _, g1⟩ := curBelow_ok a0 a1 hg
 refine ⟨(?az0, ?bz0), ?gz0, 0, ?rz0⟩
 case rz0 =>
  intro R k
  rw [f79_run]
  simp only [hg, cond_true]
  exact rfl
 case gz0 => exact g1
theorem f79_ne (a0 : CurT) (a1 : Int) : Nonempty {o : Bool × CurT // (fun c _ => gCur c) a0 a1 = true → f79_P a0 a1 o} := by
 by_cases hg : (fun c _ => gCur c) a0 a1 = true
 ·obtain ⟨o, ho⟩ := f79_ex a0 a1 hg
  exact ⟨⟨o, fun _ => ho⟩⟩
 ·exact ⟨⟨((zero .bool), (zero .cur)), fun h => absurd h hg⟩⟩
noncomputable def curOnce (a0 : CurT) (a1 : Int) : Bool × CurT := (Classical.choice (f79_ne a0 a1)).val
theorem f79_sp (a0 : CurT) (a1 : Int) (hg : (fun c _ => gCur c) a0 a1 = true) : f79_P a0 a1 (curOnce a0 a1) := (Classical.choice (f79_ne a0 a1)).property hg
theorem curOnce_ok (a0 : CurT) (a1 : Int) (hg : (fun c _ => gCur c) a0 a1 = true) : (fun _ _ o => gCur o.2 = true) a0 a1 (curOnce a0 a1) := (f79_sp a0 a1 hg).1
theorem curOnce_g (a0 : CurT) (a1 : Int) (hg : gCur a0 = true) : gCur (curOnce a0 a1).2 = true := by
  have h := curOnce_ok a0 a1 hg
  first | exact h | exact h.2 | exact h.2.2 | exact h.2.2.2
theorem f79_spec (a0 : CurT) (a1 : Int) (hg : (fun c _ => gCur c) a0 a1 = true) : ∃ keep rounds, ∀ {R : Type} (k : List Dt → Option R), evFn f79e keep rounds f79c [.pmut, .ro] [false] true [.tmp 4] [4] [.d .cur a0, .d (.i .i64) a1] k = k [.d .bool ((curOnce a0 a1).1), .d .cur ((curOnce a0 a1).2)] := by
 obtain ⟨n, hn⟩ := (f79_sp a0 a1 hg).2
 exact ⟨f79k, n, hn⟩
noncomputable def q79 : List Dt → Option (Bool × List Dt)
 | [.d .cur a0, .d (.i .i64) a1] => some (((fun c _ => gCur c) a0 a1), [.d .bool ((curOnce a0 a1).1), .d .cur ((curOnce a0 a1).2)])
 | _ => none
noncomputable def s79 : Gm.Spec := Gm.Spec.of [.pmut, .ro] [false] true q79
theorem good79 : Gm.Good Try.prog (79, s79) := by
 have hl : ∀ x ∈ [(80, s80)], Gm.Good Try.prog x := fcJ.2 ⟨good80, fcN⟩
 refine ⟨⟨spec_ok (tab_ok.env hl) (tab.natl hl) Try.func79 (by kernel_rfl : Try.f79.body = some f79c) [4] (by kernel_rfl) ?_, _, Try.func79, by kernel_rfl, of_decide_eq_true (by kernel_rfl)⟩, Gm.Spec.of_natl _ _ _ _⟩
 intro ds outs h
 unfold q79 at h
 split at h
 ·simp only [Option.some.injEq, Prod.mk.injEq] at h; obtain ⟨hg, h⟩ := h; cases h; exact f79_spec _ _ hg
 ·cases h
noncomputable def f82c : Code := (Try.f82.body).getD .skip
def f82k : Nat → Kp := kat [⟨[0, 1], [], [], []⟩, ⟨[0, 4], [], [], []⟩]
noncomputable def f82e : Env := tab.env [(80, s80)]
theorem f82_run {R : Type} (n : Nat) (k : List Dt → Option R) (a0 : CurT) (a1 : List BA) : evFn f82e f82k n f82c [.pmut, .ro] [false] true [.tmp 4] [9] [.d .cur a0, .d (.sl .str) a1] k =
 (cond ((fun c _ => gCur c) a0 (a1.length : Int))
 (cond ((decide ((0 : Int) ≤ ((curBelow a0 (a1.length : Int)).1))) && (decide (((curBelow a0 (a1.length : Int)).1) < (a1.length : Int))))
 (k [.d .str (atI (t := .str) a1 (Int.toNat ((curBelow a0 (a1.length : Int)).1))), .d .cur ((curBelow a0 (a1.length : Int)).2)])
 none)
 none) := by kernel_rfl
def f82_P (a0 : CurT) (a1 : List BA) (o : BA × CurT) : Prop := (fun _ l o => o.1 ∈ l ∧ gCur o.2 = true) a0 a1 o ∧ ∃ n : Nat, ∀ {R : Type} (k : List Dt → Option R), evFn f82e f82k n f82c [.pmut, .ro] [false] true [.tmp 4] [9] [.d .cur a0, .d (.sl .str) a1] k = k [.d .str o.1, .d .cur o.2]
theorem f82_ex (a0 : CurT) (a1 : List BA) (hg : gPickS a0 a1 = true) : ∃ o : BA × CurT, (fun _ l o => o.1 ∈ l ∧ gCur o.2 = true) a0 a1 o ∧ ∃ n : Nat, ∀ {R : Type} (k : List Dt → Option R), evFn f82e f82k n f82c [.pmut, .ro] [false] true [.tmp 4] [9] [.d .cur a0, .d (.sl .str) a1] k = k [.d .str o.1, .d .cur o.2] := by
 obtain ⟨hg, hne⟩ := Bool.and_eq_true_iff.1 hg
 obtain ⟨hne, hl⟩ := Bool.and_eq_true_iff.1 hne
 obtain ⟨h0, h1, g1⟩ := curBelow_ok a0 (a1.length : Int) hg
 have h1 := h1 (lenPos hne)
 refine ⟨(?az0, ?bz0), ?gz0, 0, ?rz0⟩
 case rz0 =>
  intro R k
  rw [f82_run]
  simp only [hg, idxOk h0 h1, cond_true]
  exact rfl
 case gz0 => exact ⟨mem_atI (t := .str) h0 h1, g1⟩
theorem f82_ne (a0 : CurT) (a1 : List BA) : Nonempty {o : BA × CurT // gPickS a0 a1 = true → f82_P a0 a1 o} := by
 by_cases hg : gPickS a0 a1 = true
 ·obtain ⟨o, ho⟩ := f82_ex a0 a1 hg
  exact ⟨⟨o, fun _ => ho⟩⟩
 ·exact ⟨⟨((zero .str), (zero .cur)), fun h => absurd h hg⟩⟩
noncomputable def curPick (a0 : CurT) (a1 : List BA) : BA × CurT := (Classical.choice (f82_ne a0 a1)).val
theorem f82_sp (a0 : CurT) (a1 : List BA) (hg : gPickS a0 a1 = true) : f82_P a0 a1 (curPick a0 a1) := (Classical.choice (f82_ne a0 a1)).property hg
theorem curPick_ok (a0 : CurT) (a1 : List BA) (hg : gPickS a0 a1 = true) : (fun _ l o => o.1 ∈ l ∧ gCur o.2 = true) a0 a1 (curPick a0 a1) := (f82_sp a0 a1 hg).1
theorem curPick_g (a0 : CurT) (a1 : List BA) (hg : gPickS a0 a1 = true) : gCur (curPick a0 a1).2 = true := by
  have h := curPick_ok a0 a1 hg
  first | exact h | exact h.2 | exact h.2.2 | exact h.2.2.2
theorem f82_spec (a0 : CurT) (a1 : List BA) (hg : gPickS a0 a1 = true) : ∃ keep rounds, ∀ {R : Type} (k : List Dt → Option R), evFn f82e keep rounds f82c [.pmut, .ro] [false] true [.tmp 4] [9] [.d .cur a0, .d (.sl .str) a1] k = k [.d .str ((curPick a0 a1).1), .d .cur ((curPick a0 a1).2)] := by
 obtain ⟨n, hn⟩ := (f82_sp a0 a1 hg).2
 exact ⟨f82k, n, hn⟩
noncomputable def q82 : List Dt → Option (Bool × List Dt)
 | [.d .cur a0, .d (.sl .str) a1] => some ((gPickS a0 a1), [.d .str ((curPick a0 a1).1), .d .cur ((curPick a0 a1).2)])
 | _ => none
noncomputable def s82 : Gm.Spec := Gm.Spec.of [.pmut, .ro] [false] true q82
theorem good82 : Gm.Good Try.prog (82, s82) := by
 have hl : ∀ x ∈ [(80, s80)], Gm.Good Try.prog x := fcJ.2 ⟨good80, fcN⟩
 refine ⟨⟨spec_ok (tab_ok.env hl) (tab.natl hl) Try.func82 (by kernel_rfl : Try.f82.body = some f82c) [9] (by kernel_rfl) ?_, _, Try.func82, by kernel_rfl, of_decide_eq_true (by kernel_rfl)⟩, Gm.Spec.of_natl _ _ _ _⟩
 intro ds outs h
 unfold q82 at h
 split at h
 ·simp only [Option.some.injEq, Prod.mk.injEq] at h; obtain ⟨hg, h⟩ := h; cases h; exact f82_spec _ _ hg
 ·cases h
noncomputable def f81c : Code := (Try.f81.body).getD .skip
def f81k : Nat → Kp := kat [⟨[0, 1], [], [], []⟩, ⟨[0, 4], [], [], []⟩]
noncomputable def f81e : Env := tab.env [(80, s80)]
theorem f81_run {R : Type} (n : Nat) (k : List Dt → Option R) (a0 : CurT) (a1 : List Int) : evFn f81e f81k n f81c [.pmut, .ro] [false] true [.tmp 4] [3] [.d .cur a0, .d (.sl (.i .i64)) a1] k =
 (cond ((fun c _ => gCur c) a0 (a1.length : Int))
 (cond ((decide ((0 : Int) ≤ ((curBelow a0 (a1.length : Int)).1))) && (decide (((curBelow a0 (a1.length : Int)).1) < (a1.length : Int))))
 (k [.d (.i .i64) (atI (t := (.i .i64)) a1 (Int.toNat ((curBelow a0 (a1.length : Int)).1))), .d .cur ((curBelow a0 (a1.length : Int)).2)])
 none)
 none) := by kernel_rfl
def f81_P (a0 : CurT) (a1 : List Int) (o : Int × CurT) : Prop := (fun _ l o => o.1 ∈ l ∧ gCur o.2 = true) a0 a1 o ∧ ∃ n : Nat, ∀ {R : Type} (k : List Dt → Option R), evFn f81e f81k n f81c [.pmut, .ro] [false] true [.tmp 4] [3] [.d .cur a0, .d (.sl (.i .i64)) a1] k = k [.d (.i .i64) o.1, .d .cur o.2]
theorem f81_ex (a0 : CurT) (a1 : List Int) (hg : gPickI a0 a1 = true) : ∃ o : Int × CurT, (fun _ l o => o.1 ∈ l ∧ gCur o.2 = true) a0 a1 o ∧ ∃ n : Nat, ∀ {R : Type} (k : List Dt → Option R), evFn f81e f81k n f81c [.pmut, .ro] [false] true [.tmp 4] [3] [.d .cur a0, .d (.sl (.i .i64)) a1] k = k [.d (.i .i64) o.1, .d .cur o.2] := by
 obtain ⟨hg, hne⟩ := Bool.and_eq_true_iff.1 hg
 obtain ⟨hne, hl⟩ := Bool.and_eq_true_iff.1 hne
 obtain ⟨h0, h1, g1⟩ := curBelow_ok a0 (a1.length : Int) hg
 have h1 := h1 (lenPos hne)
 refine ⟨(?az0, ?bz0), ?gz0, 0, ?rz0⟩
 case rz0 =>
  intro R k
  rw [f81_run]
  simp only [hg, idxOk h0 h1, cond_true]
  exact rfl
 case gz0 => exact ⟨mem_atI (t := (.i .i64)) h0 h1, g1⟩
theorem f81_ne (a0 : CurT) (a1 : List Int) : Nonempty {o : Int × CurT // gPickI a0 a1 = true → f81_P a0 a1 o} := by
 by_cases hg : gPickI a0 a1 = true
 ·obtain ⟨o, ho⟩ := f81_ex a0 a1 hg
  exact ⟨⟨o, fun _ => ho⟩⟩
 ·exact ⟨⟨((zero (.i .i64)), (zero .cur)), fun h => absurd h hg⟩⟩
noncomputable def curPickI (a0 : CurT) (a1 : List Int) : Int × CurT := (Classical.choice (f81_ne a0 a1)).val
theorem f81_sp (a0 : CurT) (a1 : List Int) (hg : gPickI a0 a1 = true) : f81_P a0 a1 (curPickI a0 a1) := (Classical.choice (f81_ne a0 a1)).property hg
theorem curPickI_ok (a0 : CurT) (a1 : List Int) (hg : gPickI a0 a1 = true) : (fun _ l o => o.1 ∈ l ∧ gCur o.2 = true) a0 a1 (curPickI a0 a1) := (f81_sp a0 a1 hg).1
theorem curPickI_g (a0 : CurT) (a1 : List Int) (hg : gPickI a0 a1 = true) : gCur (curPickI a0 a1).2 = true := by
  have h := curPickI_ok a0 a1 hg
  first | exact h | exact h.2 | exact h.2.2 | exact h.2.2.2
theorem f81_spec (a0 : CurT) (a1 : List Int) (hg : gPickI a0 a1 = true) : ∃ keep rounds, ∀ {R : Type} (k : List Dt → Option R), evFn f81e keep rounds f81c [.pmut, .ro] [false] true [.tmp 4] [3] [.d .cur a0, .d (.sl (.i .i64)) a1] k = k [.d (.i .i64) ((curPickI a0 a1).1), .d .cur ((curPickI a0 a1).2)] := by
 obtain ⟨n, hn⟩ := (f81_sp a0 a1 hg).2
 exact ⟨f81k, n, hn⟩
theorem smStr_pick {c : CurT} {l : List BA} (hg : gCur c = true) (hn : (!l.isEmpty && Nat.ble l.length 1048576) = true) (h : (l.all smStr) = true) : smStr (curPick c l).1 = true :=
  smStr_in (curPick_ok c l (gPickS_of hg hn)).1 h
theorem okI_pickI {c : CurT} {l : List Int} (hg : gCur c = true) (hn : (!l.isEmpty && Nat.ble l.length 1048576) = true) (h : (l.all okI) = true) : okI (curPickI c l).1 = true :=
  List.all_eq_true.1 h _ (curPickI_ok c l (gPickI_of hg hn)).1
theorem okI_below {c : CurT} {n : Int} (hg : gCur c = true) (h : 0 < n) (h2 : n ≤ 9223372036854775807) : okI (curBelow c n).1 = true := by
 obtain ⟨h0, h1, _⟩ := curBelow_ok c n hg
 have := h1 h
 exact okI_of (by omega) (by omega)
noncomputable def q81 : List Dt → Option (Bool × List Dt)
 | [.d .cur a0, .d (.sl (.i .i64)) a1] => some ((gPickI a0 a1), [.d (.i .i64) ((curPickI a0 a1).1), .d .cur ((curPickI a0 a1).2)])
 | _ => none
noncomputable def s81 : Gm.Spec := Gm.Spec.of [.pmut, .ro] [false] true q81
theorem good81 : Gm.Good Try.prog (81, s81) := by
 have hl : ∀ x ∈ [(80, s80)], Gm.Good Try.prog x := fcJ.2 ⟨good80, fcN⟩
 refine ⟨⟨spec_ok (tab_ok.env hl) (tab.natl hl) Try.func81 (by kernel_rfl : Try.f81.body = some f81c) [3] (by kernel_rfl) ?_, _, Try.func81, by kernel_rfl, of_decide_eq_true (by kernel_rfl)⟩, Gm.Spec.of_natl _ _ _ _⟩
 intro ds outs h
 unfold q81 at h
 split at h
 ·simp only [Option.some.injEq, Prod.mk.injEq] at h; obtain ⟨hg, h⟩ := h; cases h; exact f81_spec _ _ hg
 ·cases h
noncomputable def f56c : Code := (Try.f56.body).getD .skip
def f56k : Nat → Kp := kat [⟨[1], [], [], []⟩, ⟨[2], [], [], []⟩]
noncomputable def f56e : Env := tab.env []
theorem f56_run {R : Type} (n : Nat) (k : List Dt → Option R) (a0 : NodeT) : evFn f56e f56k n f56c [.ro] [false] true [.tmp 2] [4] [.d .node a0] k =
 (cond ((NodeT.kind a0) == (5 : Int))
 (k [.d .bool (((NodeT.keys a0).length : Int) == ((NodeT.kids a0).length : Int))])
 (k [.d .bool false])) := by kernel_rfl
theorem f56_spec (a0 : NodeT) : ∃ keep rounds, ∀ {R : Type} (k : List Dt → Option R), evFn f56e keep rounds f56c [.ro] [false] true [.tmp 2] [4] [.d .node a0] k = k [.d .bool (isMapN a0)] := by
 refine ⟨f56k, 0, fun k => ?_⟩
 rw [f56_run]; unfold isMapN
 cases a0.kind == (5 : Int) <;> rfl
noncomputable def q56 : List Dt → Option (Bool × List Dt)
 | [.d .node a0] => some (true, [.d .bool (isMapN a0)])
 | _ => none
noncomputable def s56 : Gm.Spec := Gm.Spec.of [.ro] [false] true q56
theorem good56 : Gm.Good Try.prog (56, s56) := by
 have hl : ∀ x ∈ ([] : List (Nat × Gm.Spec)), Gm.Good Try.prog x := fun _ h => by cases h
 refine ⟨⟨spec_ok (tab_ok.env hl) (tab.natl hl) Try.func56 (by kernel_rfl : Try.f56.body = some f56c) [4] (by kernel_rfl) ?_, _, Try.func56, by kernel_rfl, of_decide_eq_true (by kernel_rfl)⟩, Gm.Spec.of_natl _ _ _ _⟩
 intro ds outs h
 unfold q56 at h
 split at h
 ·cases h; exact f56_spec _
 ·cases h
noncomputable def f90c : Code := (Try.f90.body).getD .skip
def f90k : Nat → Kp := kat [⟨[0, 1, 2], [], [], []⟩, ⟨[6], [], [], []⟩]
noncomputable def f90e : Env := tab.env []
theorem f90_run {R : Type} (n : Nat) (k : List Dt → Option R) (a0 : Int) (a1 : Int) (a2 : Int) : evFn f90e f90k n f90c [.ro, .ro, .ro] [false] true [.tmp 6] [4] [.d (.i .i64) a0, .d (.i .i64) a1, .d (.i .i64) a2] k =
 (cond (decide (a0 ≥ a1))
 (k [.d .bool (decide (a0 ≤ a2))])
 (k [.d .bool false])) := by kernel_rfl
theorem f90_spec (a0 : Int) (a1 : Int) (a2 : Int) : ∃ keep rounds, ∀ {R : Type} (k : List Dt → Option R), evFn f90e keep rounds f90c [.ro, .ro, .ro] [false] true [.tmp 6] [4] [.d (.i .i64) a0, .d (.i .i64) a1, .d (.i .i64) a2] k = k [.d .bool (inR a0 a1 a2)] := by
 refine ⟨f90k, 0, fun k => ?_⟩
 rw [f90_run]; unfold inR
 cases decide (a0 ≥ a1) <;> rfl
noncomputable def q90 : List Dt → Option (Bool × List Dt)
 | [.d (.i .i64) a0, .d (.i .i64) a1, .d (.i .i64) a2] => some (true, [.d .bool (inR a0 a1 a2)])
 | _ => none
noncomputable def s90 : Gm.Spec := Gm.Spec.of [.ro, .ro, .ro] [false] true q90
theorem good90 : Gm.Good Try.prog (90, s90) := by
 have hl : ∀ x ∈ ([] : List (Nat × Gm.Spec)), Gm.Good Try.prog x := fun _ h => by cases h
 refine ⟨⟨spec_ok (tab_ok.env hl) (tab.natl hl) Try.func90 (by kernel_rfl : Try.f90.body = some f90c) [4] (by kernel_rfl) ?_, _, Try.func90, by kernel_rfl, of_decide_eq_true (by kernel_rfl)⟩, Gm.Spec.of_natl _ _ _ _⟩
 intro ds outs h
 unfold q90 at h
 split at h
 ·cases h; exact f90_spec _ _ _
 ·cases h
noncomputable def f67S0 (y0 : List BA) (y1 : BA) (y2 : Int) (y3 : Int) : St := ⟨[(0, .c (.one (.ro .str y0))), (1, .c (.one (.v (.string y1)))), (7, .c (.one (.v (.int .i64 y2)))), (8, .c (.one (.v (.int .i64 y3))))], [], []⟩
noncomputable def f67S1 (y0 : Int) : St := ⟨[(4, .c (.one (.v (.int .i64 y0))))], [], []⟩
noncomputable def f67S2 (y0 : List BA) (y1 : BA) (y2 : Int) (y3 : Int) (y4 : Bool) : St := ⟨[(0, .c (.one (.ro .str y0))), (1, .c (.one (.v (.string y1)))), (7, .c (.one (.v (.int .i64 y2)))), (8, .c (.one (.v (.int .i64 y3)))), (9, .c (.one (.v (.bool y4))))], [], []⟩
noncomputable def f67c : Code := (Try.f67.body).getD .skip
def f67k : Nat → Kp := kat [⟨[0, 1], [], [], []⟩, ⟨[0, 1, 7, 8], [], [], []⟩, ⟨[0, 1, 7, 8, 9], [], [], []⟩, ⟨[0, 1, 5, 7, 8], [], [], []⟩, ⟨[0, 1, 5, 7, 8, 16], [], [], []⟩, ⟨[4], [], [], []⟩, ⟨[0, 1, 7, 8], [], [], []⟩, ⟨[4], [], [], []⟩]
noncomputable def f67e : Env := tab.env []
noncomputable def f67L0 {R : Type} (n : Nat) (x0 : Int → Option R) (x1 : Int → Bool → Option R) (wA : List BA) (wC : BA) (wO : Int) : Nat → Int → Option R
  | 0, _ => none
  | m + 1, wM =>
    (cond (decide (wM < wO))
   (cond ((decide ((0 : Int) ≤ wM)) && (decide (wM < (wA.length : Int))))
    (cond (sEq wC (atI (t := .str) wA (Int.toNat wM)))
     (x0 wM)
     (f67L0 n x0 x1 wA wC wO m (IntKind.wrap .i64 (wM + (1 : Int)))))
    none)
   (x1 wM (decide (wM < wO))))
theorem f67L0_b {R : Type} (n : Nat) (k' : Ex → St → Option R) (wA : List BA) (wC : BA) (wO : Int) (wM : Int) : ev f67e f67k n (cAt [1,0,1,0,0] f67c) (f67S0 wA wC wO wM) k' =
 (cond (decide (wM < wO))
 (cond ((decide ((0 : Int) ≤ wM)) && (decide (wM < (wA.length : Int))))
 (cond (sEq wC (atI (t := .str) wA (Int.toNat wM)))
 (k' .ret (f67S1 wM))
 (k' .normal (f67S0 wA wC wO (IntKind.wrap .i64 (wM + (1 : Int))))))
 none)
 (k' (.exit 0) (f67S2 wA wC wO wM (decide (wM < wO))))) := by kernel_rfl
theorem f67L0_eq {R : Type} (n : Nat) (k' : Ex → St → Option R) (wA : List BA) (wC : BA) (wO : Int) : ∀ (m : Nat) (wM : Int), iter (fun st k => ev f67e f67k n (cAt [1,0,1,0,0] f67c) st k) m (f67S0 wA wC wO wM) k' = f67L0 n (fun (wJ : Int) => k' .ret (f67S1 wJ)) (fun (wT : Int) (wU : Bool) => k' (.exit 0) (f67S2 wA wC wO wT wU)) wA wC wO m wM := by
 intro m; induction m with
 | zero => intros; rfl
 | succ m ih =>
  intro wM
  simp only [iter]
  rw [f67L0_b]
  simp only [ih, f67L0]
noncomputable def f67K0 {R : Type} (n : Nat) (k' : Ex → St → Option R) : Ex → St → Option R := (blockK 0 (seqK f67e f67k n (cAt [1,1] f67c) k'))
theorem f67K0_x0 {R : Type} (n : Nat) (k : List Dt → Option R) (a0 : List BA) (a1 : BA) (wJ : Int) : f67K0 n (exitK f67e [.ro, .ro] [false] true [.tmp 4] [3] [.d (.sl .str) a0, .d .str a1] k) .ret (f67S1 wJ) =
 (k [.d (.i .i64) wJ]) := by kernel_rfl
theorem f67K0_x1 {R : Type} (n : Nat) (k : List Dt → Option R) (a0 : List BA) (a1 : BA) (wA : List BA) (wC : BA) (wO : Int) (wT : Int) (wU : Bool) : f67K0 n (exitK f67e [.ro, .ro] [false] true [.tmp 4] [3] [.d (.sl .str) a0, .d .str a1] k) (.exit 0) (f67S2 wA wC wO wT wU) =
 (k [.d (.i .i64) (-1 : Int)]) := by kernel_rfl
theorem f67_run {R : Type} (n : Nat) (k : List Dt → Option R) (a0 : List BA) (a1 : BA) : evFn f67e f67k n f67c [.ro, .ro] [false] true [.tmp 4] [3] [.d (.sl .str) a0, .d .str a1] k =
 (f67L0 n (fun (wJ : Int) =>
 (k [.d (.i .i64) wJ])) (fun (wT : Int) (wU : Bool) =>
 (k [.d (.i .i64) (-1 : Int)])) a0 a1 (a0.length : Int) n (0 : Int)) := by
 refine Eq.trans (b := (iter (fun st k => ev f67e f67k n (cAt [1,0,1,0,0] f67c) st k) n (f67S0 a0 a1 (a0.length : Int) (0 : Int)) (f67K0 n (exitK f67e [.ro, .ro] [false] true [.tmp 4] [3] [.d (.sl .str) a0, .d .str a1] k)))) (by kernel_rfl) ?_
 simp only [f67L0_eq, f67K0_x0, f67K0_x1]
theorem f67_spec (a0 : List BA) (a1 : BA) (hg : gLenW a0 = true) : ∃ keep rounds, ∀ {R : Type} (k : List Dt → Option R), evFn f67e keep rounds f67c [.ro, .ro] [false] true [.tmp 4] [3] [.d (.sl .str) a0, .d .str a1] k = k [.d (.i .i64) (idxS a0 a1)] := by
 have hl := gLenW_le hg
 refine ⟨f67k, a0.length + 1, fun k => ?_⟩
 rw [f67_run]
 refine Eq.trans (loop_find (n := a0.length) (F := fun m i => f67L0 (a0.length + 1) _ _ a0 a1 (a0.length : Int) m i) (p := fun j => sEq a1 (atI (t := .str) a0 j)) (hit := fun i => k [.d (.i .i64) i]) (miss := k [.d (.i .i64) (-1 : Int)])
  (fun m j hj => ?_) (fun m => by simp only [f67L0, idxE, cond_false]) a0.length 0 (a0.length + 1) (by omega) (by omega)) ?_
 ·obtain ⟨h1, h0, hw, ht⟩ := idx hj (by omega)
  simp only [f67L0, h1, h0, hw, ht, Bool.and_self, cond_true]
 ·show _ = k [.d (.i .i64) (plc _)]
  cases firstN (fun j => sEq a1 (atI (t := .str) a0 j)) 0 a0.length <;> rfl
noncomputable def q67 : List Dt → Option (Bool × List Dt)
 | [.d (.sl .str) a0, .d .str a1] => some (((fun (x : List BA) (_ : BA) => gLenW x) a0 a1), [.d (.i .i64) (idxS a0 a1)])
 | _ => none
noncomputable def s67 : Gm.Spec := Gm.Spec.of [.ro, .ro] [false] true q67
theorem good67 : Gm.Good Try.prog (67, s67) := by
 have hl : ∀ x ∈ ([] : List (Nat × Gm.Spec)), Gm.Good Try.prog x := fun _ h => by cases h
 refine ⟨⟨spec_ok (tab_ok.env hl) (tab.natl hl) Try.func67 (by kernel_rfl : Try.f67.body = some f67c) [3] (by kernel_rfl) ?_, _, Try.func67, by kernel_rfl, of_decide_eq_true (by kernel_rfl)⟩, Gm.Spec.of_natl _ _ _ _⟩
 intro ds outs h
 unfold q67 at h
 split at h
 ·simp only [Option.some.injEq, Prod.mk.injEq] at h; obtain ⟨hg, h⟩ := h; cases h; exact f67_spec _ _ hg
 ·cases h
noncomputable def f37S0 (y0 : Int) (y1 : Bool) (y2 : BA) : St := ⟨[(0, .c (.one (.v (.int .i64 y0)))), (3, .c (.one (.v (.bool y1)))), (4, .c (.one (.v (.string y2))))], [], []⟩
noncomputable def f37S1 (y0 : Int) (y1 : Bool) (y2 : BA) (y3 : Bool) : St := ⟨[(0, .c (.one (.v (.int .i64 y0)))), (3, .c (.one (.v (.bool y1)))), (4, .c (.one (.v (.string y2)))), (11, .c (.one (.v (.bool y3))))], [], []⟩
noncomputable def f37c : Code := (Try.f37.body).getD .skip
def f37k : Nat → Kp := kat [⟨[0], [], [], []⟩, ⟨[0, 7], [], [], []⟩, ⟨[2], [], [], []⟩, ⟨[0, 3], [], [], []⟩, ⟨[0, 3, 4], [], [], []⟩, ⟨[0, 3, 4, 11], [], [], []⟩, ⟨[0, 3, 4, 5], [], [], []⟩, ⟨[0, 3, 4, 5, 15], [], [], []⟩, ⟨[0, 3, 4, 5], [], [], []⟩, ⟨[0, 3, 4], [], [], []⟩, ⟨[0, 3, 4], [], [], []⟩, ⟨[4, 27], [], [], []⟩, ⟨[2], [], [], []⟩, ⟨[2], [], [], []⟩]
noncomputable def f37e : Env := tab.env []
noncomputable def f37L0 {R : Type} (n : Nat) (x0 : Int → BA → Bool → Option R) (wQ : Bool) : Nat → Int → BA → Option R
  | 0, _, _ => none
  | m + 1, wA, wD =>
    (cond (wA != (0 : Int))
   (cond (decide ((Int.tmod wA (10 : Int)) < (0 : Int)))
    (cond (decide (ByteArray.size (bytesOf ([(IntKind.wrap .u8 (IntKind.wrap .i64 ((48 : Int) + (IntKind.wrap .i64 ((0 : Int) - (Int.tmod wA (10 : Int)))))))] : List Int)) + ByteArray.size wD ≤ 9223372036854775807))
     (f37L0 n x0 wQ m (IntKind.wrap .i64 (Int.tdiv wA (10 : Int))) ((bytesOf ([(IntKind.wrap .u8 (IntKind.wrap .i64 ((48 : Int) + (IntKind.wrap .i64 ((0 : Int) - (Int.tmod wA (10 : Int)))))))] : List Int)) ++ wD))
     none)
    (cond (decide (ByteArray.size (bytesOf ([(IntKind.wrap .u8 (IntKind.wrap .i64 ((48 : Int) + (Int.tmod wA (10 : Int)))))] : List Int)) + ByteArray.size wD ≤ 9223372036854775807))
     (f37L0 n x0 wQ m (IntKind.wrap .i64 (Int.tdiv wA (10 : Int))) ((bytesOf ([(IntKind.wrap .u8 (IntKind.wrap .i64 ((48 : Int) + (Int.tmod wA (10 : Int)))))] : List Int)) ++ wD))
     none))
   (x0 wA wD (wA != (0 : Int))))
theorem f37L0_b {R : Type} (n : Nat) (k' : Ex → St → Option R) (wA : Int) (wQ : Bool) (wD : BA) : ev f37e f37k n (cAt [1,1,1,1,0,0,0] f37c) (f37S0 wA wQ wD) k' =
 (cond (wA != (0 : Int))
 (cond (decide ((Int.tmod wA (10 : Int)) < (0 : Int)))
 (cond (decide (ByteArray.size (bytesOf ([(IntKind.wrap .u8 (IntKind.wrap .i64 ((48 : Int) + (IntKind.wrap .i64 ((0 : Int) - (Int.tmod wA (10 : Int)))))))] : List Int)) + ByteArray.size wD ≤ 9223372036854775807))
 (k' .normal (f37S0 (IntKind.wrap .i64 (Int.tdiv wA (10 : Int))) wQ ((bytesOf ([(IntKind.wrap .u8 (IntKind.wrap .i64 ((48 : Int) + (IntKind.wrap .i64 ((0 : Int) - (Int.tmod wA (10 : Int)))))))] : List Int)) ++ wD)))
 none)
 (cond (decide (ByteArray.size (bytesOf ([(IntKind.wrap .u8 (IntKind.wrap .i64 ((48 : Int) + (Int.tmod wA (10 : Int)))))] : List Int)) + ByteArray.size wD ≤ 9223372036854775807))
 (k' .normal (f37S0 (IntKind.wrap .i64 (Int.tdiv wA (10 : Int))) wQ ((bytesOf ([(IntKind.wrap .u8 (IntKind.wrap .i64 ((48 : Int) + (Int.tmod wA (10 : Int)))))] : List Int)) ++ wD)))
 none))
 (k' (.exit 0) (f37S1 wA wQ wD (wA != (0 : Int))))) := by kernel_rfl
theorem f37L0_eq {R : Type} (n : Nat) (k' : Ex → St → Option R) (wQ : Bool) : ∀ (m : Nat) (wA : Int) (wD : BA), iter (fun st k => ev f37e f37k n (cAt [1,1,1,1,0,0,0] f37c) st k) m (f37S0 wA wQ wD) k' = f37L0 n (fun (wV : Int) (wJ : BA) (wW : Bool) => k' (.exit 0) (f37S1 wV wQ wJ wW)) wQ m wA wD := by
 intro m; induction m with
 | zero => intros; rfl
 | succ m ih =>
  intro wA wD
  simp only [iter]
  rw [f37L0_b]
  simp only [ih, f37L0]
noncomputable def f37K0 {R : Type} (n : Nat) (k' : Ex → St → Option R) : Ex → St → Option R := (blockK 0 (seqK f37e f37k n (cAt [1,1,1,1,1] f37c) k'))
theorem f37K0_x0 {R : Type} (n : Nat) (k : List Dt → Option R) (a0 : Int) (wQ : Bool) (wV : Int) (wJ : BA) (wW : Bool) : f37K0 n (exitK f37e [.ro] [false] true [.tmp 2] [9] [.d (.i .i64) a0] k) (.exit 0) (f37S1 wV wQ wJ wW) =
 (cond wQ
 (cond (decide (ByteArray.size (bs [45]) + ByteArray.size wJ ≤ 9223372036854775807))
 (k [.d .str ((bs [45]) ++ wJ)])
 none)
 (k [.d .str wJ])) := by kernel_rfl
theorem f37_run {R : Type} (n : Nat) (k : List Dt → Option R) (a0 : Int) : evFn f37e f37k n f37c [.ro] [false] true [.tmp 2] [9] [.d (.i .i64) a0] k =
 (cond (a0 == (0 : Int))
 (k [.d .str (bs [48])])
 (f37L0 n (fun (wV : Int) (wJ : BA) (wW : Bool) =>
 (cond (decide (a0 < (0 : Int)))
 (cond (decide (ByteArray.size (bs [45]) + ByteArray.size wJ ≤ 9223372036854775807))
 (k [.d .str ((bs [45]) ++ wJ)])
 none)
 (k [.d .str wJ]))) (decide (a0 < (0 : Int))) n a0 ByteArray.empty)) := by
 refine Eq.trans (b := (cond (a0 == (0 : Int))
 (k [.d .str (bs [48])])
 (iter (fun st k => ev f37e f37k n (cAt [1,1,1,1,0,0,0] f37c) st k) n (f37S0 a0 (decide (a0 < (0 : Int))) ByteArray.empty) (f37K0 n (exitK f37e [.ro] [false] true [.tmp 2] [9] [.d (.i .i64) a0] k))))) (by kernel_rfl) ?_
 simp only [f37L0_eq, f37K0_x0]
theorem f37_spec (a0 : Int) (hg : okI a0 = true) : ∃ keep rounds, ∀ {R : Type} (k : List Dt → Option R), evFn f37e keep rounds f37c [.ro] [false] true [.tmp 2] [9] [.d (.i .i64) a0] k = k [.d .str (digS a0)] := by
 have hg0 := hg
 rw [okI_iff] at hg
 refine ⟨f37k, 25, fun {R} k => ?_⟩
 rw [f37_run]
 by_cases hz : a0 = 0
 ·subst hz
  have e : digS 0 = bs [48] := by rw [show (0 : Int) = ((0 : Nat) : Int) from rfl, digS_nat, natDig_lt (by omega)]; rfl
  rw [e]; rfl
 have hz' : (a0 == (0 : Int)) = false := by rw [beq_eq_false_iff_ne]; exact hz
 rw [hz', cond_false]
 have key : ∀ (d m : Nat) (n : Int) (out : BA), n.natAbs < 10 ^ d → d ≤ 20 → d < m → (n ≤ 9223372036854775807 ∧ -9223372036854775808 ≤ n) → out.size + d ≤ 100 → ∀ X : Int → BA → Bool → Option R, (∀ o b, X 0 o b = X 0 o false) →
   f37L0 25 X (decide (a0 < (0 : Int))) m n out = X 0 (digR n.natAbs out) false := by
  intro d
  induction d with
  | zero =>
   intro m n out hn hd hm hw hs X hX
   obtain ⟨m, rfl⟩ : ∃ m', m = m' + 1 := ⟨m - 1, by omega⟩
   have : n = 0 := by omega
   subst this
   simp only [f37L0]
   rfl
  | succ d ih =>
   intro m n out hn hd hm hw hs X hX
   obtain ⟨m, rfl⟩ : ∃ m', m = m' + 1 := ⟨m - 1, by omega⟩
   by_cases h0 : n = 0
   ·subst h0
    simp only [f37L0]
    rfl
   have h0' : (n != (0 : Int)) = true := by rw [bne_iff_ne]; exact h0
   have hn2 : n.natAbs / 10 < 10 ^ d := by rw [Nat.pow_succ] at hn; omega
   have hb := byte_dig (n.natAbs % 10) (by omega)
   have hsz : ByteArray.size ⟨#[UInt8.ofNat (48 + n.natAbs % 10)]⟩ = 1 := rfl
   simp only [f37L0, h0', cond_true]
   by_cases h1 : n < 0
   ·have t1 : IntKind.wrap .i64 (Int.tdiv n 10) = -((n.natAbs / 10 : Nat) : Int) := by rw [tdiv_neg h1]; exact wrap_id (by omega) (by omega)
    have t2 : Int.tmod n 10 = -((n.natAbs % 10 : Nat) : Int) := tmod_neg h1
    have e1 : IntKind.wrap .i64 ((0 : Int) - -((n.natAbs % 10 : Nat) : Int)) = ((n.natAbs % 10 : Nat) : Int) := by rw [wrap_id (by omega) (by omega)]; omega
    rw [t1, t2, e1, hb]
    have fin := ih m (-((n.natAbs / 10 : Nat) : Int)) (⟨#[UInt8.ofNat (48 + n.natAbs % 10)]⟩ ++ out) (by omega) (by omega) (by omega) (by omega) (by rw [ByteArray.size_append]; omega) X hX
    rw [show (-((n.natAbs / 10 : Nat) : Int)).natAbs = n.natAbs / 10 by omega, digR_step (by omega)] at fin
    rw [← fin]
    have hle := app_le (a := ⟨#[UInt8.ofNat (48 + n.natAbs % 10)]⟩) (b := out) (by omega)
    by_cases h2 : -((n.natAbs % 10 : Nat) : Int) < 0
    ·simp only [h2, decide_true, cond_true, hle]
    ·have h3 : n.natAbs % 10 = 0 := by omega
     simp only [h2, decide_false, cond_false]
     have hb0 : bytesOf [IntKind.wrap .u8 (IntKind.wrap .i64 ((48 : Int) + -((n.natAbs % 10 : Nat) : Int)))] = ⟨#[UInt8.ofNat (48 + n.natAbs % 10)]⟩ := by rw [h3]; rfl
     rw [hb0, hle, cond_true]
   ·have t1 : IntKind.wrap .i64 (Int.tdiv n 10) = ((n.natAbs / 10 : Nat) : Int) := by rw [tdiv_pos (by omega)]; exact wrap_id (by omega) (by omega)
    have t2 : Int.tmod n 10 = ((n.natAbs % 10 : Nat) : Int) := tmod_pos (by omega)
    rw [t1, t2, hb]
    have fin := ih m (((n.natAbs / 10 : Nat) : Int)) (⟨#[UInt8.ofNat (48 + n.natAbs % 10)]⟩ ++ out) (by omega) (by omega) (by omega) (by omega) (by rw [ByteArray.size_append]; omega) X hX
    rw [show (((n.natAbs / 10 : Nat) : Int)).natAbs = n.natAbs / 10 by omega, digR_step (by omega)] at fin
    rw [← fin]
    have hle := app_le (a := ⟨#[UInt8.ofNat (48 + n.natAbs % 10)]⟩) (b := out) (by omega)
    have h2 : ¬ ((n.natAbs % 10 : Nat) : Int) < 0 := by omega
    simp only [h2, decide_false, cond_false, cond_true, hle]
 refine Eq.trans (key 20 25 a0 ByteArray.empty (by have : (10 : Nat) ^ 20 = 100000000000000000000 := rfl; omega) (by omega) (by omega) (by omega) (by show 0 + 20 ≤ 100; omega) _ (fun _ _ => rfl)) ?_
 have e : digR a0.natAbs ByteArray.empty = ⟨(natDig a0.natAbs).toArray⟩ := by
  unfold digR; rw [if_neg (by omega)]; apply ba_ext; simp
 rw [e]
 by_cases h1 : a0 < 0
 ·have hs := digS_size hg0
  have ed : digS a0 = bs [45] ++ ⟨(natDig a0.natAbs).toArray⟩ := by
   unfold digS; rw [if_pos h1]; apply ba_ext; rw [ba_app]; simp [bs]
  have hs2 : (bs [45]).size + ByteArray.size ⟨(natDig a0.natAbs).toArray⟩ ≤ 9223372036854775807 := by
   rw [ed, ByteArray.size_append] at hs; omega
  simp only [h1, decide_true, cond_true, app_le hs2, ed]
 ·have ed : digS a0 = ⟨(natDig a0.natAbs).toArray⟩ := by
   unfold digS; rw [if_neg h1]; simp
  simp only [h1, decide_false, cond_false, ed]
noncomputable def q37 : List Dt → Option (Bool × List Dt)
 | [.d (.i .i64) a0] => some ((okI a0), [.d .str (digS a0)])
 | _ => none
noncomputable def s37 : Gm.Spec := Gm.Spec.of [.ro] [false] true q37
theorem good37 : Gm.Good Try.prog (37, s37) := by
 have hl : ∀ x ∈ ([] : List (Nat × Gm.Spec)), Gm.Good Try.prog x := fun _ h => by cases h
 refine ⟨⟨spec_ok (tab_ok.env hl) (tab.natl hl) Try.func37 (by kernel_rfl : Try.f37.body = some f37c) [9] (by kernel_rfl) ?_, _, Try.func37, by kernel_rfl, of_decide_eq_true (by kernel_rfl)⟩, Gm.Spec.of_natl _ _ _ _⟩
 intro ds outs h
 unfold q37 at h
 split at h
 ·simp only [Option.some.injEq, Prod.mk.injEq] at h; obtain ⟨hg, h⟩ := h; cases h; exact f37_spec _ hg
 ·cases h
noncomputable def q39 : List Dt → Option (Bool × List Dt)
 | [.d (.i .i64) a0] => some ((okI a0), [.d .str (digS a0)])
 | _ => none
noncomputable def mu39 : List Dt → Nat
 | [.d (.i .i64) a0] => muDig a0
 | _ => 0
noncomputable def s39r (N : Nat) : Gm.Spec := Gm.Spec.of [.ro] [false] true (qlt mu39 N q39)
noncomputable def f39c : Code := (Try.f39.body).getD .skip
def f39k : Nat → Kp := kat [⟨[0], [], [], []⟩, ⟨[0, 3], [], [], []⟩, ⟨[2], [], [], []⟩, ⟨[0, 14], [], [], []⟩, ⟨[2], [], [], []⟩, ⟨[0, 25], [], [], []⟩, ⟨[2], [], [], []⟩, ⟨[2], [], [], []⟩]
noncomputable def f39e (N : Nat) : Env := tab.env [(39, s39r N)]
theorem f39_run {R : Type} (N : Nat) (n : Nat) (k : List Dt → Option R) (a0 : Int) : evFn (f39e N) f39k n f39c [.ro] [false] true [.tmp 2] [9] [.d (.i .i64) a0] k =
 (cond (decide (a0 < (0 : Int)))
 (cond (decide (a0 > (-10 : Int)))
 (cond ((okI (IntKind.wrap .i64 (0 - a0))) && (Nat.blt (muDig (IntKind.wrap .i64 (0 - a0))) N))
 (cond (decide (ByteArray.size (bs [45]) + ByteArray.size (digS (IntKind.wrap .i64 (0 - a0))) ≤ 9223372036854775807))
 (k [.d .str ((bs [45]) ++ (digS (IntKind.wrap .i64 (0 - a0))))])
 none)
 none)
 (cond (decide (a0 < (0 : Int)))
 (cond ((okI (IntKind.wrap .i64 (Int.tdiv a0 (10 : Int)))) && (Nat.blt (muDig (IntKind.wrap .i64 (Int.tdiv a0 (10 : Int)))) N))
 (cond ((okI (IntKind.wrap .i64 (0 - (Int.tmod a0 (10 : Int))))) && (Nat.blt (muDig (IntKind.wrap .i64 (0 - (Int.tmod a0 (10 : Int))))) N))
 (cond (decide (ByteArray.size (digS (IntKind.wrap .i64 (Int.tdiv a0 (10 : Int)))) + ByteArray.size (digS (IntKind.wrap .i64 (0 - (Int.tmod a0 (10 : Int))))) ≤ 9223372036854775807))
 (k [.d .str ((digS (IntKind.wrap .i64 (Int.tdiv a0 (10 : Int)))) ++ (digS (IntKind.wrap .i64 (0 - (Int.tmod a0 (10 : Int))))))])
 none)
 none)
 none)
 (cond (decide (a0 < (10 : Int)))
 (k [.d .str (Utf8.encode (IntKind.wrap .i32 (IntKind.wrap .i64 ((48 : Int) + a0))))])
 (cond ((okI (IntKind.wrap .i64 (Int.tdiv a0 (10 : Int)))) && (Nat.blt (muDig (IntKind.wrap .i64 (Int.tdiv a0 (10 : Int)))) N))
 (cond (decide (ByteArray.size (digS (IntKind.wrap .i64 (Int.tdiv a0 (10 : Int)))) + ByteArray.size (Utf8.encode (IntKind.wrap .i32 (IntKind.wrap .i64 ((48 : Int) + (Int.tmod a0 (10 : Int)))))) ≤ 9223372036854775807))
 (k [.d .str ((digS (IntKind.wrap .i64 (Int.tdiv a0 (10 : Int)))) ++ (Utf8.encode (IntKind.wrap .i32 (IntKind.wrap .i64 ((48 : Int) + (Int.tmod a0 (10 : Int)))))))])
 none)
 none))))
 (cond (decide (a0 < (0 : Int)))
 (cond ((okI (IntKind.wrap .i64 (Int.tdiv a0 (10 : Int)))) && (Nat.blt (muDig (IntKind.wrap .i64 (Int.tdiv a0 (10 : Int)))) N))
 (cond ((okI (IntKind.wrap .i64 (0 - (Int.tmod a0 (10 : Int))))) && (Nat.blt (muDig (IntKind.wrap .i64 (0 - (Int.tmod a0 (10 : Int))))) N))
 (cond (decide (ByteArray.size (digS (IntKind.wrap .i64 (Int.tdiv a0 (10 : Int)))) + ByteArray.size (digS (IntKind.wrap .i64 (0 - (Int.tmod a0 (10 : Int))))) ≤ 9223372036854775807))
 (k [.d .str ((digS (IntKind.wrap .i64 (Int.tdiv a0 (10 : Int)))) ++ (digS (IntKind.wrap .i64 (0 - (Int.tmod a0 (10 : Int))))))])
 none)
 none)
 none)
 (cond (decide (a0 < (10 : Int)))
 (k [.d .str (Utf8.encode (IntKind.wrap .i32 (IntKind.wrap .i64 ((48 : Int) + a0))))])
 (cond ((okI (IntKind.wrap .i64 (Int.tdiv a0 (10 : Int)))) && (Nat.blt (muDig (IntKind.wrap .i64 (Int.tdiv a0 (10 : Int)))) N))
 (cond (decide (ByteArray.size (digS (IntKind.wrap .i64 (Int.tdiv a0 (10 : Int)))) + ByteArray.size (Utf8.encode (IntKind.wrap .i32 (IntKind.wrap .i64 ((48 : Int) + (Int.tmod a0 (10 : Int)))))) ≤ 9223372036854775807))
 (k [.d .str ((digS (IntKind.wrap .i64 (Int.tdiv a0 (10 : Int)))) ++ (Utf8.encode (IntKind.wrap .i32 (IntKind.wrap .i64 ((48 : Int) + (Int.tmod a0 (10 : Int)))))))])
 none)
 none)))) := by kernel_rfl
theorem f39_spec (N : Nat) (a0 : Int) (hg : okI a0 = true) (hm : mu39 [.d (.i .i64) a0] = N) : ∃ keep rounds, ∀ {R : Type} (k : List Dt → Option R), evFn (f39e N) keep rounds f39c [.ro] [false] true [.tmp 2] [9] [.d (.i .i64) a0] k = k [.d .str (digS a0)] := by
 refine ⟨f39k, 0, fun k => ?_⟩
 rw [f39_run]
 have hm : muDig a0 = N := hm
 subst hm
 have hg0 := hg
 rw [okI_iff] at hg
 by_cases h1 : a0 < 0
 ·by_cases h2 : a0 > -10
  ·have o1 : okI (IntKind.wrap .i64 (0 - a0)) = true := by rw [wrap_id (by omega) (by omega), okI_iff]; omega
   have m1 : Nat.blt (muDig (IntKind.wrap .i64 (0 - a0))) (muDig a0) = true := by
    rw [wrap_id (by omega) (by omega), Nat.blt_eq]; unfold muDig; rw [if_pos h1, if_neg (by omega)]; omega
   have s1 := digS_size o1
   have b1 : (bs [45]).size = 1 := rfl
   simp only [h1, h2, o1, m1, decide_true, cond_true, Bool.and_self, app_le (show (bs [45]).size + (digS (IntKind.wrap .i64 (0 - a0))).size ≤ 9223372036854775807 by omega), digS_negone h1 h2]
  ·have t1 : IntKind.wrap .i64 (Int.tdiv a0 10) = Int.tdiv a0 10 := by rw [tdiv_neg h1]; exact wrap_id (by omega) (by omega)
   have o1 : okI (Int.tdiv a0 10) = true := by rw [tdiv_neg h1, okI_iff]; omega
   have m1 : Nat.blt (muDig (Int.tdiv a0 10)) (muDig a0) = true := by
    rw [tdiv_neg h1, Nat.blt_eq]; unfold muDig; rw [if_pos h1]; split <;> omega
   have e2 : IntKind.wrap .i64 (0 - (Int.tmod a0 10)) = ((a0.natAbs % 10 : Nat) : Int) := by
    rw [tmod_neg h1, wrap_id (by omega) (by omega)]; omega
   have o2 : okI (IntKind.wrap .i64 (0 - (Int.tmod a0 10))) = true := by rw [e2, okI_iff]; omega
   have m2 : Nat.blt (muDig (IntKind.wrap .i64 (0 - (Int.tmod a0 10)))) (muDig a0) = true := by
    rw [e2, Nat.blt_eq]; unfold muDig; rw [if_pos h1, if_neg (by omega)]; omega
   have s1 := digS_size o1
   have s2 := digS_size o2
   simp only [h1, h2, t1, o1, m1, o2, m2, decide_true, decide_false, cond_true, cond_false, Bool.and_self, app_le (show (digS (Int.tdiv a0 10)).size + (digS (IntKind.wrap .i64 (0 - (Int.tmod a0 10)))).size ≤ 9223372036854775807 by omega), digS_le h2]
 ·by_cases h2 : a0 < 10
  ·simp only [h1, h2, decide_true, decide_false, cond_true, cond_false, digS_one (show 0 ≤ a0 by omega) h2]
  ·have t1 : IntKind.wrap .i64 (Int.tdiv a0 10) = Int.tdiv a0 10 := by rw [tdiv_pos (by omega)]; exact wrap_id (by omega) (by omega)
   have o1 : okI (Int.tdiv a0 10) = true := by rw [tdiv_pos (by omega), okI_iff]; omega
   have m1 : Nat.blt (muDig (Int.tdiv a0 10)) (muDig a0) = true := by
    rw [tdiv_pos (by omega), Nat.blt_eq]; unfold muDig; rw [if_neg h1, if_neg (by omega)]; omega
   have s1 := digS_size o1
   have s2 : (Utf8.encode (IntKind.wrap .i32 (IntKind.wrap .i64 ((48 : Int) + (Int.tmod a0 10))))).size ≤ 4 := encode_size_le _
   simp only [h1, h2, t1, o1, m1, decide_true, decide_false, cond_true, cond_false, Bool.and_self, app_le (show (digS (Int.tdiv a0 10)).size + (Utf8.encode (IntKind.wrap .i32 (IntKind.wrap .i64 ((48 : Int) + (Int.tmod a0 10))))).size ≤ 9223372036854775807 by omega), digS_ge h2]
noncomputable def s39 : Gm.Spec := Gm.Spec.of [.ro] [false] true q39
theorem good39 : Gm.Good Try.prog (39, s39) := by
 refine ⟨⟨spec_rec mu39 fun N hr => ?_, _, Try.func39, by kernel_rfl, of_decide_eq_true (by kernel_rfl)⟩, Gm.Spec.of_natl _ _ _ _⟩
 have hl : ∀ x ∈ [(39, s39r N)], Gm.Good Try.prog x := fcJ.2 ⟨⟨⟨hr, _, Try.func39, by kernel_rfl, of_decide_eq_true (by kernel_rfl)⟩, Gm.Spec.of_natl _ _ _ _⟩, fcN⟩
 intro R
 refine spec_ok (E := f39e N) (tab_ok.env hl) (tab.natl hl) Try.func39 (by kernel_rfl : Try.f39.body = some f39c) [9] (by kernel_rfl) ?_
 intro ds outs h
 obtain ⟨h, hm⟩ := qeq_some h
 unfold q39 at h
 split at h
 ·simp only [Option.some.injEq, Prod.mk.injEq] at h; obtain ⟨hg, h⟩ := h; cases h; exact f39_spec N _ hg hm
 ·cases h
noncomputable def f76S0 (y0 : BA) (y1 : BA) (y2 : Int) (y3 : Int) (y4 : Int) : St := ⟨[(0, .c (.one (.v (.string y0)))), (4, .c (.one (.v (.string y1)))), (5, .c (.one (.v (.int .i64 y2)))), (25, .c (.one (.v (.int .i64 y3)))), (26, .c (.one (.v (.int .i64 y4))))], [], []⟩
noncomputable def f76S1 : St := ⟨[(2, .c (.one (.v (.int .i64 (0 : Int))))), (3, .c (.one (.v (.bool false))))], [], []⟩
noncomputable def f76S2 (y0 : BA) (y1 : BA) (y2 : Int) (y3 : Int) (y4 : Int) (y5 : Bool) : St := ⟨[(0, .c (.one (.v (.string y0)))), (4, .c (.one (.v (.string y1)))), (5, .c (.one (.v (.int .i64 y2)))), (25, .c (.one (.v (.int .i64 y3)))), (26, .c (.one (.v (.int .i64 y4)))), (27, .c (.one (.v (.bool y5))))], [], []⟩
noncomputable def f76c : Code := (Try.f76.body).getD .skip
def f76k : Nat → Kp := kat [⟨[0], [], [], []⟩, ⟨[0, 4], [], [], []⟩, ⟨[0, 4, 14], [], [], []⟩, ⟨[0, 4], [], [], []⟩, ⟨[0, 4, 23], [], [], []⟩, ⟨[2, 3], [], [], []⟩, ⟨[0, 4, 5], [], [], []⟩, ⟨[0, 4, 5, 25, 26], [], [], []⟩, ⟨[0, 4, 5, 25, 26, 27], [], [], []⟩, ⟨[0, 4, 5, 6, 25, 26], [], [], []⟩, ⟨[0, 4, 5, 6, 25, 26, 38], [], [], []⟩, ⟨[2, 3], [], [], []⟩, ⟨[0, 4, 5, 25, 26], [], [], []⟩, ⟨[0, 4, 5, 25, 26], [], [], []⟩, ⟨[0, 5, 52], [], [], []⟩, ⟨[0, 5], [], [], []⟩, ⟨[5, 63], [], [], []⟩, ⟨[2, 3], [], [], []⟩, ⟨[2, 3], [], [], []⟩]
noncomputable def f76e : Env := tab.env [(39, s39), (90, s90)]
noncomputable def f76L0 {R : Type} (n : Nat) (x0 : Option R) (x1 : Int → Int → Bool → Option R) (wA : BA) (wD : BA) (wP : Int) : Nat → Int → Int → Option R
  | 0, _, _ => none
  | m + 1, wE, wH =>
    (cond (decide (wH < wP))
   (cond ((decide ((0 : Int) ≤ wH)) && (decide (wH < (ByteArray.size wD : Int))))
    (cond (decide ((((ByteArray.data wD).getD (Int.toNat wH) 0).toNat : Int) < (48 : Int)))
     (x0)
     (cond ((decide ((0 : Int) ≤ wH)) && (decide (wH < (ByteArray.size wD : Int))))
      (cond (decide ((((ByteArray.data wD).getD (Int.toNat wH) 0).toNat : Int) > (57 : Int)))
       (x0)
       (cond ((decide ((0 : Int) ≤ wH)) && (decide (wH < (ByteArray.size wD : Int))))
        (f76L0 n x0 x1 wA wD wP m (IntKind.wrap .i64 ((IntKind.wrap .i64 ((10 : Int) * wE)) + (IntKind.wrap .i64 (IntKind.wrap .u8 ((((ByteArray.data wD).getD (Int.toNat wH) 0).toNat : Int) - (48 : Int)))))) (IntKind.wrap .i64 (wH + (1 : Int))))
        none))
      none))
    none)
   (x1 wE wH (decide (wH < wP))))
theorem f76L0_b {R : Type} (n : Nat) (k' : Ex → St → Option R) (wA : BA) (wD : BA) (wE : Int) (wP : Int) (wH : Int) : ev f76e f76k n (cAt [1,1,1,1,1,0,1,0,0] f76c) (f76S0 wA wD wE wP wH) k' =
 (cond (decide (wH < wP))
 (cond ((decide ((0 : Int) ≤ wH)) && (decide (wH < (ByteArray.size wD : Int))))
 (cond (decide ((((ByteArray.data wD).getD (Int.toNat wH) 0).toNat : Int) < (48 : Int)))
 (k' .ret f76S1)
 (cond ((decide ((0 : Int) ≤ wH)) && (decide (wH < (ByteArray.size wD : Int))))
 (cond (decide ((((ByteArray.data wD).getD (Int.toNat wH) 0).toNat : Int) > (57 : Int)))
 (k' .ret f76S1)
 (cond ((decide ((0 : Int) ≤ wH)) && (decide (wH < (ByteArray.size wD : Int))))
 (k' .normal (f76S0 wA wD (IntKind.wrap .i64 ((IntKind.wrap .i64 ((10 : Int) * wE)) + (IntKind.wrap .i64 (IntKind.wrap .u8 ((((ByteArray.data wD).getD (Int.toNat wH) 0).toNat : Int) - (48 : Int)))))) wP (IntKind.wrap .i64 (wH + (1 : Int)))))
 none))
 none))
 none)
 (k' (.exit 0) (f76S2 wA wD wE wP wH (decide (wH < wP))))) := by kernel_rfl
theorem f76L0_eq {R : Type} (n : Nat) (k' : Ex → St → Option R) (wA : BA) (wD : BA) (wP : Int) : ∀ (m : Nat) (wE : Int) (wH : Int), iter (fun st k => ev f76e f76k n (cAt [1,1,1,1,1,0,1,0,0] f76c) st k) m (f76S0 wA wD wE wP wH) k' = f76L0 n (k' .ret f76S1) (fun (wB : Int) (wR : Int) (wS : Bool) => k' (.exit 0) (f76S2 wA wD wB wP wR wS)) wA wD wP m wE wH := by
 intro m; induction m with
 | zero => intros; rfl
 | succ m ih =>
  intro wE wH
  simp only [iter]
  rw [f76L0_b]
  simp only [ih, f76L0]
noncomputable def f76K0 {R : Type} (n : Nat) (k' : Ex → St → Option R) : Ex → St → Option R := (blockK 0 (seqK f76e f76k n (cAt [1,1,1,1,1,1] f76c) k'))
theorem f76K0_x0 {R : Type} (n : Nat) (k : List Dt → Option R) (a0 : BA)  : f76K0 n (exitK f76e [.ro] [false, false] true [.tmp 2, .tmp 3] [3, 4] [.d .str a0] k) .ret f76S1 =
 (k [.d (.i .i64) (0 : Int), .d .bool false]) := by kernel_rfl
theorem f76K0_x1 {R : Type} (n : Nat) (k : List Dt → Option R) (a0 : BA) (wA : BA) (wD : BA) (wP : Int) (wB : Int) (wR : Int) (wS : Bool) : f76K0 n (exitK f76e [.ro] [false, false] true [.tmp 2, .tmp 3] [3, 4] [.d .str a0] k) (.exit 0) (f76S2 wA wD wB wP wR wS) =
 (cond (decide ((ByteArray.size wD : Int) < (ByteArray.size wA : Int)))
 (cond (!(inR (IntKind.wrap .i64 (0 - wB)) (-1000000000000 : Int) (1000000000000 : Int)))
 (k [.d (.i .i64) (0 : Int), .d .bool false])
 (cond (okI (IntKind.wrap .i64 (0 - wB)))
 (cond (!(sEq (digS (IntKind.wrap .i64 (0 - wB))) wA))
 (k [.d (.i .i64) (0 : Int), .d .bool false])
 (k [.d (.i .i64) (IntKind.wrap .i64 (0 - wB)), .d .bool true]))
 none))
 (cond (!(inR wB (-1000000000000 : Int) (1000000000000 : Int)))
 (k [.d (.i .i64) (0 : Int), .d .bool false])
 (cond (okI wB)
 (cond (!(sEq (digS wB) wA))
 (k [.d (.i .i64) (0 : Int), .d .bool false])
 (k [.d (.i .i64) wB, .d .bool true]))
 none))) := by kernel_rfl
theorem f76_run {R : Type} (n : Nat) (k : List Dt → Option R) (a0 : BA) : evFn f76e f76k n f76c [.ro] [false, false] true [.tmp 2, .tmp 3] [3, 4] [.d .str a0] k =
 (cond (!(sEq a0 ByteArray.empty))
 (cond (decide ((0 : Int) < (ByteArray.size a0 : Int)))
 (cond ((((ByteArray.data a0).getD 0 0).toNat : Int) == (45 : Int))
 (cond ((decide ((1 : Int) ≤ (ByteArray.size a0 : Int))) && (decide ((ByteArray.size a0 : Int) ≤ (ByteArray.size a0 : Int))))
 (cond (sEq (ByteArray.extract a0 1 (Int.toNat (ByteArray.size a0 : Int))) ByteArray.empty)
 (k [.d (.i .i64) (0 : Int), .d .bool false])
 (cond (decide ((ByteArray.size (ByteArray.extract a0 1 (Int.toNat (ByteArray.size a0 : Int))) : Int) > (13 : Int)))
 (k [.d (.i .i64) (0 : Int), .d .bool false])
 (f76L0 n (k [.d (.i .i64) (0 : Int), .d .bool false]) (fun (wB : Int) (wR : Int) (wS : Bool) =>
 (cond (decide ((ByteArray.size (ByteArray.extract a0 1 (Int.toNat (ByteArray.size a0 : Int))) : Int) < (ByteArray.size a0 : Int)))
 (cond (!(inR (IntKind.wrap .i64 (0 - wB)) (-1000000000000 : Int) (1000000000000 : Int)))
 (k [.d (.i .i64) (0 : Int), .d .bool false])
 (cond (okI (IntKind.wrap .i64 (0 - wB)))
 (cond (!(sEq (digS (IntKind.wrap .i64 (0 - wB))) a0))
 (k [.d (.i .i64) (0 : Int), .d .bool false])
 (k [.d (.i .i64) (IntKind.wrap .i64 (0 - wB)), .d .bool true]))
 none))
 (cond (!(inR wB (-1000000000000 : Int) (1000000000000 : Int)))
 (k [.d (.i .i64) (0 : Int), .d .bool false])
 (cond (okI wB)
 (cond (!(sEq (digS wB) a0))
 (k [.d (.i .i64) (0 : Int), .d .bool false])
 (k [.d (.i .i64) wB, .d .bool true]))
 none)))) a0 (ByteArray.extract a0 1 (Int.toNat (ByteArray.size a0 : Int))) (ByteArray.size (ByteArray.extract a0 1 (Int.toNat (ByteArray.size a0 : Int))) : Int) n (0 : Int) (0 : Int))))
 none)
 (cond (sEq a0 ByteArray.empty)
 (k [.d (.i .i64) (0 : Int), .d .bool false])
 (cond (decide ((ByteArray.size a0 : Int) > (13 : Int)))
 (k [.d (.i .i64) (0 : Int), .d .bool false])
 (f76L0 n (k [.d (.i .i64) (0 : Int), .d .bool false]) (fun (wB : Int) (wR : Int) (wS : Bool) =>
 (cond (decide ((ByteArray.size a0 : Int) < (ByteArray.size a0 : Int)))
 (cond (!(inR (IntKind.wrap .i64 (0 - wB)) (-1000000000000 : Int) (1000000000000 : Int)))
 (k [.d (.i .i64) (0 : Int), .d .bool false])
 (cond (okI (IntKind.wrap .i64 (0 - wB)))
 (cond (!(sEq (digS (IntKind.wrap .i64 (0 - wB))) a0))
 (k [.d (.i .i64) (0 : Int), .d .bool false])
 (k [.d (.i .i64) (IntKind.wrap .i64 (0 - wB)), .d .bool true]))
 none))
 (cond (!(inR wB (-1000000000000 : Int) (1000000000000 : Int)))
 (k [.d (.i .i64) (0 : Int), .d .bool false])
 (cond (okI wB)
 (cond (!(sEq (digS wB) a0))
 (k [.d (.i .i64) (0 : Int), .d .bool false])
 (k [.d (.i .i64) wB, .d .bool true]))
 none)))) a0 a0 (ByteArray.size a0 : Int) n (0 : Int) (0 : Int)))))
 none)
 (cond (sEq a0 ByteArray.empty)
 (k [.d (.i .i64) (0 : Int), .d .bool false])
 (cond (decide ((ByteArray.size a0 : Int) > (13 : Int)))
 (k [.d (.i .i64) (0 : Int), .d .bool false])
 (f76L0 n (k [.d (.i .i64) (0 : Int), .d .bool false]) (fun (wB : Int) (wR : Int) (wS : Bool) =>
 (cond (decide ((ByteArray.size a0 : Int) < (ByteArray.size a0 : Int)))
 (cond (!(inR (IntKind.wrap .i64 (0 - wB)) (-1000000000000 : Int) (1000000000000 : Int)))
 (k [.d (.i .i64) (0 : Int), .d .bool false])
 (cond (okI (IntKind.wrap .i64 (0 - wB)))
 (cond (!(sEq (digS (IntKind.wrap .i64 (0 - wB))) a0))
 (k [.d (.i .i64) (0 : Int), .d .bool false])
 (k [.d (.i .i64) (IntKind.wrap .i64 (0 - wB)), .d .bool true]))
 none))
 (cond (!(inR wB (-1000000000000 : Int) (1000000000000 : Int)))
 (k [.d (.i .i64) (0 : Int), .d .bool false])
 (cond (okI wB)
 (cond (!(sEq (digS wB) a0))
 (k [.d (.i .i64) (0 : Int), .d .bool false])
 (k [.d (.i .i64) wB, .d .bool true]))
 none)))) a0 a0 (ByteArray.size a0 : Int) n (0 : Int) (0 : Int))))) := by
  refine Eq.trans (b := (cond (!(sEq a0 ByteArray.empty))
  (cond (decide ((0 : Int) < (ByteArray.size a0 : Int)))
   (cond ((((ByteArray.data a0).getD 0 0).toNat : Int) == (45 : Int))
    (cond ((decide ((1 : Int) ≤ (ByteArray.size a0 : Int))) && (decide ((ByteArray.size a0 : Int) ≤ (ByteArray.size a0 : Int))))
     (cond (sEq (ByteArray.extract a0 1 (Int.toNat (ByteArray.size a0 : Int))) ByteArray.empty)
      (k [.d (.i .i64) (0 : Int), .d .bool false])
      (cond (decide ((ByteArray.size (ByteArray.extract a0 1 (Int.toNat (ByteArray.size a0 : Int))) : Int) > (13 : Int)))
       (k [.d (.i .i64) (0 : Int), .d .bool false])
       (iter (fun st k => ev f76e f76k n (cAt [1,1,1,1,1,0,1,0,0] f76c) st k) n (f76S0 a0 (ByteArray.extract a0 1 (Int.toNat (ByteArray.size a0 : Int))) (0 : Int) (ByteArray.size (ByteArray.extract a0 1 (Int.toNat (ByteArray.size a0 : Int))) : Int) (0 : Int)) (f76K0 n (exitK f76e [.ro] [false, false] true [.tmp 2, .tmp 3] [3, 4] [.d .str a0] k)))))
     none)
    (cond (sEq a0 ByteArray.empty)
     (k [.d (.i .i64) (0 : Int), .d .bool false])
     (cond (decide ((ByteArray.size a0 : Int) > (13 : Int)))
      (k [.d (.i .i64) (0 : Int), .d .bool false])
      (iter (fun st k => ev f76e f76k n (cAt [1,1,1,1,1,0,1,0,0] f76c) st k) n (f76S0 a0 a0 (0 : Int) (ByteArray.size a0 : Int) (0 : Int)) (f76K0 n (exitK f76e [.ro] [false, false] true [.tmp 2, .tmp 3] [3, 4] [.d .str a0] k))))))
   none)
  (cond (sEq a0 ByteArray.empty)
   (k [.d (.i .i64) (0 : Int), .d .bool false])
   (cond (decide ((ByteArray.size a0 : Int) > (13 : Int)))
    (k [.d (.i .i64) (0 : Int), .d .bool false])
    (iter (fun st k => ev f76e f76k n (cAt [1,1,1,1,1,0,1,0,0] f76c) st k) n (f76S0 a0 a0 (0 : Int) (ByteArray.size a0 : Int) (0 : Int)) (f76K0 n (exitK f76e [.ro] [false, false] true [.tmp 2, .tmp 3] [3, 4] [.d .str a0] k))))))) (by kernel_rfl) ?_
  simp only [f76L0_eq, f76K0_x0, f76K0_x1]
theorem f76_spec (a0 : BA) : ∃ keep rounds, ∀ {R : Type} (k : List Dt → Option R), evFn f76e keep rounds f76c [.ro] [false, false] true [.tmp 2, .tmp 3] [3, 4] [.d .str a0] k = k [.d (.i .i64) ((numS a0).1), .d .bool ((numS a0).2)] := by
  refine ⟨f76k, 14, fun {R} k => ?_⟩
  rw [f76_run]
  show _ = k [.d (.i .i64) (numS a0).1, .d .bool (numS a0).2]
  have key : ∀ (t : BA) (bad : Option R) (fin : Int → Int → Bool → Option R), t.size ≤ 13 → f76L0 14 bad fin a0 t (t.size : Int) 14 (0 : Int) (0 : Int) = Sum.elim (fun _ => bad) (fun n => fin n (t.size : Int) false) (foldE numStep t.data.toList 0) := by
    intro t bad fin ht
    have hlen : t.data.toList.length = t.size := rfl
    refine Eq.trans (loop_fold (xs := t.data.toList) (F := fun m j a => f76L0 14 bad fin a0 t (t.size : Int) m a (j : Int)) (step := numStep) (out := fun _ => bad) (good := fun n => fin n (t.size : Int) false) (fun _ => True) (fun _ _ _ _ _ _ => trivial) (fun m j a x hx _ => ?_) (fun m a _ => ?_) t.size 0 14 0 (by omega) (by omega) trivial) (by rw [List.drop_zero])
    · have hj : j < t.size := by have := lt_of_get hx; omega
      obtain ⟨h1, h0, hw, htt⟩ := idx hj (by omega)
      have hc : (ByteArray.data t).getD j 0 = x := by
        rw [Array.getElem?_toList] at hx
        rw [Array.getD_eq_getD_getElem?, hx]; rfl
      simp only [f76L0, h1, h0, hw, htt, hc, Bool.and_self, cond_true]
      unfold numStep
      cases decide ((x.toNat : Int) < (48 : Int)) <;> cases decide ((x.toNat : Int) > (57 : Int)) <;> rfl
    · simp only [f76L0, hlen, idxE, cond_false]
  have fin : ∀ t : BA, cond (sEq t ByteArray.empty) (k [.d (.i .i64) (0 : Int), .d .bool false]) (cond (decide ((ByteArray.size t : Int) > (13 : Int))) (k [.d (.i .i64) (0 : Int), .d .bool false])
      (f76L0 14 (k [.d (.i .i64) (0 : Int), .d .bool false]) (fun (wB : Int) (wR : Int) (wS : Bool) =>
        (cond (decide ((ByteArray.size t : Int) < (ByteArray.size a0 : Int)))
          (cond (!(inR (IntKind.wrap .i64 (0 - wB)) (-1000000000000 : Int) (1000000000000 : Int)))
            (k [.d (.i .i64) (0 : Int), .d .bool false])
            (cond (okI (IntKind.wrap .i64 (0 - wB)))
              (cond (!(sEq (digS (IntKind.wrap .i64 (0 - wB))) a0))
                (k [.d (.i .i64) (0 : Int), .d .bool false])
                (k [.d (.i .i64) (IntKind.wrap .i64 (0 - wB)), .d .bool true]))
              none))
          (cond (!(inR wB (-1000000000000 : Int) (1000000000000 : Int)))
            (k [.d (.i .i64) (0 : Int), .d .bool false])
            (cond (okI wB)
              (cond (!(sEq (digS wB) a0))
                (k [.d (.i .i64) (0 : Int), .d .bool false])
                (k [.d (.i .i64) wB, .d .bool true]))
              none)))) a0 t (ByteArray.size t : Int) 14 (0 : Int) (0 : Int))) =
      (fun r : Int × Bool => k [.d (.i .i64) r.1, .d .bool r.2]) (cond (sEq t ByteArray.empty) ((0 : Int), false) (cond (decide ((t.size : Int) > 13)) ((0 : Int), false) (Sum.elim (fun _ => ((0 : Int), false)) (numEnd a0 t) (foldE numStep t.data.toList 0)))) := by
    intro t
    cases sEq t ByteArray.empty
    rotate_left
    · rfl
    by_cases h13 : (ByteArray.size t : Int) > (13 : Int)
    · rw [decide_eq_true h13]; rfl
    rw [decide_eq_false h13, key t _ _ (by omega)]
    simp only [cond_false]
    have one : ∀ n : Int, (cond (!(inR n (-1000000000000 : Int) (1000000000000 : Int)))
            (k [.d (.i .i64) (0 : Int), .d .bool false])
            (cond (okI n)
              (cond (!(sEq (digS n) a0))
                (k [.d (.i .i64) (0 : Int), .d .bool false])
                (k [.d (.i .i64) n, .d .bool true]))
              none)) = (fun r : Int × Bool => k [.d (.i .i64) r.1, .d .bool r.2]) (cond (inR n (-1000000000000) 1000000000000) (cond (sEq (digS n) a0) (n, true) ((0 : Int), false)) ((0 : Int), false)) := by
      intro n
      cases hin : inR n (-1000000000000 : Int) (1000000000000 : Int)
      · rfl
      have := inR_iff.1 hin
      rw [okI_of (n := n) (by omega) (by omega)]
      cases sEq (digS n) a0 <;> rfl
    cases foldE numStep t.data.toList 0 with
    | inl _ => rfl
    | inr m =>
      simp only [Sum.elim_inr, numEnd]
      cases decide ((ByteArray.size t : Int) < (ByteArray.size a0 : Int))
      · exact one m
      · exact one (IntKind.wrap .i64 (0 - m))
  cases he : sEq a0 ByteArray.empty
  rotate_left
  · have hT : numT a0 = a0 := by unfold numT; rw [he]; rfl
    unfold numS
    rw [hT]
    simp only [Bool.not_true, cond_false]
    have f := fin a0
    rw [he] at f
    rw [he]
    exact f
  have hpos : 0 < a0.size := by
    rcases Nat.eq_zero_or_pos a0.size with h | h
    · exact absurd (sEq_iff.2 (size_zero h)) (by rw [he]; decide)
    · exact h
  have d1 : decide ((0 : Int) < (ByteArray.size a0 : Int)) = true := decide_eq_true (by omega)
  have d2 : decide ((1 : Int) ≤ (ByteArray.size a0 : Int)) = true := decide_eq_true (by omega)
  have d3 : decide ((ByteArray.size a0 : Int) ≤ (ByteArray.size a0 : Int)) = true := decide_eq_true (by omega)
  simp only [d1, d2, d3, Bool.not_false, Bool.and_self, cond_true, Int.toNat_natCast]
  cases hb : ((((ByteArray.data a0).getD 0 0).toNat : Int) == (45 : Int))
  · have hT : numT a0 = a0 := by unfold numT; rw [he, hb]; rfl
    unfold numS
    rw [hT]
    simp only [cond_false]
    have f := fin a0
    rw [he] at f
    rw [he]
    exact f
  · have hT : numT a0 = ByteArray.extract a0 1 a0.size := by unfold numT; rw [he, hb]; rfl
    unfold numS
    rw [hT]
    simp only [cond_true]
    exact fin _
noncomputable def q76 : List Dt → Option (Bool × List Dt)
 | [.d .str a0] => some (true, [.d (.i .i64) ((numS a0).1), .d .bool ((numS a0).2)])
 | _ => none
noncomputable def s76 : Gm.Spec := Gm.Spec.of [.ro] [false, false] true q76
theorem good76 : Gm.Good Try.prog (76, s76) := by
 have hl : ∀ x ∈ [(39, s39), (90, s90)], Gm.Good Try.prog x := fcJ.2 ⟨good39, fcJ.2 ⟨good90, fcN⟩⟩
 refine ⟨⟨spec_ok (tab_ok.env hl) (tab.natl hl) Try.func76 (by kernel_rfl : Try.f76.body = some f76c) [3, 4] (by kernel_rfl) ?_, _, Try.func76, by kernel_rfl, of_decide_eq_true (by kernel_rfl)⟩, Gm.Spec.of_natl _ _ _ _⟩
 intro ds outs h
 unfold q76 at h
 split at h
 ·cases h; exact f76_spec _
 ·cases h
noncomputable def f58c : Code := (Try.f58.body).getD .skip
def f58k : Nat → Kp := kat [⟨[0], [], [], []⟩, ⟨[4, 5], [], [], []⟩, ⟨[2, 3], [], [], []⟩]
noncomputable def f58e : Env := tab.env [(76, s76)]
theorem f58_run {R : Type} (n : Nat) (k : List Dt → Option R) (a0 : BA) : evFn f58e f58k n f58c [.ro] [false, false] true [.tmp 2, .tmp 3] [3, 4] [.d .str a0] k =
 (cond ((numS a0).2)
 (k [.d (.i .i64) ((numS a0).1), .d .bool (decide (((numS a0).1) ≥ (0 : Int)))])
 (k [.d (.i .i64) ((numS a0).1), .d .bool false])) := by kernel_rfl
theorem f58_spec (a0 : BA) : ∃ keep rounds, ∀ {R : Type} (k : List Dt → Option R), evFn f58e keep rounds f58c [.ro] [false, false] true [.tmp 2, .tmp 3] [3, 4] [.d .str a0] k = k [.d (.i .i64) ((natS a0).1), .d .bool ((natS a0).2)] := by
 refine ⟨f58k, 0, fun {R} k => ?_⟩
 rw [f58_run]
 show _ = k [.d (.i .i64) (natS a0).1, .d .bool (natS a0).2]
 unfold natS
 cases (numS a0).2 <;> rfl
noncomputable def q58 : List Dt → Option (Bool × List Dt)
 | [.d .str a0] => some (true, [.d (.i .i64) ((natS a0).1), .d .bool ((natS a0).2)])
 | _ => none
noncomputable def s58 : Gm.Spec := Gm.Spec.of [.ro] [false, false] true q58
theorem good58 : Gm.Good Try.prog (58, s58) := by
 have hl : ∀ x ∈ [(76, s76)], Gm.Good Try.prog x := fcJ.2 ⟨good76, fcN⟩
 refine ⟨⟨spec_ok (tab_ok.env hl) (tab.natl hl) Try.func58 (by kernel_rfl : Try.f58.body = some f58c) [3, 4] (by kernel_rfl) ?_, _, Try.func58, by kernel_rfl, of_decide_eq_true (by kernel_rfl)⟩, Gm.Spec.of_natl _ _ _ _⟩
 intro ds outs h
 unfold q58 at h
 split at h
 ·cases h; exact f58_spec _
 ·cases h
noncomputable def f45c : Code := (Try.f45.body).getD .skip
def f45k : Nat → Kp := kat [⟨[1, 2], [], [], []⟩, ⟨[1, 2, 10], [], [], []⟩, ⟨[2, 5], [], [], []⟩, ⟨[5, 19], [], [], []⟩, ⟨[4], [], [], []⟩, ⟨[4], [], [], []⟩, ⟨[2, 6, 7], [], [], []⟩, ⟨[6, 39], [], [], []⟩, ⟨[4], [], [], []⟩, ⟨[4], [], [], []⟩]
noncomputable def f45e : Env := tab.env [(58, s58), (67, s67)]
theorem f45_run {R : Type} (n : Nat) (k : List Dt → Option R) (a0 : NodeT) (a1 : BA) : evFn f45e f45k n f45c [.ro, .ro] [false] true [.tmp 4] [3] [.d .node a0, .d .str a1] k =
 (cond ((NodeT.kind a0) == (5 : Int))
 (cond ((fun (x : List BA) (_ : BA) => gLenW x) (NodeT.keys a0) a1)
 (cond (decide ((idxS (NodeT.keys a0) a1) ≥ ((NodeT.kids a0).length : Int)))
 (k [.d (.i .i64) (-1 : Int)])
 (k [.d (.i .i64) (idxS (NodeT.keys a0) a1)]))
 none)
 (cond ((NodeT.kind a0) != (4 : Int))
 (k [.d (.i .i64) (-1 : Int)])
 (cond (!((natS a1).2))
 (k [.d (.i .i64) (-1 : Int)])
 (cond (decide (((natS a1).1) ≥ ((NodeT.kids a0).length : Int)))
 (k [.d (.i .i64) (-1 : Int)])
 (k [.d (.i .i64) ((natS a1).1)]))))) := by kernel_rfl
theorem f45_spec (a0 : NodeT) (a1 : BA) (hg : sm_node a0 = true) : ∃ keep rounds, ∀ {R : Type} (k : List Dt → Option R), evFn f45e keep rounds f45c [.ro, .ro] [false] true [.tmp 4] [3] [.d .node a0, .d .str a1] k = k [.d (.i .i64) (kidAt a0 a1)] := by
 have hg0 := hg
 rw [sm_node_def] at hg
 simp only [Bool.and_eq_true] at hg
 obtain ⟨_, _, _, hke, hki⟩ := hg
 have nke := smL_len hke
 have nki := smL_len hki
 refine ⟨f45k, 0, fun {R} k => ?_⟩
 rw [f45_run]
 simp only [gLenW_sm hke, cond_true]
 cases h5 : a0.kind == (5 : Int)
 ·have e : kidAt a0 a1 = cond (a0.kind == (4 : Int)) (plc (firstN (fun j => sEq (digS (j : Int)) a1) 0 a0.kids.length)) (-1) := by unfold kidAt; rw [h5]; rfl
  rw [e, ← natS_first nki]
  simp only [bne, cond_false]
  cases a0.kind == (4 : Int)
  ·rfl
  cases (natS a1).2
  ·rfl
  cases decide ((natS a1).1 ≥ (a0.kids.length : Int)) <;> rfl
 ·have e : kidAt a0 a1 = keyAt a0 a1 := by unfold kidAt; rw [h5]; rfl
  rw [e, ← idxS_keyAt h5]
  simp only [cond_true]
  cases decide (idxS a0.keys a1 ≥ (a0.kids.length : Int)) <;> rfl
noncomputable def q45 : List Dt → Option (Bool × List Dt)
 | [.d .node a0, .d .str a1] => some (((fun (x : NodeT) (_ : BA) => sm_node x) a0 a1), [.d (.i .i64) (kidAt a0 a1)])
 | _ => none
noncomputable def s45 : Gm.Spec := Gm.Spec.of [.ro, .ro] [false] true q45
theorem good45 : Gm.Good Try.prog (45, s45) := by
 have hl : ∀ x ∈ [(58, s58), (67, s67)], Gm.Good Try.prog x := fcJ.2 ⟨good58, fcJ.2 ⟨good67, fcN⟩⟩
 refine ⟨⟨spec_ok (tab_ok.env hl) (tab.natl hl) Try.func45 (by kernel_rfl : Try.f45.body = some f45c) [3] (by kernel_rfl) ?_, _, Try.func45, by kernel_rfl, of_decide_eq_true (by kernel_rfl)⟩, Gm.Spec.of_natl _ _ _ _⟩
 intro ds outs h
 unfold q45 at h
 split at h
 ·simp only [Option.some.injEq, Prod.mk.injEq] at h; obtain ⟨hg, h⟩ := h; cases h; exact f45_spec _ _ hg
 ·cases h
noncomputable def f66S0 (y0 : BA) (y1 : Int) (y2 : Int) (y3 : Int) (y4 : BA) (y5 : List BA) (y6 : List NodeT) : St := ⟨[(1, .c (.one (.v (.string y0)))), (2, .c (.one (.pt 2 0))), (5, .c (.one (.v (.int .i64 y1))))], [(2, ⟨.node, [.v (.int .i64 y2), .v (.int .i64 y3), .v (.string y4), .ro .str y5, .ro .node y6]⟩)], []⟩
noncomputable def f66S1 (y0 : Int) : St := ⟨[(4, .c (.one (.v (.int .i64 y0))))], [], []⟩
noncomputable def f66S2 (y0 : BA) (y1 : Int) (y2 : Bool) (y3 : Int) (y4 : Int) (y5 : BA) (y6 : List BA) (y7 : List NodeT) : St := ⟨[(1, .c (.one (.v (.string y0)))), (2, .c (.one (.pt 2 0))), (5, .c (.one (.v (.int .i64 y1)))), (22, .c (.one (.v (.bool y2))))], [(2, ⟨.node, [.v (.int .i64 y3), .v (.int .i64 y4), .v (.string y5), .ro .str y6, .ro .node y7]⟩)], []⟩
noncomputable def f66c : Code := (Try.f66.body).getD .skip
def f66k : Nat → Kp := kat [⟨[1, 2], [], [], []⟩, ⟨[1, 2, 5], [], [], []⟩, ⟨[1, 2, 5, 22], [], [], []⟩, ⟨[1, 2, 5], [], [], []⟩, ⟨[1, 2, 5, 31], [], [], []⟩, ⟨[4], [], [], []⟩, ⟨[4], [], [], []⟩]
noncomputable def f66e : Env := tab.env []
noncomputable def f66L0 {R : Type} (n : Nat) (x0 : Int → Option R) (x1 : Int → Bool → Option R) (x2 : Int → Option R) (wC : BA) (wI : Int) (wK : Int) (wL : BA) (wF : List BA) (wG : List NodeT) : Nat → Int → Option R
  | 0, _ => none
  | m + 1, wE =>
    (cond (decide (wE < (wF.length : Int)))
   (cond (decide (wE < (wG.length : Int)))
    (cond (wI == (5 : Int))
     (cond ((decide ((0 : Int) ≤ wE)) && (decide (wE < (wF.length : Int))))
      (cond (sEq (atI (t := .str) wF (Int.toNat wE)) wC)
       (x0 wE)
       (f66L0 n x0 x1 x2 wC wI wK wL wF wG m (IntKind.wrap .i64 (wE + (1 : Int)))))
      none)
     (x1 wE (wI == (5 : Int))))
    (x2 wE))
   (x2 wE))
theorem f66L0_b {R : Type} (n : Nat) (k' : Ex → St → Option R) (wC : BA) (wE : Int) (wI : Int) (wK : Int) (wL : BA) (wF : List BA) (wG : List NodeT) : ev f66e f66k n (cAt [1,0,1,0,0] f66c) (f66S0 wC wE wI wK wL wF wG) k' =
 (cond (decide (wE < (wF.length : Int)))
 (cond (decide (wE < (wG.length : Int)))
 (cond (wI == (5 : Int))
 (cond ((decide ((0 : Int) ≤ wE)) && (decide (wE < (wF.length : Int))))
 (cond (sEq (atI (t := .str) wF (Int.toNat wE)) wC)
 (k' .ret (f66S1 wE))
 (k' .normal (f66S0 wC (IntKind.wrap .i64 (wE + (1 : Int))) wI wK wL wF wG)))
 none)
 (k' (.exit 0) (f66S2 wC wE (wI == (5 : Int)) wI wK wL wF wG)))
 (k' (.exit 0) (f66S2 wC wE false wI wK wL wF wG)))
 (k' (.exit 0) (f66S2 wC wE false wI wK wL wF wG))) := by kernel_rfl
theorem f66L0_eq {R : Type} (n : Nat) (k' : Ex → St → Option R) (wC : BA) (wI : Int) (wK : Int) (wL : BA) (wF : List BA) (wG : List NodeT) : ∀ (m : Nat) (wE : Int), iter (fun st k => ev f66e f66k n (cAt [1,0,1,0,0] f66c) st k) m (f66S0 wC wE wI wK wL wF wG) k' = f66L0 n (fun (wJ : Int) => k' .ret (f66S1 wJ)) (fun (wB : Int) (wX : Bool) => k' (.exit 0) (f66S2 wC wB wX wI wK wL wF wG)) (fun (wB : Int) => k' (.exit 0) (f66S2 wC wB false wI wK wL wF wG)) wC wI wK wL wF wG m wE := by
 intro m; induction m with
 | zero => intros; rfl
 | succ m ih =>
  intro wE
  simp only [iter]
  rw [f66L0_b]
  simp only [ih, f66L0]
noncomputable def f66K0 {R : Type} (n : Nat) (k' : Ex → St → Option R) : Ex → St → Option R := (blockK 0 (seqK f66e f66k n (cAt [1,1] f66c) k'))
theorem f66K0_x0 {R : Type} (n : Nat) (k : List Dt → Option R) (a0 : NodeT) (a1 : BA) (wJ : Int) : f66K0 n (exitK f66e [.ro, .ro] [false] true [.tmp 4] [3] [.d .node a0, .d .str a1] k) .ret (f66S1 wJ) =
 (k [.d (.i .i64) wJ]) := by kernel_rfl
theorem f66K0_x1 {R : Type} (n : Nat) (k : List Dt → Option R) (a0 : NodeT) (a1 : BA) (wC : BA) (wI : Int) (wK : Int) (wL : BA) (wF : List BA) (wG : List NodeT) (wB : Int) (wX : Bool) : f66K0 n (exitK f66e [.ro, .ro] [false] true [.tmp 4] [3] [.d .node a0, .d .str a1] k) (.exit 0) (f66S2 wC wB wX wI wK wL wF wG) =
 (k [.d (.i .i64) (-1 : Int)]) := by kernel_rfl
theorem f66K0_x2 {R : Type} (n : Nat) (k : List Dt → Option R) (a0 : NodeT) (a1 : BA) (wC : BA) (wI : Int) (wK : Int) (wL : BA) (wF : List BA) (wG : List NodeT) (wB : Int) : f66K0 n (exitK f66e [.ro, .ro] [false] true [.tmp 4] [3] [.d .node a0, .d .str a1] k) (.exit 0) (f66S2 wC wB false wI wK wL wF wG) =
 (k [.d (.i .i64) (-1 : Int)]) := by kernel_rfl
theorem f66_run {R : Type} (n : Nat) (k : List Dt → Option R) (a0 : NodeT) (a1 : BA) : evFn f66e f66k n f66c [.ro, .ro] [false] true [.tmp 4] [3] [.d .node a0, .d .str a1] k =
 (f66L0 n (fun (wJ : Int) =>
 (k [.d (.i .i64) wJ])) (fun (wB : Int) (wX : Bool) =>
 (k [.d (.i .i64) (-1 : Int)])) (fun (wB : Int) =>
 (k [.d (.i .i64) (-1 : Int)])) a1 (NodeT.kind a0) (NodeT.n a0) (NodeT.s a0) (NodeT.keys a0) (NodeT.kids a0) n (0 : Int)) := by
 refine Eq.trans (b := (iter (fun st k => ev f66e f66k n (cAt [1,0,1,0,0] f66c) st k) n (f66S0 a1 (0 : Int) (NodeT.kind a0) (NodeT.n a0) (NodeT.s a0) (NodeT.keys a0) (NodeT.kids a0)) (f66K0 n (exitK f66e [.ro, .ro] [false] true [.tmp 4] [3] [.d .node a0, .d .str a1] k)))) (by kernel_rfl) ?_
 simp only [f66L0_eq, f66K0_x0, f66K0_x1, f66K0_x2]
theorem f66_spec (a0 : NodeT) (a1 : BA) (hg : sm_node a0 = true) : ∃ keep rounds, ∀ {R : Type} (k : List Dt → Option R), evFn f66e keep rounds f66c [.ro, .ro] [false] true [.tmp 4] [3] [.d .node a0, .d .str a1] k = k [.d (.i .i64) (keyAt a0 a1)] := by
 have hg0 := hg
 rw [sm_node_def] at hg
 simp only [Bool.and_eq_true] at hg
 obtain ⟨_, _, _, hke, hki⟩ := hg
 have nke := smL_len hke
 have nki := smL_len hki
 refine ⟨f66k, a0.keys.length + 1, fun {R} k => ?_⟩
 rw [f66_run]
 show _ = k [.d (.i .i64) (keyAt a0 a1)]
 unfold keyAt
 cases h5 : a0.kind == (5 : Int)
 ·rw [f66L0]
  simp only [h5, cond_false]
  cases decide ((0 : Int) < (a0.keys.length : Int)) <;> cases decide ((0 : Int) < (a0.kids.length : Int)) <;> rfl
 refine Eq.trans (loop_find (n := min a0.keys.length a0.kids.length) (F := fun m i => f66L0 (a0.keys.length + 1) _ _ _ a1 a0.kind a0.n a0.s a0.keys a0.kids m i) (p := fun j => sEq (atI (t := .str) a0.keys j) a1) (hit := fun i => k [.d (.i .i64) i]) (miss := k [.d (.i .i64) (-1 : Int)])
  (fun m j hj => ?_) (fun m => ?_) (min a0.keys.length a0.kids.length) 0 (a0.keys.length + 1) (by omega) (by omega)) ?_
 ·obtain ⟨h1, h0, hw, ht⟩ := idx (show j < a0.keys.length by omega) (by omega)
  have h2 : decide ((j : Int) < (a0.kids.length : Int)) = true := decide_eq_true (by omega)
  simp only [f66L0, h1, h0, h2, hw, ht, h5, Bool.and_self, cond_true]
 ·by_cases hle : a0.keys.length ≤ a0.kids.length
  ·rw [Nat.min_eq_left hle]
   simp only [f66L0, idxE, cond_false]
  ·rw [Nat.min_eq_right (by omega)]
   have h2 : decide ((a0.kids.length : Int) < (a0.keys.length : Int)) = true := decide_eq_true (by omega)
   simp only [f66L0, h2, idxE, cond_false, cond_true]
 ·simp only [cond_true]
  show _ = k [.d (.i .i64) (plc _)]
  cases firstN (fun j => sEq (atI (t := .str) a0.keys j) a1) 0 (min a0.keys.length a0.kids.length) <;> rfl
noncomputable def q66 : List Dt → Option (Bool × List Dt)
 | [.d .node a0, .d .str a1] => some (((fun (x : NodeT) (_ : BA) => sm_node x) a0 a1), [.d (.i .i64) (keyAt a0 a1)])
 | _ => none
noncomputable def s66 : Gm.Spec := Gm.Spec.of [.ro, .ro] [false] true q66
theorem good66 : Gm.Good Try.prog (66, s66) := by
 have hl : ∀ x ∈ ([] : List (Nat × Gm.Spec)), Gm.Good Try.prog x := fun _ h => by cases h
 refine ⟨⟨spec_ok (tab_ok.env hl) (tab.natl hl) Try.func66 (by kernel_rfl : Try.f66.body = some f66c) [3] (by kernel_rfl) ?_, _, Try.func66, by kernel_rfl, of_decide_eq_true (by kernel_rfl)⟩, Gm.Spec.of_natl _ _ _ _⟩
 intro ds outs h
 unfold q66 at h
 split at h
 ·simp only [Option.some.injEq, Prod.mk.injEq] at h; obtain ⟨hg, h⟩ := h; cases h; exact f66_spec _ _ hg
 ·cases h
noncomputable def f43S0 (y0 : BA) (y1 : Int) (y2 : Int) (y3 : Int) (y4 : BA) (y5 : List BA) (y6 : List NodeT) : St := ⟨[(1, .c (.one (.v (.string y0)))), (2, .c (.one (.pt 2 0))), (6, .c (.one (.v (.int .i64 y1))))], [(2, ⟨.node, [.v (.int .i64 y2), .v (.int .i64 y3), .v (.string y4), .ro .str y5, .ro .node y6]⟩)], []⟩
noncomputable def f43S1 (y0 : Int) : St := ⟨[(4, .c (.one (.v (.int .i64 y0))))], [], []⟩
noncomputable def f43S2 (y0 : BA) (y1 : Int) (y2 : Bool) (y3 : Int) (y4 : Int) (y5 : BA) (y6 : List BA) (y7 : List NodeT) : St := ⟨[(1, .c (.one (.v (.string y0)))), (2, .c (.one (.pt 2 0))), (6, .c (.one (.v (.int .i64 y1)))), (21, .c (.one (.v (.bool y2))))], [(2, ⟨.node, [.v (.int .i64 y3), .v (.int .i64 y4), .v (.string y5), .ro .str y6, .ro .node y7]⟩)], []⟩
noncomputable def f43c : Code := (Try.f43.body).getD .skip
def f43k : Nat → Kp := kat [⟨[1, 2], [], [], []⟩, ⟨[1, 2, 8], [], [], []⟩, ⟨[1, 2, 8, 9], [], [], []⟩, ⟨[5], [], [], []⟩, ⟨[4], [], [], []⟩, ⟨[1, 2, 15], [], [], []⟩, ⟨[1, 2, 6], [], [], []⟩, ⟨[1, 2, 6, 21], [], [], []⟩, ⟨[1, 2, 6], [], [], []⟩, ⟨[1, 2, 6, 27], [], [], []⟩, ⟨[4], [], [], []⟩, ⟨[4], [], [], []⟩]
noncomputable def f43e : Env := tab.env [(37, s37), (66, s66)]
noncomputable def f43L0 {R : Type} (n : Nat) (x0 : Int → Option R) (x1 : Int → Bool → Option R) (wC : BA) (wI : Int) (wK : Int) (wL : BA) (wF : List BA) (wG : List NodeT) : Nat → Int → Option R
  | 0, _ => none
  | m + 1, wN =>
    (cond (decide (wN < (wG.length : Int)))
   (cond (okI wN)
    (cond (sEq (digS wN) wC)
     (x0 wN)
     (f43L0 n x0 x1 wC wI wK wL wF wG m (IntKind.wrap .i64 (wN + (1 : Int)))))
    none)
   (x1 wN (decide (wN < (wG.length : Int)))))
theorem f43L0_b {R : Type} (n : Nat) (k' : Ex → St → Option R) (wC : BA) (wN : Int) (wI : Int) (wK : Int) (wL : BA) (wF : List BA) (wG : List NodeT) : ev f43e f43k n (cAt [1,0,1,0,1,1,1,0,1,0,0] f43c) (f43S0 wC wN wI wK wL wF wG) k' =
 (cond (decide (wN < (wG.length : Int)))
 (cond (okI wN)
 (cond (sEq (digS wN) wC)
 (k' .ret (f43S1 wN))
 (k' .normal (f43S0 wC (IntKind.wrap .i64 (wN + (1 : Int))) wI wK wL wF wG)))
 none)
 (k' (.exit 1) (f43S2 wC wN (decide (wN < (wG.length : Int))) wI wK wL wF wG))) := by kernel_rfl
theorem f43L0_eq {R : Type} (n : Nat) (k' : Ex → St → Option R) (wC : BA) (wI : Int) (wK : Int) (wL : BA) (wF : List BA) (wG : List NodeT) : ∀ (m : Nat) (wN : Int), iter (fun st k => ev f43e f43k n (cAt [1,0,1,0,1,1,1,0,1,0,0] f43c) st k) m (f43S0 wC wN wI wK wL wF wG) k' = f43L0 n (fun (wJ : Int) => k' .ret (f43S1 wJ)) (fun (wY : Int) (wZ : Bool) => k' (.exit 1) (f43S2 wC wY wZ wI wK wL wF wG)) wC wI wK wL wF wG m wN := by
 intro m; induction m with
 | zero => intros; rfl
 | succ m ih =>
  intro wN
  simp only [iter]
  rw [f43L0_b]
  simp only [ih, f43L0]
noncomputable def f43K0 {R : Type} (n : Nat) (k' : Ex → St → Option R) : Ex → St → Option R := (blockK 1 (blockK 0 (seqK f43e f43k n (cAt [1,1] f43c) k')))
theorem f43K0_x0 {R : Type} (n : Nat) (k : List Dt → Option R) (a0 : NodeT) (a1 : BA) (wJ : Int) : f43K0 n (exitK f43e [.ro, .ro] [false] true [.tmp 4] [3] [.d .node a0, .d .str a1] k) .ret (f43S1 wJ) =
 (k [.d (.i .i64) wJ]) := by kernel_rfl
theorem f43K0_x1 {R : Type} (n : Nat) (k : List Dt → Option R) (a0 : NodeT) (a1 : BA) (wC : BA) (wI : Int) (wK : Int) (wL : BA) (wF : List BA) (wG : List NodeT) (wY : Int) (wZ : Bool) : f43K0 n (exitK f43e [.ro, .ro] [false] true [.tmp 4] [3] [.d .node a0, .d .str a1] k) (.exit 1) (f43S2 wC wY wZ wI wK wL wF wG) =
 (k [.d (.i .i64) (-1 : Int)]) := by kernel_rfl
theorem f43_run {R : Type} (n : Nat) (k : List Dt → Option R) (a0 : NodeT) (a1 : BA) : evFn f43e f43k n f43c [.ro, .ro] [false] true [.tmp 4] [3] [.d .node a0, .d .str a1] k =
 (cond ((NodeT.kind a0) == (5 : Int))
 (cond ((fun (x : NodeT) (_ : BA) => sm_node x) (eN a0) a1)
 (k [.d (.i .i64) (keyAt (eN a0) a1)])
 none)
 (cond ((NodeT.kind a0) == (4 : Int))
 (f43L0 n (fun (wJ : Int) =>
 (k [.d (.i .i64) wJ])) (fun (wY : Int) (wZ : Bool) =>
 (k [.d (.i .i64) (-1 : Int)])) a1 (NodeT.kind a0) (NodeT.n a0) (NodeT.s a0) (NodeT.keys a0) (NodeT.kids a0) n (0 : Int))
 (k [.d (.i .i64) (-1 : Int)]))) := by
  refine Eq.trans (b := (cond ((NodeT.kind a0) == (5 : Int))
  (cond ((fun (x : NodeT) (_ : BA) => sm_node x) (eN a0) a1)
   (k [.d (.i .i64) (keyAt (eN a0) a1)])
   none)
  (cond ((NodeT.kind a0) == (4 : Int))
   (iter (fun st k => ev f43e f43k n (cAt [1,0,1,0,1,1,1,0,1,0,0] f43c) st k) n (f43S0 a1 (0 : Int) (NodeT.kind a0) (NodeT.n a0) (NodeT.s a0) (NodeT.keys a0) (NodeT.kids a0)) (f43K0 n (exitK f43e [.ro, .ro] [false] true [.tmp 4] [3] [.d .node a0, .d .str a1] k)))
   (k [.d (.i .i64) (-1 : Int)])))) (by kernel_rfl) ?_
  simp only [f43L0_eq, f43K0_x0, f43K0_x1]
theorem f43_spec (a0 : NodeT) (a1 : BA) (hg : sm_node a0 = true) : ∃ keep rounds, ∀ {R : Type} (k : List Dt → Option R), evFn f43e keep rounds f43c [.ro, .ro] [false] true [.tmp 4] [3] [.d .node a0, .d .str a1] k = k [.d (.i .i64) (kidAt a0 a1)] := by
 have hg0 := hg
 rw [sm_node_def] at hg
 simp only [Bool.and_eq_true] at hg
 obtain ⟨_, _, _, hke, hki⟩ := hg
 have nke := smL_len hke
 have nki := smL_len hki
 refine ⟨f43k, a0.kids.length + 1, fun {R} k => ?_⟩
 rw [f43_run]
 show _ = k [.d (.i .i64) (kidAt a0 a1)]
 simp only [eta_node, eN_eq, hg0, cond_true]
 unfold kidAt
 cases h5 : a0.kind == (5 : Int)
 rotate_left
 ·rfl
 simp only [cond_false]
 cases h4 : a0.kind == (4 : Int)
 ·rfl
 simp only [cond_true]
 refine Eq.trans (loop_find (n := a0.kids.length) (F := fun m i => f43L0 (a0.kids.length + 1) _ _ a1 a0.kind a0.n a0.s a0.keys a0.kids m i) (p := fun j => sEq (digS (j : Int)) a1) (hit := fun i => k [.d (.i .i64) i]) (miss := k [.d (.i .i64) (-1 : Int)])
  (fun m j hj => ?_) (fun m => by simp only [f43L0, idxE, cond_false]) a0.kids.length 0 (a0.kids.length + 1) (by omega) (by omega)) ?_
 ·obtain ⟨h1, h0, hw, ht⟩ := idx hj (by omega)
  simp only [f43L0, h1, hw, okI_of (n := (j : Int)) (by omega) (by omega), cond_true]
 ·show _ = k [.d (.i .i64) (plc _)]
  cases firstN (fun j => sEq (digS (j : Int)) a1) 0 a0.kids.length <;> rfl
noncomputable def q43 : List Dt → Option (Bool × List Dt)
 | [.d .node a0, .d .str a1] => some (((fun (x : NodeT) (_ : BA) => sm_node x) a0 a1), [.d (.i .i64) (kidAt a0 a1)])
 | _ => none
noncomputable def s43 : Gm.Spec := Gm.Spec.of [.ro, .ro] [false] true q43
theorem good43 : Gm.Good Try.prog (43, s43) := by
 have hl : ∀ x ∈ [(37, s37), (66, s66)], Gm.Good Try.prog x := fcJ.2 ⟨good37, fcJ.2 ⟨good66, fcN⟩⟩
 refine ⟨⟨spec_ok (tab_ok.env hl) (tab.natl hl) Try.func43 (by kernel_rfl : Try.f43.body = some f43c) [3] (by kernel_rfl) ?_, _, Try.func43, by kernel_rfl, of_decide_eq_true (by kernel_rfl)⟩, Gm.Spec.of_natl _ _ _ _⟩
 intro ds outs h
 unfold q43 at h
 split at h
 ·simp only [Option.some.injEq, Prod.mk.injEq] at h; obtain ⟨hg, h⟩ := h; cases h; exact f43_spec _ _ hg
 ·cases h
noncomputable def f68ac : Code := (Try.f68.body).getD .skip
def f68ak : Nat → Kp := kat [⟨[0], [], [], []⟩, ⟨[0, 4], [], [], []⟩, ⟨[2], [], [], []⟩, ⟨[2], [], [], []⟩]
noncomputable def f68ae : Env := tab.env []
theorem f68a_run {R : Type} (n : Nat) (k : List Dt → Option R) (a0 : List BA) : evFn f68ae f68ak n f68ac [.ro] [false] true [.tmp 2] [22] [.d (.sl .str) a0] k =
 (cond (List.isEmpty a0)
 none
 (cond (Nat.ble (0 + a0.length) LIM)
 (k [.d (.sl .str) (([] : List BA) ++ a0)])
 none)) := by kernel_rfl
theorem f68a_spec (a0 : List BA) (hg : (fun (x : List BA) => !(x.isEmpty) && Nat.ble x.length LIM) a0 = true) : ∃ keep rounds, ∀ {R : Type} (k : List Dt → Option R), evFn f68ae keep rounds f68ac [.ro] [false] true [.tmp 2] [22] [.d (.sl .str) a0] k = k [.d (.sl .str) a0] := by
 simp only [Bool.and_eq_true, Bool.not_eq_true'] at hg
 obtain ⟨h1, h2⟩ := hg
 refine ⟨f68ak, 0, fun {R} k => ?_⟩
 rw [f68a_run, h1, Nat.zero_add, h2]
 simp only [cond_true, cond_false, List.nil_append]
noncomputable def q68a : List Dt → Option (Bool × List Dt)
 | [.d (.sl .str) a0] => some (((fun (x : List BA) => !(x.isEmpty) && Nat.ble x.length LIM) a0), [.d (.sl .str) a0])
 | _ => none
noncomputable def s68a : Gm.Spec := Gm.Spec.of [.ro] [false] true q68a
theorem good68a : Gm.Good Try.prog (68, s68a) := by
 have hl : ∀ x ∈ ([] : List (Nat × Gm.Spec)), Gm.Good Try.prog x := fun _ h => by cases h
 refine ⟨⟨spec_ok (tab_ok.env hl) (tab.natl hl) Try.func68 (by kernel_rfl : Try.f68.body = some f68ac) [22] (by kernel_rfl) ?_, _, Try.func68, by kernel_rfl, of_decide_eq_true (by kernel_rfl)⟩, Gm.Spec.of_natl _ _ _ _⟩
 intro ds outs h
 unfold q68a at h
 split at h
 ·simp only [Option.some.injEq, Prod.mk.injEq] at h; obtain ⟨hg, h⟩ := h; cases h; exact f68a_spec _ hg
 ·cases h
set_option maxHeartbeats 1000000 in
set_option maxRecDepth 100000 in
theorem clE68 : CloneE Try.prog 68 := by
 intro a c w
 cases a with
 | none =>
  have q22 : ∀ (w : World) (n c n' c' : Nat), (binOp .eql 22 (.slice none n c) (.slice none n' c')).run Try.prog w = .ok (.bool true) w := fun w n c n' c' => Lib.run_eql_slice_nil w _ _ none n c n' c' Try.underlying22
  go_enter Try.func68, Try.ntmps68
  go_wp2
  go_ret
  exact .inl ⟨rfl, rfl⟩
 | some a =>
  have q22 : ∀ (w : World) (n c n' c' : Nat), (binOp .eql 22 (.slice (some a) n c) (.slice none n' c')).run Try.prog w = .ok (.bool false) w := fun w n c n' c' => Lib.run_eql_slice_nil w _ _ (some a) n c n' c' Try.underlying22
  go_enter Try.func68, Try.ntmps68
  go_wp2
  go_ret
  exact .inr ⟨_, rfl, rfl⟩
noncomputable def q68b : List Dt → Option (Bool × List Dt)
 | [.d (.sl .str) []] => some (true, [.d (.sl .str) []])
 | _ => none
noncomputable def q68 : List Dt → Option (Bool × List Dt)
 | [.d (.sl .str) a0] => some (Nat.ble a0.length LIM, [.d (.sl .str) a0])
 | _ => none
noncomputable def s68 : Gm.Spec := Gm.Spec.of [.ro] [false] true q68
theorem good68 : Gm.Good Try.prog (68, s68) := by
 refine ⟨⟨spec_clone (q := q68) (qb := q68b) good68a.1.1 (spec_cloneE (t := .str) clE68 fun ds outs h => ?_) fun ds outs h => ?_, _, Try.func68, by kernel_rfl, of_decide_eq_true (by kernel_rfl)⟩, Gm.Spec.of_natl _ _ _ _⟩
 ·unfold q68b at h
  split at h
  ·simp only [Option.some.injEq, Prod.mk.injEq, true_and] at h
   exact ⟨rfl, h.symm⟩
  ·cases h
 ·unfold q68 at h
  split at h
  ·rename_i a0
   simp only [Option.some.injEq, Prod.mk.injEq] at h
   obtain ⟨hg, rfl⟩ := h
   cases a0 with
   | nil => exact .inr rfl
   | cons x r => refine .inl ?_; simp only [q68a, List.isEmpty_cons, Bool.not_false, Bool.true_and, hg]
  ·cases h
noncomputable def q46 : List Dt → Option (Bool × List Dt)
 | [.d .node a0] => some ((sm_node a0), [.d .node a0])
 | _ => none
noncomputable def mu46 : List Dt → Nat
 | [.d .node a0] => nd_node a0
 | _ => 0
noncomputable def s46r (N : Nat) : Gm.Spec := Gm.Spec.of [.ro] [false] true (qlt mu46 N q46)
noncomputable def f46S0 (y0 : List NodeT) (y1 : Int) (y2 : Int) (y3 : Int) (y4 : Int) (y5 : BA) (y6 : List NodeT) (y10 : List BA) (y11 : List NodeT) : St := ⟨[(1, .c (.one (.pt 1 0))), (2, .c (.one (.pt 2 0))), (3, .c (.one (.h 640 0 0 []))), (12, .c (.one (.ro .node y0))), (13, .c (.one (.v (.int .i64 y1)))), (14, .c (.one (.v (.int .i64 y2))))], [(1, ⟨.node, [.v (.int .i64 y3), .v (.int .i64 y4), .v (.string y5), .h 512 0 0 [], .ro .node y6]⟩), (2, ⟨.node, [.v (.int .i64 (0 : Int)), .v (.int .i64 (0 : Int)), .v (.string ByteArray.empty), .nl, .nl]⟩)], [(512, .live ⟨.str, .deep, 0, [], y10⟩), (640, .live ⟨.node, .deep, 0, [], y11⟩)]⟩
noncomputable def f46S1 (y0 : List NodeT) (y1 : Int) (y2 : Int) (y3 : Bool) (y4 : Int) (y5 : Int) (y6 : BA) (y7 : List NodeT) (y11 : List BA) (y12 : List NodeT) : St := ⟨[(1, .c (.one (.pt 1 0))), (2, .c (.one (.pt 2 0))), (3, .c (.one (.h 640 0 0 []))), (12, .c (.one (.ro .node y0))), (13, .c (.one (.v (.int .i64 y1)))), (14, .c (.one (.v (.int .i64 y2)))), (15, .c (.one (.v (.bool y3))))], [(1, ⟨.node, [.v (.int .i64 y4), .v (.int .i64 y5), .v (.string y6), .h 512 0 0 [], .ro .node y7]⟩), (2, ⟨.node, [.v (.int .i64 (0 : Int)), .v (.int .i64 (0 : Int)), .v (.string ByteArray.empty), .nl, .nl]⟩)], [(512, .live ⟨.str, .deep, 0, [], y11⟩), (640, .live ⟨.node, .deep, 0, [], y12⟩)]⟩
noncomputable def f46c : Code := (Try.f46.body).getD .skip
def f46k : Nat → Kp := kat [⟨[1, 2], [], [], []⟩, ⟨[1, 2], [], [], []⟩, ⟨[1, 2, 3], [], [], []⟩, ⟨[1, 2, 3, 12, 13, 14], [], [], []⟩, ⟨[1, 2, 3, 12, 13, 14, 15], [], [], []⟩, ⟨[1, 2, 3, 5, 12, 13, 14], [], [], []⟩, ⟨[1, 2, 3, 12, 13, 14], [], [], []⟩, ⟨[1, 2, 3, 12, 13, 14], [], [], []⟩, ⟨[1, 2], [], [], []⟩, ⟨[2], [], [], []⟩]
noncomputable def f46e (N : Nat) : Env := tab.env [(46, s46r N), (68, s68)]
noncomputable def f46L0 {R : Type} (N : Nat) (n : Nat) (x0 : Int → Bool → (List NodeT) → Option R) (wP : List NodeT) (wV : Int) (wK : Int) (wL : Int) (wM : BA) (wI : List NodeT) (wX : List BA) : Nat → Int → (List NodeT) → Option R
  | 0, _, _ => none
  | m + 1, wN, wY =>
    (cond (decide (wN < wV))
   (cond ((decide ((0 : Int) ≤ wN)) && (decide (wN < (wP.length : Int))))
    (cond ((sm_node (eN (atI (t := .node) wP (Int.toNat wN)))) && (Nat.blt (nd_node (eN (atI (t := .node) wP (Int.toNat wN)))) N))
     (cond (Nat.ble (wY.length + 1) LIM)
      (f46L0 N n x0 wP wV wK wL wM wI wX m (IntKind.wrap .i64 (wN + (1 : Int))) (wY ++ ([(eN (atI (t := .node) wP (Int.toNat wN)))] : List NodeT)))
      none)
     none)
    none)
   (x0 wN (decide (wN < wV)) wY))
theorem f46L0_b {R : Type} (N : Nat) (n : Nat) (k' : Ex → St → Option R) (wP : List NodeT) (wV : Int) (wN : Int) (wK : Int) (wL : Int) (wM : BA) (wI : List NodeT) (wX : List BA) (wY : List NodeT) : ev (f46e N) f46k n (cAt [1,1,1,0,1,0,0] f46c) (f46S0 wP wV wN wK wL wM wI wX wY) k' =
 (cond (decide (wN < wV))
 (cond ((decide ((0 : Int) ≤ wN)) && (decide (wN < (wP.length : Int))))
 (cond ((sm_node (eN (atI (t := .node) wP (Int.toNat wN)))) && (Nat.blt (nd_node (eN (atI (t := .node) wP (Int.toNat wN)))) N))
 (cond (Nat.ble (wY.length + 1) LIM)
 (k' .normal (f46S0 wP wV (IntKind.wrap .i64 (wN + (1 : Int))) wK wL wM wI wX (wY ++ ([(eN (atI (t := .node) wP (Int.toNat wN)))] : List NodeT))))
 none)
 none)
 none)
 (k' (.exit 0) (f46S1 wP wV wN (decide (wN < wV)) wK wL wM wI wX wY))) := by kernel_rfl
theorem f46L0_eq {R : Type} (N : Nat) (n : Nat) (k' : Ex → St → Option R) (wP : List NodeT) (wV : Int) (wK : Int) (wL : Int) (wM : BA) (wI : List NodeT) (wX : List BA) : ∀ (m : Nat) (wN : Int) (wY : List NodeT), iter (fun st k => ev (f46e N) f46k n (cAt [1,1,1,0,1,0,0] f46c) st k) m (f46S0 wP wV wN wK wL wM wI wX wY) k' = f46L0 N n (fun (uI : Int) (uJ : Bool) (uG : List NodeT) => k' (.exit 0) (f46S1 wP wV uI uJ wK wL wM wI wX uG)) wP wV wK wL wM wI wX m wN wY := by
 intro m; induction m with
 | zero => intros; rfl
 | succ m ih =>
  intro wN wY
  simp only [iter]
  rw [f46L0_b]
  simp only [ih, f46L0]
noncomputable def f46K0 {R : Type} (N : Nat) (n : Nat) (k' : Ex → St → Option R) : Ex → St → Option R := (blockK 0 (seqK (f46e N) f46k n (cAt [1,1,1,1] f46c) k'))
theorem f46K0_x0 {R : Type} (N : Nat) (n : Nat) (k : List Dt → Option R) (a0 : NodeT) (wP : List NodeT) (wV : Int) (wK : Int) (wL : Int) (wM : BA) (wI : List NodeT) (wX : List BA) (uI : Int) (uJ : Bool) (uG : List NodeT) : f46K0 N n (exitK (f46e N) [.ro] [false] true [.cell 2 31] [31] [.d .node a0] k) (.exit 0) (f46S1 wP wV uI uJ wK wL wM wI wX uG) =
 (k [.d .node (⟨wK, wL, wM, wX, uG⟩ : NodeT)]) := by kernel_rfl
theorem f46_run {R : Type} (N : Nat) (n : Nat) (k : List Dt → Option R) (a0 : NodeT) : evFn (f46e N) f46k n f46c [.ro] [false] true [.cell 2 31] [31] [.d .node a0] k =
 (cond ((fun (x : List BA) => Nat.ble x.length LIM) (NodeT.keys a0))
 (f46L0 N n (fun (uI : Int) (uJ : Bool) (uG : List NodeT) =>
 (k [.d .node (⟨(NodeT.kind a0), (NodeT.n a0), (NodeT.s a0), (NodeT.keys a0), uG⟩ : NodeT)])) (NodeT.kids a0) ((NodeT.kids a0).length : Int) (NodeT.kind a0) (NodeT.n a0) (NodeT.s a0) (NodeT.kids a0) (NodeT.keys a0) n (0 : Int) ([] : List NodeT))
 none) := by
 refine Eq.trans (b := (cond ((fun (x : List BA) => Nat.ble x.length LIM) (NodeT.keys a0))
 (iter (fun st k => ev (f46e N) f46k n (cAt [1,1,1,0,1,0,0] f46c) st k) n (f46S0 (NodeT.kids a0) ((NodeT.kids a0).length : Int) (0 : Int) (NodeT.kind a0) (NodeT.n a0) (NodeT.s a0) (NodeT.kids a0) (NodeT.keys a0) ([] : List NodeT)) (f46K0 N n (exitK (f46e N) [.ro] [false] true [.cell 2 31] [31] [.d .node a0] k)))
 none)) (by kernel_rfl) ?_
 simp only [f46L0_eq, f46K0_x0]
theorem f46_spec (N : Nat) (a0 : NodeT) (hg : sm_node a0 = true) (hm : mu46 [.d .node a0] = N) : ∃ keep rounds, ∀ {R : Type} (k : List Dt → Option R), evFn (f46e N) keep rounds f46c [.ro] [false] true [.cell 2 31] [31] [.d .node a0] k = k [.d .node a0] := by
 have hm : nd_node a0 = N := hm
 subst hm
 have hg0 := hg
 rw [sm_node_def] at hg
 simp only [Bool.and_eq_true] at hg
 obtain ⟨_, _, _, hke, hki⟩ := hg
 have nke := smL_len hke
 have nki := smL_len hki
 refine ⟨f46k, a0.kids.length + 1, fun {R} k => ?_⟩
 rw [f46_run]
 simp only [Nat.zero_add, limLe nke, cond_true, List.nil_append]
 refine Eq.trans (loop_acc (xs := a0.kids) (F := fun m j out => f46L0 (nd_node a0) (a0.kids.length + 1) _ a0.kids (a0.kids.length : Int) a0.kind a0.n a0.s a0.kids a0.keys m (j : Int) out) (f := fun out x => out ++ [x]) (good := fun out => k [.d .node ⟨a0.kind, a0.n, a0.s, a0.keys, out⟩]) (fun j out => out.length ≤ j)
  (fun j out x hx hi => by simp only [List.length_append, List.length_cons, List.length_nil]; omega) (fun m j out x hx hi => ?_) (fun m out hi => by simp only [f46L0, idxE, cond_false]) a0.kids.length 0 (a0.kids.length + 1) [] (by omega) (by omega) (by simp)) ?_
 ·obtain ⟨h1, h0, hw, ht⟩ := idx (lt_of_get hx) (by omega)
  have hj := lt_of_get hx
  have hs := List.all_eq_true.1 (smL_all hki) x (List.mem_of_getElem? hx)
  have hlim : Nat.ble (out.length + 1) LIM = true := Nat.ble_eq_true_of_le (by have : (LIM : Nat) = 4294967296 := rfl; omega)
  have hb : Nat.blt (nd_node x) (nd_node a0) = true := by
   have := nd_node_kid (x := a0) (List.mem_of_getElem? hx)
   rw [Nat.blt_eq]; exact this
  simp only [f46L0, h1, h0, hw, ht, atI_of (t := .node) hx, Bool.and_self, cond_true, hlim, eta_node, eN_eq, hs, hb]
 ·rw [List.drop_zero, foldl_snoc, List.nil_append, eta_node]
noncomputable def s46 : Gm.Spec := Gm.Spec.of [.ro] [false] true q46
theorem good46 : Gm.Good Try.prog (46, s46) := by
 refine ⟨⟨spec_rec mu46 fun N hr => ?_, _, Try.func46, by kernel_rfl, of_decide_eq_true (by kernel_rfl)⟩, Gm.Spec.of_natl _ _ _ _⟩
 have hl : ∀ x ∈ [(46, s46r N), (68, s68)], Gm.Good Try.prog x := fcJ.2 ⟨⟨⟨hr, _, Try.func46, by kernel_rfl, of_decide_eq_true (by kernel_rfl)⟩, Gm.Spec.of_natl _ _ _ _⟩, fcJ.2 ⟨good68, fcN⟩⟩
 intro R
 refine spec_ok (E := f46e N) (tab_ok.env hl) (tab.natl hl) Try.func46 (by kernel_rfl : Try.f46.body = some f46c) [31] (by kernel_rfl) ?_
 intro ds outs h
 obtain ⟨h, hm⟩ := qeq_some h
 unfold q46 at h
 split at h
 ·simp only [Option.some.injEq, Prod.mk.injEq] at h; obtain ⟨hg, h⟩ := h; cases h; exact f46_spec N _ hg hm
 ·cases h
noncomputable def q44 : List Dt → Option (Bool × List Dt)
 | [.d .node a0] => some ((sm_node a0), [.d .node a0])
 | _ => none
noncomputable def mu44 : List Dt → Nat
 | [.d .node a0] => nd_node a0
 | _ => 0
noncomputable def s44r (N : Nat) : Gm.Spec := Gm.Spec.of [.ro] [false] true (qlt mu44 N q44)
noncomputable def f44S0 (y0 : Int) (y1 : Int) (y2 : Int) (y3 : BA) (y4 : List BA) (y5 : List NodeT) (y9 : Int) (y10 : Int) (y11 : BA) (y12 : List NodeT) (y13 : List BA) : St := ⟨[(1, .c (.one (.pt 1 0))), (2, .c (.one (.pt 2 0))), (3, .c (.one (.pt 3 0))), (4, .c (.one (.v (.int .i64 y0))))], [(1, ⟨.node, [.v (.int .i64 y1), .v (.int .i64 y2), .v (.string y3), .ro .str y4, .ro .node y5]⟩), (2, ⟨.node, [.v (.int .i64 (0 : Int)), .v (.int .i64 (0 : Int)), .v (.string ByteArray.empty), .nl, .nl]⟩), (3, ⟨.node, [.v (.int .i64 y9), .v (.int .i64 y10), .v (.string y11), .h 704 0 0 [], .h 196 0 0 []]⟩)], [(196, .live ⟨.node, .deep, 0, [], y12⟩), (704, .live ⟨.str, .deep, 0, [], y13⟩)]⟩
noncomputable def f44S1 (y0 : Int) (y1 : Bool) (y2 : Int) (y3 : Int) (y4 : BA) (y5 : List BA) (y6 : List NodeT) (y10 : Int) (y11 : Int) (y12 : BA) (y13 : List NodeT) (y14 : List BA) : St := ⟨[(1, .c (.one (.pt 1 0))), (2, .c (.one (.pt 2 0))), (3, .c (.one (.pt 3 0))), (4, .c (.one (.v (.int .i64 y0)))), (20, .c (.one (.v (.bool y1))))], [(1, ⟨.node, [.v (.int .i64 y2), .v (.int .i64 y3), .v (.string y4), .ro .str y5, .ro .node y6]⟩), (2, ⟨.node, [.v (.int .i64 (0 : Int)), .v (.int .i64 (0 : Int)), .v (.string ByteArray.empty), .nl, .nl]⟩), (3, ⟨.node, [.v (.int .i64 y10), .v (.int .i64 y11), .v (.string y12), .h 704 0 0 [], .h 196 0 0 []]⟩)], [(196, .live ⟨.node, .deep, 0, [], y13⟩), (704, .live ⟨.str, .deep, 0, [], y14⟩)]⟩
noncomputable def f44c : Code := (Try.f44.body).getD .skip
def f44k : Nat → Kp := kat [⟨[1, 2], [], [], []⟩, ⟨[1, 2, 3], [], [], []⟩, ⟨[1, 2, 3, 4], [⟨true, false, 3, 4, .node⟩], [], []⟩, ⟨[1, 2, 3, 4, 20], [], [], []⟩, ⟨[1, 2, 3, 4], [], [], []⟩, ⟨[1, 2, 3, 4], [], [], []⟩, ⟨[2], [], [], []⟩]
noncomputable def f44e (N : Nat) : Env := tab.env [(44, s44r N)]
noncomputable def f44L0 {R : Type} (N : Nat) (n : Nat) (x0 : Int → Bool → (List NodeT) → Option R) (wK : Int) (wL : Int) (wM : BA) (uE : List BA) (wI : List NodeT) (wZ : Int) (uA : Int) (uB : BA) (uC : List BA) : Nat → Int → (List NodeT) → Option R
  | 0, _, _ => none
  | m + 1, wO, uD =>
    (cond (decide (wO < (wI.length : Int)))
   (cond ((decide ((0 : Int) ≤ wO)) && (decide (wO < (wI.length : Int))))
    (cond ((sm_node (eN (atI (t := .node) wI (Int.toNat wO)))) && (Nat.blt (nd_node (eN (atI (t := .node) wI (Int.toNat wO)))) N))
     (cond (Nat.ble (uD.length + 1) LIM)
      (f44L0 N n x0 wK wL wM uE wI wZ uA uB uC m (IntKind.wrap .i64 (wO + (1 : Int))) (uD ++ ([(eN (atI (t := .node) wI (Int.toNat wO)))] : List NodeT)))
      none)
     none)
    none)
   (x0 wO (decide (wO < (wI.length : Int))) uD))
theorem f44L0_b {R : Type} (N : Nat) (n : Nat) (k' : Ex → St → Option R) (wO : Int) (wK : Int) (wL : Int) (wM : BA) (uE : List BA) (wI : List NodeT) (wZ : Int) (uA : Int) (uB : BA) (uD : List NodeT) (uC : List BA) : ev (f44e N) f44k n (cAt [1,1,0,1,0,0] f44c) (f44S0 wO wK wL wM uE wI wZ uA uB uD uC) k' =
 (cond (decide (wO < (wI.length : Int)))
 (cond ((decide ((0 : Int) ≤ wO)) && (decide (wO < (wI.length : Int))))
 (cond ((sm_node (eN (atI (t := .node) wI (Int.toNat wO)))) && (Nat.blt (nd_node (eN (atI (t := .node) wI (Int.toNat wO)))) N))
 (cond (Nat.ble (uD.length + 1) LIM)
 (k' .normal (f44S0 (IntKind.wrap .i64 (wO + (1 : Int))) wK wL wM uE wI wZ uA uB (uD ++ ([(eN (atI (t := .node) wI (Int.toNat wO)))] : List NodeT)) uC))
 none)
 none)
 none)
 (k' (.exit 0) (f44S1 wO (decide (wO < (wI.length : Int))) wK wL wM uE wI wZ uA uB uD uC))) := by kernel_rfl
theorem f44L0_eq {R : Type} (N : Nat) (n : Nat) (k' : Ex → St → Option R) (wK : Int) (wL : Int) (wM : BA) (uE : List BA) (wI : List NodeT) (wZ : Int) (uA : Int) (uB : BA) (uC : List BA) : ∀ (m : Nat) (wO : Int) (uD : List NodeT), iter (fun st k => ev (f44e N) f44k n (cAt [1,1,0,1,0,0] f44c) st k) m (f44S0 wO wK wL wM uE wI wZ uA uB uD uC) k' = f44L0 N n (fun (uK : Int) (uL : Bool) (uH : List NodeT) => k' (.exit 0) (f44S1 uK uL wK wL wM uE wI wZ uA uB uH uC)) wK wL wM uE wI wZ uA uB uC m wO uD := by
 intro m; induction m with
 | zero => intros; rfl
 | succ m ih =>
  intro wO uD
  simp only [iter]
  rw [f44L0_b]
  simp only [ih, f44L0]
noncomputable def f44K0 {R : Type} (N : Nat) (n : Nat) (k' : Ex → St → Option R) : Ex → St → Option R := (blockK 0 (seqK (f44e N) f44k n (cAt [1,1,1] f44c) k'))
theorem f44K0_x0 {R : Type} (N : Nat) (n : Nat) (k : List Dt → Option R) (a0 : NodeT) (wK : Int) (wL : Int) (wM : BA) (uE : List BA) (wI : List NodeT) (wZ : Int) (uA : Int) (uB : BA) (uC : List BA) (uK : Int) (uL : Bool) (uH : List NodeT) : f44K0 N n (exitK (f44e N) [.ro] [false] true [.cell 2 31] [31] [.d .node a0] k) (.exit 0) (f44S1 uK uL wK wL wM uE wI wZ uA uB uH uC) =
 (k [.d .node (⟨wZ, uA, uB, uC, uH⟩ : NodeT)]) := by kernel_rfl
theorem f44_run {R : Type} (N : Nat) (n : Nat) (k : List Dt → Option R) (a0 : NodeT) : evFn (f44e N) f44k n f44c [.ro] [false] true [.cell 2 31] [31] [.d .node a0] k =
 (cond (Nat.ble (0 + (NodeT.keys a0).length) LIM)
 (f44L0 N n (fun (uK : Int) (uL : Bool) (uH : List NodeT) =>
 (k [.d .node (⟨(NodeT.kind a0), (NodeT.n a0), (NodeT.s a0), (([] : List BA) ++ (NodeT.keys a0)), uH⟩ : NodeT)])) (NodeT.kind a0) (NodeT.n a0) (NodeT.s a0) (NodeT.keys a0) (NodeT.kids a0) (NodeT.kind a0) (NodeT.n a0) (NodeT.s a0) (([] : List BA) ++ (NodeT.keys a0)) n (0 : Int) ([] : List NodeT))
 none) := by
 refine Eq.trans (b := (cond (Nat.ble (0 + (NodeT.keys a0).length) LIM)
 (iter (fun st k => ev (f44e N) f44k n (cAt [1,1,0,1,0,0] f44c) st k) n (f44S0 (0 : Int) (NodeT.kind a0) (NodeT.n a0) (NodeT.s a0) (NodeT.keys a0) (NodeT.kids a0) (NodeT.kind a0) (NodeT.n a0) (NodeT.s a0) ([] : List NodeT) (([] : List BA) ++ (NodeT.keys a0))) (f44K0 N n (exitK (f44e N) [.ro] [false] true [.cell 2 31] [31] [.d .node a0] k)))
 none)) (by kernel_rfl) ?_
 simp only [f44L0_eq, f44K0_x0]
theorem f44_spec (N : Nat) (a0 : NodeT) (hg : sm_node a0 = true) (hm : mu44 [.d .node a0] = N) : ∃ keep rounds, ∀ {R : Type} (k : List Dt → Option R), evFn (f44e N) keep rounds f44c [.ro] [false] true [.cell 2 31] [31] [.d .node a0] k = k [.d .node a0] := by
 have hm : nd_node a0 = N := hm
 subst hm
 have hg0 := hg
 rw [sm_node_def] at hg
 simp only [Bool.and_eq_true] at hg
 obtain ⟨_, _, _, hke, hki⟩ := hg
 have nke := smL_len hke
 have nki := smL_len hki
 refine ⟨f44k, a0.kids.length + 1, fun {R} k => ?_⟩
 rw [f44_run]
 simp only [Nat.zero_add, limLe nke, cond_true, List.nil_append]
 refine Eq.trans (loop_acc (xs := a0.kids) (F := fun m j out => f44L0 (nd_node a0) (a0.kids.length + 1) _ a0.kind a0.n a0.s a0.keys a0.kids a0.kind a0.n a0.s a0.keys m (j : Int) out) (f := fun out x => out ++ [x]) (good := fun out => k [.d .node ⟨a0.kind, a0.n, a0.s, a0.keys, out⟩]) (fun j out => out.length ≤ j)
  (fun j out x hx hi => by simp only [List.length_append, List.length_cons, List.length_nil]; omega) (fun m j out x hx hi => ?_) (fun m out hi => by simp only [f44L0, idxE, cond_false]) a0.kids.length 0 (a0.kids.length + 1) [] (by omega) (by omega) (by simp)) ?_
 ·obtain ⟨h1, h0, hw, ht⟩ := idx (lt_of_get hx) (by omega)
  have hj := lt_of_get hx
  have hs := List.all_eq_true.1 (smL_all hki) x (List.mem_of_getElem? hx)
  have hlim : Nat.ble (out.length + 1) LIM = true := Nat.ble_eq_true_of_le (by have : (LIM : Nat) = 4294967296 := rfl; omega)
  have hb : Nat.blt (nd_node x) (nd_node a0) = true := by
   have := nd_node_kid (x := a0) (List.mem_of_getElem? hx)
   rw [Nat.blt_eq]; exact this
  simp only [f44L0, h1, h0, hw, ht, atI_of (t := .node) hx, Bool.and_self, cond_true, hlim, eta_node, eN_eq, hs, hb]
 ·rw [List.drop_zero, foldl_snoc, List.nil_append, eta_node]
noncomputable def s44 : Gm.Spec := Gm.Spec.of [.ro] [false] true q44
theorem good44 : Gm.Good Try.prog (44, s44) := by
 refine ⟨⟨spec_rec mu44 fun N hr => ?_, _, Try.func44, by kernel_rfl, of_decide_eq_true (by kernel_rfl)⟩, Gm.Spec.of_natl _ _ _ _⟩
 have hl : ∀ x ∈ [(44, s44r N)], Gm.Good Try.prog x := fcJ.2 ⟨⟨⟨hr, _, Try.func44, by kernel_rfl, of_decide_eq_true (by kernel_rfl)⟩, Gm.Spec.of_natl _ _ _ _⟩, fcN⟩
 intro R
 refine spec_ok (E := f44e N) (tab_ok.env hl) (tab.natl hl) Try.func44 (by kernel_rfl : Try.f44.body = some f44c) [31] (by kernel_rfl) ?_
 intro ds outs h
 obtain ⟨h, hm⟩ := qeq_some h
 unfold q44 at h
 split at h
 ·simp only [Option.some.injEq, Prod.mk.injEq] at h; obtain ⟨hg, h⟩ := h; cases h; exact f44_spec N _ hg hm
 ·cases h
noncomputable def f18S0 (y0 : List BA) (y1 : Int) (y2 : Int) (y3 : Int) (y4 : BA) (y5 : List BA) (y6 : List NodeT) : St := ⟨[(1, .c (.one (.ro .str y0))), (2, .c (.one (.pt 2 0))), (4, .c (.one (.pt 4 0))), (6, .c (.one (.v (.int .i64 y1))))], [(2, ⟨.node, [.v (.int .i64 y2), .v (.int .i64 y3), .v (.string y4), .ro .str y5, .ro .node y6]⟩), (4, ⟨.node, [.v (.int .i64 (0 : Int)), .v (.int .i64 (0 : Int)), .v (.string ByteArray.empty), .nl, .nl]⟩)], []⟩
noncomputable def f18S1 : St := ⟨[(4, .c (.one (.pt 4 0))), (5, .c (.one (.v (.bool false))))], [(4, ⟨.node, [.v (.int .i64 (0 : Int)), .v (.int .i64 (0 : Int)), .v (.string ByteArray.empty), .nl, .nl]⟩)], []⟩
noncomputable def f18S2 (y0 : List BA) (y1 : Int) (y2 : Bool) (y3 : Int) (y4 : Int) (y5 : BA) (y6 : List BA) (y7 : List NodeT) : St := ⟨[(1, .c (.one (.ro .str y0))), (2, .c (.one (.pt 2 0))), (4, .c (.one (.pt 4 0))), (6, .c (.one (.v (.int .i64 y1)))), (11, .c (.one (.v (.bool y2))))], [(2, ⟨.node, [.v (.int .i64 y3), .v (.int .i64 y4), .v (.string y5), .ro .str y6, .ro .node y7]⟩), (4, ⟨.node, [.v (.int .i64 (0 : Int)), .v (.int .i64 (0 : Int)), .v (.string ByteArray.empty), .nl, .nl]⟩)], []⟩
noncomputable def f18c : Code := (Try.f18.body).getD .skip
def f18k : Nat → Kp := kat [⟨[1, 2, 4], [], [], []⟩, ⟨[1, 2, 4, 6], [], [], []⟩, ⟨[1, 2, 4, 6, 11], [], [], []⟩, ⟨[1, 2, 4, 6], [], [], []⟩, ⟨[1, 2, 4, 6, 7], [], [], []⟩, ⟨[1, 2, 4, 6, 7, 28], [], [], []⟩, ⟨[4, 5], [], [], []⟩, ⟨[1, 2, 4, 6], [], [], []⟩, ⟨[4, 5], [], [], []⟩]
noncomputable def f18e : Env := tab.env [(43, s43), (44, s44)]
noncomputable def f18L0 {R : Type} (n : Nat) (x0 : Option R) (x1 : Int → Bool → Int → Int → BA → (List BA) → (List NodeT) → Option R) (wG : List BA) : Nat → Int → Int → Int → BA → (List BA) → (List NodeT) → Option R
  | 0, _, _, _, _, _, _ => none
  | m + 1, wF, wB, wC, wD, wE, wA =>
    (cond (decide (wF < (wG.length : Int)))
   (cond ((decide ((0 : Int) ≤ wF)) && (decide (wF < (wG.length : Int))))
    (cond ((fun (x : NodeT) (_ : BA) => sm_node x) (⟨wB, wC, wD, wE, wA⟩ : NodeT) (atI (t := .str) wG (Int.toNat wF)))
     (cond (decide ((kidAt (⟨wB, wC, wD, wE, wA⟩ : NodeT) (atI (t := .str) wG (Int.toNat wF))) < (0 : Int)))
      (x0)
      (cond (decide ((kidAt (⟨wB, wC, wD, wE, wA⟩ : NodeT) (atI (t := .str) wG (Int.toNat wF))) ≥ (wA.length : Int)))
       (x0)
       (cond ((decide ((0 : Int) ≤ (kidAt (⟨wB, wC, wD, wE, wA⟩ : NodeT) (atI (t := .str) wG (Int.toNat wF))))) && (decide ((kidAt (⟨wB, wC, wD, wE, wA⟩ : NodeT) (atI (t := .str) wG (Int.toNat wF))) < (wA.length : Int))))
        (f18L0 n x0 x1 wG m (IntKind.wrap .i64 (wF + (1 : Int))) (NodeT.kind (atI (t := .node) wA (Int.toNat (kidAt (⟨wB, wC, wD, wE, wA⟩ : NodeT) (atI (t := .str) wG (Int.toNat wF)))))) (NodeT.n (atI (t := .node) wA (Int.toNat (kidAt (⟨wB, wC, wD, wE, wA⟩ : NodeT) (atI (t := .str) wG (Int.toNat wF)))))) (NodeT.s (atI (t := .node) wA (Int.toNat (kidAt (⟨wB, wC, wD, wE, wA⟩ : NodeT) (atI (t := .str) wG (Int.toNat wF)))))) (NodeT.keys (atI (t := .node) wA (Int.toNat (kidAt (⟨wB, wC, wD, wE, wA⟩ : NodeT) (atI (t := .str) wG (Int.toNat wF)))))) (NodeT.kids (atI (t := .node) wA (Int.toNat (kidAt (⟨wB, wC, wD, wE, wA⟩ : NodeT) (atI (t := .str) wG (Int.toNat wF)))))))
        none)))
     none)
    none)
   (x1 wF (decide (wF < (wG.length : Int))) wB wC wD wE wA))
theorem f18L0_b {R : Type} (n : Nat) (k' : Ex → St → Option R) (wG : List BA) (wF : Int) (wB : Int) (wC : Int) (wD : BA) (wE : List BA) (wA : List NodeT) : ev f18e f18k n (cAt [1,0,1,0,0] f18c) (f18S0 wG wF wB wC wD wE wA) k' =
 (cond (decide (wF < (wG.length : Int)))
 (cond ((decide ((0 : Int) ≤ wF)) && (decide (wF < (wG.length : Int))))
 (cond ((fun (x : NodeT) (_ : BA) => sm_node x) (⟨wB, wC, wD, wE, wA⟩ : NodeT) (atI (t := .str) wG (Int.toNat wF)))
 (cond (decide ((kidAt (⟨wB, wC, wD, wE, wA⟩ : NodeT) (atI (t := .str) wG (Int.toNat wF))) < (0 : Int)))
 (k' .ret f18S1)
 (cond (decide ((kidAt (⟨wB, wC, wD, wE, wA⟩ : NodeT) (atI (t := .str) wG (Int.toNat wF))) ≥ (wA.length : Int)))
 (k' .ret f18S1)
 (cond ((decide ((0 : Int) ≤ (kidAt (⟨wB, wC, wD, wE, wA⟩ : NodeT) (atI (t := .str) wG (Int.toNat wF))))) && (decide ((kidAt (⟨wB, wC, wD, wE, wA⟩ : NodeT) (atI (t := .str) wG (Int.toNat wF))) < (wA.length : Int))))
 (k' .normal (f18S0 wG (IntKind.wrap .i64 (wF + (1 : Int))) (NodeT.kind (atI (t := .node) wA (Int.toNat (kidAt (⟨wB, wC, wD, wE, wA⟩ : NodeT) (atI (t := .str) wG (Int.toNat wF)))))) (NodeT.n (atI (t := .node) wA (Int.toNat (kidAt (⟨wB, wC, wD, wE, wA⟩ : NodeT) (atI (t := .str) wG (Int.toNat wF)))))) (NodeT.s (atI (t := .node) wA (Int.toNat (kidAt (⟨wB, wC, wD, wE, wA⟩ : NodeT) (atI (t := .str) wG (Int.toNat wF)))))) (NodeT.keys (atI (t := .node) wA (Int.toNat (kidAt (⟨wB, wC, wD, wE, wA⟩ : NodeT) (atI (t := .str) wG (Int.toNat wF)))))) (NodeT.kids (atI (t := .node) wA (Int.toNat (kidAt (⟨wB, wC, wD, wE, wA⟩ : NodeT) (atI (t := .str) wG (Int.toNat wF))))))))
 none)))
 none)
 none)
 (k' (.exit 0) (f18S2 wG wF (decide (wF < (wG.length : Int))) wB wC wD wE wA))) := by kernel_rfl
theorem f18L0_eq {R : Type} (n : Nat) (k' : Ex → St → Option R) (wG : List BA) : ∀ (m : Nat) (wF : Int) (wB : Int) (wC : Int) (wD : BA) (wE : List BA) (wA : List NodeT), iter (fun st k => ev f18e f18k n (cAt [1,0,1,0,0] f18c) st k) m (f18S0 wG wF wB wC wD wE wA) k' = f18L0 n (k' .ret f18S1) (fun (uM : Int) (uF : Bool) (wQ : Int) (wR : Int) (wS : BA) (wT : List BA) (wU : List NodeT) => k' (.exit 0) (f18S2 wG uM uF wQ wR wS wT wU)) wG m wF wB wC wD wE wA := by
 intro m; induction m with
 | zero => intros; rfl
 | succ m ih =>
  intro wF wB wC wD wE wA
  simp only [iter]
  rw [f18L0_b]
  simp only [ih, f18L0]
noncomputable def f18K0 {R : Type} (n : Nat) (k' : Ex → St → Option R) : Ex → St → Option R := (blockK 0 (seqK f18e f18k n (cAt [1,1] f18c) k'))
theorem f18K0_x0 {R : Type} (n : Nat) (k : List Dt → Option R) (a0 : NodeT) (a1 : List BA)  : f18K0 n (exitK f18e [.ro, .ro] [false, false] true [.cell 4 31, .tmp 5] [31, 4] [.d .node a0, .d (.sl .str) a1] k) .ret f18S1 =
 (k [.d .node (⟨(0 : Int), (0 : Int), ByteArray.empty, ([] : List BA), ([] : List NodeT)⟩ : NodeT), .d .bool false]) := by kernel_rfl
theorem f18K0_x1 {R : Type} (n : Nat) (k : List Dt → Option R) (a0 : NodeT) (a1 : List BA) (wG : List BA) (uM : Int) (uF : Bool) (wQ : Int) (wR : Int) (wS : BA) (wT : List BA) (wU : List NodeT) : f18K0 n (exitK f18e [.ro, .ro] [false, false] true [.cell 4 31, .tmp 5] [31, 4] [.d .node a0, .d (.sl .str) a1] k) (.exit 0) (f18S2 wG uM uF wQ wR wS wT wU) =
 (cond (sm_node (⟨wQ, wR, wS, wT, wU⟩ : NodeT))
 (k [.d .node (⟨wQ, wR, wS, wT, wU⟩ : NodeT), .d .bool true])
 none) := by kernel_rfl
theorem f18_run {R : Type} (n : Nat) (k : List Dt → Option R) (a0 : NodeT) (a1 : List BA) : evFn f18e f18k n f18c [.ro, .ro] [false, false] true [.cell 4 31, .tmp 5] [31, 4] [.d .node a0, .d (.sl .str) a1] k =
 (f18L0 n (k [.d .node (⟨(0 : Int), (0 : Int), ByteArray.empty, ([] : List BA), ([] : List NodeT)⟩ : NodeT), .d .bool false]) (fun (uM : Int) (uF : Bool) (wQ : Int) (wR : Int) (wS : BA) (wT : List BA) (wU : List NodeT) =>
 (cond (sm_node (⟨wQ, wR, wS, wT, wU⟩ : NodeT))
 (k [.d .node (⟨wQ, wR, wS, wT, wU⟩ : NodeT), .d .bool true])
 none)) a1 n (0 : Int) (NodeT.kind a0) (NodeT.n a0) (NodeT.s a0) (NodeT.keys a0) (NodeT.kids a0)) := by
 refine Eq.trans (b := (iter (fun st k => ev f18e f18k n (cAt [1,0,1,0,0] f18c) st k) n (f18S0 a1 (0 : Int) (NodeT.kind a0) (NodeT.n a0) (NodeT.s a0) (NodeT.keys a0) (NodeT.kids a0)) (f18K0 n (exitK f18e [.ro, .ro] [false, false] true [.cell 4 31, .tmp 5] [31, 4] [.d .node a0, .d (.sl .str) a1] k)))) (by kernel_rfl) ?_
 simp only [f18L0_eq, f18K0_x0, f18K0_x1]
theorem f18_spec (a0 : NodeT) (a1 : List BA) (hg : (sm_node a0 && smL smStr a1) = true) : ∃ keep rounds, ∀ {R : Type} (k : List Dt → Option R), evFn f18e keep rounds f18c [.ro, .ro] [false, false] true [.cell 4 31, .tmp 5] [31, 4] [.d .node a0, .d (.sl .str) a1] k = k [.d .node ((atPtr a0 a1).1), .d .bool ((atPtr a0 a1).2)] := by
 simp only [Bool.and_eq_true] at hg
 obtain ⟨hg, hpa⟩ := hg
 have nl := smL_len hpa
 refine ⟨f18k, a1.length + 1, fun {R} k => ?_⟩
 rw [f18_run]
 show _ = k [.d .node (atPtr a0 a1).1, .d .bool (atPtr a0 a1).2]
 unfold atPtr
 refine Eq.trans (loop_fold (xs := a1) (F := fun m j (t : NodeT) => f18L0 (a1.length + 1) _ _ a1 m (j : Int) t.kind t.n t.s t.keys t.kids) (step := atStep) (out := fun _ => k [.d .node noNode, .d .bool false]) (good := fun t => k [.d .node t, .d .bool true]) (fun t => sm_node t = true)
  (fun x t t' _ ht e => sm_kid ht (atStep_in e)) (fun m j t x hx hst => ?_) (fun m t hst => by simp only [f18L0, idxE, cond_false, eta_node, eN_eq, hst, cond_true]) a1.length 0 (a1.length + 1) a0 (by omega) (by omega) hg) ?_
 ·obtain ⟨h1, h0, hw, ht⟩ := idx (lt_of_get hx) (by omega)
  unfold atStep
  by_cases hk : kidAt t x < 0
  ·simp only [f18L0, h1, h0, hw, ht, atI_of (t := .str) hx, Bool.and_self, cond_true, eta_node, eN_eq, hst, decide_eq_true hk]
   rfl
  ·have hlt := kidAt_lt hk
   simp only [f18L0, h1, h0, hw, ht, atI_of (t := .str) hx, Bool.and_self, cond_true, cond_false, eta_node, eN_eq, hst, decide_eq_false hk, decide_eq_true (show (0 : Int) ≤ kidAt t x by omega), decide_eq_true hlt, decide_eq_false (show ¬ (kidAt t x ≥ (t.kids.length : Int)) by omega)]
   rfl
 ·rw [List.drop_zero]
  cases foldE atStep a1 a0 <;> rfl
noncomputable def q18 : List Dt → Option (Bool × List Dt)
 | [.d .node a0, .d (.sl .str) a1] => some (((fun (x : NodeT) (y : List BA) => sm_node x && smL smStr y) a0 a1), [.d .node ((atPtr a0 a1).1), .d .bool ((atPtr a0 a1).2)])
 | _ => none
noncomputable def s18 : Gm.Spec := Gm.Spec.of [.ro, .ro] [false, false] true q18
theorem good18 : Gm.Good Try.prog (18, s18) := by
 have hl : ∀ x ∈ [(43, s43), (44, s44)], Gm.Good Try.prog x := fcJ.2 ⟨good43, fcJ.2 ⟨good44, fcN⟩⟩
 refine ⟨⟨spec_ok (tab_ok.env hl) (tab.natl hl) Try.func18 (by kernel_rfl : Try.f18.body = some f18c) [31, 4] (by kernel_rfl) ?_, _, Try.func18, by kernel_rfl, of_decide_eq_true (by kernel_rfl)⟩, Gm.Spec.of_natl _ _ _ _⟩
 intro ds outs h
 unfold q18 at h
 split at h
 ·simp only [Option.some.injEq, Prod.mk.injEq] at h; obtain ⟨hg, h⟩ := h; cases h; exact f18_spec _ _ hg
 ·cases h
noncomputable def f20S0 (y0 : List BA) (y1 : Int) (y2 : Int) (y3 : Int) (y4 : Int) (y5 : BA) (y6 : List BA) (y7 : List NodeT) : St := ⟨[(2, .c (.one (.pt 2 0))), (4, .c (.one (.pt 4 0))), (9, .c (.one (.ro .str y0))), (10, .c (.one (.v (.int .i64 y1)))), (11, .c (.one (.v (.int .i64 y2))))], [(2, ⟨.node, [.v (.int .i64 y3), .v (.int .i64 y4), .v (.string y5), .ro .str y6, .ro .node y7]⟩), (4, ⟨.node, [.v (.int .i64 (0 : Int)), .v (.int .i64 (0 : Int)), .v (.string ByteArray.empty), .nl, .nl]⟩)], []⟩
noncomputable def f20S1 : St := ⟨[(4, .c (.one (.pt 4 0))), (5, .c (.one (.v (.bool false))))], [(4, ⟨.node, [.v (.int .i64 (0 : Int)), .v (.int .i64 (0 : Int)), .v (.string ByteArray.empty), .nl, .nl]⟩)], []⟩
noncomputable def f20S2 (y0 : List BA) (y1 : Int) (y2 : Int) (y3 : Bool) (y4 : Int) (y5 : Int) (y6 : BA) (y7 : List BA) (y8 : List NodeT) : St := ⟨[(2, .c (.one (.pt 2 0))), (4, .c (.one (.pt 4 0))), (9, .c (.one (.ro .str y0))), (10, .c (.one (.v (.int .i64 y1)))), (11, .c (.one (.v (.int .i64 y2)))), (12, .c (.one (.v (.bool y3))))], [(2, ⟨.node, [.v (.int .i64 y4), .v (.int .i64 y5), .v (.string y6), .ro .str y7, .ro .node y8]⟩), (4, ⟨.node, [.v (.int .i64 (0 : Int)), .v (.int .i64 (0 : Int)), .v (.string ByteArray.empty), .nl, .nl]⟩)], []⟩
noncomputable def f20c : Code := (Try.f20.body).getD .skip
def f20k : Nat → Kp := kat [⟨[1, 2, 4], [], [], []⟩, ⟨[2, 4, 9, 10, 11], [], [], []⟩, ⟨[2, 4, 9, 10, 11, 12], [], [], []⟩, ⟨[2, 4, 7, 9, 10, 11], [], [], []⟩, ⟨[2, 4, 8, 9, 10, 11], [], [], []⟩, ⟨[2, 4, 8, 9, 10, 11, 19], [], [], []⟩, ⟨[4, 5], [], [], []⟩, ⟨[2, 4, 9, 10, 11], [], [], []⟩, ⟨[2, 4, 9, 10, 11], [], [], []⟩, ⟨[4, 5], [], [], []⟩]
noncomputable def f20e : Env := tab.env [(45, s45), (46, s46)]
noncomputable def f20L0 {R : Type} (n : Nat) (x0 : Option R) (x1 : Int → Bool → Int → Int → BA → (List BA) → (List NodeT) → Option R) (wJ : List BA) (wW : Int) : Nat → Int → Int → Int → BA → (List BA) → (List NodeT) → Option R
  | 0, _, _, _, _, _, _ => none
  | m + 1, wH, wB, wC, wD, wE, wA =>
    (cond (decide (wH < wW))
   (cond ((decide ((0 : Int) ≤ wH)) && (decide (wH < (wJ.length : Int))))
    (cond ((fun (x : NodeT) (_ : BA) => sm_node x) (⟨wB, wC, wD, wE, wA⟩ : NodeT) (atI (t := .str) wJ (Int.toNat wH)))
     (cond (decide ((kidAt (⟨wB, wC, wD, wE, wA⟩ : NodeT) (atI (t := .str) wJ (Int.toNat wH))) < (0 : Int)))
      (x0)
      (cond ((decide ((0 : Int) ≤ (kidAt (⟨wB, wC, wD, wE, wA⟩ : NodeT) (atI (t := .str) wJ (Int.toNat wH))))) && (decide ((kidAt (⟨wB, wC, wD, wE, wA⟩ : NodeT) (atI (t := .str) wJ (Int.toNat wH))) < (wA.length : Int))))
       (f20L0 n x0 x1 wJ wW m (IntKind.wrap .i64 (wH + (1 : Int))) (NodeT.kind (atI (t := .node) wA (Int.toNat (kidAt (⟨wB, wC, wD, wE, wA⟩ : NodeT) (atI (t := .str) wJ (Int.toNat wH)))))) (NodeT.n (atI (t := .node) wA (Int.toNat (kidAt (⟨wB, wC, wD, wE, wA⟩ : NodeT) (atI (t := .str) wJ (Int.toNat wH)))))) (NodeT.s (atI (t := .node) wA (Int.toNat (kidAt (⟨wB, wC, wD, wE, wA⟩ : NodeT) (atI (t := .str) wJ (Int.toNat wH)))))) (NodeT.keys (atI (t := .node) wA (Int.toNat (kidAt (⟨wB, wC, wD, wE, wA⟩ : NodeT) (atI (t := .str) wJ (Int.toNat wH)))))) (NodeT.kids (atI (t := .node) wA (Int.toNat (kidAt (⟨wB, wC, wD, wE, wA⟩ : NodeT) (atI (t := .str) wJ (Int.toNat wH)))))))
       none))
     none)
    none)
   (x1 wH (decide (wH < wW)) wB wC wD wE wA))
theorem f20L0_b {R : Type} (n : Nat) (k' : Ex → St → Option R) (wJ : List BA) (wW : Int) (wH : Int) (wB : Int) (wC : Int) (wD : BA) (wE : List BA) (wA : List NodeT) : ev f20e f20k n (cAt [1,0,1,0,0] f20c) (f20S0 wJ wW wH wB wC wD wE wA) k' =
 (cond (decide (wH < wW))
 (cond ((decide ((0 : Int) ≤ wH)) && (decide (wH < (wJ.length : Int))))
 (cond ((fun (x : NodeT) (_ : BA) => sm_node x) (⟨wB, wC, wD, wE, wA⟩ : NodeT) (atI (t := .str) wJ (Int.toNat wH)))
 (cond (decide ((kidAt (⟨wB, wC, wD, wE, wA⟩ : NodeT) (atI (t := .str) wJ (Int.toNat wH))) < (0 : Int)))
 (k' .ret f20S1)
 (cond ((decide ((0 : Int) ≤ (kidAt (⟨wB, wC, wD, wE, wA⟩ : NodeT) (atI (t := .str) wJ (Int.toNat wH))))) && (decide ((kidAt (⟨wB, wC, wD, wE, wA⟩ : NodeT) (atI (t := .str) wJ (Int.toNat wH))) < (wA.length : Int))))
 (k' .normal (f20S0 wJ wW (IntKind.wrap .i64 (wH + (1 : Int))) (NodeT.kind (atI (t := .node) wA (Int.toNat (kidAt (⟨wB, wC, wD, wE, wA⟩ : NodeT) (atI (t := .str) wJ (Int.toNat wH)))))) (NodeT.n (atI (t := .node) wA (Int.toNat (kidAt (⟨wB, wC, wD, wE, wA⟩ : NodeT) (atI (t := .str) wJ (Int.toNat wH)))))) (NodeT.s (atI (t := .node) wA (Int.toNat (kidAt (⟨wB, wC, wD, wE, wA⟩ : NodeT) (atI (t := .str) wJ (Int.toNat wH)))))) (NodeT.keys (atI (t := .node) wA (Int.toNat (kidAt (⟨wB, wC, wD, wE, wA⟩ : NodeT) (atI (t := .str) wJ (Int.toNat wH)))))) (NodeT.kids (atI (t := .node) wA (Int.toNat (kidAt (⟨wB, wC, wD, wE, wA⟩ : NodeT) (atI (t := .str) wJ (Int.toNat wH))))))))
 none))
 none)
 none)
 (k' (.exit 0) (f20S2 wJ wW wH (decide (wH < wW)) wB wC wD wE wA))) := by kernel_rfl
theorem f20L0_eq {R : Type} (n : Nat) (k' : Ex → St → Option R) (wJ : List BA) (wW : Int) : ∀ (m : Nat) (wH : Int) (wB : Int) (wC : Int) (wD : BA) (wE : List BA) (wA : List NodeT), iter (fun st k => ev f20e f20k n (cAt [1,0,1,0,0] f20c) st k) m (f20S0 wJ wW wH wB wC wD wE wA) k' = f20L0 n (k' .ret f20S1) (fun (uF : Int) (uN : Bool) (wQ : Int) (wR : Int) (wS : BA) (wT : List BA) (wU : List NodeT) => k' (.exit 0) (f20S2 wJ wW uF uN wQ wR wS wT wU)) wJ wW m wH wB wC wD wE wA := by
 intro m; induction m with
 | zero => intros; rfl
 | succ m ih =>
  intro wH wB wC wD wE wA
  simp only [iter]
  rw [f20L0_b]
  simp only [ih, f20L0]
noncomputable def f20K0 {R : Type} (n : Nat) (k' : Ex → St → Option R) : Ex → St → Option R := (blockK 0 (seqK f20e f20k n (cAt [1,1] f20c) k'))
theorem f20K0_x0 {R : Type} (n : Nat) (k : List Dt → Option R) (a0 : NodeT) (a1 : List BA)  : f20K0 n (exitK f20e [.ro, .ro] [false, false] true [.cell 4 31, .tmp 5] [31, 4] [.d .node a0, .d (.sl .str) a1] k) .ret f20S1 =
 (k [.d .node (⟨(0 : Int), (0 : Int), ByteArray.empty, ([] : List BA), ([] : List NodeT)⟩ : NodeT), .d .bool false]) := by kernel_rfl
theorem f20K0_x1 {R : Type} (n : Nat) (k : List Dt → Option R) (a0 : NodeT) (a1 : List BA) (wJ : List BA) (wW : Int) (uF : Int) (uN : Bool) (wQ : Int) (wR : Int) (wS : BA) (wT : List BA) (wU : List NodeT) : f20K0 n (exitK f20e [.ro, .ro] [false, false] true [.cell 4 31, .tmp 5] [31, 4] [.d .node a0, .d (.sl .str) a1] k) (.exit 0) (f20S2 wJ wW uF uN wQ wR wS wT wU) =
 (cond (sm_node (⟨wQ, wR, wS, wT, wU⟩ : NodeT))
 (k [.d .node (⟨wQ, wR, wS, wT, wU⟩ : NodeT), .d .bool true])
 none) := by kernel_rfl
theorem f20_run {R : Type} (n : Nat) (k : List Dt → Option R) (a0 : NodeT) (a1 : List BA) : evFn f20e f20k n f20c [.ro, .ro] [false, false] true [.cell 4 31, .tmp 5] [31, 4] [.d .node a0, .d (.sl .str) a1] k =
 (f20L0 n (k [.d .node (⟨(0 : Int), (0 : Int), ByteArray.empty, ([] : List BA), ([] : List NodeT)⟩ : NodeT), .d .bool false]) (fun (uF : Int) (uN : Bool) (wQ : Int) (wR : Int) (wS : BA) (wT : List BA) (wU : List NodeT) =>
 (cond (sm_node (⟨wQ, wR, wS, wT, wU⟩ : NodeT))
 (k [.d .node (⟨wQ, wR, wS, wT, wU⟩ : NodeT), .d .bool true])
 none)) a1 (a1.length : Int) n (0 : Int) (NodeT.kind a0) (NodeT.n a0) (NodeT.s a0) (NodeT.keys a0) (NodeT.kids a0)) := by
 refine Eq.trans (b := (iter (fun st k => ev f20e f20k n (cAt [1,0,1,0,0] f20c) st k) n (f20S0 a1 (a1.length : Int) (0 : Int) (NodeT.kind a0) (NodeT.n a0) (NodeT.s a0) (NodeT.keys a0) (NodeT.kids a0)) (f20K0 n (exitK f20e [.ro, .ro] [false, false] true [.cell 4 31, .tmp 5] [31, 4] [.d .node a0, .d (.sl .str) a1] k)))) (by kernel_rfl) ?_
 simp only [f20L0_eq, f20K0_x0, f20K0_x1]
theorem f20_spec (a0 : NodeT) (a1 : List BA) (hg : (sm_node a0 && smL smStr a1) = true) : ∃ keep rounds, ∀ {R : Type} (k : List Dt → Option R), evFn f20e keep rounds f20c [.ro, .ro] [false, false] true [.cell 4 31, .tmp 5] [31, 4] [.d .node a0, .d (.sl .str) a1] k = k [.d .node ((atPtr a0 a1).1), .d .bool ((atPtr a0 a1).2)] := by
 simp only [Bool.and_eq_true] at hg
 obtain ⟨hg, hpa⟩ := hg
 have nl := smL_len hpa
 refine ⟨f20k, a1.length + 1, fun {R} k => ?_⟩
 rw [f20_run]
 show _ = k [.d .node (atPtr a0 a1).1, .d .bool (atPtr a0 a1).2]
 unfold atPtr
 refine Eq.trans (loop_fold (xs := a1) (F := fun m j (t : NodeT) => f20L0 (a1.length + 1) _ _ a1 (a1.length : Int) m (j : Int) t.kind t.n t.s t.keys t.kids) (step := atStep) (out := fun _ => k [.d .node noNode, .d .bool false]) (good := fun t => k [.d .node t, .d .bool true]) (fun t => sm_node t = true)
  (fun x t t' _ ht e => sm_kid ht (atStep_in e)) (fun m j t x hx hst => ?_) (fun m t hst => by simp only [f20L0, idxE, cond_false, eta_node, eN_eq, hst, cond_true]) a1.length 0 (a1.length + 1) a0 (by omega) (by omega) hg) ?_
 ·obtain ⟨h1, h0, hw, ht⟩ := idx (lt_of_get hx) (by omega)
  unfold atStep
  by_cases hk : kidAt t x < 0
  ·simp only [f20L0, h1, h0, hw, ht, atI_of (t := .str) hx, Bool.and_self, cond_true, eta_node, eN_eq, hst, decide_eq_true hk]
   rfl
  ·have hlt := kidAt_lt hk
   simp only [f20L0, h1, h0, hw, ht, atI_of (t := .str) hx, Bool.and_self, cond_true, cond_false, eta_node, eN_eq, hst, decide_eq_false hk, decide_eq_true (show (0 : Int) ≤ kidAt t x by omega), decide_eq_true hlt, Bool.and_self]
   rfl
 ·rw [List.drop_zero]
  cases foldE atStep a1 a0 <;> rfl
noncomputable def q20 : List Dt → Option (Bool × List Dt)
 | [.d .node a0, .d (.sl .str) a1] => some (((fun (x : NodeT) (y : List BA) => sm_node x && smL smStr y) a0 a1), [.d .node ((atPtr a0 a1).1), .d .bool ((atPtr a0 a1).2)])
 | _ => none
noncomputable def s20 : Gm.Spec := Gm.Spec.of [.ro, .ro] [false, false] true q20
theorem good20 : Gm.Good Try.prog (20, s20) := by
 have hl : ∀ x ∈ [(45, s45), (46, s46)], Gm.Good Try.prog x := fcJ.2 ⟨good45, fcJ.2 ⟨good46, fcN⟩⟩
 refine ⟨⟨spec_ok (tab_ok.env hl) (tab.natl hl) Try.func20 (by kernel_rfl : Try.f20.body = some f20c) [31, 4] (by kernel_rfl) ?_, _, Try.func20, by kernel_rfl, of_decide_eq_true (by kernel_rfl)⟩, Gm.Spec.of_natl _ _ _ _⟩
 intro ds outs h
 unfold q20 at h
 split at h
 ·simp only [Option.some.injEq, Prod.mk.injEq] at h; obtain ⟨hg, h⟩ := h; cases h; exact f20_spec _ _ hg
 ·cases h
open Go.RowKit in
set_option maxHeartbeats 4000000 in
set_option maxRecDepth 1000000 in
theorem delE70 : DelE Try.prog 70 1 := by
 refine ⟨fun a n cap i w hi hn => ?_, fun b o n cap i j cs el w hij hj hn hb hs h1 => ?_⟩
 ·have hic : i ≤ cap := by omega
  go_enter Try.func70, Try.ntmps70
  go_wp2
  all_goals (go_ret; exact ⟨rfl, rfl⟩)
 ·obtain ⟨eT, ii, news, W1, W2, hu, hi, hsz, hlen, hone, hsrc, hfit, hW1, hclr, hend⟩ := del_pack (E := tab.env []) (tab_ok.env (fun _ h => by simp at h)) (T := 22) (e := .str) rfl (sz := 1) rfl hij hj hn hb hs h1
  obtain ⟨A, hA, hsrc2⟩ : ∃ A : Addr, (if cap = j then (some ⟨b, o, none⟩ : Option Addr) else some ⟨b, o + j, none⟩) = some A ∧ Hid (∀ t u, news[t]? = some u → w.drew.cell? (A.add t) = some u) := by
   by_cases h : cap = j
   ·exact ⟨⟨b, o, none⟩, by simp [h], hsrc _ (.inr (by omega))⟩
   ·exact ⟨⟨b, o + j, none⟩, by simp [h], hsrc _ (.inl (by simp))⟩
  have hcl : ∀ ty, (Builtin.clear_ #[22] ty #[.slice (some ⟨b, o + (i + (n - j)), none⟩) (n - (i + (n - j))) (cap - (i + (n - j)))]).run Try.prog W1 = .ok (.tuple #[]) W2 := fun ty => by have := hclr ty; simpa only [Nat.mul_one] using this
  have s5 : Hid (Try.prog.underlying 22 = some (.slice eT)) := hu
  have s6 : Hid (Try.prog.info? eT = some ii) := hi
  have s1 : Hid (news.length = (n - j) * 1) := hlen
  have s2 : Hid (∀ u ∈ news, u.oneCell' = true) := hone
  have s3 : Hid (o + i * 1 + news.length ≤ cs.size) := hfit
  have s4 : Hid (w.heap[b]? = some (.cells cs el (0, 0))) := hb
  have hW : Hid (W1 = w.drew.setRow b (putAt cs (o + i * 1) news.toArray)) := hW1
  have hE : Hid (DelEnd w W2 b o n i j 1 cs el) := hend
  have mixed : Try.prog.follows .mixedOrders = true := tab_ok.ord
  have hic : i ≤ cap := by omega
  have hjc : j ≤ cap := by omega
  have hne : i ≠ j := by omega
  clear hu hi hlen hone hsrc hfit hW1 hclr hend hb h1 hs
  go_enter Try.func70, Try.ntmps70
  go_wp2_with fail
  go_region_law_o (refine step_append_at rfl (.tmp 22) (.tmp 25) 22 rfl eT ii 1 s5 s6 hsz b o i cap (by simp [Act.eval, Act.put]) A (n - j) (cap - j) news (by simp [Act.eval, Act.put]) s1 hsrc2 s2 (by omega) cs el s4 s3 ?_; rw [← show W1 = _ from hW])
  go_wp2
  go_ret
  exact ⟨by rw [show n - (j - i) = i + (n - j) by omega]; rfl, hE⟩
noncomputable def q70 : List Dt → Option (Bool × List Dt)
 | [.d (.sl .str) a0, .d (.i .i64) a1, .d (.i .i64) a2] => some (gDel a0 a1 a2, [.d (.sl .str) (delL a0 a1 a2)])
 | _ => none
noncomputable def s70 : Gm.Spec := Gm.Spec.of [.mov, .ro, .ro] [false] true q70
theorem good70 : Gm.Good Try.prog (70, s70) := by
 refine ⟨⟨spec_del (t := .str) (sz := 1) rfl delE70 fun ds outs h => ?_, _, Try.func70, by kernel_rfl, of_decide_eq_true (by kernel_rfl)⟩, Gm.Spec.of_natl _ _ _ _⟩
 unfold q70 at h
 split at h
 ·rename_i a0 a1 a2
  simp only [Option.some.injEq, Prod.mk.injEq] at h
  obtain ⟨hg, rfl⟩ := h
  simp only [gDel, Bool.and_eq_true, decide_eq_true_eq] at hg
  exact ⟨a0, a1.toNat, a2.toNat, by rw [Int.toNat_of_nonneg (by omega), Int.toNat_of_nonneg (by omega)], by omega, by omega, rfl⟩
 ·cases h
open Go.RowKit in
set_option maxHeartbeats 4000000 in
set_option maxRecDepth 1000000 in
theorem delE53 : DelE Try.prog 53 5 := by
 refine ⟨fun a n cap i w hi hn => ?_, fun b o n cap i j cs el w hij hj hn hb hs h1 => ?_⟩
 ·have hic : i ≤ cap := by omega
  go_enter Try.func53, Try.ntmps53
  go_wp2
  all_goals (go_ret; exact ⟨rfl, rfl⟩)
 ·obtain ⟨eT, ii, news, W1, W2, hu, hi, hsz, hlen, hone, hsrc, hfit, hW1, hclr, hend⟩ := del_pack (E := tab.env []) (tab_ok.env (fun _ h => by simp at h)) (T := 29) (e := .node) rfl (sz := 5) rfl hij hj hn hb hs h1
  obtain ⟨A, hA, hsrc2⟩ : ∃ A : Addr, (if cap = j then (some ⟨b, o, none⟩ : Option Addr) else some ⟨b, o + j * 5, none⟩) = some A ∧ Hid (∀ t u, news[t]? = some u → w.drew.cell? (A.add t) = some u) := by
   by_cases h : cap = j
   ·exact ⟨⟨b, o, none⟩, by simp [h], hsrc _ (.inr (by omega))⟩
   ·exact ⟨⟨b, o + j * 5, none⟩, by simp [h], hsrc _ (.inl (by simp))⟩
  have hcl : ∀ ty, (Builtin.clear_ #[29] ty #[.slice (some ⟨b, o + (i + (n - j)) * 5, none⟩) (n - (i + (n - j))) (cap - (i + (n - j)))]).run Try.prog W1 = .ok (.tuple #[]) W2 := fun ty => hclr ty
  have s5 : Hid (Try.prog.underlying 29 = some (.slice eT)) := hu
  have s6 : Hid (Try.prog.info? eT = some ii) := hi
  have s1 : Hid (news.length = (n - j) * 5) := hlen
  have s2 : Hid (∀ u ∈ news, u.oneCell' = true) := hone
  have s3 : Hid (o + i * 5 + news.length ≤ cs.size) := hfit
  have s4 : Hid (w.heap[b]? = some (.cells cs el (0, 0))) := hb
  have hW : Hid (W1 = w.drew.setRow b (putAt cs (o + i * 5) news.toArray)) := hW1
  have hE : Hid (DelEnd w W2 b o n i j 5 cs el) := hend
  have mixed : Try.prog.follows .mixedOrders = true := tab_ok.ord
  have hic : i ≤ cap := by omega
  have hjc : j ≤ cap := by omega
  have hne : i ≠ j := by omega
  clear hu hi hlen hone hsrc hfit hW1 hclr hend hb h1 hs
  go_enter Try.func53, Try.ntmps53
  go_wp2_with fail
  go_region_law_o (refine step_append_at rfl (.tmp 22) (.tmp 25) 29 rfl eT ii 5 s5 s6 hsz b o i cap (by simp [Act.eval, Act.put]) A (n - j) (cap - j) news (by simp [Act.eval, Act.put]) s1 hsrc2 s2 (by omega) cs el s4 s3 ?_; rw [← show W1 = _ from hW])
  go_wp2
  go_ret
  exact ⟨by rw [show n - (j - i) = i + (n - j) by omega]; rfl, hE⟩
noncomputable def q53 : List Dt → Option (Bool × List Dt)
 | [.d (.sl .node) a0, .d (.i .i64) a1, .d (.i .i64) a2] => some (gDel a0 a1 a2, [.d (.sl .node) (delL a0 a1 a2)])
 | _ => none
noncomputable def s53 : Gm.Spec := Gm.Spec.of [.mov, .ro, .ro] [false] true q53
theorem good53 : Gm.Good Try.prog (53, s53) := by
 refine ⟨⟨spec_del (t := .node) (sz := 5) rfl delE53 fun ds outs h => ?_, _, Try.func53, by kernel_rfl, of_decide_eq_true (by kernel_rfl)⟩, Gm.Spec.of_natl _ _ _ _⟩
 unfold q53 at h
 split at h
 ·rename_i a0 a1 a2
  simp only [Option.some.injEq, Prod.mk.injEq] at h
  obtain ⟨hg, rfl⟩ := h
  simp only [gDel, Bool.and_eq_true, decide_eq_true_eq] at hg
  exact ⟨a0, a1.toNat, a2.toNat, by rw [Int.toNat_of_nonneg (by omega), Int.toNat_of_nonneg (by omega)], by omega, by omega, rfl⟩
 ·cases h
noncomputable def f52c : Code := (Try.f52.body).getD .skip
def f52k : Nat → Kp := kat [⟨[1, 2, 4], [], [], []⟩, ⟨[1, 2, 4], [], [], []⟩, ⟨[2, 4, 5], [], [], []⟩, ⟨[2, 4, 5, 18], [], [], []⟩, ⟨[4], [], [], []⟩, ⟨[2, 4, 5], [], [], []⟩, ⟨[2, 4], [], [], []⟩, ⟨[4], [], [], []⟩]
noncomputable def f52e : Env := tab.env [(46, s46), (53, s53), (56, s56), (67, s67), (70, s70)]
theorem f52_run {R : Type} (n : Nat) (k : List Dt → Option R) (a0 : NodeT) (a1 : BA) : evFn f52e f52k n f52c [.ro, .ro] [false] true [.cell 4 31] [31] [.d .node a0, .d .str a1] k =
 (cond (sm_node (eN a0))
 (cond ((fun (x : List BA) (_ : BA) => gLenW x) (NodeT.keys a0) a1)
 (cond (!(isMapN (eN a0)))
 (k [.d .node (eN a0)])
 (cond (decide ((idxS (NodeT.keys a0) a1) < (0 : Int)))
 (k [.d .node (eN a0)])
 (cond (gDel (NodeT.keys a0) (idxS (NodeT.keys a0) a1) (IntKind.wrap .i64 ((idxS (NodeT.keys a0) a1) + (1 : Int))))
 (cond (gDel (NodeT.kids a0) (idxS (NodeT.keys a0) a1) (IntKind.wrap .i64 ((idxS (NodeT.keys a0) a1) + (1 : Int))))
 (k [.d .node (⟨(NodeT.kind a0), (NodeT.n a0), (NodeT.s a0), (delL (NodeT.keys a0) (idxS (NodeT.keys a0) a1) (IntKind.wrap .i64 ((idxS (NodeT.keys a0) a1) + (1 : Int)))), (delL (NodeT.kids a0) (idxS (NodeT.keys a0) a1) (IntKind.wrap .i64 ((idxS (NodeT.keys a0) a1) + (1 : Int))))⟩ : NodeT)])
 none)
 none)))
 none)
 none) := by kernel_rfl
theorem f52_spec (a0 : NodeT) (a1 : BA) (hg : sm_node a0 = true) : ∃ keep rounds, ∀ {R : Type} (k : List Dt → Option R), evFn f52e keep rounds f52c [.ro, .ro] [false] true [.cell 4 31] [31] [.d .node a0, .d .str a1] k = k [.d .node (unset a0 a1)] := by
 have hg0 := hg
 rw [sm_node_def] at hg
 simp only [Bool.and_eq_true] at hg
 obtain ⟨_, _, _, hke, hki⟩ := hg
 have nke := smL_len hke
 have nki := smL_len hki
 refine ⟨f52k, 0, fun k => ?_⟩
 rw [f52_run]
 simp only [eta_node, eN_eq, hg0, gLenW_sm hke, cond_true]
 cases hm : isMapN a0
 ·unfold unset; rw [hm]; rfl
 simp only [idxS_map hm a1, Bool.not_true, cond_false]
 by_cases hk : keyAt a0 a1 < 0
 ·rw [unset_neg hk, decide_eq_true hk]; rfl
 ·have hb := keyAt_bd a0 a1 hk
  have e0 : unset a0 a1 = cutKey a0 (keyAt a0 a1) := by unfold unset; rw [hm, decide_eq_false hk]; rfl
  obtain ⟨i, e, h1, h2⟩ := hb
  obtain ⟨_, _, hw, _⟩ := idx h1 (by omega)
  rw [e0, decide_eq_false hk, e, hw, gDel_one h1, gDel_one h2]
  rfl
noncomputable def q52 : List Dt → Option (Bool × List Dt)
 | [.d .node a0, .d .str a1] => some (((fun (x : NodeT) (_ : BA) => sm_node x) a0 a1), [.d .node (unset a0 a1)])
 | _ => none
noncomputable def s52 : Gm.Spec := Gm.Spec.of [.ro, .ro] [false] true q52
theorem good52 : Gm.Good Try.prog (52, s52) := by
 have hl : ∀ x ∈ [(46, s46), (53, s53), (56, s56), (67, s67), (70, s70)], Gm.Good Try.prog x := fcJ.2 ⟨good46, fcJ.2 ⟨good53, fcJ.2 ⟨good56, fcJ.2 ⟨good67, fcJ.2 ⟨good70, fcN⟩⟩⟩⟩⟩
 refine ⟨⟨spec_ok (tab_ok.env hl) (tab.natl hl) Try.func52 (by kernel_rfl : Try.f52.body = some f52c) [31] (by kernel_rfl) ?_, _, Try.func52, by kernel_rfl, of_decide_eq_true (by kernel_rfl)⟩, Gm.Spec.of_natl _ _ _ _⟩
 intro ds outs h
 unfold q52 at h
 split at h
 ·simp only [Option.some.injEq, Prod.mk.injEq] at h; obtain ⟨hg, h⟩ := h; cases h; exact f52_spec _ _ hg
 ·cases h
noncomputable def f49c : Code := (Try.f49.body).getD .skip
def f49k : Nat → Kp := kat [⟨[1, 2, 4], [], [], []⟩, ⟨[1, 2, 4, 5], [], [], []⟩, ⟨[2, 4, 5, 6], [], [], []⟩, ⟨[4, 5, 6, 22], [], [], []⟩, ⟨[4], [], [], []⟩, ⟨[4, 5, 6], [], [513], []⟩, ⟨[4, 5], [], [], []⟩, ⟨[4], [], [], []⟩]
noncomputable def f49e : Env := tab.env [(44, s44), (66, s66)]
theorem f49_run {R : Type} (n : Nat) (k : List Dt → Option R) (a0 : NodeT) (a1 : BA) : evFn f49e f49k n f49c [.ro, .ro] [false] false [.cell 4 31] [31] [.d .node a0, .d .str a1] k =
 (cond (sm_node (eN a0))
 (cond ((fun (x : NodeT) (_ : BA) => sm_node x) (eN a0) a1)
 (cond (decide ((keyAt (eN a0) a1) < (0 : Int)))
 (k [.d .node (eN a0)])
 (cond (((NodeT.keys a0).length : Int) != ((NodeT.kids a0).length : Int))
 (k [.d .node (eN a0)])
 (cond ((decide ((0 : Int) ≤ (keyAt (eN a0) a1))) && (decide ((keyAt (eN a0) a1) ≤ ((NodeT.keys a0).length : Int))))
 (cond (Nat.ble (0 + (((NodeT.keys a0).take (Int.toNat (keyAt (eN a0) a1))).drop 0).length) LIM)
 (cond ((decide ((0 : Int) ≤ (IntKind.wrap .i64 ((keyAt (eN a0) a1) + (1 : Int))))) && ((decide ((IntKind.wrap .i64 ((keyAt (eN a0) a1) + (1 : Int))) ≤ ((NodeT.keys a0).length : Int))) && (decide (((NodeT.keys a0).length : Int) ≤ ((NodeT.keys a0).length : Int)))))
 (cond (Nat.ble ((([] : List BA) ++ (((NodeT.keys a0).take (Int.toNat (keyAt (eN a0) a1))).drop 0)).length + (((NodeT.keys a0).take (Int.toNat ((NodeT.keys a0).length : Int))).drop (Int.toNat (IntKind.wrap .i64 ((keyAt (eN a0) a1) + (1 : Int))))).length) LIM)
 (cond ((decide ((0 : Int) ≤ (keyAt (eN a0) a1))) && (decide ((keyAt (eN a0) a1) ≤ ((NodeT.kids a0).length : Int))))
 (cond (Nat.ble (0 + (((NodeT.kids a0).take (Int.toNat (keyAt (eN a0) a1))).drop 0).length) LIM)
 (cond ((decide ((0 : Int) ≤ (IntKind.wrap .i64 ((keyAt (eN a0) a1) + (1 : Int))))) && ((decide ((IntKind.wrap .i64 ((keyAt (eN a0) a1) + (1 : Int))) ≤ ((NodeT.kids a0).length : Int))) && (decide (((NodeT.kids a0).length : Int) ≤ ((NodeT.kids a0).length : Int)))))
 (cond (Nat.ble ((([] : List NodeT) ++ (((NodeT.kids a0).take (Int.toNat (keyAt (eN a0) a1))).drop 0)).length + (((NodeT.kids a0).take (Int.toNat ((NodeT.kids a0).length : Int))).drop (Int.toNat (IntKind.wrap .i64 ((keyAt (eN a0) a1) + (1 : Int))))).length) LIM)
 (k [.d .node (⟨(NodeT.kind a0), (NodeT.n a0), (NodeT.s a0), ((([] : List BA) ++ (((NodeT.keys a0).take (Int.toNat (keyAt (eN a0) a1))).drop 0)) ++ (((NodeT.keys a0).take (Int.toNat ((NodeT.keys a0).length : Int))).drop (Int.toNat (IntKind.wrap .i64 ((keyAt (eN a0) a1) + (1 : Int)))))), ((([] : List NodeT) ++ (((NodeT.kids a0).take (Int.toNat (keyAt (eN a0) a1))).drop 0)) ++ (((NodeT.kids a0).take (Int.toNat ((NodeT.kids a0).length : Int))).drop (Int.toNat (IntKind.wrap .i64 ((keyAt (eN a0) a1) + (1 : Int))))))⟩ : NodeT)])
 none)
 none)
 none)
 none)
 none)
 none)
 none)
 none)))
 none)
 none) := by kernel_rfl
theorem f49_spec (a0 : NodeT) (a1 : BA) (hg : sm_node a0 = true) : ∃ keep rounds, ∀ {R : Type} (k : List Dt → Option R), evFn f49e keep rounds f49c [.ro, .ro] [false] false [.cell 4 31] [31] [.d .node a0, .d .str a1] k = k [.d .node (unset a0 a1)] := by
 have hg0 := hg
 rw [sm_node_def] at hg
 simp only [Bool.and_eq_true] at hg
 obtain ⟨_, _, _, hke, hki⟩ := hg
 have nke := smL_len hke
 have nki := smL_len hki
 refine ⟨f49k, 0, fun k => ?_⟩
 rw [f49_run]
 simp only [eta_node, eN_eq, hg0, cond_true]
 by_cases hk : keyAt a0 a1 < 0
 ·rw [unset_neg hk, decide_eq_true hk]; rfl
 cases hl : ((a0.keys.length : Int) != (a0.kids.length : Int))
 rotate_left
 ·rw [unset_ne hl, decide_eq_false hk]; rfl
 rw [unset_eq hk hl, decide_eq_false hk]
 obtain ⟨i, e, h1, h2⟩ := keyAt_bd a0 a1 hk
 obtain ⟨_, _, hw, _⟩ := idx h1 (by omega)
 have d0 : decide ((0 : Int) ≤ (i : Int)) = true := decide_eq_true (by omega)
 have d1 : decide ((i : Int) ≤ (a0.keys.length : Int)) = true := decide_eq_true (by omega)
 have d2 : decide ((i : Int) ≤ (a0.kids.length : Int)) = true := decide_eq_true (by omega)
 have d3 : decide ((0 : Int) ≤ ((i + 1 : Nat) : Int)) = true := decide_eq_true (by omega)
 have d4 : decide (((i + 1 : Nat) : Int) ≤ (a0.keys.length : Int)) = true := decide_eq_true (by omega)
 have d5 : decide (((i + 1 : Nat) : Int) ≤ (a0.kids.length : Int)) = true := decide_eq_true (by omega)
 have d6 : decide ((a0.keys.length : Int) ≤ (a0.keys.length : Int)) = true := decide_eq_true (Int.le_refl _)
 have d7 : decide ((a0.kids.length : Int) ≤ (a0.kids.length : Int)) = true := decide_eq_true (Int.le_refl _)
 simp only [e, hw, d0, d1, d2, d3, d4, d5, d6, d7, Int.toNat_natCast, List.drop_zero, List.take_length, List.nil_append, limT nke, limT nki, limTD nke, limTD nki, Bool.and_self, cond_true, cond_false]
 rfl
noncomputable def q49 : List Dt → Option (Bool × List Dt)
 | [.d .node a0, .d .str a1] => some (((fun (x : NodeT) (_ : BA) => sm_node x) a0 a1), [.d .node (unset a0 a1)])
 | _ => none
noncomputable def s49 : Gm.Spec := Gm.Spec.of [.ro, .ro] [false] false q49
theorem good49 : Gm.Good Try.prog (49, s49) := by
 have hl : ∀ x ∈ [(44, s44), (66, s66)], Gm.Good Try.prog x := fcJ.2 ⟨good44, fcJ.2 ⟨good66, fcN⟩⟩
 refine ⟨⟨spec_ok (tab_ok.env hl) (tab.natl hl) Try.func49 (by kernel_rfl : Try.f49.body = some f49c) [31] (by kernel_rfl) ?_, _, Try.func49, by kernel_rfl, of_decide_eq_true (by kernel_rfl)⟩, Gm.Spec.of_natl _ _ _ _⟩
 intro ds outs h
 unfold q49 at h
 split at h
 ·simp only [Option.some.injEq, Prod.mk.injEq] at h; obtain ⟨hg, h⟩ := h; cases h; exact f49_spec _ _ hg
 ·cases h
noncomputable def f51c : Code := (Try.f51.body).getD .skip
def f51k : Nat → Kp := kat [⟨[1, 2, 4], [], [], []⟩, ⟨[1, 2, 4, 6], [], [], []⟩, ⟨[1, 2, 4, 6, 11], [], [], []⟩, ⟨[4, 5], [], [], []⟩, ⟨[1, 2, 4, 6, 15], [], [], []⟩, ⟨[4, 5], [], [], []⟩, ⟨[2, 4, 6], [], [], []⟩, ⟨[2, 4], [], [], []⟩, ⟨[4, 5], [], [], []⟩]
noncomputable def f51e : Env := tab.env [(45, s45), (46, s46), (52, s52), (53, s53)]
theorem f51_run {R : Type} (n : Nat) (k : List Dt → Option R) (a0 : NodeT) (a1 : BA) : evFn f51e f51k n f51c [.ro, .ro] [false, false] true [.cell 4 31, .tmp 5] [31, 4] [.d .node a0, .d .str a1] k =
 (cond ((fun (x : NodeT) (_ : BA) => sm_node x) (eN a0) a1)
 (cond (decide ((kidAt (eN a0) a1) < (0 : Int)))
 (k [.d .node (⟨(0 : Int), (0 : Int), ByteArray.empty, ([] : List BA), ([] : List NodeT)⟩ : NodeT), .d .bool false])
 (cond ((NodeT.kind a0) == (5 : Int))
 (cond ((fun (x : NodeT) (_ : BA) => sm_node x) (eN a0) a1)
 (k [.d .node (eN (unset (eN a0) a1)), .d .bool true])
 none)
 (cond (sm_node (eN a0))
 (cond (gDel (NodeT.kids a0) (kidAt (eN a0) a1) (IntKind.wrap .i64 ((kidAt (eN a0) a1) + (1 : Int))))
 (k [.d .node (⟨(NodeT.kind a0), (NodeT.n a0), (NodeT.s a0), (NodeT.keys a0), (delL (NodeT.kids a0) (kidAt (eN a0) a1) (IntKind.wrap .i64 ((kidAt (eN a0) a1) + (1 : Int))))⟩ : NodeT), .d .bool true])
 none)
 none)))
 none) := by kernel_rfl
theorem f51_spec (a0 : NodeT) (a1 : BA) (hg : sm_node a0 = true) : ∃ keep rounds, ∀ {R : Type} (k : List Dt → Option R), evFn f51e keep rounds f51c [.ro, .ro] [false, false] true [.cell 4 31, .tmp 5] [31, 4] [.d .node a0, .d .str a1] k = k [.d .node ((cutLast a0 a1).1), .d .bool ((cutLast a0 a1).2)] := by
 have hg0 := hg
 rw [sm_node_def] at hg
 simp only [Bool.and_eq_true] at hg
 obtain ⟨_, _, _, hke, hki⟩ := hg
 have nke := smL_len hke
 have nki := smL_len hki
 refine ⟨f51k, 0, fun k => ?_⟩
 rw [f51_run]
 simp only [eta_node, eN_eq, hg0, cond_true]
 show _ = k [.d .node (cutLast a0 a1).1, .d .bool (cutLast a0 a1).2]
 unfold cutLast
 by_cases hk : kidAt a0 a1 < 0
 ·rw [decide_eq_true hk]; rfl
 obtain ⟨i, e, h1⟩ := kidAt_bd hk
 obtain ⟨_, _, hw, _⟩ := idx h1 (by omega)
 rw [decide_eq_false hk, e, hw, gDel_one h1]
 cases a0.kind == (5 : Int) <;> rfl
noncomputable def q51 : List Dt → Option (Bool × List Dt)
 | [.d .node a0, .d .str a1] => some (((fun (x : NodeT) (_ : BA) => sm_node x) a0 a1), [.d .node ((cutLast a0 a1).1), .d .bool ((cutLast a0 a1).2)])
 | _ => none
noncomputable def s51 : Gm.Spec := Gm.Spec.of [.ro, .ro] [false, false] true q51
theorem good51 : Gm.Good Try.prog (51, s51) := by
 have hl : ∀ x ∈ [(45, s45), (46, s46), (52, s52), (53, s53)], Gm.Good Try.prog x := fcJ.2 ⟨good45, fcJ.2 ⟨good46, fcJ.2 ⟨good52, fcJ.2 ⟨good53, fcN⟩⟩⟩⟩
 refine ⟨⟨spec_ok (tab_ok.env hl) (tab.natl hl) Try.func51 (by kernel_rfl : Try.f51.body = some f51c) [31, 4] (by kernel_rfl) ?_, _, Try.func51, by kernel_rfl, of_decide_eq_true (by kernel_rfl)⟩, Gm.Spec.of_natl _ _ _ _⟩
 intro ds outs h
 unfold q51 at h
 split at h
 ·simp only [Option.some.injEq, Prod.mk.injEq] at h; obtain ⟨hg, h⟩ := h; cases h; exact f51_spec _ _ hg
 ·cases h
open Go.RowKit in
set_option maxHeartbeats 4000000 in
set_option maxRecDepth 1000000 in
theorem insE75 : InsE Try.prog 75 1 := by
  intro base n cap i vb vo m vc olds news w h
  have hE : (tab.env []).Ok Try.prog := tab_ok.env (fun _ h => by simp at h)
  have hm := h.hm
  have hin := h.hi
  have hnc := h.hn
  have hlim : n + m ≤ 4294967296 := h.lim
  have hz1 : ¬ ((m : Int) = 0) := by omega
  have mixed : Try.prog.follows .mixedOrders = true := tab_ok.ord
  have hw1 : IntKind.i64.wrap ((i : Int) + (m : Int)) = (i : Int) + (m : Int) := by rw [IntKind.wrap_i64]; omega
  have hb1 : (0 : Int) ≤ (i : Int) + (m : Int) := by omega
  have htn : ((i : Int) + (m : Int)).toNat = i + m := by omega
  by_cases hi : i = n
  · subst hi
    obtain ⟨b', o', cap', W, hrun, hend⟩ := ins_end hE (T := 22) (e := .str) rfl (sz := 1) rfl h vc
    have hend : Hid (InsEnd w W base b' o' (i + m) cap' 1 (olds.take (i * 1) ++ news ++ olds.drop (i * 1))) := hend
    cases base with
    | none =>
      obtain ⟨rfl, rfl⟩ := h.nil rfl
      clear h
      go_enter Try.func75, Try.ntmps75
      go_wp2_with (at_builtin; refine Lib.wpList_append_run _ rfl _ _ _ _ rfl _ _ rfl rfl _ _ (hrun _) ?_)
      go_ret
      exact ⟨b', o', cap', by rw [Nat.zero_add]; rfl, hend⟩
    | some a =>
      obtain ⟨b, o, cs, el, rfl, _⟩ := h.is _ rfl
      clear h
      go_enter Try.func75, Try.ntmps75
      go_wp2_with (at_builtin; refine Lib.wpList_append_run _ rfl _ _ _ _ rfl _ _ rfl rfl _ _ (hrun _) ?_)
      all_goals (go_ret; exact ⟨_, _, _, rfl, hend⟩)
  · have hlt : i < n := by omega
    have hz2 : ¬ ((i : Int) = (n : Int)) := by omega
    cases base with
    | none => have := (h.nil rfl).1; omega
    | some a =>
      obtain ⟨b, o, cs, el, rfl, _⟩ := h.is _ rfl
      have hb4 : ¬ (cap = i) := by omega
      by_cases hroom : n + m ≤ cap
      · obtain ⟨W1, cs1, hov, hcp1, hcp2, hend, e1, e2, e3⟩ := ins_room hE (T := 22) (e := .str) rfl (sz := 1) rfl h hlt hroom
        have hovc : ∀ lb cb, (callFunc 88 #[.slice (some ⟨vb, vo, none⟩) m vc, .slice (some ⟨b, o + (i + m), none⟩) lb cb]).run Try.prog w = .ok (.value (.bool false)) w := fun lb cb => by
          rw [run_callFunc_extern Try.func88 (by kernel_rfl) (by kernel_rfl) (by kernel_rfl) (e := Extern.SlicesOverlaps.overlaps #[22, 22] #[4]) (by kernel_rfl), hov 4 _ lb cb vc (by simp)]
          rfl
        have hcp1' : ∀ ty dc sc, (Builtin.copy_ #[22, 22] ty #[.slice (some ⟨b, o + (i + m), none⟩) (n + m - (i + m)) dc, .slice (some ⟨b, o + i, none⟩) (n + m - i) sc]).run Try.prog w.drew = .ok (goInt (n - i : Nat)) W1 := fun ty dc sc => by simpa only [Nat.mul_one] using hcp1 ty dc sc
        have hcp2' : ∀ W : World, W.heap = W1.heap → ∀ ty dc vc, (Builtin.copy_ #[22, 22] ty #[.slice (some ⟨b, o + i, none⟩) (n + m - i) dc, .slice (some ⟨vb, vo, none⟩) m vc]).run Try.prog W = .ok (goInt m) (W.setRow b (putAt cs1 (o + i) news.toArray)) := fun W hW ty dc vc => by simpa only [Nat.mul_one] using hcp2 W hW ty dc vc
        have hend' : Hid (∀ W : World, W.heap = W1.heap → W.os = w.os → W.tape = w.tape → W.output = w.output → InsEnd w (W.setRow b (putAt cs1 (o + i) news.toArray)) (some ⟨b, o, none⟩) b o (n + m) cap 1 (olds.take (i * 1) ++ news ++ olds.drop (i * 1))) := fun W a1 a2 a3 a4 => by simpa only [Nat.mul_one] using hend W a1 a2 a3 a4
        have hb2 : ¬ (cap = i + m) := by omega
        have hb3 : (i : Int) ≤ (n : Int) + (m : Int) := by omega
        have hin2 : i ≤ n := by omega
        clear h hov hcp1 hcp2 hend
        go_enter Try.func75, Try.ntmps75
        go_wp2_with (simp only [hovc])
        go_region_law_o (refine step_copy_by rfl _ _ 22 22 rfl _ _ (by simp [Act.eval, Act.put]) (by simp [Act.eval, Act.put]) (hcp1' _ _ _) ?_)
        go_wp2_with (at_builtin; refine wpList_copy_by rfl _ _ 22 22 rfl _ _ rfl rfl (hcp2' _ rfl _ _ _) ?_)
        go_ret
        exact ⟨_, _, _, rfl, hend' _ rfl e1 e2 e3⟩
      · have hgr : cap < n + m := by omega
        obtain ⟨W1, G, row, hrz, hG, hcpA, hcpB, hend, e1, e2, e3⟩ := ins_grow hE (T := 22) (Ti := 3) (e := .str) rfl (by kernel_rfl) (sz := 1) rfl h hlt hgr
        have hend' : Hid (∀ W0 W : World, W0.heap = W1.heap → W.heap = (W0.setRow w.heap.size (putAt row (i) news.toArray)).heap → W.os = w.os → W.tape = w.tape → W.output = w.output →
          InsEnd w (W.setRow w.heap.size (putAt (putAt row (i) news.toArray) ((i + m)) (olds.drop (i * 1)).toArray)) (some ⟨b, o, none⟩) w.heap.size 0 (n + m) G 1 (olds.take (i * 1) ++ news ++ olds.drop (i * 1))) := fun W0 W a1 a2 a3 a4 a5 => by simpa only [Nat.mul_one] using hend W0 W a1 (by simpa only [Nat.mul_one] using a2) a3 a4 a5
        have hcpA' : ∀ W : World, W.heap = W1.heap → ∀ ty dc vc, (Builtin.copy_ #[22, 22] ty #[.slice (some ⟨w.heap.size, i, none⟩) (n + m - i) dc, .slice (some ⟨vb, vo, none⟩) m vc]).run Try.prog W = .ok (goInt m) (W.setRow w.heap.size (putAt row (i) news.toArray)) := fun W hW ty dc vc => by simpa only [Nat.mul_one] using hcpA W hW ty dc vc
        have hcpB' : ∀ W0 W : World, W0.heap = W1.heap → W.heap = (W0.setRow w.heap.size (putAt row (i) news.toArray)).heap → ∀ ty dc sc, (Builtin.copy_ #[22, 22] ty #[.slice (some ⟨w.heap.size, (i + m), none⟩) (n + m - (i + m)) dc, .slice (some ⟨b, o + i, none⟩) (n - i) sc]).run Try.prog W =
          .ok (goInt (n - i : Nat)) (W.setRow w.heap.size (putAt (putAt row (i) news.toArray) ((i + m)) (olds.drop (i * 1)).toArray)) := fun W0 W a1 a2 ty dc sc => by simpa only [Nat.mul_one] using hcpB W0 W a1 (by simpa only [Nat.mul_one] using a2) ty dc sc
        have hz3 : (cap : Int) < (n : Int) + (m : Int) := by omega
        have hGi : ¬ (G = i) := by omega
        have hGim : ¬ (G = i + m) := by omega
        have hb3 : (i : Int) ≤ (n : Int) := by omega
        have hin2 : i ≤ n := by omega
        clear h hcpA hcpB hend
        go_enter Try.func75, Try.ntmps75
        go_wp2_with (first
          | (at_builtin; refine Lib.wpList_append_run _ rfl _ _ _ _ rfl _ _ rfl rfl _ _ (hrz _) ?_)
          | (at_builtin; refine wpList_copy_by rfl _ _ 22 22 rfl _ _ rfl rfl (hcpA' _ rfl _ _ _) ?_)
          | (at_builtin; refine wpList_copy_by rfl _ _ 22 22 rfl _ _ rfl rfl (hcpB' _ _ rfl rfl _ _ _) ?_))
        go_region_law_o (refine step_copy_by rfl _ _ 22 22 rfl (.slice (some ⟨w.heap.size, (i + m), none⟩) (n + m - (i + m)) (G - (i + m))) (.slice (some ⟨b, o + i, none⟩) (n - i) (cap - i)) (by simp [Act.eval, Act.put]) (by simp [Act.eval, Act.put]) (hcpB' W1 ((W1.setRow w.heap.size (putAt row (i) news.toArray)).drew) rfl rfl 3 (G - (i + m)) (cap - i)) ?_)
        go_wp2
        go_ret
        have hfin := hend' W1 ((W1.setRow w.heap.size (putAt row (i) news.toArray)).drew) rfl rfl e1 e2 e3
        first
          | exact ⟨_, _, _, rfl, hfin⟩
          | (simp only [Nat.mul_one] at hfin; exact ⟨_, _, _, rfl, by simpa only [Nat.mul_one] using hfin⟩)
noncomputable def q75 : List Dt → Option (Bool × List Dt)
 | [.d (.sl .str) a0, .d (.i .i64) a1, .d (.sl .str) a2] => some (gIns a0 a1 a2, [.d (.sl .str) (insL a0 a1 a2)])
 | _ => none
noncomputable def s75 : Gm.Spec := Gm.Spec.of [.mov, .ro, .mov] [false] true q75
theorem good75 : Gm.Good Try.prog (75, s75) := by
 refine ⟨⟨spec_ins (t := .str) (sz := 1) rfl insE75 fun ds outs h => ?_, _, Try.func75, by kernel_rfl, of_decide_eq_true (by kernel_rfl)⟩, Gm.Spec.of_natl _ _ _ _⟩
 unfold q75 at h
 split at h
 ·rename_i a0 a1 a2
  simp only [Option.some.injEq, Prod.mk.injEq] at h
  obtain ⟨hg, rfl⟩ := h
  obtain ⟨h1, h2, h3, h4⟩ := gIns_iff.1 hg
  exact ⟨a0, a2, a1.toNat, by rw [Int.toNat_of_nonneg h1], by omega, h3, h4, rfl⟩
 ·cases h
open Go.RowKit in
set_option maxHeartbeats 4000000 in
set_option maxRecDepth 1000000 in
theorem insE59 : InsE Try.prog 59 5 := by
  intro base n cap i vb vo m vc olds news w h
  have hE : (tab.env []).Ok Try.prog := tab_ok.env (fun _ h => by simp at h)
  have hm := h.hm
  have hin := h.hi
  have hnc := h.hn
  have hlim : n + m ≤ 4294967296 := h.lim
  have hz1 : ¬ ((m : Int) = 0) := by omega
  have mixed : Try.prog.follows .mixedOrders = true := tab_ok.ord
  have hw1 : IntKind.i64.wrap ((i : Int) + (m : Int)) = (i : Int) + (m : Int) := by rw [IntKind.wrap_i64]; omega
  have hb1 : (0 : Int) ≤ (i : Int) + (m : Int) := by omega
  have htn : ((i : Int) + (m : Int)).toNat = i + m := by omega
  by_cases hi : i = n
  · subst hi
    obtain ⟨b', o', cap', W, hrun, hend⟩ := ins_end hE (T := 29) (e := .node) rfl (sz := 5) rfl h vc
    have hend : Hid (InsEnd w W base b' o' (i + m) cap' 5 (olds.take (i * 5) ++ news ++ olds.drop (i * 5))) := hend
    cases base with
    | none =>
      obtain ⟨rfl, rfl⟩ := h.nil rfl
      clear h
      go_enter Try.func59, Try.ntmps59
      go_wp2_with (at_builtin; refine Lib.wpList_append_run _ rfl _ _ _ _ rfl _ _ rfl rfl _ _ (hrun _) ?_)
      go_ret
      exact ⟨b', o', cap', by rw [Nat.zero_add]; rfl, hend⟩
    | some a =>
      obtain ⟨b, o, cs, el, rfl, _⟩ := h.is _ rfl
      clear h
      go_enter Try.func59, Try.ntmps59
      go_wp2_with (at_builtin; refine Lib.wpList_append_run _ rfl _ _ _ _ rfl _ _ rfl rfl _ _ (hrun _) ?_)
      all_goals (go_ret; exact ⟨_, _, _, rfl, hend⟩)
  · have hlt : i < n := by omega
    have hz2 : ¬ ((i : Int) = (n : Int)) := by omega
    cases base with
    | none => have := (h.nil rfl).1; omega
    | some a =>
      obtain ⟨b, o, cs, el, rfl, _⟩ := h.is _ rfl
      have hb4 : ¬ (cap = i) := by omega
      by_cases hroom : n + m ≤ cap
      · obtain ⟨W1, cs1, hov, hcp1, hcp2, hend, e1, e2, e3⟩ := ins_room hE (T := 29) (e := .node) rfl (sz := 5) rfl h hlt hroom
        have hovc : ∀ lb cb, (callFunc 77 #[.slice (some ⟨vb, vo, none⟩) m vc, .slice (some ⟨b, o + (i + m) * 5, none⟩) lb cb]).run Try.prog w = .ok (.value (.bool false)) w := fun lb cb => by
          rw [run_callFunc_extern Try.func77 (by kernel_rfl) (by kernel_rfl) (by kernel_rfl) (e := Extern.SlicesOverlaps.overlaps #[29, 29] #[4]) (by kernel_rfl), hov 4 _ lb cb vc (by simp)]
          rfl
        have hcp1' : ∀ ty dc sc, (Builtin.copy_ #[29, 29] ty #[.slice (some ⟨b, o + (i + m) * 5, none⟩) (n + m - (i + m)) dc, .slice (some ⟨b, o + i * 5, none⟩) (n + m - i) sc]).run Try.prog w.drew = .ok (goInt (n - i : Nat)) W1 := fun ty dc sc => by simpa only [Nat.mul_one] using hcp1 ty dc sc
        have hcp2' : ∀ W : World, W.heap = W1.heap → ∀ ty dc vc, (Builtin.copy_ #[29, 29] ty #[.slice (some ⟨b, o + i * 5, none⟩) (n + m - i) dc, .slice (some ⟨vb, vo, none⟩) m vc]).run Try.prog W = .ok (goInt m) (W.setRow b (putAt cs1 (o + i * 5) news.toArray)) := fun W hW ty dc vc => by simpa only [Nat.mul_one] using hcp2 W hW ty dc vc
        have hend' : Hid (∀ W : World, W.heap = W1.heap → W.os = w.os → W.tape = w.tape → W.output = w.output → InsEnd w (W.setRow b (putAt cs1 (o + i * 5) news.toArray)) (some ⟨b, o, none⟩) b o (n + m) cap 5 (olds.take (i * 5) ++ news ++ olds.drop (i * 5))) := fun W a1 a2 a3 a4 => by simpa only [Nat.mul_one] using hend W a1 a2 a3 a4
        have hb2 : ¬ (cap = i + m) := by omega
        have hb3 : (i : Int) ≤ (n : Int) + (m : Int) := by omega
        have hin2 : i ≤ n := by omega
        clear h hov hcp1 hcp2 hend
        go_enter Try.func59, Try.ntmps59
        go_wp2_with (simp only [hovc])
        go_region_law_o (refine step_copy_by rfl _ _ 29 29 rfl _ _ (by simp [Act.eval, Act.put]) (by simp [Act.eval, Act.put]) (hcp1' _ _ _) ?_)
        go_wp2_with (at_builtin; refine wpList_copy_by rfl _ _ 29 29 rfl _ _ rfl rfl (hcp2' _ rfl _ _ _) ?_)
        go_ret
        exact ⟨_, _, _, rfl, hend' _ rfl e1 e2 e3⟩
      · have hgr : cap < n + m := by omega
        obtain ⟨W1, G, row, hrz, hG, hcpA, hcpB, hend, e1, e2, e3⟩ := ins_grow hE (T := 29) (Ti := 3) (e := .node) rfl (by kernel_rfl) (sz := 5) rfl h hlt hgr
        have hend' : Hid (∀ W0 W : World, W0.heap = W1.heap → W.heap = (W0.setRow w.heap.size (putAt row (i * 5) news.toArray)).heap → W.os = w.os → W.tape = w.tape → W.output = w.output →
          InsEnd w (W.setRow w.heap.size (putAt (putAt row (i * 5) news.toArray) ((i + m) * 5) (olds.drop (i * 5)).toArray)) (some ⟨b, o, none⟩) w.heap.size 0 (n + m) G 5 (olds.take (i * 5) ++ news ++ olds.drop (i * 5))) := fun W0 W a1 a2 a3 a4 a5 => by simpa only [Nat.mul_one] using hend W0 W a1 (by simpa only [Nat.mul_one] using a2) a3 a4 a5
        have hcpA' : ∀ W : World, W.heap = W1.heap → ∀ ty dc vc, (Builtin.copy_ #[29, 29] ty #[.slice (some ⟨w.heap.size, i * 5, none⟩) (n + m - i) dc, .slice (some ⟨vb, vo, none⟩) m vc]).run Try.prog W = .ok (goInt m) (W.setRow w.heap.size (putAt row (i * 5) news.toArray)) := fun W hW ty dc vc => by simpa only [Nat.mul_one] using hcpA W hW ty dc vc
        have hcpB' : ∀ W0 W : World, W0.heap = W1.heap → W.heap = (W0.setRow w.heap.size (putAt row (i * 5) news.toArray)).heap → ∀ ty dc sc, (Builtin.copy_ #[29, 29] ty #[.slice (some ⟨w.heap.size, (i + m) * 5, none⟩) (n + m - (i + m)) dc, .slice (some ⟨b, o + i * 5, none⟩) (n - i) sc]).run Try.prog W =
          .ok (goInt (n - i : Nat)) (W.setRow w.heap.size (putAt (putAt row (i * 5) news.toArray) ((i + m) * 5) (olds.drop (i * 5)).toArray)) := fun W0 W a1 a2 ty dc sc => by simpa only [Nat.mul_one] using hcpB W0 W a1 (by simpa only [Nat.mul_one] using a2) ty dc sc
        have hz3 : (cap : Int) < (n : Int) + (m : Int) := by omega
        have hGi : ¬ (G = i) := by omega
        have hGim : ¬ (G = i + m) := by omega
        have hb3 : (i : Int) ≤ (n : Int) := by omega
        have hin2 : i ≤ n := by omega
        clear h hcpA hcpB hend
        go_enter Try.func59, Try.ntmps59
        go_wp2_with (first
          | (at_builtin; refine Lib.wpList_append_run _ rfl _ _ _ _ rfl _ _ rfl rfl _ _ (hrz _) ?_)
          | (at_builtin; refine wpList_copy_by rfl _ _ 29 29 rfl _ _ rfl rfl (hcpA' _ rfl _ _ _) ?_)
          | (at_builtin; refine wpList_copy_by rfl _ _ 29 29 rfl _ _ rfl rfl (hcpB' _ _ rfl rfl _ _ _) ?_))
        go_region_law_o (refine step_copy_by rfl _ _ 29 29 rfl (.slice (some ⟨w.heap.size, (i + m) * 5, none⟩) (n + m - (i + m)) (G - (i + m))) (.slice (some ⟨b, o + i * 5, none⟩) (n - i) (cap - i)) (by simp [Act.eval, Act.put]) (by simp [Act.eval, Act.put]) (hcpB' W1 ((W1.setRow w.heap.size (putAt row (i * 5) news.toArray)).drew) rfl rfl 3 (G - (i + m)) (cap - i)) ?_)
        go_wp2
        go_ret
        have hfin := hend' W1 ((W1.setRow w.heap.size (putAt row (i * 5) news.toArray)).drew) rfl rfl e1 e2 e3
        first
          | exact ⟨_, _, _, rfl, hfin⟩
          | (simp only [Nat.mul_one] at hfin; exact ⟨_, _, _, rfl, by simpa only [Nat.mul_one] using hfin⟩)
noncomputable def q59 : List Dt → Option (Bool × List Dt)
 | [.d (.sl .node) a0, .d (.i .i64) a1, .d (.sl .node) a2] => some (gIns a0 a1 a2, [.d (.sl .node) (insL a0 a1 a2)])
 | _ => none
noncomputable def s59 : Gm.Spec := Gm.Spec.of [.mov, .ro, .mov] [false] true q59
theorem good59 : Gm.Good Try.prog (59, s59) := by
 refine ⟨⟨spec_ins (t := .node) (sz := 5) rfl insE59 fun ds outs h => ?_, _, Try.func59, by kernel_rfl, of_decide_eq_true (by kernel_rfl)⟩, Gm.Spec.of_natl _ _ _ _⟩
 unfold q59 at h
 split at h
 ·rename_i a0 a1 a2
  simp only [Option.some.injEq, Prod.mk.injEq] at h
  obtain ⟨hg, rfl⟩ := h
  obtain ⟨h1, h2, h3, h4⟩ := gIns_iff.1 hg
  exact ⟨a0, a2, a1.toNat, by rw [Int.toNat_of_nonneg h1], by omega, h3, h4, rfl⟩
 ·cases h
noncomputable def f74c : Code := (Try.f74.body).getD .skip
def f74k : Nat → Kp := kat [⟨[0, 1], [], [], []⟩, ⟨[3], [], [], []⟩]
noncomputable def f74e : Env := tab.env []
theorem f74_run {R : Type} (n : Nat) (k : List Dt → Option R) (a0 : BA) (a1 : BA) : evFn f74e f74k n f74c [.ro, .pro] [false] true [.tmp 3] [4] [.d .str a0, .d .str a1] k =
 (k [.d .bool (!((sLt a0 a1) || (sEq a0 a1)))]) := by kernel_rfl
theorem f74_spec (a0 : BA) (a1 : BA) : ∃ keep rounds, ∀ {R : Type} (k : List Dt → Option R), evFn f74e keep rounds f74c [.ro, .pro] [false] true [.tmp 3] [4] [.d .str a0, .d .str a1] k = k [.d .bool (gtKey a0 a1)] := by
 exact ⟨f74k, 0, fun k => f74_run 0 k a0 a1⟩
noncomputable def q74 : List Dt → Option (Bool × List Dt)
 | [.d .str a0, .d .str a1] => some (true, [.d .bool (gtKey a0 a1)])
 | _ => none
noncomputable def s74 : Gm.Spec := Gm.Spec.of [.ro, .pro] [false] true q74
theorem good74 : Gm.Good Try.prog (74, s74) := by
 have hl : ∀ x ∈ ([] : List (Nat × Gm.Spec)), Gm.Good Try.prog x := fun _ h => by cases h
 refine ⟨⟨spec_ok (tab_ok.env hl) (tab.natl hl) Try.func74 (by kernel_rfl : Try.f74.body = some f74c) [4] (by kernel_rfl) ?_, _, Try.func74, by kernel_rfl, of_decide_eq_true (by kernel_rfl)⟩, Gm.Spec.of_natl _ _ _ _⟩
 intro ds outs h
 unfold q74 at h
 split at h
 ·cases h; exact f74_spec _ _
 ·cases h
noncomputable def f73S0 (y0 : List BA) (y1 : BA) (y2 : Int) (y3 : Int) : St := ⟨[(0, .c (.one (.ro .str y0))), (1, .c (.one (.cloR 74 [⟨.str, y1⟩]))), (7, .c (.one (.v (.int .i64 y2)))), (8, .c (.one (.v (.int .i64 y3))))], [], []⟩
noncomputable def f73S1 (y0 : Int) : St := ⟨[(4, .c (.one (.v (.int .i64 y0))))], [], []⟩
noncomputable def f73S2 (y0 : List BA) (y1 : BA) (y2 : Int) (y3 : Int) (y4 : Bool) : St := ⟨[(0, .c (.one (.ro .str y0))), (1, .c (.one (.cloR 74 [⟨.str, y1⟩]))), (7, .c (.one (.v (.int .i64 y2)))), (8, .c (.one (.v (.int .i64 y3)))), (9, .c (.one (.v (.bool y4))))], [], []⟩
noncomputable def f73c : Code := (Try.f73.body).getD .skip
def f73k : Nat → Kp := kat [⟨[0, 1], [], [], []⟩, ⟨[0, 1, 7, 8], [], [], []⟩, ⟨[0, 1, 7, 8, 9], [], [], []⟩, ⟨[0, 1, 5, 7, 8], [], [], []⟩, ⟨[0, 1, 5, 7, 8, 16], [], [], []⟩, ⟨[4], [], [], []⟩, ⟨[0, 1, 7, 8], [], [], []⟩, ⟨[4], [], [], []⟩]
noncomputable def f73e : Env := tab.env [(74, s74)]
noncomputable def f73L0 {R : Type} (n : Nat) (x0 : Int → Option R) (x1 : Int → Bool → Option R) (wB : List BA) (vs1c0 : BA) (wC : Int) : Nat → Int → Option R
  | 0, _ => none
  | m + 1, wA =>
    (cond (decide (wA < wC))
   (cond ((decide ((0 : Int) ≤ wA)) && (decide (wA < (wB.length : Int))))
    (cond (gtKey (atI (t := .str) wB (Int.toNat wA)) vs1c0)
     (x0 wA)
     (f73L0 n x0 x1 wB vs1c0 wC m (IntKind.wrap .i64 (wA + (1 : Int)))))
    none)
   (x1 wA (decide (wA < wC))))
theorem f73L0_b {R : Type} (n : Nat) (k' : Ex → St → Option R) (wB : List BA) (vs1c0 : BA) (wC : Int) (wA : Int) : ev f73e f73k n (cAt [1,0,1,0,0] f73c) (f73S0 wB vs1c0 wC wA) k' =
 (cond (decide (wA < wC))
 (cond ((decide ((0 : Int) ≤ wA)) && (decide (wA < (wB.length : Int))))
 (cond (gtKey (atI (t := .str) wB (Int.toNat wA)) vs1c0)
 (k' .ret (f73S1 wA))
 (k' .normal (f73S0 wB vs1c0 wC (IntKind.wrap .i64 (wA + (1 : Int))))))
 none)
 (k' (.exit 0) (f73S2 wB vs1c0 wC wA (decide (wA < wC))))) := by kernel_rfl
theorem f73L0_eq {R : Type} (n : Nat) (k' : Ex → St → Option R) (wB : List BA) (vs1c0 : BA) (wC : Int) : ∀ (m : Nat) (wA : Int), iter (fun st k => ev f73e f73k n (cAt [1,0,1,0,0] f73c) st k) m (f73S0 wB vs1c0 wC wA) k' = f73L0 n (fun (wD : Int) => k' .ret (f73S1 wD)) (fun (wE : Int) (wF : Bool) => k' (.exit 0) (f73S2 wB vs1c0 wC wE wF)) wB vs1c0 wC m wA := by
 intro m; induction m with
 | zero => intros; rfl
 | succ m ih =>
  intro wA
  simp only [iter]
  rw [f73L0_b]
  simp only [ih, f73L0]
noncomputable def f73K0 {R : Type} (n : Nat) (k' : Ex → St → Option R) : Ex → St → Option R := (blockK 0 (seqK f73e f73k n (cAt [1,1] f73c) k'))
theorem f73K0_x0 {R : Type} (n : Nat) (k : List Dt → Option R) (a0 : List BA) (a1 : BA) (wD : Int) : f73K0 n (exitK f73e [.ro, .fn] [false] true [.tmp 4] [3] [.d (.sl .str) a0, .clo 74 [⟨.str, a1⟩]] k) .ret (f73S1 wD) =
 (k [.d (.i .i64) wD]) := by kernel_rfl
theorem f73K0_x1 {R : Type} (n : Nat) (k : List Dt → Option R) (a0 : List BA) (a1 : BA) (wB : List BA) (vs1c0 : BA) (wC : Int) (wE : Int) (wF : Bool) : f73K0 n (exitK f73e [.ro, .fn] [false] true [.tmp 4] [3] [.d (.sl .str) a0, .clo 74 [⟨.str, a1⟩]] k) (.exit 0) (f73S2 wB vs1c0 wC wE wF) =
 (k [.d (.i .i64) (-1 : Int)]) := by kernel_rfl
theorem f73_run {R : Type} (n : Nat) (k : List Dt → Option R) (a0 : List BA) (a1 : BA) : evFn f73e f73k n f73c [.ro, .fn] [false] true [.tmp 4] [3] [.d (.sl .str) a0, .clo 74 [⟨.str, a1⟩]] k =
 (f73L0 n (fun (wD : Int) =>
 (k [.d (.i .i64) wD])) (fun (wE : Int) (wF : Bool) =>
 (k [.d (.i .i64) (-1 : Int)])) a0 a1 (a0.length : Int) n (0 : Int)) := by
 refine Eq.trans (b := (iter (fun st k => ev f73e f73k n (cAt [1,0,1,0,0] f73c) st k) n (f73S0 a0 a1 (a0.length : Int) (0 : Int)) (f73K0 n (exitK f73e [.ro, .fn] [false] true [.tmp 4] [3] [.d (.sl .str) a0, .clo 74 [⟨.str, a1⟩]] k)))) (by kernel_rfl) ?_
 simp only [f73L0_eq, f73K0_x0, f73K0_x1]
theorem f73_spec (a0 : List BA) (a1 : BA) (hg : gLenW a0 = true) : ∃ keep rounds, ∀ {R : Type} (k : List Dt → Option R), evFn f73e keep rounds f73c [.ro, .fn] [false] true [.tmp 4] [3] [.d (.sl .str) a0, .clo 74 [⟨.str, a1⟩]] k = k [.d (.i .i64) (gtAt a0 a1)] := by
 have hl := gLenW_le hg
 refine ⟨f73k, a0.length + 1, fun k => ?_⟩
 rw [f73_run]
 refine Eq.trans (loop_find (n := a0.length) (F := fun m i => f73L0 (a0.length + 1) _ _ a0 a1 (a0.length : Int) m i) (p := fun j => gtKey (atI (t := .str) a0 j) a1) (hit := fun i => k [.d (.i .i64) i]) (miss := k [.d (.i .i64) (-1 : Int)])
  (fun m j hj => ?_) (fun m => by simp only [f73L0, idxE, cond_false]) a0.length 0 (a0.length + 1) (by omega) (by omega)) ?_
 ·obtain ⟨h1, h0, hw, ht⟩ := idx hj (by omega)
  simp only [f73L0, h1, h0, hw, ht, Bool.and_self, cond_true]
 ·show _ = k [.d (.i .i64) (plc _)]
  cases firstN (fun j => gtKey (atI (t := .str) a0 j) a1) 0 a0.length <;> rfl
noncomputable def q73 : List Dt → Option (Bool × List Dt)
 | [.d (.sl .str) a0, .clo 74 [⟨.str, a1⟩]] => some (((fun (x : List BA) (_ : BA) => gLenW x) a0 a1), [.d (.i .i64) (gtAt a0 a1)])
 | _ => none
noncomputable def s73 : Gm.Spec := Gm.Spec.of [.ro, .fn] [false] true q73
theorem good73 : Gm.Good Try.prog (73, s73) := by
 have hl : ∀ x ∈ [(74, s74)], Gm.Good Try.prog x := fcJ.2 ⟨good74, fcN⟩
 refine ⟨⟨spec_ok (tab_ok.env hl) (tab.natl hl) Try.func73 (by kernel_rfl : Try.f73.body = some f73c) [3] (by kernel_rfl) ?_, _, Try.func73, by kernel_rfl, of_decide_eq_true (by kernel_rfl)⟩, Gm.Spec.of_natl _ _ _ _⟩
 intro ds outs h
 unfold q73 at h
 split at h
 ·simp only [Option.some.injEq, Prod.mk.injEq] at h; obtain ⟨hg, h⟩ := h; cases h; exact f73_spec _ _ hg
 ·cases h
noncomputable def f57c : Code := (Try.f57.body).getD .skip
def f57k : Nat → Kp := kat [⟨[3, 4, 5, 6], [], [], []⟩, ⟨[3, 4, 5, 6], [], [], []⟩, ⟨[3, 4, 5, 6, 13], [], [], []⟩, ⟨[6], [], [], []⟩, ⟨[3, 4, 5, 6, 7], [], [], []⟩, ⟨[3, 4, 5, 6, 7, 20], [], [], []⟩, ⟨[3, 6], [], [], []⟩, ⟨[6], [], [], []⟩, ⟨[3, 4, 5, 6, 8], [], [], []⟩, ⟨[3, 4, 5, 6, 8, 33], [], [], []⟩, ⟨[3, 4, 5, 6, 8], [], [], []⟩, ⟨[3, 5, 6, 8], [], [], []⟩, ⟨[3, 6], [], [], []⟩, ⟨[6], [], [], []⟩]
noncomputable def f57e : Env := tab.env [(46, s46), (56, s56), (59, s59), (67, s67), (73, s73), (74, s74), (75, s75)]
theorem f57_run {R : Type} (n : Nat) (k : List Dt → Option R) (a0 : NodeT) (a1 : BA) (a2 : NodeT) : evFn f57e f57k n f57c [.ro, .ro, .ro] [false] true [.cell 6 31] [31] [.d .node a0, .d .str a1, .d .node a2] k =
 (cond (sm_node (eN a0))
 (cond (!(isMapN (eN a0)))
 (k [.d .node (eN a0)])
 (cond ((fun (x : List BA) (_ : BA) => gLenW x) (NodeT.keys a0) a1)
 (cond (decide ((idxS (NodeT.keys a0) a1) ≥ (0 : Int)))
 (cond (sm_node (eN a2))
 (cond ((decide ((0 : Int) ≤ (idxS (NodeT.keys a0) a1))) && (decide ((idxS (NodeT.keys a0) a1) < ((NodeT.kids a0).length : Int))))
 (k [.d .node (⟨(NodeT.kind a0), (NodeT.n a0), (NodeT.s a0), (NodeT.keys a0), ((NodeT.kids a0).set (Int.toNat (idxS (NodeT.keys a0) a1)) (eN a2))⟩ : NodeT)])
 none)
 none)
 (cond ((fun (x : List BA) (_ : BA) => gLenW x) (NodeT.keys a0) a1)
 (cond (decide ((gtAt (NodeT.keys a0) a1) < (0 : Int)))
 (cond (gIns (NodeT.keys a0) ((NodeT.keys a0).length : Int) ([a1] : List BA))
 (cond (sm_node (eN a2))
 (cond (gIns (NodeT.kids a0) ((NodeT.keys a0).length : Int) ([(eN a2)] : List NodeT))
 (k [.d .node (⟨(NodeT.kind a0), (NodeT.n a0), (NodeT.s a0), (insL (NodeT.keys a0) ((NodeT.keys a0).length : Int) ([a1] : List BA)), (insL (NodeT.kids a0) ((NodeT.keys a0).length : Int) ([(eN a2)] : List NodeT))⟩ : NodeT)])
 none)
 none)
 none)
 (cond (gIns (NodeT.keys a0) (gtAt (NodeT.keys a0) a1) ([a1] : List BA))
 (cond (sm_node (eN a2))
 (cond (gIns (NodeT.kids a0) (gtAt (NodeT.keys a0) a1) ([(eN a2)] : List NodeT))
 (k [.d .node (⟨(NodeT.kind a0), (NodeT.n a0), (NodeT.s a0), (insL (NodeT.keys a0) (gtAt (NodeT.keys a0) a1) ([a1] : List BA)), (insL (NodeT.kids a0) (gtAt (NodeT.keys a0) a1) ([(eN a2)] : List NodeT))⟩ : NodeT)])
 none)
 none)
 none))
 none))
 none))
 none) := by kernel_rfl
theorem f57_spec (a0 : NodeT) (a1 : BA) (a2 : NodeT) (hg : gS3 a0 a1 a2 = true) : ∃ keep rounds, ∀ {R : Type} (k : List Dt → Option R), evFn f57e keep rounds f57c [.ro, .ro, .ro] [false] true [.cell 6 31] [31] [.d .node a0, .d .str a1, .d .node a2] k = k [.d .node (setK a0 a1 a2)] := by
 have hg3 := hg
 simp only [gS3, Bool.and_eq_true] at hg
 obtain ⟨hg, hs1, hx2⟩ := hg
 have hg0 := hg
 rw [sm_node_def] at hg
 simp only [Bool.and_eq_true] at hg
 obtain ⟨_, _, _, hke, hki⟩ := hg
 have nke := smL_len hke
 have nki := smL_len hki
 refine ⟨f57k, 0, fun {R} k => ?_⟩
 rw [f57_run]
 simp only [eta_node, eN_eq, hg0, hx2, gLenW_sm hke, cond_true]
 show _ = k [.d .node (setK a0 a1 a2)]
 cases hm : isMapN a0
 ·unfold setK; rw [hm]; rfl
 obtain ⟨h5, hl⟩ := isMapN_eq hm
 simp only [idxS_map hm a1, Bool.not_true, cond_false, cond_true]
 by_cases hk : keyAt a0 a1 < 0
 ·rw [setK_neg hm hk, decide_eq_false (show ¬ (keyAt a0 a1 ≥ 0) by omega)]
  simp only [cond_false]
  have ha := gtAt_comes hm hk
  obtain ⟨i, e, hi⟩ := comesAt_bd a0.keys a1
  have g1 : gIns a0.keys (comesAt a0.keys a1) [a1] = true := gIns_one e hi nke
  have g2 : gIns a0.kids (comesAt a0.keys a1) [a2] = true := gIns_one e (by omega) nki
  cases hc : decide (gtAt a0.keys a1 < (0 : Int))
  ·rw [hc] at ha; simp only [cond_false] at ha
   simp only [cond_false, ha, g1, g2, cond_true]; rfl
  ·rw [hc] at ha; simp only [cond_true] at ha
   simp only [cond_true, ha, g1, g2]; rfl
 ·rw [setK_pos hm hk, decide_eq_true (show keyAt a0 a1 ≥ 0 by omega)]
  obtain ⟨i, e, h1, h2⟩ := keyAt_bd a0 a1 hk
  obtain ⟨i1, i0, _, _⟩ := idx h2 (by omega)
  simp only [eta_node, eN_eq, idxS_map hm a1, e, i0, i1, Bool.and_self, cond_true]
  rfl
noncomputable def q57 : List Dt → Option (Bool × List Dt)
 | [.d .node a0, .d .str a1, .d .node a2] => some ((gS3 a0 a1 a2), [.d .node (setK a0 a1 a2)])
 | _ => none
noncomputable def s57 : Gm.Spec := Gm.Spec.of [.ro, .ro, .ro] [false] true q57
theorem good57 : Gm.Good Try.prog (57, s57) := by
 have hl : ∀ x ∈ [(46, s46), (56, s56), (59, s59), (67, s67), (73, s73), (74, s74), (75, s75)], Gm.Good Try.prog x := fcJ.2 ⟨good46, fcJ.2 ⟨good56, fcJ.2 ⟨good59, fcJ.2 ⟨good67, fcJ.2 ⟨good73, fcJ.2 ⟨good74, fcJ.2 ⟨good75, fcN⟩⟩⟩⟩⟩⟩⟩
 refine ⟨⟨spec_ok (tab_ok.env hl) (tab.natl hl) Try.func57 (by kernel_rfl : Try.f57.body = some f57c) [31] (by kernel_rfl) ?_, _, Try.func57, by kernel_rfl, of_decide_eq_true (by kernel_rfl)⟩, Gm.Spec.of_natl _ _ _ _⟩
 intro ds outs h
 unfold q57 at h
 split at h
 ·simp only [Option.some.injEq, Prod.mk.injEq] at h; obtain ⟨hg, h⟩ := h; cases h; exact f57_spec _ _ _ hg
 ·cases h
noncomputable def f55c : Code := (Try.f55.body).getD .skip
def f55k : Nat → Kp := kat [⟨[1, 2, 3, 5], [], [], []⟩, ⟨[1, 2, 3, 5, 10], [], [], []⟩, ⟨[5, 6], [], [], []⟩, ⟨[1, 2, 3, 5, 7, 8], [], [], []⟩, ⟨[2, 3, 5, 7, 8, 21], [], [], []⟩, ⟨[2, 3, 5, 7, 8], [], [], []⟩, ⟨[2, 3, 5, 7, 38], [], [], []⟩, ⟨[5, 6], [], [], []⟩, ⟨[2, 3, 5, 7], [], [], []⟩, ⟨[3, 5], [], [], []⟩, ⟨[5, 6], [], [], []⟩]
noncomputable def f55e : Env := tab.env [(46, s46), (56, s56), (57, s57), (58, s58), (59, s59)]
theorem f55_run {R : Type} (n : Nat) (k : List Dt → Option R) (a0 : NodeT) (a1 : BA) (a2 : NodeT) : evFn f55e f55k n f55c [.ro, .ro, .pro] [false, false] true [.cell 5 31, .tmp 6] [31, 4] [.d .node a0, .d .str a1, .d .node a2] k =
 (cond (isMapN (eN a0))
 (cond (gS3 (eN a0) a1 (eN a2))
 (k [.d .node (eN (setK (eN a0) a1 (eN a2))), .d .bool true])
 none)
 (cond (sEq a1 (bs [45]))
 (cond ((NodeT.kind a0) != (4 : Int))
 (k [.d .node (⟨(0 : Int), (0 : Int), ByteArray.empty, ([] : List BA), ([] : List NodeT)⟩ : NodeT), .d .bool false])
 (cond (decide (((NodeT.kids a0).length : Int) > ((NodeT.kids a0).length : Int)))
 (k [.d .node (⟨(0 : Int), (0 : Int), ByteArray.empty, ([] : List BA), ([] : List NodeT)⟩ : NodeT), .d .bool false])
 (cond (sm_node (eN a0))
 (cond (sm_node (eN a2))
 (cond (gIns (NodeT.kids a0) ((NodeT.kids a0).length : Int) ([(eN a2)] : List NodeT))
 (k [.d .node (⟨(NodeT.kind a0), (NodeT.n a0), (NodeT.s a0), (NodeT.keys a0), (insL (NodeT.kids a0) ((NodeT.kids a0).length : Int) ([(eN a2)] : List NodeT))⟩ : NodeT), .d .bool true])
 none)
 none)
 none)))
 (cond ((NodeT.kind a0) != (4 : Int))
 (k [.d .node (⟨(0 : Int), (0 : Int), ByteArray.empty, ([] : List BA), ([] : List NodeT)⟩ : NodeT), .d .bool false])
 (cond (!((natS a1).2))
 (k [.d .node (⟨(0 : Int), (0 : Int), ByteArray.empty, ([] : List BA), ([] : List NodeT)⟩ : NodeT), .d .bool false])
 (cond (decide (((natS a1).1) > ((NodeT.kids a0).length : Int)))
 (k [.d .node (⟨(0 : Int), (0 : Int), ByteArray.empty, ([] : List BA), ([] : List NodeT)⟩ : NodeT), .d .bool false])
 (cond (sm_node (eN a0))
 (cond (sm_node (eN a2))
 (cond (gIns (NodeT.kids a0) ((natS a1).1) ([(eN a2)] : List NodeT))
 (k [.d .node (⟨(NodeT.kind a0), (NodeT.n a0), (NodeT.s a0), (NodeT.keys a0), (insL (NodeT.kids a0) ((natS a1).1) ([(eN a2)] : List NodeT))⟩ : NodeT), .d .bool true])
 none)
 none)
 none)))))) := by kernel_rfl
theorem f55_spec (a0 : NodeT) (a1 : BA) (a2 : NodeT) (hg : gS3 a0 a1 a2 = true) : ∃ keep rounds, ∀ {R : Type} (k : List Dt → Option R), evFn f55e keep rounds f55c [.ro, .ro, .pro] [false, false] true [.cell 5 31, .tmp 6] [31, 4] [.d .node a0, .d .str a1, .d .node a2] k = k [.d .node ((putLast a0 a1 a2).1), .d .bool ((putLast a0 a1 a2).2)] := by
 have hg3 := hg
 simp only [gS3, Bool.and_eq_true] at hg
 obtain ⟨hg, hs1, hx2⟩ := hg
 have hg0 := hg
 rw [sm_node_def] at hg
 simp only [Bool.and_eq_true] at hg
 obtain ⟨_, _, _, hke, hki⟩ := hg
 have nke := smL_len hke
 have nki := smL_len hki
 refine ⟨f55k, 0, fun {R} k => ?_⟩
 rw [f55_run]
 simp only [eta_node, eN_eq, hg0, hx2, hg3, cond_true]
 show _ = k [.d .node (putLast a0 a1 a2).1, .d .bool (putLast a0 a1 a2).2]
 unfold putLast
 cases hm : isMapN a0
 rotate_left
 ·rfl
 simp only [cond_false]
 cases h4 : a0.kind == (4 : Int)
 ·rw [show (a0.kind != (4 : Int)) = true by simp only [bne, h4]; rfl]
  simp only [cond_true, cond_false]
  cases sEq a1 (bs [45]) <;> rfl
 rw [show (a0.kind != (4 : Int)) = false by simp only [bne, h4]; rfl]
 simp only [cond_true, cond_false]
 cases hd : sEq a1 dash
 ·have hs := slot_impl (t := a0) (p := a1) nki hd
  rw [show sEq a1 (bs [45]) = false from hd]
  simp only [cond_false]
  cases h1 : (natS a1).2
  ·rw [h1] at hs; simp only [Bool.not_false, cond_true] at hs ⊢
   rw [← hs]; rfl
  ·rw [h1] at hs; simp only [Bool.not_true, cond_false] at hs ⊢
   by_cases h2 : (natS a1).1 > (a0.kids.length : Int)
   ·rw [decide_eq_true h2] at hs ⊢; simp only [cond_true] at hs ⊢
    rw [← hs]; rfl
   ·rw [decide_eq_false h2] at hs ⊢; simp only [cond_false] at hs ⊢
    have h0 := natS_nonneg h1
    obtain ⟨i, ei⟩ := Int.eq_ofNat_of_zero_le h0
    have g : gIns a0.kids (natS a1).1 [a2] = true := gIns_one ei (by omega) nki
    rw [← hs, decide_eq_false (show ¬ (natS a1).1 < 0 by omega)]
    simp only [g, cond_true, cond_false]; rfl
 ·rw [show sEq a1 (bs [45]) = true from hd]
  have hs : slotAt a0 a1 = (a0.kids.length : Int) := by unfold slotAt; rw [slot_dash hd]; rfl
  have g : gIns a0.kids (a0.kids.length : Int) [a2] = true := gIns_one rfl (Nat.le_refl _) nki
  rw [hs, decide_eq_false (show ¬ ((a0.kids.length : Int) > (a0.kids.length : Int)) by omega), decide_eq_false (show ¬ ((a0.kids.length : Int) < 0) by omega)]
  simp only [g, cond_true, cond_false]; rfl
noncomputable def q55 : List Dt → Option (Bool × List Dt)
 | [.d .node a0, .d .str a1, .d .node a2] => some ((gS3 a0 a1 a2), [.d .node ((putLast a0 a1 a2).1), .d .bool ((putLast a0 a1 a2).2)])
 | _ => none
noncomputable def s55 : Gm.Spec := Gm.Spec.of [.ro, .ro, .pro] [false, false] true q55
theorem good55 : Gm.Good Try.prog (55, s55) := by
 have hl : ∀ x ∈ [(46, s46), (56, s56), (57, s57), (58, s58), (59, s59)], Gm.Good Try.prog x := fcJ.2 ⟨good46, fcJ.2 ⟨good56, fcJ.2 ⟨good57, fcJ.2 ⟨good58, fcJ.2 ⟨good59, fcN⟩⟩⟩⟩⟩
 refine ⟨⟨spec_ok (tab_ok.env hl) (tab.natl hl) Try.func55 (by kernel_rfl : Try.f55.body = some f55c) [31, 4] (by kernel_rfl) ?_, _, Try.func55, by kernel_rfl, of_decide_eq_true (by kernel_rfl)⟩, Gm.Spec.of_natl _ _ _ _⟩
 intro ds outs h
 unfold q55 at h
 split at h
 ·simp only [Option.some.injEq, Prod.mk.injEq] at h; obtain ⟨hg, h⟩ := h; cases h; exact f55_spec _ _ _ hg
 ·cases h
noncomputable def q69a : List Dt → Option (Bool × List Dt)
 | [.d .node a0, .d (.sl .str) a1, .clo 51 []] => some ((gW a0 a1), [.d .node ((cutIn a0 a1).1), .d .bool ((cutIn a0 a1).2)])
 | _ => none
noncomputable def mu69a : List Dt → Nat
 | [.d .node a0, .d (.sl .str) a1, .clo 51 []] => (fun (_ : NodeT) (p : List BA) => p.length) a0 a1
 | _ => 0
noncomputable def s69ar (N : Nat) : Gm.Spec := Gm.Spec.of [.ro, .ro, .fn] [false, false] true (qlt mu69a N q69a)
noncomputable def f69ac : Code := (Try.f69.body).getD .skip
def f69ak : Nat → Kp := kat [⟨[1, 2, 3, 6], [], [], []⟩, ⟨[1, 2, 3, 6, 13], [], [], []⟩, ⟨[6, 7], [], [], []⟩, ⟨[1, 2, 3, 6, 8], [], [], []⟩, ⟨[1, 2, 3, 6, 8, 28], [], [], []⟩, ⟨[6, 7], [], [], []⟩, ⟨[3, 6, 8, 9, 10], [], [], []⟩, ⟨[3, 6, 8, 9, 43], [], [], []⟩, ⟨[6, 7], [], [], []⟩, ⟨[3, 6, 8, 9], [], [], []⟩, ⟨[3, 6], [], [], []⟩, ⟨[6, 7], [], [], []⟩]
noncomputable def f69ae (N : Nat) : Env := tab.env [(45, s45), (46, s46), (51, s51), (69, s69ar N)]
noncomputable def f69av0 (a0 : NodeT) (a1 : List BA) : List NodeT :=
 ((NodeT.kids a0).set (Int.toNat (kidAt (eN a0) (atI (t := .str) a1 0))) (eN ((cutIn (eN (atI (t := .node) (NodeT.kids a0) (Int.toNat (kidAt (eN a0) (atI (t := .str) a1 0))))) ((a1.take (Int.toNat (a1.length : Int))).drop 1)).1)))
theorem f69a_run {R : Type} (N : Nat) (n : Nat) (k : List Dt → Option R) (a0 : NodeT) (a1 : List BA) : evFn (f69ae N) f69ak n f69ac [.ro, .ro, .fn] [false, false] true [.cell 6 31, .tmp 7] [31, 4] [.d .node a0, .d (.sl .str) a1, .clo 51 []] k =
 (cond ((a1.length : Int) == (1 : Int))
 (cond (decide ((0 : Int) < (a1.length : Int)))
 (cond ((fun (x : NodeT) (_ : BA) => sm_node x) (eN a0) (atI (t := .str) a1 0))
 (k [.d .node (eN ((cutLast (eN a0) (atI (t := .str) a1 0)).1)), .d .bool ((cutLast (eN a0) (atI (t := .str) a1 0)).2)])
 none)
 none)
 (cond (decide ((0 : Int) < (a1.length : Int)))
 (cond ((fun (x : NodeT) (_ : BA) => sm_node x) (eN a0) (atI (t := .str) a1 0))
 (cond (decide ((kidAt (eN a0) (atI (t := .str) a1 0)) < (0 : Int)))
 (k [.d .node (⟨(0 : Int), (0 : Int), ByteArray.empty, ([] : List BA), ([] : List NodeT)⟩ : NodeT), .d .bool false])
 (cond ((decide ((0 : Int) ≤ (kidAt (eN a0) (atI (t := .str) a1 0)))) && (decide ((kidAt (eN a0) (atI (t := .str) a1 0)) < ((NodeT.kids a0).length : Int))))
 (cond ((decide ((1 : Int) ≤ (a1.length : Int))) && (decide ((a1.length : Int) ≤ (a1.length : Int))))
 (cond ((gW (eN (atI (t := .node) (NodeT.kids a0) (Int.toNat (kidAt (eN a0) (atI (t := .str) a1 0))))) ((a1.take (Int.toNat (a1.length : Int))).drop 1)) && (Nat.blt ((fun (_ : NodeT) (p : List BA) => p.length) (eN (atI (t := .node) (NodeT.kids a0) (Int.toNat (kidAt (eN a0) (atI (t := .str) a1 0))))) ((a1.take (Int.toNat (a1.length : Int))).drop 1)) N))
 (cond (!((cutIn (eN (atI (t := .node) (NodeT.kids a0) (Int.toNat (kidAt (eN a0) (atI (t := .str) a1 0))))) ((a1.take (Int.toNat (a1.length : Int))).drop 1)).2))
 (k [.d .node (⟨(0 : Int), (0 : Int), ByteArray.empty, ([] : List BA), ([] : List NodeT)⟩ : NodeT), .d .bool false])
 (cond (sm_node (eN a0))
 (cond ((decide ((0 : Int) ≤ (kidAt (eN a0) (atI (t := .str) a1 0)))) && (decide ((kidAt (eN a0) (atI (t := .str) a1 0)) < ((NodeT.kids a0).length : Int))))
 (k [.d .node (⟨(NodeT.kind a0), (NodeT.n a0), (NodeT.s a0), (NodeT.keys a0), (f69av0 a0 a1)⟩ : NodeT), .d .bool true])
 none)
 none))
 none)
 none)
 none))
 none)
 none)) := by kernel_rfl
theorem f69a_spec (N : Nat) (a0 : NodeT) (a1 : List BA) (hg : gW a0 a1 = true) (hm : mu69a [.d .node a0, .d (.sl .str) a1, .clo 51 []] = N) : ∃ keep rounds, ∀ {R : Type} (k : List Dt → Option R), evFn (f69ae N) keep rounds f69ac [.ro, .ro, .fn] [false, false] true [.cell 6 31, .tmp 7] [31, 4] [.d .node a0, .d (.sl .str) a1, .clo 51 []] k = k [.d .node ((cutIn a0 a1).1), .d .bool ((cutIn a0 a1).2)] := by
 have hm : a1.length = N := hm
 subst hm
 simp only [gW, Bool.and_eq_true] at hg
 obtain ⟨hg, hpa, hne⟩ := hg
 have hg0 := hg
 rw [sm_node_def] at hg
 simp only [Bool.and_eq_true] at hg
 obtain ⟨_, _, _, hke, hki⟩ := hg
 have nke := smL_len hke
 have nki := smL_len hki
 refine ⟨f69ak, 0, fun {R} k => ?_⟩
 rw [f69a_run]
 show _ = k [.d .node (cutIn a0 a1).1, .d .bool (cutIn a0 a1).2]
 match a1, hpa, hne with
 | [], _, hne => cases hne
 | [p], _, _ =>
  simp only [eta_node, eN_eq, hg0, cutIn]
  rfl
 | p :: q :: r, hpa, _ =>
  have l0 : decide ((0 : Int) < ((p :: q :: r).length : Int)) = true := decide_eq_true (by simp only [List.length_cons]; omega)
  have l1 : (((p :: q :: r).length : Int) == (1 : Int)) = false := by rw [beq_eq_false_iff_ne]; simp only [List.length_cons]; omega
  have l2 : decide ((1 : Int) ≤ ((p :: q :: r).length : Int)) = true := decide_eq_true (by simp only [List.length_cons]; omega)
  have l3 : decide (((p :: q :: r).length : Int) ≤ ((p :: q :: r).length : Int)) = true := decide_eq_true (Int.le_refl _)
  have l4 : ((p :: q :: r).take (Int.toNat ((p :: q :: r).length : Int))).drop 1 = q :: r := by rw [Int.toNat_natCast, List.take_length]; rfl
  have l5 : atI (t := .str) (p :: q :: r) 0 = p := rfl
  have l6 : Nat.blt (q :: r).length (p :: q :: r).length = true := by rw [Nat.blt_eq]; simp only [List.length_cons]; omega
  have l7 : (((p :: q :: r).length : Int) == (0 : Int)) = false := by rw [beq_eq_false_iff_ne]; simp only [List.length_cons]; omega
  have l8 : decide (((p :: q :: r).length : Int) > (1 : Int)) = true := decide_eq_true (by simp only [List.length_cons]; omega)
  have hqr : smL smStr (q :: r) = true := smL_tail hpa
  simp only [eta_node, eN_eq, hg0, l0, l1, l5, cond_true, cond_false]
  rw [cutIn]
  by_cases hk : kidAt a0 p < 0
  ·rw [decide_eq_true hk]; rfl
  obtain ⟨i, e, h1⟩ := kidAt_bd hk
  obtain ⟨i1, i0, _, it⟩ := idx h1 (by omega)
  have hx := atI_lt (t := .node) h1
  have hgk : gW (atI (t := .node) a0.kids i) (q :: r) = true := by
   simp only [gW, Bool.and_eq_true]
   exact ⟨sm_kid hg0 (List.mem_of_getElem? hx), hqr, rfl⟩
  simp only [decide_eq_false hk, f69av0, eta_node, eN_eq, l2, l3, l4, l5, l6, hgk, e, i1, i0, it, Bool.and_self, cond_true, cond_false]
  cases (cutIn (atI (t := .node) a0.kids i) (q :: r)).2 <;> rfl
noncomputable def s69a : Gm.Spec := Gm.Spec.of [.ro, .ro, .fn] [false, false] true q69a
theorem good69a : Gm.Good Try.prog (69, s69a) := by
 refine ⟨⟨spec_rec mu69a fun N hr => ?_, _, Try.func69, by kernel_rfl, of_decide_eq_true (by kernel_rfl)⟩, Gm.Spec.of_natl _ _ _ _⟩
 have hl : ∀ x ∈ [(45, s45), (46, s46), (51, s51), (69, s69ar N)], Gm.Good Try.prog x := fcJ.2 ⟨good45, fcJ.2 ⟨good46, fcJ.2 ⟨good51, fcJ.2 ⟨⟨⟨hr, _, Try.func69, by kernel_rfl, of_decide_eq_true (by kernel_rfl)⟩, Gm.Spec.of_natl _ _ _ _⟩, fcN⟩⟩⟩⟩
 intro R
 refine spec_ok (E := f69ae N) (tab_ok.env hl) (tab.natl hl) Try.func69 (by kernel_rfl : Try.f69.body = some f69ac) [31, 4] (by kernel_rfl) ?_
 intro ds outs h
 obtain ⟨h, hm⟩ := qeq_some h
 unfold q69a at h
 split at h
 ·simp only [Option.some.injEq, Prod.mk.injEq] at h; obtain ⟨hg, h⟩ := h; cases h; exact f69a_spec N _ _ hg hm
 ·cases h
noncomputable def q69b : List Dt → Option (Bool × List Dt)
 | [.d .node a0, .d (.sl .str) a1, .clo 55 [⟨.node, a2⟩]] => some ((gPW a0 a1 a2), [.d .node ((putIn a0 a1 a2).1), .d .bool ((putIn a0 a1 a2).2)])
 | _ => none
noncomputable def mu69b : List Dt → Nat
 | [.d .node a0, .d (.sl .str) a1, .clo 55 [⟨.node, a2⟩]] => (fun (_ : NodeT) (p : List BA) (_ : NodeT) => p.length) a0 a1 a2
 | _ => 0
noncomputable def s69br (N : Nat) : Gm.Spec := Gm.Spec.of [.ro, .ro, .fn] [false, false] true (qlt mu69b N q69b)
noncomputable def f69bc : Code := (Try.f69.body).getD .skip
def f69bk : Nat → Kp := kat [⟨[1, 2, 3, 6], [], [], []⟩, ⟨[1, 2, 3, 6, 13], [], [], []⟩, ⟨[6, 7], [], [], []⟩, ⟨[1, 2, 3, 6, 8], [], [], []⟩, ⟨[1, 2, 3, 6, 8, 28], [], [], []⟩, ⟨[6, 7], [], [], []⟩, ⟨[3, 6, 8, 9, 10], [], [], []⟩, ⟨[3, 6, 8, 9, 43], [], [], []⟩, ⟨[6, 7], [], [], []⟩, ⟨[3, 6, 8, 9], [], [], []⟩, ⟨[3, 6], [], [], []⟩, ⟨[6, 7], [], [], []⟩]
noncomputable def f69be (N : Nat) : Env := tab.env [(45, s45), (46, s46), (55, s55), (69, s69br N)]
noncomputable def f69bv0 (a0 : NodeT) (a1 : List BA) (a2 : NodeT) : List NodeT :=
 ((NodeT.kids a0).set (Int.toNat (kidAt (eN a0) (atI (t := .str) a1 0))) (eN ((putIn (eN (atI (t := .node) (NodeT.kids a0) (Int.toNat (kidAt (eN a0) (atI (t := .str) a1 0))))) ((a1.take (Int.toNat (a1.length : Int))).drop 1) a2).1)))
theorem f69b_run {R : Type} (N : Nat) (n : Nat) (k : List Dt → Option R) (a0 : NodeT) (a1 : List BA) (a2 : NodeT) : evFn (f69be N) f69bk n f69bc [.ro, .ro, .fn] [false, false] true [.cell 6 31, .tmp 7] [31, 4] [.d .node a0, .d (.sl .str) a1, .clo 55 [⟨.node, a2⟩]] k =
 (cond ((a1.length : Int) == (1 : Int))
 (cond (decide ((0 : Int) < (a1.length : Int)))
 (cond (gS3 (eN a0) (atI (t := .str) a1 0) a2)
 (k [.d .node (eN ((putLast (eN a0) (atI (t := .str) a1 0) a2).1)), .d .bool ((putLast (eN a0) (atI (t := .str) a1 0) a2).2)])
 none)
 none)
 (cond (decide ((0 : Int) < (a1.length : Int)))
 (cond ((fun (x : NodeT) (_ : BA) => sm_node x) (eN a0) (atI (t := .str) a1 0))
 (cond (decide ((kidAt (eN a0) (atI (t := .str) a1 0)) < (0 : Int)))
 (k [.d .node (⟨(0 : Int), (0 : Int), ByteArray.empty, ([] : List BA), ([] : List NodeT)⟩ : NodeT), .d .bool false])
 (cond ((decide ((0 : Int) ≤ (kidAt (eN a0) (atI (t := .str) a1 0)))) && (decide ((kidAt (eN a0) (atI (t := .str) a1 0)) < ((NodeT.kids a0).length : Int))))
 (cond ((decide ((1 : Int) ≤ (a1.length : Int))) && (decide ((a1.length : Int) ≤ (a1.length : Int))))
 (cond ((gPW (eN (atI (t := .node) (NodeT.kids a0) (Int.toNat (kidAt (eN a0) (atI (t := .str) a1 0))))) ((a1.take (Int.toNat (a1.length : Int))).drop 1) a2) && (Nat.blt ((fun (_ : NodeT) (p : List BA) (_ : NodeT) => p.length) (eN (atI (t := .node) (NodeT.kids a0) (Int.toNat (kidAt (eN a0) (atI (t := .str) a1 0))))) ((a1.take (Int.toNat (a1.length : Int))).drop 1) a2) N))
 (cond (!((putIn (eN (atI (t := .node) (NodeT.kids a0) (Int.toNat (kidAt (eN a0) (atI (t := .str) a1 0))))) ((a1.take (Int.toNat (a1.length : Int))).drop 1) a2).2))
 (k [.d .node (⟨(0 : Int), (0 : Int), ByteArray.empty, ([] : List BA), ([] : List NodeT)⟩ : NodeT), .d .bool false])
 (cond (sm_node (eN a0))
 (cond ((decide ((0 : Int) ≤ (kidAt (eN a0) (atI (t := .str) a1 0)))) && (decide ((kidAt (eN a0) (atI (t := .str) a1 0)) < ((NodeT.kids a0).length : Int))))
 (k [.d .node (⟨(NodeT.kind a0), (NodeT.n a0), (NodeT.s a0), (NodeT.keys a0), (f69bv0 a0 a1 a2)⟩ : NodeT), .d .bool true])
 none)
 none))
 none)
 none)
 none))
 none)
 none)) := by kernel_rfl
theorem f69b_spec (N : Nat) (a0 : NodeT) (a1 : List BA) (a2 : NodeT) (hg : gPW a0 a1 a2 = true) (hm : mu69b [.d .node a0, .d (.sl .str) a1, .clo 55 [⟨.node, a2⟩]] = N) : ∃ keep rounds, ∀ {R : Type} (k : List Dt → Option R), evFn (f69be N) keep rounds f69bc [.ro, .ro, .fn] [false, false] true [.cell 6 31, .tmp 7] [31, 4] [.d .node a0, .d (.sl .str) a1, .clo 55 [⟨.node, a2⟩]] k = k [.d .node ((putIn a0 a1 a2).1), .d .bool ((putIn a0 a1 a2).2)] := by
 have hm : a1.length = N := hm
 subst hm
 simp only [gPW, gP, Bool.and_eq_true] at hg
 obtain ⟨⟨hg, hpa, hx2⟩, hne⟩ := hg
 have hg0 := hg
 rw [sm_node_def] at hg
 simp only [Bool.and_eq_true] at hg
 obtain ⟨_, _, _, hke, hki⟩ := hg
 have nke := smL_len hke
 have nki := smL_len hki
 refine ⟨f69bk, 0, fun {R} k => ?_⟩
 rw [f69b_run]
 show _ = k [.d .node (putIn a0 a1 a2).1, .d .bool (putIn a0 a1 a2).2]
 match a1, hpa, hne with
 | [], _, hne => cases hne
 | [p], hpa, _ =>
  have hg3 : gS3 a0 p a2 = true := by simp only [gS3, Bool.and_eq_true]; exact ⟨hg0, smL_head hpa, hx2⟩
  have e5 : atI (t := .str) [p] 0 = p := rfl
  simp only [eta_node, eN_eq, e5, hg3, putIn]
  rfl
 | p :: q :: r, hpa, _ =>
  have l0 : decide ((0 : Int) < ((p :: q :: r).length : Int)) = true := decide_eq_true (by simp only [List.length_cons]; omega)
  have l1 : (((p :: q :: r).length : Int) == (1 : Int)) = false := by rw [beq_eq_false_iff_ne]; simp only [List.length_cons]; omega
  have l2 : decide ((1 : Int) ≤ ((p :: q :: r).length : Int)) = true := decide_eq_true (by simp only [List.length_cons]; omega)
  have l3 : decide (((p :: q :: r).length : Int) ≤ ((p :: q :: r).length : Int)) = true := decide_eq_true (Int.le_refl _)
  have l4 : ((p :: q :: r).take (Int.toNat ((p :: q :: r).length : Int))).drop 1 = q :: r := by rw [Int.toNat_natCast, List.take_length]; rfl
  have l5 : atI (t := .str) (p :: q :: r) 0 = p := rfl
  have l6 : Nat.blt (q :: r).length (p :: q :: r).length = true := by rw [Nat.blt_eq]; simp only [List.length_cons]; omega
  have l7 : (((p :: q :: r).length : Int) == (0 : Int)) = false := by rw [beq_eq_false_iff_ne]; simp only [List.length_cons]; omega
  have l8 : decide (((p :: q :: r).length : Int) > (1 : Int)) = true := decide_eq_true (by simp only [List.length_cons]; omega)
  have hqr : smL smStr (q :: r) = true := smL_tail hpa
  simp only [eta_node, eN_eq, hg0, l0, l1, l5, cond_true, cond_false]
  rw [putIn]
  by_cases hk : kidAt a0 p < 0
  ·rw [decide_eq_true hk]; rfl
  obtain ⟨i, e, h1⟩ := kidAt_bd hk
  obtain ⟨i1, i0, _, it⟩ := idx h1 (by omega)
  have hx := atI_lt (t := .node) h1
  have hgk : gPW (atI (t := .node) a0.kids i) (q :: r) a2 = true := by
   simp only [gPW, gP, Bool.and_eq_true]
   exact ⟨⟨sm_kid hg0 (List.mem_of_getElem? hx), hqr, hx2⟩, rfl⟩
  simp only [decide_eq_false hk, f69bv0, eta_node, eN_eq, l2, l3, l4, l5, l6, hgk, e, i1, i0, it, Bool.and_self, cond_true, cond_false]
  cases (putIn (atI (t := .node) a0.kids i) (q :: r) a2).2 <;> rfl
noncomputable def s69b : Gm.Spec := Gm.Spec.of [.ro, .ro, .fn] [false, false] true q69b
theorem good69b : Gm.Good Try.prog (69, s69b) := by
 refine ⟨⟨spec_rec mu69b fun N hr => ?_, _, Try.func69, by kernel_rfl, of_decide_eq_true (by kernel_rfl)⟩, Gm.Spec.of_natl _ _ _ _⟩
 have hl : ∀ x ∈ [(45, s45), (46, s46), (55, s55), (69, s69br N)], Gm.Good Try.prog x := fcJ.2 ⟨good45, fcJ.2 ⟨good46, fcJ.2 ⟨good55, fcJ.2 ⟨⟨⟨hr, _, Try.func69, by kernel_rfl, of_decide_eq_true (by kernel_rfl)⟩, Gm.Spec.of_natl _ _ _ _⟩, fcN⟩⟩⟩⟩
 intro R
 refine spec_ok (E := f69be N) (tab_ok.env hl) (tab.natl hl) Try.func69 (by kernel_rfl : Try.f69.body = some f69bc) [31, 4] (by kernel_rfl) ?_
 intro ds outs h
 obtain ⟨h, hm⟩ := qeq_some h
 unfold q69b at h
 split at h
 ·simp only [Option.some.injEq, Prod.mk.injEq] at h; obtain ⟨hg, h⟩ := h; cases h; exact f69b_spec N _ _ _ hg hm
 ·cases h
noncomputable def q69 : List Dt → Option (Bool × List Dt) := fun ds => (match q69a ds with | some r => some r | none => (match q69b ds with | some r => some r | none => none))
noncomputable def s69 : Gm.Spec := Gm.Spec.of [.ro, .ro, .fn] [false, false] true q69
theorem good69 : Gm.Good Try.prog (69, s69) := by
 refine ⟨⟨spec_part (q := q69) ?_, good69a.1.2⟩, Gm.Spec.of_natl _ _ _ _⟩
 intro ds outs h
 unfold q69 at h
 cases ha : q69a ds with
 | some r =>
  simp only [ha] at h
  exact ⟨q69a, good69a.1.1, by rw [ha]; exact h⟩
 | none =>
 simp only [ha] at h
 cases hb : q69b ds with
 | some r =>
  simp only [hb] at h
  exact ⟨q69b, good69b.1.1, by rw [hb]; exact h⟩
 | none =>
 simp only [hb] at h
 cases h
noncomputable def f50ac : Code := (Try.f50.body).getD .skip
def f50ak : Nat → Kp := kat [⟨[1, 2, 3, 6], [], [], []⟩, ⟨[3, 6, 8, 9], [], [], []⟩, ⟨[3, 6, 8, 18], [], [], []⟩, ⟨[6, 7], [], [], []⟩, ⟨[6, 7], [], [], []⟩]
noncomputable def f50ae : Env := tab.env [(46, s46), (51, s51), (69, s69)]
theorem f50a_run {R : Type} (n : Nat) (k : List Dt → Option R) (a0 : NodeT) (a1 : List BA) : evFn f50ae f50ak n f50ac [.ro, .ro, .fn] [false, false] true [.cell 6 31, .tmp 7] [31, 4] [.d .node a0, .d (.sl .str) a1, .clo 51 []] k =
 (cond (gW (eN a0) a1)
 (cond (!((cutIn (eN a0) a1).2))
 (cond (sm_node (eN a0))
 (k [.d .node (eN a0), .d .bool false])
 none)
 (k [.d .node (eN ((cutIn (eN a0) a1).1)), .d .bool true]))
 none) := by kernel_rfl
theorem f50a_spec (a0 : NodeT) (a1 : List BA) (hg : gW a0 a1 = true) : ∃ keep rounds, ∀ {R : Type} (k : List Dt → Option R), evFn f50ae keep rounds f50ac [.ro, .ro, .fn] [false, false] true [.cell 6 31, .tmp 7] [31, 4] [.d .node a0, .d (.sl .str) a1, .clo 51 []] k = k [.d .node ((cutAt a0 a1).1), .d .bool ((cutAt a0 a1).2)] := by
 refine ⟨f50ak, 0, fun {R} k => ?_⟩
 rw [f50a_run]
 have hs : sm_node a0 = true := by simp only [gW, Bool.and_eq_true] at hg; exact hg.1
 simp only [eta_node, eN_eq, hg, hs, cond_true]
 show _ = k [.d .node (cutAt a0 a1).1, .d .bool (cutAt a0 a1).2]
 unfold cutAt
 cases (cutIn a0 a1).2 <;> rfl
noncomputable def q50a : List Dt → Option (Bool × List Dt)
 | [.d .node a0, .d (.sl .str) a1, .clo 51 []] => some ((gW a0 a1), [.d .node ((cutAt a0 a1).1), .d .bool ((cutAt a0 a1).2)])
 | _ => none
noncomputable def s50a : Gm.Spec := Gm.Spec.of [.ro, .ro, .fn] [false, false] true q50a
theorem good50a : Gm.Good Try.prog (50, s50a) := by
 have hl : ∀ x ∈ [(46, s46), (51, s51), (69, s69)], Gm.Good Try.prog x := fcJ.2 ⟨good46, fcJ.2 ⟨good51, fcJ.2 ⟨good69, fcN⟩⟩⟩
 refine ⟨⟨spec_ok (tab_ok.env hl) (tab.natl hl) Try.func50 (by kernel_rfl : Try.f50.body = some f50ac) [31, 4] (by kernel_rfl) ?_, _, Try.func50, by kernel_rfl, of_decide_eq_true (by kernel_rfl)⟩, Gm.Spec.of_natl _ _ _ _⟩
 intro ds outs h
 unfold q50a at h
 split at h
 ·simp only [Option.some.injEq, Prod.mk.injEq] at h; obtain ⟨hg, h⟩ := h; cases h; exact f50a_spec _ _ hg
 ·cases h
noncomputable def f50bc : Code := (Try.f50.body).getD .skip
def f50bk : Nat → Kp := kat [⟨[1, 2, 3, 6], [], [], []⟩, ⟨[3, 6, 8, 9], [], [], []⟩, ⟨[3, 6, 8, 18], [], [], []⟩, ⟨[6, 7], [], [], []⟩, ⟨[6, 7], [], [], []⟩]
noncomputable def f50be : Env := tab.env [(46, s46), (55, s55), (69, s69)]
theorem f50b_run {R : Type} (n : Nat) (k : List Dt → Option R) (a0 : NodeT) (a1 : List BA) (a2 : NodeT) : evFn f50be f50bk n f50bc [.ro, .ro, .fn] [false, false] true [.cell 6 31, .tmp 7] [31, 4] [.d .node a0, .d (.sl .str) a1, .clo 55 [⟨.node, a2⟩]] k =
 (cond (gPW (eN a0) a1 a2)
 (cond (!((putIn (eN a0) a1 a2).2))
 (cond (sm_node (eN a0))
 (k [.d .node (eN a0), .d .bool false])
 none)
 (k [.d .node (eN ((putIn (eN a0) a1 a2).1)), .d .bool true]))
 none) := by kernel_rfl
theorem f50b_spec (a0 : NodeT) (a1 : List BA) (a2 : NodeT) (hg : gPW a0 a1 a2 = true) : ∃ keep rounds, ∀ {R : Type} (k : List Dt → Option R), evFn f50be keep rounds f50bc [.ro, .ro, .fn] [false, false] true [.cell 6 31, .tmp 7] [31, 4] [.d .node a0, .d (.sl .str) a1, .clo 55 [⟨.node, a2⟩]] k = k [.d .node ((putAtW a0 a1 a2).1), .d .bool ((putAtW a0 a1 a2).2)] := by
 refine ⟨f50bk, 0, fun {R} k => ?_⟩
 rw [f50b_run]
 have hs : sm_node a0 = true := by simp only [gPW, gP, Bool.and_eq_true] at hg; exact hg.1.1
 simp only [eta_node, eN_eq, hg, hs, cond_true]
 show _ = k [.d .node (putAtW a0 a1 a2).1, .d .bool (putAtW a0 a1 a2).2]
 unfold putAtW
 cases (putIn a0 a1 a2).2 <;> rfl
noncomputable def q50b : List Dt → Option (Bool × List Dt)
 | [.d .node a0, .d (.sl .str) a1, .clo 55 [⟨.node, a2⟩]] => some ((gPW a0 a1 a2), [.d .node ((putAtW a0 a1 a2).1), .d .bool ((putAtW a0 a1 a2).2)])
 | _ => none
noncomputable def s50b : Gm.Spec := Gm.Spec.of [.ro, .ro, .fn] [false, false] true q50b
theorem good50b : Gm.Good Try.prog (50, s50b) := by
 have hl : ∀ x ∈ [(46, s46), (55, s55), (69, s69)], Gm.Good Try.prog x := fcJ.2 ⟨good46, fcJ.2 ⟨good55, fcJ.2 ⟨good69, fcN⟩⟩⟩
 refine ⟨⟨spec_ok (tab_ok.env hl) (tab.natl hl) Try.func50 (by kernel_rfl : Try.f50.body = some f50bc) [31, 4] (by kernel_rfl) ?_, _, Try.func50, by kernel_rfl, of_decide_eq_true (by kernel_rfl)⟩, Gm.Spec.of_natl _ _ _ _⟩
 intro ds outs h
 unfold q50b at h
 split at h
 ·simp only [Option.some.injEq, Prod.mk.injEq] at h; obtain ⟨hg, h⟩ := h; cases h; exact f50b_spec _ _ _ hg
 ·cases h
noncomputable def q50 : List Dt → Option (Bool × List Dt) := fun ds => (match q50a ds with | some r => some r | none => (match q50b ds with | some r => some r | none => none))
noncomputable def s50 : Gm.Spec := Gm.Spec.of [.ro, .ro, .fn] [false, false] true q50
theorem good50 : Gm.Good Try.prog (50, s50) := by
 refine ⟨⟨spec_part (q := q50) ?_, good50a.1.2⟩, Gm.Spec.of_natl _ _ _ _⟩
 intro ds outs h
 unfold q50 at h
 cases ha : q50a ds with
 | some r =>
  simp only [ha] at h
  exact ⟨q50a, good50a.1.1, by rw [ha]; exact h⟩
 | none =>
 simp only [ha] at h
 cases hb : q50b ds with
 | some r =>
  simp only [hb] at h
  exact ⟨q50b, good50b.1.1, by rw [hb]; exact h⟩
 | none =>
 simp only [hb] at h
 cases h
end Go.Proofs.Ytinbejnakemfjaa

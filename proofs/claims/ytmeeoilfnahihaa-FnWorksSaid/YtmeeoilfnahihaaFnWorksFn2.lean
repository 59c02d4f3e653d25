/- What the functions compute, part 2. No conditions. -/
import Derived.Test.YtmeeoilfnahihaaFnWorksFn1
import Derived.Lib.Strings
import Derived.Lib.Slices
import Derived.Lib.SliceRun
import Derived.Lib.Walk
import Derived.WalkKit
import Derived.Deep.RegionLaw
/- x -/
namespace Go.Proofs.Ytmeeoilfnahihaa
open Go Go.Gm
open Go.RowKit in
set_option maxHeartbeats 4000000 in
set_option maxRecDepth 1000000 in
theorem delE48 : DelE Try.prog 48 2 := by
  refine ⟨fun a n cap i w hi hn => ?_, fun b o n cap i j cs el w hij hj hn hb hs h1 => ?_⟩
  · have hic : i ≤ cap := by omega
    go_enter Try.func48, Try.ntmps48
    go_wp2
    all_goals (go_ret; exact ⟨rfl, rfl⟩)
  · obtain ⟨eT, ii, news, W1, W2, hu, hi, hsz, hlen, hone, hsrc, hfit, hW1, hclr, hend⟩ := del_pack (E := tab.env []) (tab_ok.env (fun _ h => by simp at h)) (T := 28) (e := .fail) rfl (sz := 2) rfl hij hj hn hb hs h1
    obtain ⟨A, hA, hsrc2⟩ : ∃ A : Addr, (if cap = j then (some ⟨b, o, none⟩ : Option Addr) else some ⟨b, o + j * 2, none⟩) = some A ∧ Hid (∀ t u, news[t]? = some u → w.drew.cell? (A.add t) = some u) := by
      by_cases h : cap = j
      · exact ⟨⟨b, o, none⟩, by simp [h], hsrc _ (.inr (by omega))⟩
      · exact ⟨⟨b, o + j * 2, none⟩, by simp [h], hsrc _ (.inl (by simp))⟩
    have hcl : ∀ ty, (Builtin.clear_ #[28] ty #[.slice (some ⟨b, o + (i + (n - j)) * 2, none⟩) (n - (i + (n - j))) (cap - (i + (n - j)))]).run Try.prog W1 = .ok (.tuple #[]) W2 := fun ty => hclr ty
    have s5 : Hid (Try.prog.underlying 28 = some (.slice eT)) := hu
    have s6 : Hid (Try.prog.info? eT = some ii) := hi
    have s1 : Hid (news.length = (n - j) * 2) := hlen
    have s2 : Hid (∀ u ∈ news, u.oneCell' = true) := hone
    have s3 : Hid (o + i * 2 + news.length ≤ cs.size) := hfit
    have s4 : Hid (w.heap[b]? = some (.cells cs el (0, 0))) := hb
    have hW : Hid (W1 = w.drew.setRow b (putAt cs (o + i * 2) news.toArray)) := hW1
    have hE : Hid (DelEnd w W2 b o n i j 2 cs el) := hend
    have mixed : Try.prog.follows .mixedOrders = true := tab_ok.ord
    have hic : i ≤ cap := by omega
    have hjc : j ≤ cap := by omega
    have hne : i ≠ j := by omega
    clear hu hi hlen hone hsrc hfit hW1 hclr hend hb h1 hs
    go_enter Try.func48, Try.ntmps48
    go_wp2_with fail
    go_region_law_o (refine step_append_at rfl (.tmp 22) (.tmp 25) 28 rfl eT ii 2 s5 s6 hsz b o i cap (by simp [Act.eval, Act.put]) A (n - j) (cap - j) news (by simp [Act.eval, Act.put]) s1 hsrc2 s2 (by omega) cs el s4 s3 ?_; rw [← show W1 = _ from hW])
    go_wp2
    go_ret
    exact ⟨by rw [show n - (j - i) = i + (n - j) by omega]; rfl, hE⟩
noncomputable def q48 : List Dt → Option (Bool × List Dt)
  | [.d (.sl .fail) a0, .d (.i .i64) a1, .d (.i .i64) a2] => some (gDel a0 a1 a2, [.d (.sl .fail) (delL a0 a1 a2)])
  | _ => none
noncomputable def s48 : Gm.Spec := Gm.Spec.of [.mov, .ro, .ro] [false] true q48
theorem good48 : Gm.Good Try.prog (48, s48) := by
  refine ⟨⟨spec_del (t := .fail) (sz := 2) rfl delE48 fun ds outs h => ?_, _, Try.func48, by kernel_rfl, of_decide_eq_true (by kernel_rfl)⟩, Gm.Spec.of_natl _ _ _ _⟩
  unfold q48 at h
  split at h
  · rename_i a0 a1 a2
    simp only [Option.some.injEq, Prod.mk.injEq] at h
    obtain ⟨hg, rfl⟩ := h
    simp only [gDel, Bool.and_eq_true, decide_eq_true_eq] at hg
    exact ⟨a0, a1.toNat, a2.toNat, by rw [Int.toNat_of_nonneg (by omega), Int.toNat_of_nonneg (by omega)], by omega, by omega, rfl⟩
  · cases h
/-! ### slices.DeleteFunc[[]string,string] -/
noncomputable def f81c : Code := (Try.f81.body).getD .skip
def f81k : Nat → Kp := kat [⟨[0, 1], [], [], []⟩, ⟨[0, 1, 5], [], [], []⟩, ⟨[0, 1, 5, 12], [], [], []⟩, ⟨[4], [], [], []⟩, ⟨[0, 1, 5, 6], [], [], []⟩, ⟨[0, 1, 5, 6, 19], [], [], []⟩, ⟨[0, 1, 5, 6], [], [], []⟩, ⟨[0, 1, 5, 6, 7], [], [], []⟩, ⟨[0, 1, 5, 6, 7, 29], [], [], []⟩, ⟨[0, 1, 5, 6], [], [], []⟩, ⟨[0, 1, 5, 6], [], [], []⟩, ⟨[0, 5], [], [], []⟩, ⟨[4], [], [], []⟩]
noncomputable def f81e : Env := tab.env [(82, s82), (83, s83)]
noncomputable def f81L0 {R : Type} (n : Nat) (x0 : Int → Int → Bool → (List ByteArray) → Option R) (vs1c0 : ByteArray) : Nat → Int → Int → (List ByteArray) → Option R
  | 0, _, _, _ => none
  | m + 1, vs5, vs6, vr0 =>
    (cond (decide (vs6 < (vr0.length : Int)))
      (cond ((decide ((0 : Int) ≤ vs6)) && (decide (vs6 < (vr0.length : Int))))
        (cond (!(strIs (atI (t := .str) vr0 (Int.toNat vs6)) vs1c0))
          (cond ((decide ((0 : Int) ≤ vs5)) && (decide (vs5 < (vr0.length : Int))))
            (f81L0 n x0 vs1c0 m (IntKind.wrap .i64 (vs5 + (1 : Int))) (IntKind.wrap .i64 (vs6 + (1 : Int))) (vr0.set (Int.toNat vs5) (atI (t := .str) vr0 (Int.toNat vs6))))
            none)
          (f81L0 n x0 vs1c0 m vs5 (IntKind.wrap .i64 (vs6 + (1 : Int))) vr0))
        none)
      (x0 vs5 vs6 (decide (vs6 < (vr0.length : Int))) vr0))
theorem f81L0_b {R : Type} (n : Nat) (k' : Ex → St → Option R) (vs1c0 : ByteArray) (vs5 : Int) (vs6 : Int) (vr0 : List ByteArray) : ev f81e f81k n (cAt [1,1,1,0,1,0,0] f81c) ⟨[(0, .c (.one (.h 0 0 0 []))), (1, .c (.one (.cloR 82 [⟨.str, vs1c0⟩]))), (5, .c (.one (.v (.int .i64 vs5)))), (6, .c (.one (.v (.int .i64 vs6))))], [], [(0, .live ⟨.str, .deep, 0, [], vr0⟩)]⟩ k' =
    (cond (decide (vs6 < (vr0.length : Int)))
    (cond ((decide ((0 : Int) ≤ vs6)) && (decide (vs6 < (vr0.length : Int))))
      (cond (!(strIs (atI (t := .str) vr0 (Int.toNat vs6)) vs1c0))
        (cond ((decide ((0 : Int) ≤ vs5)) && (decide (vs5 < (vr0.length : Int))))
          (k' .normal ⟨[(0, .c (.one (.h 0 0 0 []))), (1, .c (.one (.cloR 82 [⟨.str, vs1c0⟩]))), (5, .c (.one (.v (.int .i64 (IntKind.wrap .i64 (vs5 + (1 : Int))))))), (6, .c (.one (.v (.int .i64 (IntKind.wrap .i64 (vs6 + (1 : Int)))))))], [], [(0, .live ⟨.str, .deep, 0, [], (vr0.set (Int.toNat vs5) (atI (t := .str) vr0 (Int.toNat vs6)))⟩)]⟩)
          none)
        (k' .normal ⟨[(0, .c (.one (.h 0 0 0 []))), (1, .c (.one (.cloR 82 [⟨.str, vs1c0⟩]))), (5, .c (.one (.v (.int .i64 vs5)))), (6, .c (.one (.v (.int .i64 (IntKind.wrap .i64 (vs6 + (1 : Int)))))))], [], [(0, .live ⟨.str, .deep, 0, [], vr0⟩)]⟩))
      none)
    (k' (.exit 0) ⟨[(0, .c (.one (.h 0 0 0 []))), (1, .c (.one (.cloR 82 [⟨.str, vs1c0⟩]))), (5, .c (.one (.v (.int .i64 vs5)))), (6, .c (.one (.v (.int .i64 vs6)))), (19, .c (.one (.v (.bool (decide (vs6 < (vr0.length : Int)))))))], [], [(0, .live ⟨.str, .deep, 0, [], vr0⟩)]⟩)) := by kernel_rfl
theorem f81L0_eq {R : Type} (n : Nat) (k' : Ex → St → Option R) (vs1c0 : ByteArray) : ∀ (m : Nat) (vs5 : Int) (vs6 : Int) (vr0 : List ByteArray), iter (fun st k => ev f81e f81k n (cAt [1,1,1,0,1,0,0] f81c) st k) m ⟨[(0, .c (.one (.h 0 0 0 []))), (1, .c (.one (.cloR 82 [⟨.str, vs1c0⟩]))), (5, .c (.one (.v (.int .i64 vs5)))), (6, .c (.one (.v (.int .i64 vs6))))], [], [(0, .live ⟨.str, .deep, 0, [], vr0⟩)]⟩ k' = f81L0 n (fun (xvs5 : Int) (xvs6 : Int) (xvs19 : Bool) (xvr0 : List ByteArray) => k' (.exit 0) ⟨[(0, .c (.one (.h 0 0 0 []))), (1, .c (.one (.cloR 82 [⟨.str, vs1c0⟩]))), (5, .c (.one (.v (.int .i64 xvs5)))), (6, .c (.one (.v (.int .i64 xvs6)))), (19, .c (.one (.v (.bool xvs19))))], [], [(0, .live ⟨.str, .deep, 0, [], xvr0⟩)]⟩) vs1c0 m vs5 vs6 vr0 := by
  intro m; induction m with
  | zero => intros; rfl
  | succ m ih =>
    intro vs5 vs6 vr0
    simp only [iter]
    rw [f81L0_b]
    simp only [ih, f81L0]

noncomputable def f81K0 {R : Type} (n : Nat) (k' : Ex → St → Option R) : Ex → St → Option R := (blockK 0 (seqK f81e f81k n (cAt [1,1,1,1] f81c) k'))
theorem f81K0_x0 {R : Type} (n : Nat) (k : List Dt → Option R) (a0 : List ByteArray) (a1 : ByteArray) (vs1c0 : ByteArray) (xvs5 : Int) (xvs6 : Int) (xvs19 : Bool) (xvr0 : List ByteArray) : f81K0 n (exitK f81e [.mov, .fn] [false] true [.tmp 4] [22] [.d (.sl .str) a0, .clo 82 [⟨.str, a1⟩]] k) (.exit 0) ⟨[(0, .c (.one (.h 0 0 0 []))), (1, .c (.one (.cloR 82 [⟨.str, vs1c0⟩]))), (5, .c (.one (.v (.int .i64 xvs5)))), (6, .c (.one (.v (.int .i64 xvs6)))), (19, .c (.one (.v (.bool xvs19))))], [], [(0, .live ⟨.str, .deep, 0, [], xvr0⟩)]⟩ =
    (cond ((decide ((0 : Int) ≤ xvs5)) && ((decide (xvs5 ≤ (xvr0.length : Int))) && (decide ((xvr0.length : Int) ≤ (xvr0.length : Int)))))
    (cond ((decide ((0 : Int) ≤ xvs5)) && (decide (xvs5 ≤ ((clrL ByteArray.empty xvr0 (Int.toNat xvs5) (Int.toNat (xvr0.length : Int))).length : Int))))
      (k [.d (.sl .str) (((clrL ByteArray.empty xvr0 (Int.toNat xvs5) (Int.toNat (xvr0.length : Int))).take (Int.toNat xvs5)).drop 0)])
      none)
    none) := by kernel_rfl

theorem f81_run {R : Type} (n : Nat) (k : List Dt → Option R) (a0 : List ByteArray) (a1 : ByteArray) : evFn f81e f81k n f81c [.mov, .fn] [false] true [.tmp 4] [22] [.d (.sl .str) a0, .clo 82 [⟨.str, a1⟩]] k =
    (cond ((fun (x : List ByteArray) (_ : ByteArray) => gLenW x) a0 a1)
    (cond ((strAt a0 a1) == (-1 : Int))
      (k [.d (.sl .str) a0])
      (f81L0 n (fun (xvs5 : Int) (xvs6 : Int) (xvs19 : Bool) (xvr0 : List ByteArray) =>
        (cond ((decide ((0 : Int) ≤ xvs5)) && ((decide (xvs5 ≤ (xvr0.length : Int))) && (decide ((xvr0.length : Int) ≤ (xvr0.length : Int)))))
          (cond ((decide ((0 : Int) ≤ xvs5)) && (decide (xvs5 ≤ ((clrL ByteArray.empty xvr0 (Int.toNat xvs5) (Int.toNat (xvr0.length : Int))).length : Int))))
            (k [.d (.sl .str) (((clrL ByteArray.empty xvr0 (Int.toNat xvs5) (Int.toNat (xvr0.length : Int))).take (Int.toNat xvs5)).drop 0)])
            none)
          none)) a1 n (strAt a0 a1) (IntKind.wrap .i64 ((strAt a0 a1) + (1 : Int))) a0))
    none) := by
  refine Eq.trans (b := (cond ((fun (x : List ByteArray) (_ : ByteArray) => gLenW x) a0 a1)
    (cond ((strAt a0 a1) == (-1 : Int))
      (k [.d (.sl .str) a0])
      (iter (fun st k => ev f81e f81k n (cAt [1,1,1,0,1,0,0] f81c) st k) n ⟨[(0, .c (.one (.h 0 0 0 []))), (1, .c (.one (.cloR 82 [⟨.str, a1⟩]))), (5, .c (.one (.v (.int .i64 (strAt a0 a1))))), (6, .c (.one (.v (.int .i64 (IntKind.wrap .i64 ((strAt a0 a1) + (1 : Int)))))))], [], [(0, .live ⟨.str, .deep, 0, [], a0⟩)]⟩ (f81K0 n (exitK f81e [.mov, .fn] [false] true [.tmp 4] [22] [.d (.sl .str) a0, .clo 82 [⟨.str, a1⟩]] k))))
    none)) (by kernel_rfl) ?_
  simp only [f81L0_eq, f81K0_x0]
theorem f81_spec (a0 : List ByteArray) (a1 : ByteArray) (hg : gLenW a0 = true) : ∃ keep rounds, ∀ {R : Type} (k : List Dt → Option R), evFn f81e keep rounds f81c [.mov, .fn] [false] true [.tmp 4] [22] [.d (.sl .str) a0, .clo 82 [⟨.str, a1⟩]] k = k [.d (.sl .str) (butName a0 a1)] := by
  have hl : a0.length ≤ 9223372036854775807 := gLenW_le hg
  refine ⟨f81k, a0.length + 1, fun {R} k => ?_⟩
  rw [f81_run]
  simp only [hg, cond_true]
  show _ = k [.d (.sl .str) (butName a0 a1)]
  unfold strAt findI
  cases hq : firstN (fun j => strIs (atI (t := .str) a0 j) a1) 0 a0.length with
  | none =>
    have e : butName a0 a1 = a0 := delf_none (t := .str) (p := fun x => strIs x a1) (firstN_none hq)
    rw [e]; rfl
  | some i =>
    obtain ⟨_, hi, hp, hall⟩ := firstN_some hq
    have hi : i < a0.length := by omega
    have hne : ((i : Int) == (-1 : Int)) = false := by rw [beq_eq_false_iff_ne]; omega
    show cond ((i : Int) == (-1 : Int)) _ (f81L0 (a0.length + 1) _ a1 (a0.length + 1) (i : Int) (IntKind.wrap .i64 ((i : Int) + (1 : Int))) a0) = _
    obtain ⟨_, _, hwi, _⟩ := idx hi hl
    rw [hne, cond_false, hwi]
    refine loop_delf (t := .str) (xs := a0) (p := fun x => strIs x a1) (F := fun m i j vr => f81L0 (a0.length + 1) _ a1 m i j vr) (fun m i j vr hij hj hvl => ?_) (fun m i vr hvl hi hv => ?_) (a0.length - (i + 1)) i (i + 1) (a0.length + 1) a0 (by omega) (by omega) (by omega) rfl (delf_start (t := .str) (p := fun x => strIs x a1) hi hp hall) rfl
    · obtain ⟨h1, h0, hw, ht⟩ := idx hj hl
      obtain ⟨h1', h0', hw', ht'⟩ := idx (show i < a0.length by omega) hl
      simp only [f81L0, hvl, h1, h0, hw, ht, h1', h0', hw', ht', Bool.and_self, cond_true]
    · have hle : decide ((i : Int) ≤ (a0.length : Int)) = true := decide_eq_true (by omega)
      have hle' : decide ((a0.length : Int) ≤ (a0.length : Int)) = true := decide_eq_true (by omega)
      obtain ⟨_, h0', _, ht'⟩ := idx (show i < a0.length by omega) hl
      have hc : (clrL ByteArray.empty vr i a0.length).length = a0.length := (clrL_len _ (by omega) (by omega)).trans hvl
      have hc2 : (clrL ByteArray.empty vr i a0.length).take i = butName a0 a1 := by rw [clrL_take _ (by omega)]; exact hv
      simp only [f81L0, hvl, idxE, cond_false, h0', hle, hle', ht', Int.toNat_natCast, hc, hc2, Bool.and_self, cond_true, List.drop_zero]

noncomputable def q81 : List Dt → Option (Bool × List Dt)
  | [.d (.sl .str) a0, .clo 82 [⟨.str, a1⟩]] => some (((fun (x : List ByteArray) (_ : ByteArray) => gLenW x) a0 a1), [.d (.sl .str) (butName a0 a1)])
  | _ => none
noncomputable def s81 : Gm.Spec := Gm.Spec.of [.mov, .fn] [false] true q81
theorem good81 : Gm.Good Try.prog (81, s81) := by
  have hl : ∀ x ∈ [(82, s82), (83, s83)], Gm.Good Try.prog x := List.forall_mem_cons.2 ⟨good82, List.forall_mem_cons.2 ⟨good83, List.forall_mem_nil _⟩⟩
  refine ⟨⟨spec_ok (tab_ok.env hl) (tab.natl hl) Try.func81 (by kernel_rfl : Try.f81.body = some f81c) [22] (by kernel_rfl) ?_, _, Try.func81, by kernel_rfl, of_decide_eq_true (by kernel_rfl)⟩, Gm.Spec.of_natl _ _ _ _⟩
  intro ds outs h
  unfold q81 at h
  split at h
  · simp only [Option.some.injEq, Prod.mk.injEq] at h; obtain ⟨hg, h⟩ := h; cases h; exact f81_spec _ _ hg
  · cases h
/-! ### loop.example/g00465/impl.without -/
noncomputable def f47c : Code := (Try.f47.body).getD .skip
def f47k : Nat → Kp := kat [⟨[0, 3], [], [], []⟩, ⟨[4], [], [], []⟩]
noncomputable def f47e : Env := tab.env [(78, s78), (81, s81), (82, s82)]
theorem f47_run {R : Type} (n : Nat) (k : List Dt → Option R) (a0 : List ByteArray) (a1 : ByteArray) : evFn f47e f47k n f47c [.ro, .ro] [false] true [.tmp 4] [22] [.d (.sl .str) a0, .d .str a1] k =
    (cond ((fun (x : List ByteArray) => Nat.ble x.length LIM) a0)
    (cond ((fun (x : List ByteArray) (_ : ByteArray) => gLenW x) a0 a1)
      (k [.d (.sl .str) (butName a0 a1)])
      none)
    none) := by kernel_rfl
theorem f47_spec (a0 : List ByteArray) (a1 : ByteArray) (hg : smL smStr a0 = true) : ∃ keep rounds, ∀ {R : Type} (k : List Dt → Option R), evFn f47e keep rounds f47c [.ro, .ro] [false] true [.tmp 4] [22] [.d (.sl .str) a0, .d .str a1] k = k [.d (.sl .str) (butName a0 a1)] := by
  refine ⟨f47k, 0, fun k => ?_⟩
  rw [f47_run]
  simp only [limLe (smL_len hg), gLenW_sm hg, cond_true]

noncomputable def q47 : List Dt → Option (Bool × List Dt)
  | [.d (.sl .str) a0, .d .str a1] => some (((fun (x : List ByteArray) (_ : ByteArray) => smL smStr x) a0 a1), [.d (.sl .str) (butName a0 a1)])
  | _ => none
noncomputable def s47 : Gm.Spec := Gm.Spec.of [.ro, .ro] [false] true q47
theorem good47 : Gm.Good Try.prog (47, s47) := by
  have hl : ∀ x ∈ [(78, s78), (81, s81), (82, s82)], Gm.Good Try.prog x := List.forall_mem_cons.2 ⟨good78, List.forall_mem_cons.2 ⟨good81, List.forall_mem_cons.2 ⟨good82, List.forall_mem_nil _⟩⟩⟩
  refine ⟨⟨spec_ok (tab_ok.env hl) (tab.natl hl) Try.func47 (by kernel_rfl : Try.f47.body = some f47c) [22] (by kernel_rfl) ?_, _, Try.func47, by kernel_rfl, of_decide_eq_true (by kernel_rfl)⟩, Gm.Spec.of_natl _ _ _ _⟩
  intro ds outs h
  unfold q47 at h
  split at h
  · simp only [Option.some.injEq, Prod.mk.injEq] at h; obtain ⟨hg, h⟩ := h; cases h; exact f47_spec _ _ hg
  · cases h
/-! ### loop.example/g00465/spec.l27But -/
noncomputable def f70c : Code := (Try.f70.body).getD .skip
def f70k : Nat → Kp := kat [⟨[0, 1], [], [], []⟩, ⟨[0, 1, 5], [], [], []⟩, ⟨[0, 1, 5, 6], [], [], []⟩, ⟨[0, 1, 5, 6, 11], [], [], []⟩, ⟨[0, 1, 5, 6], [], [], []⟩, ⟨[0, 1, 5, 6, 19], [], [], []⟩, ⟨[0, 1, 5, 6], [], [], []⟩, ⟨[4], [], [], []⟩]
noncomputable def f70e : Env := tab.env []
noncomputable def f70L0 {R : Type} (n : Nat) (x0 : Int → Bool → (List ByteArray) → Option R) (vs0 : List ByteArray) (vs1 : ByteArray) : Nat → Int → (List ByteArray) → Option R
  | 0, _, _ => none
  | m + 1, vs6, vr448 =>
    (cond (decide (vs6 < (vs0.length : Int)))
      (cond ((decide ((0 : Int) ≤ vs6)) && (decide (vs6 < (vs0.length : Int))))
        (cond (!(sEq (atI (t := .str) vs0 (Int.toNat vs6)) vs1))
          (cond ((decide ((0 : Int) ≤ vs6)) && (decide (vs6 < (vs0.length : Int))))
            (cond (Nat.ble (vr448.length + 1) LIM)
              (f70L0 n x0 vs0 vs1 m (IntKind.wrap .i64 (vs6 + (1 : Int))) (vr448 ++ ([(atI (t := .str) vs0 (Int.toNat vs6))] : List ByteArray)))
              none)
            none)
          (f70L0 n x0 vs0 vs1 m (IntKind.wrap .i64 (vs6 + (1 : Int))) vr448))
        none)
      (x0 vs6 (decide (vs6 < (vs0.length : Int))) vr448))
theorem f70L0_b {R : Type} (n : Nat) (k' : Ex → St → Option R) (vs0 : List ByteArray) (vs1 : ByteArray) (vs6 : Int) (vr448 : List ByteArray) : ev f70e f70k n (cAt [1,1,0,1,0,0] f70c) ⟨[(0, .c (.one (.ro .str vs0))), (1, .c (.one (.v (.string vs1)))), (5, .c (.one (.h 448 0 0 []))), (6, .c (.one (.v (.int .i64 vs6))))], [], [(448, .live ⟨.str, .deep, 0, [], vr448⟩)]⟩ k' =
    (cond (decide (vs6 < (vs0.length : Int)))
    (cond ((decide ((0 : Int) ≤ vs6)) && (decide (vs6 < (vs0.length : Int))))
      (cond (!(sEq (atI (t := .str) vs0 (Int.toNat vs6)) vs1))
        (cond ((decide ((0 : Int) ≤ vs6)) && (decide (vs6 < (vs0.length : Int))))
          (cond (Nat.ble (vr448.length + 1) LIM)
            (k' .normal ⟨[(0, .c (.one (.ro .str vs0))), (1, .c (.one (.v (.string vs1)))), (5, .c (.one (.h 448 0 0 []))), (6, .c (.one (.v (.int .i64 (IntKind.wrap .i64 (vs6 + (1 : Int)))))))], [], [(448, .live ⟨.str, .deep, 0, [], (vr448 ++ ([(atI (t := .str) vs0 (Int.toNat vs6))] : List ByteArray))⟩)]⟩)
            none)
          none)
        (k' .normal ⟨[(0, .c (.one (.ro .str vs0))), (1, .c (.one (.v (.string vs1)))), (5, .c (.one (.h 448 0 0 []))), (6, .c (.one (.v (.int .i64 (IntKind.wrap .i64 (vs6 + (1 : Int)))))))], [], [(448, .live ⟨.str, .deep, 0, [], vr448⟩)]⟩))
      none)
    (k' (.exit 0) ⟨[(0, .c (.one (.ro .str vs0))), (1, .c (.one (.v (.string vs1)))), (5, .c (.one (.h 448 0 0 []))), (6, .c (.one (.v (.int .i64 vs6)))), (11, .c (.one (.v (.bool (decide (vs6 < (vs0.length : Int)))))))], [], [(448, .live ⟨.str, .deep, 0, [], vr448⟩)]⟩)) := by kernel_rfl
theorem f70L0_eq {R : Type} (n : Nat) (k' : Ex → St → Option R) (vs0 : List ByteArray) (vs1 : ByteArray) : ∀ (m : Nat) (vs6 : Int) (vr448 : List ByteArray), iter (fun st k => ev f70e f70k n (cAt [1,1,0,1,0,0] f70c) st k) m ⟨[(0, .c (.one (.ro .str vs0))), (1, .c (.one (.v (.string vs1)))), (5, .c (.one (.h 448 0 0 []))), (6, .c (.one (.v (.int .i64 vs6))))], [], [(448, .live ⟨.str, .deep, 0, [], vr448⟩)]⟩ k' = f70L0 n (fun (xvs6 : Int) (xvs11 : Bool) (xvr448 : List ByteArray) => k' (.exit 0) ⟨[(0, .c (.one (.ro .str vs0))), (1, .c (.one (.v (.string vs1)))), (5, .c (.one (.h 448 0 0 []))), (6, .c (.one (.v (.int .i64 xvs6)))), (11, .c (.one (.v (.bool xvs11))))], [], [(448, .live ⟨.str, .deep, 0, [], xvr448⟩)]⟩) vs0 vs1 m vs6 vr448 := by
  intro m; induction m with
  | zero => intros; rfl
  | succ m ih =>
    intro vs6 vr448
    simp only [iter]
    rw [f70L0_b]
    simp only [ih, f70L0]

noncomputable def f70K0 {R : Type} (n : Nat) (k' : Ex → St → Option R) : Ex → St → Option R := (blockK 0 (seqK f70e f70k n (cAt [1,1,1] f70c) k'))
theorem f70K0_x0 {R : Type} (n : Nat) (k : List Dt → Option R) (a0 : List ByteArray) (a1 : ByteArray) (vs0 : List ByteArray) (vs1 : ByteArray) (xvs6 : Int) (xvs11 : Bool) (xvr448 : List ByteArray) : f70K0 n (exitK f70e [.ro, .ro] [false] true [.tmp 4] [22] [.d (.sl .str) a0, .d .str a1] k) (.exit 0) ⟨[(0, .c (.one (.ro .str vs0))), (1, .c (.one (.v (.string vs1)))), (5, .c (.one (.h 448 0 0 []))), (6, .c (.one (.v (.int .i64 xvs6)))), (11, .c (.one (.v (.bool xvs11))))], [], [(448, .live ⟨.str, .deep, 0, [], xvr448⟩)]⟩ =
    (k [.d (.sl .str) xvr448]) := by kernel_rfl

theorem f70_run {R : Type} (n : Nat) (k : List Dt → Option R) (a0 : List ByteArray) (a1 : ByteArray) : evFn f70e f70k n f70c [.ro, .ro] [false] true [.tmp 4] [22] [.d (.sl .str) a0, .d .str a1] k =
    (f70L0 n (fun (xvs6 : Int) (xvs11 : Bool) (xvr448 : List ByteArray) =>
    (k [.d (.sl .str) xvr448])) a0 a1 n (0 : Int) ([] : List ByteArray)) := by
  refine Eq.trans (b := (iter (fun st k => ev f70e f70k n (cAt [1,1,0,1,0,0] f70c) st k) n ⟨[(0, .c (.one (.ro .str a0))), (1, .c (.one (.v (.string a1)))), (5, .c (.one (.h 448 0 0 []))), (6, .c (.one (.v (.int .i64 (0 : Int)))))], [], [(448, .live ⟨.str, .deep, 0, [], ([] : List ByteArray)⟩)]⟩ (f70K0 n (exitK f70e [.ro, .ro] [false] true [.tmp 4] [22] [.d (.sl .str) a0, .d .str a1] k)))) (by kernel_rfl) ?_
  simp only [f70L0_eq, f70K0_x0]
theorem f70_spec (a0 : List ByteArray) (a1 : ByteArray) (hg : smL smStr a0 = true) : ∃ keep rounds, ∀ {R : Type} (k : List Dt → Option R), evFn f70e keep rounds f70c [.ro, .ro] [false] true [.tmp 4] [22] [.d (.sl .str) a0, .d .str a1] k = k [.d (.sl .str) (butName a0 a1)] := by
  have hl := smL_len hg
  refine ⟨f70k, a0.length + 1, fun {R} k => ?_⟩
  rw [f70_run]
  refine Eq.trans (loop_acc (xs := a0) (F := fun m j out => f70L0 (a0.length + 1) _ a0 a1 m (j : Int) out) (f := fun out x => cond (!(strIs x a1)) (out ++ [x]) out) (good := fun out => k [.d (.sl .str) out]) (fun j out => out.length ≤ j)
    (fun j out x hx hi => by cases strIs x a1 <;> simp <;> omega) (fun m j out x hx hi => ?_) (fun m out hi => by simp only [f70L0, idxE, cond_false]) a0.length 0 (a0.length + 1) [] (by omega) (by omega) (by simp)) ?_
  · obtain ⟨h1, h0, hw, ht⟩ := idx (lt_of_get hx) (by omega)
    have hj := lt_of_get hx
    have hlim : Nat.ble (out.length + 1) LIM = true := Nat.ble_eq_true_of_le (by have : (LIM : Nat) = 4294967296 := rfl; omega)
    simp only [f70L0, h1, h0, hw, ht, atI_of (t := .str) hx, Bool.and_self, cond_true, hlim]
    show cond (!(sEq x a1)) _ _ = _
    unfold strIs
    cases sEq x a1 <;> rfl
  · rw [List.drop_zero, foldl_filter, List.nil_append]; rfl

noncomputable def q70 : List Dt → Option (Bool × List Dt)
  | [.d (.sl .str) a0, .d .str a1] => some (((fun (x : List ByteArray) (_ : ByteArray) => smL smStr x) a0 a1), [.d (.sl .str) (butName a0 a1)])
  | _ => none
noncomputable def s70 : Gm.Spec := Gm.Spec.of [.ro, .ro] [false] true q70
theorem good70 : Gm.Good Try.prog (70, s70) := by
  have hl : ∀ x ∈ ([] : List (Nat × Gm.Spec)), Gm.Good Try.prog x := fun _ h => by cases h
  refine ⟨⟨spec_ok (tab_ok.env hl) (tab.natl hl) Try.func70 (by kernel_rfl : Try.f70.body = some f70c) [22] (by kernel_rfl) ?_, _, Try.func70, by kernel_rfl, of_decide_eq_true (by kernel_rfl)⟩, Gm.Spec.of_natl _ _ _ _⟩
  intro ds outs h
  unfold q70 at h
  split at h
  · simp only [Option.some.injEq, Prod.mk.injEq] at h; obtain ⟨hg, h⟩ := h; cases h; exact f70_spec _ _ hg
  · cases h
/-! ### loop.example/g00465/spec.l27Failed -/
noncomputable def f71c : Code := (Try.f71.body).getD .skip
def f71k : Nat → Kp := kat [⟨[0, 1, 2], [], [], []⟩, ⟨[0, 1, 2, 7], [], [], []⟩, ⟨[0, 1, 2, 7, 8], [], [], []⟩, ⟨[0, 1, 2, 7, 8, 9], [], [], []⟩, ⟨[0, 1, 2, 7, 8, 9, 14], [], [], []⟩, ⟨[0, 1, 2, 7, 8, 9], [], [], []⟩, ⟨[0, 1, 2, 7, 8, 9, 23], [], [], []⟩, ⟨[0, 1, 2, 7, 8, 9], [], [], []⟩, ⟨[0, 1, 2, 7, 8, 9], [], [], []⟩, ⟨[0, 1, 2, 7, 8, 9, 37], [], [], []⟩, ⟨[0, 1, 2, 7, 8, 9], [], [], []⟩, ⟨[1, 7, 51], [], [], []⟩, ⟨[7], [], [], []⟩, ⟨[6], [], [], []⟩]
noncomputable def f71e : Env := tab.env [(39, s39)]
noncomputable def f71L0 {R : Type} (n : Nat) (x0 : Int → Int → Bool → (List FailT) → Option R) (vs0 : List FailT) (vs1 : ByteArray) (vs2 : Bool) : Nat → Int → Int → (List FailT) → Option R
  | 0, _, _, _ => none
  | m + 1, vs8, vs9, vr640 =>
    (cond (decide (vs9 < (vs0.length : Int)))
      (cond ((decide ((0 : Int) ≤ vs9)) && (decide (vs9 < (vs0.length : Int))))
        (cond (!(sEq (FailT.name (atI (t := .fail) vs0 (Int.toNat vs9))) vs1))
          (cond ((decide ((0 : Int) ≤ vs9)) && (decide (vs9 < (vs0.length : Int))))
            (cond (Nat.ble (vr640.length + 1) LIM)
              (f71L0 n x0 vs0 vs1 vs2 m vs8 (IntKind.wrap .i64 (vs9 + (1 : Int))) (vr640 ++ ([(atI (t := .fail) vs0 (Int.toNat vs9))] : List FailT)))
              none)
            none)
          (cond ((decide ((0 : Int) ≤ vs9)) && (decide (vs9 < (vs0.length : Int))))
            (cond (!vs2)
              (cond (Nat.ble (vr640.length + 1) LIM)
                (f71L0 n x0 vs0 vs1 vs2 m (FailT.n (atI (t := .fail) vs0 (Int.toNat vs9))) (IntKind.wrap .i64 (vs9 + (1 : Int))) (vr640 ++ ([(⟨vs1, (minI (IntKind.wrap .i64 ((FailT.n (atI (t := .fail) vs0 (Int.toNat vs9))) + (1 : Int))) (20 : Int))⟩ : FailT)] : List FailT)))
                none)
              (f71L0 n x0 vs0 vs1 vs2 m (FailT.n (atI (t := .fail) vs0 (Int.toNat vs9))) (IntKind.wrap .i64 (vs9 + (1 : Int))) vr640))
            none))
        none)
      (x0 vs8 vs9 (decide (vs9 < (vs0.length : Int))) vr640))
theorem f71L0_b {R : Type} (n : Nat) (k' : Ex → St → Option R) (vs0 : List FailT) (vs1 : ByteArray) (vs2 : Bool) (vs8 : Int) (vs9 : Int) (vr640 : List FailT) : ev f71e f71k n (cAt [1,1,1,0,1,0,0] f71c) ⟨[(0, .c (.one (.ro .fail vs0))), (1, .c (.one (.v (.string vs1)))), (2, .c (.one (.v (.bool vs2)))), (7, .c (.one (.h 640 0 0 []))), (8, .c (.one (.v (.int .i64 vs8)))), (9, .c (.one (.v (.int .i64 vs9))))], [], [(640, .live ⟨.fail, .deep, 0, [], vr640⟩)]⟩ k' =
    (cond (decide (vs9 < (vs0.length : Int)))
    (cond ((decide ((0 : Int) ≤ vs9)) && (decide (vs9 < (vs0.length : Int))))
      (cond (!(sEq (FailT.name (atI (t := .fail) vs0 (Int.toNat vs9))) vs1))
        (cond ((decide ((0 : Int) ≤ vs9)) && (decide (vs9 < (vs0.length : Int))))
          (cond (Nat.ble (vr640.length + 1) LIM)
            (k' .normal ⟨[(0, .c (.one (.ro .fail vs0))), (1, .c (.one (.v (.string vs1)))), (2, .c (.one (.v (.bool vs2)))), (7, .c (.one (.h 640 0 0 []))), (8, .c (.one (.v (.int .i64 vs8)))), (9, .c (.one (.v (.int .i64 (IntKind.wrap .i64 (vs9 + (1 : Int)))))))], [], [(640, .live ⟨.fail, .deep, 0, [], (vr640 ++ ([(atI (t := .fail) vs0 (Int.toNat vs9))] : List FailT))⟩)]⟩)
            none)
          none)
        (cond ((decide ((0 : Int) ≤ vs9)) && (decide (vs9 < (vs0.length : Int))))
          (cond (!vs2)
            (cond (Nat.ble (vr640.length + 1) LIM)
              (k' .normal ⟨[(0, .c (.one (.ro .fail vs0))), (1, .c (.one (.v (.string vs1)))), (2, .c (.one (.v (.bool vs2)))), (7, .c (.one (.h 640 0 0 []))), (8, .c (.one (.v (.int .i64 (FailT.n (atI (t := .fail) vs0 (Int.toNat vs9))))))), (9, .c (.one (.v (.int .i64 (IntKind.wrap .i64 (vs9 + (1 : Int)))))))], [], [(640, .live ⟨.fail, .deep, 0, [], (vr640 ++ ([(⟨vs1, (minI (IntKind.wrap .i64 ((FailT.n (atI (t := .fail) vs0 (Int.toNat vs9))) + (1 : Int))) (20 : Int))⟩ : FailT)] : List FailT))⟩)]⟩)
              none)
            (k' .normal ⟨[(0, .c (.one (.ro .fail vs0))), (1, .c (.one (.v (.string vs1)))), (2, .c (.one (.v (.bool vs2)))), (7, .c (.one (.h 640 0 0 []))), (8, .c (.one (.v (.int .i64 (FailT.n (atI (t := .fail) vs0 (Int.toNat vs9))))))), (9, .c (.one (.v (.int .i64 (IntKind.wrap .i64 (vs9 + (1 : Int)))))))], [], [(640, .live ⟨.fail, .deep, 0, [], vr640⟩)]⟩))
          none))
      none)
    (k' (.exit 0) ⟨[(0, .c (.one (.ro .fail vs0))), (1, .c (.one (.v (.string vs1)))), (2, .c (.one (.v (.bool vs2)))), (7, .c (.one (.h 640 0 0 []))), (8, .c (.one (.v (.int .i64 vs8)))), (9, .c (.one (.v (.int .i64 vs9)))), (14, .c (.one (.v (.bool (decide (vs9 < (vs0.length : Int)))))))], [], [(640, .live ⟨.fail, .deep, 0, [], vr640⟩)]⟩)) := by kernel_rfl
theorem f71L0_eq {R : Type} (n : Nat) (k' : Ex → St → Option R) (vs0 : List FailT) (vs1 : ByteArray) (vs2 : Bool) : ∀ (m : Nat) (vs8 : Int) (vs9 : Int) (vr640 : List FailT), iter (fun st k => ev f71e f71k n (cAt [1,1,1,0,1,0,0] f71c) st k) m ⟨[(0, .c (.one (.ro .fail vs0))), (1, .c (.one (.v (.string vs1)))), (2, .c (.one (.v (.bool vs2)))), (7, .c (.one (.h 640 0 0 []))), (8, .c (.one (.v (.int .i64 vs8)))), (9, .c (.one (.v (.int .i64 vs9))))], [], [(640, .live ⟨.fail, .deep, 0, [], vr640⟩)]⟩ k' = f71L0 n (fun (xvs8 : Int) (xvs9 : Int) (xvs14 : Bool) (xvr640 : List FailT) => k' (.exit 0) ⟨[(0, .c (.one (.ro .fail vs0))), (1, .c (.one (.v (.string vs1)))), (2, .c (.one (.v (.bool vs2)))), (7, .c (.one (.h 640 0 0 []))), (8, .c (.one (.v (.int .i64 xvs8)))), (9, .c (.one (.v (.int .i64 xvs9)))), (14, .c (.one (.v (.bool xvs14))))], [], [(640, .live ⟨.fail, .deep, 0, [], xvr640⟩)]⟩) vs0 vs1 vs2 m vs8 vs9 vr640 := by
  intro m; induction m with
  | zero => intros; rfl
  | succ m ih =>
    intro vs8 vs9 vr640
    simp only [iter]
    rw [f71L0_b]
    simp only [ih, f71L0]

noncomputable def f71K0 {R : Type} (n : Nat) (k' : Ex → St → Option R) : Ex → St → Option R := (blockK 0 (seqK f71e f71k n (cAt [1,1,1,1] f71c) k'))
theorem f71K0_x0 {R : Type} (n : Nat) (k : List Dt → Option R) (a0 : List FailT) (a1 : ByteArray) (a2 : Bool) (vs0 : List FailT) (vs1 : ByteArray) (vs2 : Bool) (xvs8 : Int) (xvs9 : Int) (xvs14 : Bool) (xvr640 : List FailT) : f71K0 n (exitK f71e [.ro, .ro, .ro] [false] true [.tmp 6] [28] [.d (.sl .fail) a0, .d .str a1, .d .bool a2] k) (.exit 0) ⟨[(0, .c (.one (.ro .fail vs0))), (1, .c (.one (.v (.string vs1)))), (2, .c (.one (.v (.bool vs2)))), (7, .c (.one (.h 640 0 0 []))), (8, .c (.one (.v (.int .i64 xvs8)))), (9, .c (.one (.v (.int .i64 xvs9)))), (14, .c (.one (.v (.bool xvs14))))], [], [(640, .live ⟨.fail, .deep, 0, [], xvr640⟩)]⟩ =
    (cond (xvs8 == (0 : Int))
    (cond (!vs2)
      (cond (Nat.ble (xvr640.length + 1) LIM)
        (k [.d (.sl .fail) (xvr640 ++ ([(⟨vs1, (1 : Int)⟩ : FailT)] : List FailT))])
        none)
      (k [.d (.sl .fail) xvr640]))
    (k [.d (.sl .fail) xvr640])) := by kernel_rfl

theorem f71_run {R : Type} (n : Nat) (k : List Dt → Option R) (a0 : List FailT) (a1 : ByteArray) (a2 : Bool) : evFn f71e f71k n f71c [.ro, .ro, .ro] [false] true [.tmp 6] [28] [.d (.sl .fail) a0, .d .str a1, .d .bool a2] k =
    (f71L0 n (fun (xvs8 : Int) (xvs9 : Int) (xvs14 : Bool) (xvr640 : List FailT) =>
    (cond (xvs8 == (0 : Int))
      (cond (!a2)
        (cond (Nat.ble (xvr640.length + 1) LIM)
          (k [.d (.sl .fail) (xvr640 ++ ([(⟨a1, (1 : Int)⟩ : FailT)] : List FailT))])
          none)
        (k [.d (.sl .fail) xvr640]))
      (k [.d (.sl .fail) xvr640]))) a0 a1 a2 n (0 : Int) (0 : Int) ([] : List FailT)) := by
  refine Eq.trans (b := (iter (fun st k => ev f71e f71k n (cAt [1,1,1,0,1,0,0] f71c) st k) n ⟨[(0, .c (.one (.ro .fail a0))), (1, .c (.one (.v (.string a1)))), (2, .c (.one (.v (.bool a2)))), (7, .c (.one (.h 640 0 0 []))), (8, .c (.one (.v (.int .i64 (0 : Int))))), (9, .c (.one (.v (.int .i64 (0 : Int)))))], [], [(640, .live ⟨.fail, .deep, 0, [], ([] : List FailT)⟩)]⟩ (f71K0 n (exitK f71e [.ro, .ro, .ro] [false] true [.tmp 6] [28] [.d (.sl .fail) a0, .d .str a1, .d .bool a2] k)))) (by kernel_rfl) ?_
  simp only [f71L0_eq, f71K0_x0]
theorem f71_spec (a0 : List FailT) (a1 : ByteArray) (a2 : Bool) (hg : smL sm_fail a0 = true) : ∃ keep rounds, ∀ {R : Type} (k : List Dt → Option R), evFn f71e keep rounds f71c [.ro, .ro, .ro] [false] true [.tmp 6] [28] [.d (.sl .fail) a0, .d .str a1, .d .bool a2] k = k [.d (.sl .fail) (failedS a0 a1 a2)] := by
  have hl := smL_len hg
  have hlimA : ∀ {l : List FailT}, l.length ≤ a0.length → Nat.ble (l.length + 1) LIM = true := fun h => Nat.ble_eq_true_of_le (by have : (LIM : Nat) = 4294967296 := rfl; omega)
  refine ⟨f71k, a0.length + 1, fun {R} k => ?_⟩
  rw [f71_run]
  refine Eq.trans (loop_acc (xs := a0) (F := fun m j (a : Int × List FailT) => f71L0 (a0.length + 1) _ a0 a1 a2 m a.1 (j : Int) a.2) (f := failedF a1 a2) (good := fun a => k [.d (.sl .fail) (cond (a.1 == (0 : Int)) (cond (!a2) (a.2 ++ [⟨a1, (1 : Int)⟩]) a.2) a.2)]) (fun j a => a.2.length ≤ j)
    (fun j a x hx hi => by unfold failedF; cases sEq x.name a1 <;> cases a2 <;> simp <;> omega) (fun m j a x hx hi => ?_) (fun m a hi => ?_) a0.length 0 (a0.length + 1) ((0 : Int), []) (by omega) (by omega) (by simp)) ?_
  · obtain ⟨h1, h0, hw, ht⟩ := idx (lt_of_get hx) (by omega)
    have hj := lt_of_get hx
    have hlim := hlimA (l := a.2) (by omega)
    simp only [f71L0, h1, h0, hw, ht, atI_of (t := .fail) hx, Bool.and_self, cond_true, hlim]
    unfold failedF
    cases sEq x.name a1 <;> cases a2 <;> rfl
  · have hlim := hlimA (l := a.2) (by omega)
    simp only [f71L0, idxE, cond_false, hlim, cond_true]
    cases a.1 == (0 : Int) <;> cases a2 <;> rfl
  · rw [List.drop_zero]; rfl

noncomputable def q71 : List Dt → Option (Bool × List Dt)
  | [.d (.sl .fail) a0, .d .str a1, .d .bool a2] => some (((fun (x : List FailT) (_ : ByteArray) (_ : Bool) => smL sm_fail x) a0 a1 a2), [.d (.sl .fail) (failedS a0 a1 a2)])
  | _ => none
noncomputable def s71 : Gm.Spec := Gm.Spec.of [.ro, .ro, .ro] [false] true q71
theorem good71 : Gm.Good Try.prog (71, s71) := by
  have hl : ∀ x ∈ [(39, s39)], Gm.Good Try.prog x := List.forall_mem_cons.2 ⟨good39, List.forall_mem_nil _⟩
  refine ⟨⟨spec_ok (tab_ok.env hl) (tab.natl hl) Try.func71 (by kernel_rfl : Try.f71.body = some f71c) [28] (by kernel_rfl) ?_, _, Try.func71, by kernel_rfl, of_decide_eq_true (by kernel_rfl)⟩, Gm.Spec.of_natl _ _ _ _⟩
  intro ds outs h
  unfold q71 at h
  split at h
  · simp only [Option.some.injEq, Prod.mk.injEq] at h; obtain ⟨hg, h⟩ := h; cases h; exact f71_spec _ _ _ hg
  · cases h
end Go.Proofs.Ytmeeoilfnahihaa

/- x -/
namespace Go.Proofs.Ytmeeoilfnahihaa
open Go Go.Gm
/-! ### loop.example/g00465/spec.WorkDone -/
noncomputable def f32c : Code := (Try.f32.body).getD .skip
def f32k : Nat → Kp := kat [⟨[1, 2, 3, 6], [], [], []⟩, ⟨[1, 2, 3, 6, 8], [], [], []⟩, ⟨[1, 2, 3, 6, 8, 20], [], [], []⟩, ⟨[6, 7], [], [], []⟩, ⟨[1, 2, 3, 6, 8], [], [], []⟩, ⟨[1, 2, 3, 6, 8], [], [], []⟩, ⟨[1, 2, 3, 6, 8, 39], [], [], []⟩, ⟨[1, 2, 3, 6, 8], [], [], []⟩, ⟨[3, 6, 8], [], [], []⟩, ⟨[3, 6, 8, 54], [], [], []⟩, ⟨[6, 7], [], [], []⟩, ⟨[6, 7], [], [], []⟩]
noncomputable def f32e : Env := tab.env [(24, s24), (56, s56), (59, s59), (70, s70), (71, s71)]
theorem f32_run {R : Type} (n : Nat) (k : List Dt → Option R) (a0 : WorkT) (a1 : ByteArray) (a2 : Bool) : evFn f32e f32k n f32c [.ro, .ro, .ro] [false, false] true [.cell 6 30, .tmp 7] [30, 4] [.d .work a0, .d .str a1, .d .bool a2] k =
    (cond (sm_work a0)
    (cond (sm_work a0)
      (cond (!(workQOk a0))
        (k [.d .work a0, .d .bool false])
        (cond ((fun (x : List ByteArray) (_ : ByteArray) => gLenW x) (WorkT.busy a0) a1)
          (cond (!(isIn (WorkT.busy a0) a1))
            (k [.d .work a0, .d .bool false])
            (cond ((fun (x : List ByteArray) (_ : ByteArray) => smL smStr x) (WorkT.busy a0) a1)
              (cond ((fun (x : List ByteArray) (_ : ByteArray) => smL smStr x) (WorkT.again a0) a1)
                (cond ((fun (x : List ByteArray) (_ : ByteArray) => gLenW x) (WorkT.again a0) a1)
                  (cond (isIn (WorkT.again a0) a1)
                    (cond (Nat.ble ((WorkT.list a0).length + 1) LIM)
                      (cond ((fun (x : List FailT) (_ : ByteArray) (_ : Bool) => smL sm_fail x) (WorkT.fails a0) a1 a2)
                        (cond (sm_work (⟨((WorkT.list a0) ++ ([a1] : List ByteArray)), (butName (WorkT.busy a0) a1), (butName (WorkT.again a0) a1), (failedS (WorkT.fails a0) a1 a2)⟩ : WorkT))
                          (cond (!(workQOk (⟨((WorkT.list a0) ++ ([a1] : List ByteArray)), (butName (WorkT.busy a0) a1), (butName (WorkT.again a0) a1), (failedS (WorkT.fails a0) a1 a2)⟩ : WorkT)))
                            (cond (sm_work a0)
                              (k [.d .work a0, .d .bool false])
                              none)
                            (k [.d .work (⟨((WorkT.list a0) ++ ([a1] : List ByteArray)), (butName (WorkT.busy a0) a1), (butName (WorkT.again a0) a1), (failedS (WorkT.fails a0) a1 a2)⟩ : WorkT), .d .bool true]))
                          none)
                        none)
                      none)
                    (cond (!a2)
                      (cond (Nat.ble ((WorkT.list a0).length + 1) LIM)
                        (cond ((fun (x : List FailT) (_ : ByteArray) (_ : Bool) => smL sm_fail x) (WorkT.fails a0) a1 a2)
                          (cond (sm_work (⟨((WorkT.list a0) ++ ([a1] : List ByteArray)), (butName (WorkT.busy a0) a1), (butName (WorkT.again a0) a1), (failedS (WorkT.fails a0) a1 a2)⟩ : WorkT))
                            (cond (!(workQOk (⟨((WorkT.list a0) ++ ([a1] : List ByteArray)), (butName (WorkT.busy a0) a1), (butName (WorkT.again a0) a1), (failedS (WorkT.fails a0) a1 a2)⟩ : WorkT)))
                              (cond (sm_work a0)
                                (k [.d .work a0, .d .bool false])
                                none)
                              (k [.d .work (⟨((WorkT.list a0) ++ ([a1] : List ByteArray)), (butName (WorkT.busy a0) a1), (butName (WorkT.again a0) a1), (failedS (WorkT.fails a0) a1 a2)⟩ : WorkT), .d .bool true]))
                            none)
                          none)
                        none)
                      (cond ((fun (x : List FailT) (_ : ByteArray) (_ : Bool) => smL sm_fail x) (WorkT.fails a0) a1 a2)
                        (cond (sm_work (⟨(WorkT.list a0), (butName (WorkT.busy a0) a1), (butName (WorkT.again a0) a1), (failedS (WorkT.fails a0) a1 a2)⟩ : WorkT))
                          (cond (!(workQOk (⟨(WorkT.list a0), (butName (WorkT.busy a0) a1), (butName (WorkT.again a0) a1), (failedS (WorkT.fails a0) a1 a2)⟩ : WorkT)))
                            (cond (sm_work a0)
                              (k [.d .work a0, .d .bool false])
                              none)
                            (k [.d .work (⟨(WorkT.list a0), (butName (WorkT.busy a0) a1), (butName (WorkT.again a0) a1), (failedS (WorkT.fails a0) a1 a2)⟩ : WorkT), .d .bool true]))
                          none)
                        none)))
                  none)
                none)
              none))
          none))
      none)
    none) := by kernel_rfl
theorem f32_spec (a0 : WorkT) (a1 : ByteArray) (a2 : Bool) (hg : gDoneW a0 a1 a2 = true) : ∃ keep rounds, ∀ {R : Type} (k : List Dt → Option R), evFn f32e keep rounds f32c [.ro, .ro, .ro] [false, false] true [.cell 6 30, .tmp 7] [30, 4] [.d .work a0, .d .str a1, .d .bool a2] k = k [.d .work ((workDone a0 a1 a2).1), .d .bool ((workDone a0 a1 a2).2)] := by
  simp only [gDoneW, Bool.and_eq_true] at hg
  obtain ⟨hg0, hs⟩ := hg
  have hg := hg0
  simp only [sm_work, Bool.and_eq_true] at hg
  obtain ⟨hl, hb, ha, hf⟩ := hg
  have nl := smL_len hl
  refine ⟨f32k, 0, fun {R} k => ?_⟩
  rw [f32_run]
  show _ = k [.d .work (workDone a0 a1 a2).1, .d .bool (workDone a0 a1 a2).2]
  cases hq : workQOk a0
  · simp only [hg0, hq, workDone, Bool.not_false, cond_true, cond_false]
  have hlb := gLenW_sm hb
  have hla := gLenW_sm ha
  have hll := gLenW_sm hl
  cases hB : isIn a0.busy a1
  · simp only [hg0, hq, hB, hlb, workDone, Bool.not_false, Bool.not_true, cond_true, cond_false]
  have hql := qOk_len hq
  have h1 : Nat.ble (a0.list.length + 1) LIM = true := limLe1 nl
  have hfe := failed_eq (s := a1) (ok := a2) (qOk_allF hq)
  simp only [hg0, hq, hB, hlb, hla, hl, hb, ha, hf, h1, Bool.not_true, cond_true, cond_false, hfe]
  cases hA : isIn a0.again a1
  · cases a2
    · simp only [Bool.not_false, cond_true, cond_false]
      refine done_fin hq hB hg0 hs ?_
      simp [doneW, hA]
    · simp only [Bool.not_true, cond_true, cond_false]
      refine done_fin hq hB hg0 hs ?_
      simp [doneW, hA]
  · simp only [cond_true]
    refine done_fin hq hB hg0 hs ?_
    simp [doneW, hA]

noncomputable def q32 : List Dt → Option (Bool × List Dt)
  | [.d .work a0, .d .str a1, .d .bool a2] => some ((gDoneW a0 a1 a2), [.d .work ((workDone a0 a1 a2).1), .d .bool ((workDone a0 a1 a2).2)])
  | _ => none
noncomputable def s32 : Gm.Spec := Gm.Spec.of [.ro, .ro, .ro] [false, false] true q32
theorem good32 : Gm.Good Try.prog (32, s32) := by
  have hl : ∀ x ∈ [(24, s24), (56, s56), (59, s59), (70, s70), (71, s71)], Gm.Good Try.prog x := List.forall_mem_cons.2 ⟨good24, List.forall_mem_cons.2 ⟨good56, List.forall_mem_cons.2 ⟨good59, List.forall_mem_cons.2 ⟨good70, List.forall_mem_cons.2 ⟨good71, List.forall_mem_nil _⟩⟩⟩⟩⟩
  refine ⟨⟨spec_ok (tab_ok.env hl) (tab.natl hl) Try.func32 (by kernel_rfl : Try.f32.body = some f32c) [30, 4] (by kernel_rfl) ?_, _, Try.func32, by kernel_rfl, of_decide_eq_true (by kernel_rfl)⟩, Gm.Spec.of_natl _ _ _ _⟩
  intro ds outs h
  unfold q32 at h
  split at h
  · simp only [Option.some.injEq, Prod.mk.injEq] at h; obtain ⟨hg, h⟩ := h; cases h; exact f32_spec _ _ _ hg
  · cases h
/-! ### loop.example/g00465/impl.WorkDone -/
noncomputable def f20c : Code := (Try.f20.body).getD .skip
def f20k : Nat → Kp := kat [⟨[1, 2, 3, 6], [], [], []⟩, ⟨[1, 2, 3, 6, 19], [], [], []⟩, ⟨[6, 7], [], [], []⟩, ⟨[1, 2, 3, 6, 8], [], [], []⟩, ⟨[1, 2, 3, 6, 8], [], [], []⟩, ⟨[1, 2, 3, 6, 8, 32], [], [], []⟩, ⟨[1, 2, 3, 6, 8], [], [], []⟩, ⟨[1, 2, 3, 6, 8], [], [], []⟩, ⟨[1, 2, 3, 6, 8, 9], [], [], []⟩, ⟨[1, 2, 3, 6, 8], [], [], []⟩, ⟨[1, 2, 3, 6, 8, 9, 55], [], [], []⟩, ⟨[1, 2, 3, 6, 8], [], [], []⟩, ⟨[1, 2, 3, 6, 8, 9, 68], [], [], []⟩, ⟨[1, 2, 3, 6, 8, 9, 70], [], [], []⟩, ⟨[1, 2, 3, 6, 8], [], [], []⟩, ⟨[1, 3, 6, 8, 94], [], [], []⟩, ⟨[3, 6, 8], [], [], []⟩, ⟨[3, 6, 8, 103], [], [], []⟩, ⟨[6, 7], [], [], []⟩, ⟨[6, 7], [], [], []⟩]
noncomputable def f20e : Env := tab.env [(23, s23), (42, s42), (45, s45), (46, s46), (47, s47), (48, s48)]
noncomputable def f20v0 (a0 : WorkT) (a1 : ByteArray) : List FailT :=
  ((WorkT.fails a0).set (Int.toNat (failAt (WorkT.fails a0) a1)) (⟨(FailT.name (atI (t := .fail) (WorkT.fails a0) (Int.toNat (failAt (WorkT.fails a0) a1)))), (if (20 : Int) < (IntKind.wrap .i64 ((FailT.n (atI (t := .fail) (WorkT.fails a0) (Int.toNat (failAt (WorkT.fails a0) a1)))) + (1 : Int))) then (20 : Int) else (IntKind.wrap .i64 ((FailT.n (atI (t := .fail) (WorkT.fails a0) (Int.toNat (failAt (WorkT.fails a0) a1)))) + (1 : Int))))⟩ : FailT))
theorem f20_run {R : Type} (n : Nat) (k : List Dt → Option R) (a0 : WorkT) (a1 : ByteArray) (a2 : Bool) : evFn f20e f20k n f20c [.ro, .ro, .ro] [false, false] true [.cell 6 30, .tmp 7] [30, 4] [.d .work a0, .d .str a1, .d .bool a2] k =
    (cond (sm_work a0)
    (cond (!(workQOk a0))
      (cond (sm_work a0)
        (k [.d .work a0, .d .bool false])
        none)
      (cond ((fun (x : List ByteArray) (_ : ByteArray) => gLenW x) (WorkT.busy a0) a1)
        (cond (!(isIn (WorkT.busy a0) a1))
          (cond (sm_work a0)
            (k [.d .work a0, .d .bool false])
            none)
          (cond (sm_work a0)
            (cond ((fun (x : List ByteArray) (_ : ByteArray) => smL smStr x) (WorkT.busy a0) a1)
              (cond ((fun (x : List ByteArray) (_ : ByteArray) => gLenW x) (WorkT.again a0) a1)
                (cond (isIn (WorkT.again a0) a1)
                  (cond ((fun (x : List ByteArray) (_ : ByteArray) => smL smStr x) (WorkT.again a0) a1)
                    (cond (Nat.ble ((WorkT.list a0).length + 1) LIM)
                      (cond ((fun (x : List FailT) (_ : ByteArray) => smL sm_fail x) (WorkT.fails a0) a1)
                        (cond a2
                          (cond (decide ((failAt (WorkT.fails a0) a1) ≥ (0 : Int)))
                            (cond (gDel (WorkT.fails a0) (failAt (WorkT.fails a0) a1) (IntKind.wrap .i64 ((failAt (WorkT.fails a0) a1) + (1 : Int))))
                              (cond (!a2)
                                (cond ((fun (x : List ByteArray) (_ : ByteArray) => gLenW x) ((WorkT.list a0) ++ ([a1] : List ByteArray)) a1)
                                  (cond (!(isIn ((WorkT.list a0) ++ ([a1] : List ByteArray)) a1))
                                    (cond (Nat.ble (((WorkT.list a0) ++ ([a1] : List ByteArray)).length + 1) LIM)
                                      (cond (sm_work (⟨(((WorkT.list a0) ++ ([a1] : List ByteArray)) ++ ([a1] : List ByteArray)), (butName (WorkT.busy a0) a1), (butName (WorkT.again a0) a1), (delL (WorkT.fails a0) (failAt (WorkT.fails a0) a1) (IntKind.wrap .i64 ((failAt (WorkT.fails a0) a1) + (1 : Int))))⟩ : WorkT))
                                        (cond (!(workQOk (⟨(((WorkT.list a0) ++ ([a1] : List ByteArray)) ++ ([a1] : List ByteArray)), (butName (WorkT.busy a0) a1), (butName (WorkT.again a0) a1), (delL (WorkT.fails a0) (failAt (WorkT.fails a0) a1) (IntKind.wrap .i64 ((failAt (WorkT.fails a0) a1) + (1 : Int))))⟩ : WorkT)))
                                          (cond (sm_work a0)
                                            (k [.d .work a0, .d .bool false])
                                            none)
                                          (k [.d .work (⟨(((WorkT.list a0) ++ ([a1] : List ByteArray)) ++ ([a1] : List ByteArray)), (butName (WorkT.busy a0) a1), (butName (WorkT.again a0) a1), (delL (WorkT.fails a0) (failAt (WorkT.fails a0) a1) (IntKind.wrap .i64 ((failAt (WorkT.fails a0) a1) + (1 : Int))))⟩ : WorkT), .d .bool true]))
                                        none)
                                      none)
                                    (cond (sm_work (⟨((WorkT.list a0) ++ ([a1] : List ByteArray)), (butName (WorkT.busy a0) a1), (butName (WorkT.again a0) a1), (delL (WorkT.fails a0) (failAt (WorkT.fails a0) a1) (IntKind.wrap .i64 ((failAt (WorkT.fails a0) a1) + (1 : Int))))⟩ : WorkT))
                                      (cond (!(workQOk (⟨((WorkT.list a0) ++ ([a1] : List ByteArray)), (butName (WorkT.busy a0) a1), (butName (WorkT.again a0) a1), (delL (WorkT.fails a0) (failAt (WorkT.fails a0) a1) (IntKind.wrap .i64 ((failAt (WorkT.fails a0) a1) + (1 : Int))))⟩ : WorkT)))
                                        (cond (sm_work a0)
                                          (k [.d .work a0, .d .bool false])
                                          none)
                                        (k [.d .work (⟨((WorkT.list a0) ++ ([a1] : List ByteArray)), (butName (WorkT.busy a0) a1), (butName (WorkT.again a0) a1), (delL (WorkT.fails a0) (failAt (WorkT.fails a0) a1) (IntKind.wrap .i64 ((failAt (WorkT.fails a0) a1) + (1 : Int))))⟩ : WorkT), .d .bool true]))
                                      none))
                                  none)
                                (cond (sm_work (⟨((WorkT.list a0) ++ ([a1] : List ByteArray)), (butName (WorkT.busy a0) a1), (butName (WorkT.again a0) a1), (delL (WorkT.fails a0) (failAt (WorkT.fails a0) a1) (IntKind.wrap .i64 ((failAt (WorkT.fails a0) a1) + (1 : Int))))⟩ : WorkT))
                                  (cond (!(workQOk (⟨((WorkT.list a0) ++ ([a1] : List ByteArray)), (butName (WorkT.busy a0) a1), (butName (WorkT.again a0) a1), (delL (WorkT.fails a0) (failAt (WorkT.fails a0) a1) (IntKind.wrap .i64 ((failAt (WorkT.fails a0) a1) + (1 : Int))))⟩ : WorkT)))
                                    (cond (sm_work a0)
                                      (k [.d .work a0, .d .bool false])
                                      none)
                                    (k [.d .work (⟨((WorkT.list a0) ++ ([a1] : List ByteArray)), (butName (WorkT.busy a0) a1), (butName (WorkT.again a0) a1), (delL (WorkT.fails a0) (failAt (WorkT.fails a0) a1) (IntKind.wrap .i64 ((failAt (WorkT.fails a0) a1) + (1 : Int))))⟩ : WorkT), .d .bool true]))
                                  none))
                              none)
                            (cond a2
                              (cond (!a2)
                                (cond ((fun (x : List ByteArray) (_ : ByteArray) => gLenW x) ((WorkT.list a0) ++ ([a1] : List ByteArray)) a1)
                                  (cond (!(isIn ((WorkT.list a0) ++ ([a1] : List ByteArray)) a1))
                                    (cond (Nat.ble (((WorkT.list a0) ++ ([a1] : List ByteArray)).length + 1) LIM)
                                      (cond (sm_work (⟨(((WorkT.list a0) ++ ([a1] : List ByteArray)) ++ ([a1] : List ByteArray)), (butName (WorkT.busy a0) a1), (butName (WorkT.again a0) a1), (WorkT.fails a0)⟩ : WorkT))
                                        (cond (!(workQOk (⟨(((WorkT.list a0) ++ ([a1] : List ByteArray)) ++ ([a1] : List ByteArray)), (butName (WorkT.busy a0) a1), (butName (WorkT.again a0) a1), (WorkT.fails a0)⟩ : WorkT)))
                                          (cond (sm_work a0)
                                            (k [.d .work a0, .d .bool false])
                                            none)
                                          (k [.d .work (⟨(((WorkT.list a0) ++ ([a1] : List ByteArray)) ++ ([a1] : List ByteArray)), (butName (WorkT.busy a0) a1), (butName (WorkT.again a0) a1), (WorkT.fails a0)⟩ : WorkT), .d .bool true]))
                                        none)
                                      none)
                                    (cond (sm_work (⟨((WorkT.list a0) ++ ([a1] : List ByteArray)), (butName (WorkT.busy a0) a1), (butName (WorkT.again a0) a1), (WorkT.fails a0)⟩ : WorkT))
                                      (cond (!(workQOk (⟨((WorkT.list a0) ++ ([a1] : List ByteArray)), (butName (WorkT.busy a0) a1), (butName (WorkT.again a0) a1), (WorkT.fails a0)⟩ : WorkT)))
                                        (cond (sm_work a0)
                                          (k [.d .work a0, .d .bool false])
                                          none)
                                        (k [.d .work (⟨((WorkT.list a0) ++ ([a1] : List ByteArray)), (butName (WorkT.busy a0) a1), (butName (WorkT.again a0) a1), (WorkT.fails a0)⟩ : WorkT), .d .bool true]))
                                      none))
                                  none)
                                (cond (sm_work (⟨((WorkT.list a0) ++ ([a1] : List ByteArray)), (butName (WorkT.busy a0) a1), (butName (WorkT.again a0) a1), (WorkT.fails a0)⟩ : WorkT))
                                  (cond (!(workQOk (⟨((WorkT.list a0) ++ ([a1] : List ByteArray)), (butName (WorkT.busy a0) a1), (butName (WorkT.again a0) a1), (WorkT.fails a0)⟩ : WorkT)))
                                    (cond (sm_work a0)
                                      (k [.d .work a0, .d .bool false])
                                      none)
                                    (k [.d .work (⟨((WorkT.list a0) ++ ([a1] : List ByteArray)), (butName (WorkT.busy a0) a1), (butName (WorkT.again a0) a1), (WorkT.fails a0)⟩ : WorkT), .d .bool true]))
                                  none))
                              (cond (decide ((failAt (WorkT.fails a0) a1) ≥ (0 : Int)))
                                (cond ((decide ((0 : Int) ≤ (failAt (WorkT.fails a0) a1))) && (decide ((failAt (WorkT.fails a0) a1) < ((WorkT.fails a0).length : Int))))
                                  (cond ((decide ((0 : Int) ≤ (failAt (WorkT.fails a0) a1))) && (decide ((failAt (WorkT.fails a0) a1) < ((WorkT.fails a0).length : Int))))
                                    (cond (!a2)
                                      (cond ((fun (x : List ByteArray) (_ : ByteArray) => gLenW x) ((WorkT.list a0) ++ ([a1] : List ByteArray)) a1)
                                        (cond (!(isIn ((WorkT.list a0) ++ ([a1] : List ByteArray)) a1))
                                          (cond (Nat.ble (((WorkT.list a0) ++ ([a1] : List ByteArray)).length + 1) LIM)
                                            (cond (sm_work (⟨(((WorkT.list a0) ++ ([a1] : List ByteArray)) ++ ([a1] : List ByteArray)), (butName (WorkT.busy a0) a1), (butName (WorkT.again a0) a1), (f20v0 a0 a1)⟩ : WorkT))
                                              (cond (!(workQOk (⟨(((WorkT.list a0) ++ ([a1] : List ByteArray)) ++ ([a1] : List ByteArray)), (butName (WorkT.busy a0) a1), (butName (WorkT.again a0) a1), (f20v0 a0 a1)⟩ : WorkT)))
                                                (cond (sm_work a0)
                                                  (k [.d .work a0, .d .bool false])
                                                  none)
                                                (k [.d .work (⟨(((WorkT.list a0) ++ ([a1] : List ByteArray)) ++ ([a1] : List ByteArray)), (butName (WorkT.busy a0) a1), (butName (WorkT.again a0) a1), (f20v0 a0 a1)⟩ : WorkT), .d .bool true]))
                                              none)
                                            none)
                                          (cond (sm_work (⟨((WorkT.list a0) ++ ([a1] : List ByteArray)), (butName (WorkT.busy a0) a1), (butName (WorkT.again a0) a1), (f20v0 a0 a1)⟩ : WorkT))
                                            (cond (!(workQOk (⟨((WorkT.list a0) ++ ([a1] : List ByteArray)), (butName (WorkT.busy a0) a1), (butName (WorkT.again a0) a1), (f20v0 a0 a1)⟩ : WorkT)))
                                              (cond (sm_work a0)
                                                (k [.d .work a0, .d .bool false])
                                                none)
                                              (k [.d .work (⟨((WorkT.list a0) ++ ([a1] : List ByteArray)), (butName (WorkT.busy a0) a1), (butName (WorkT.again a0) a1), (f20v0 a0 a1)⟩ : WorkT), .d .bool true]))
                                            none))
                                        none)
                                      (cond (sm_work (⟨((WorkT.list a0) ++ ([a1] : List ByteArray)), (butName (WorkT.busy a0) a1), (butName (WorkT.again a0) a1), (f20v0 a0 a1)⟩ : WorkT))
                                        (cond (!(workQOk (⟨((WorkT.list a0) ++ ([a1] : List ByteArray)), (butName (WorkT.busy a0) a1), (butName (WorkT.again a0) a1), (f20v0 a0 a1)⟩ : WorkT)))
                                          (cond (sm_work a0)
                                            (k [.d .work a0, .d .bool false])
                                            none)
                                          (k [.d .work (⟨((WorkT.list a0) ++ ([a1] : List ByteArray)), (butName (WorkT.busy a0) a1), (butName (WorkT.again a0) a1), (f20v0 a0 a1)⟩ : WorkT), .d .bool true]))
                                        none))
                                    none)
                                  none)
                                (cond (Nat.ble ((WorkT.fails a0).length + 1) LIM)
                                  (cond (!a2)
                                    (cond ((fun (x : List ByteArray) (_ : ByteArray) => gLenW x) ((WorkT.list a0) ++ ([a1] : List ByteArray)) a1)
                                      (cond (!(isIn ((WorkT.list a0) ++ ([a1] : List ByteArray)) a1))
                                        (cond (Nat.ble (((WorkT.list a0) ++ ([a1] : List ByteArray)).length + 1) LIM)
                                          (cond (sm_work (⟨(((WorkT.list a0) ++ ([a1] : List ByteArray)) ++ ([a1] : List ByteArray)), (butName (WorkT.busy a0) a1), (butName (WorkT.again a0) a1), ((WorkT.fails a0) ++ ([(⟨a1, (1 : Int)⟩ : FailT)] : List FailT))⟩ : WorkT))
                                            (cond (!(workQOk (⟨(((WorkT.list a0) ++ ([a1] : List ByteArray)) ++ ([a1] : List ByteArray)), (butName (WorkT.busy a0) a1), (butName (WorkT.again a0) a1), ((WorkT.fails a0) ++ ([(⟨a1, (1 : Int)⟩ : FailT)] : List FailT))⟩ : WorkT)))
                                              (cond (sm_work a0)
                                                (k [.d .work a0, .d .bool false])
                                                none)
                                              (k [.d .work (⟨(((WorkT.list a0) ++ ([a1] : List ByteArray)) ++ ([a1] : List ByteArray)), (butName (WorkT.busy a0) a1), (butName (WorkT.again a0) a1), ((WorkT.fails a0) ++ ([(⟨a1, (1 : Int)⟩ : FailT)] : List FailT))⟩ : WorkT), .d .bool true]))
                                            none)
                                          none)
                                        (cond (sm_work (⟨((WorkT.list a0) ++ ([a1] : List ByteArray)), (butName (WorkT.busy a0) a1), (butName (WorkT.again a0) a1), ((WorkT.fails a0) ++ ([(⟨a1, (1 : Int)⟩ : FailT)] : List FailT))⟩ : WorkT))
                                          (cond (!(workQOk (⟨((WorkT.list a0) ++ ([a1] : List ByteArray)), (butName (WorkT.busy a0) a1), (butName (WorkT.again a0) a1), ((WorkT.fails a0) ++ ([(⟨a1, (1 : Int)⟩ : FailT)] : List FailT))⟩ : WorkT)))
                                            (cond (sm_work a0)
                                              (k [.d .work a0, .d .bool false])
                                              none)
                                            (k [.d .work (⟨((WorkT.list a0) ++ ([a1] : List ByteArray)), (butName (WorkT.busy a0) a1), (butName (WorkT.again a0) a1), ((WorkT.fails a0) ++ ([(⟨a1, (1 : Int)⟩ : FailT)] : List FailT))⟩ : WorkT), .d .bool true]))
                                          none))
                                      none)
                                    (cond (sm_work (⟨((WorkT.list a0) ++ ([a1] : List ByteArray)), (butName (WorkT.busy a0) a1), (butName (WorkT.again a0) a1), ((WorkT.fails a0) ++ ([(⟨a1, (1 : Int)⟩ : FailT)] : List FailT))⟩ : WorkT))
                                      (cond (!(workQOk (⟨((WorkT.list a0) ++ ([a1] : List ByteArray)), (butName (WorkT.busy a0) a1), (butName (WorkT.again a0) a1), ((WorkT.fails a0) ++ ([(⟨a1, (1 : Int)⟩ : FailT)] : List FailT))⟩ : WorkT)))
                                        (cond (sm_work a0)
                                          (k [.d .work a0, .d .bool false])
                                          none)
                                        (k [.d .work (⟨((WorkT.list a0) ++ ([a1] : List ByteArray)), (butName (WorkT.busy a0) a1), (butName (WorkT.again a0) a1), ((WorkT.fails a0) ++ ([(⟨a1, (1 : Int)⟩ : FailT)] : List FailT))⟩ : WorkT), .d .bool true]))
                                      none))
                                  none))))
                          (cond a2
                            (cond (!a2)
                              (cond ((fun (x : List ByteArray) (_ : ByteArray) => gLenW x) ((WorkT.list a0) ++ ([a1] : List ByteArray)) a1)
                                (cond (!(isIn ((WorkT.list a0) ++ ([a1] : List ByteArray)) a1))
                                  (cond (Nat.ble (((WorkT.list a0) ++ ([a1] : List ByteArray)).length + 1) LIM)
                                    (cond (sm_work (⟨(((WorkT.list a0) ++ ([a1] : List ByteArray)) ++ ([a1] : List ByteArray)), (butName (WorkT.busy a0) a1), (butName (WorkT.again a0) a1), (WorkT.fails a0)⟩ : WorkT))
                                      (cond (!(workQOk (⟨(((WorkT.list a0) ++ ([a1] : List ByteArray)) ++ ([a1] : List ByteArray)), (butName (WorkT.busy a0) a1), (butName (WorkT.again a0) a1), (WorkT.fails a0)⟩ : WorkT)))
                                        (cond (sm_work a0)
                                          (k [.d .work a0, .d .bool false])
                                          none)
                                        (k [.d .work (⟨(((WorkT.list a0) ++ ([a1] : List ByteArray)) ++ ([a1] : List ByteArray)), (butName (WorkT.busy a0) a1), (butName (WorkT.again a0) a1), (WorkT.fails a0)⟩ : WorkT), .d .bool true]))
                                      none)
                                    none)
                                  (cond (sm_work (⟨((WorkT.list a0) ++ ([a1] : List ByteArray)), (butName (WorkT.busy a0) a1), (butName (WorkT.again a0) a1), (WorkT.fails a0)⟩ : WorkT))
                                    (cond (!(workQOk (⟨((WorkT.list a0) ++ ([a1] : List ByteArray)), (butName (WorkT.busy a0) a1), (butName (WorkT.again a0) a1), (WorkT.fails a0)⟩ : WorkT)))
                                      (cond (sm_work a0)
                                        (k [.d .work a0, .d .bool false])
                                        none)
                                      (k [.d .work (⟨((WorkT.list a0) ++ ([a1] : List ByteArray)), (butName (WorkT.busy a0) a1), (butName (WorkT.again a0) a1), (WorkT.fails a0)⟩ : WorkT), .d .bool true]))
                                    none))
                                none)
                              (cond (sm_work (⟨((WorkT.list a0) ++ ([a1] : List ByteArray)), (butName (WorkT.busy a0) a1), (butName (WorkT.again a0) a1), (WorkT.fails a0)⟩ : WorkT))
                                (cond (!(workQOk (⟨((WorkT.list a0) ++ ([a1] : List ByteArray)), (butName (WorkT.busy a0) a1), (butName (WorkT.again a0) a1), (WorkT.fails a0)⟩ : WorkT)))
                                  (cond (sm_work a0)
                                    (k [.d .work a0, .d .bool false])
                                    none)
                                  (k [.d .work (⟨((WorkT.list a0) ++ ([a1] : List ByteArray)), (butName (WorkT.busy a0) a1), (butName (WorkT.again a0) a1), (WorkT.fails a0)⟩ : WorkT), .d .bool true]))
                                none))
                            (cond (decide ((failAt (WorkT.fails a0) a1) ≥ (0 : Int)))
                              (cond ((decide ((0 : Int) ≤ (failAt (WorkT.fails a0) a1))) && (decide ((failAt (WorkT.fails a0) a1) < ((WorkT.fails a0).length : Int))))
                                (cond ((decide ((0 : Int) ≤ (failAt (WorkT.fails a0) a1))) && (decide ((failAt (WorkT.fails a0) a1) < ((WorkT.fails a0).length : Int))))
                                  (cond (!a2)
                                    (cond ((fun (x : List ByteArray) (_ : ByteArray) => gLenW x) ((WorkT.list a0) ++ ([a1] : List ByteArray)) a1)
                                      (cond (!(isIn ((WorkT.list a0) ++ ([a1] : List ByteArray)) a1))
                                        (cond (Nat.ble (((WorkT.list a0) ++ ([a1] : List ByteArray)).length + 1) LIM)
                                          (cond (sm_work (⟨(((WorkT.list a0) ++ ([a1] : List ByteArray)) ++ ([a1] : List ByteArray)), (butName (WorkT.busy a0) a1), (butName (WorkT.again a0) a1), (f20v0 a0 a1)⟩ : WorkT))
                                            (cond (!(workQOk (⟨(((WorkT.list a0) ++ ([a1] : List ByteArray)) ++ ([a1] : List ByteArray)), (butName (WorkT.busy a0) a1), (butName (WorkT.again a0) a1), (f20v0 a0 a1)⟩ : WorkT)))
                                              (cond (sm_work a0)
                                                (k [.d .work a0, .d .bool false])
                                                none)
                                              (k [.d .work (⟨(((WorkT.list a0) ++ ([a1] : List ByteArray)) ++ ([a1] : List ByteArray)), (butName (WorkT.busy a0) a1), (butName (WorkT.again a0) a1), (f20v0 a0 a1)⟩ : WorkT), .d .bool true]))
                                            none)
                                          none)
                                        (cond (sm_work (⟨((WorkT.list a0) ++ ([a1] : List ByteArray)), (butName (WorkT.busy a0) a1), (butName (WorkT.again a0) a1), (f20v0 a0 a1)⟩ : WorkT))
                                          (cond (!(workQOk (⟨((WorkT.list a0) ++ ([a1] : List ByteArray)), (butName (WorkT.busy a0) a1), (butName (WorkT.again a0) a1), (f20v0 a0 a1)⟩ : WorkT)))
                                            (cond (sm_work a0)
                                              (k [.d .work a0, .d .bool false])
                                              none)
                                            (k [.d .work (⟨((WorkT.list a0) ++ ([a1] : List ByteArray)), (butName (WorkT.busy a0) a1), (butName (WorkT.again a0) a1), (f20v0 a0 a1)⟩ : WorkT), .d .bool true]))
                                          none))
                                      none)
                                    (cond (sm_work (⟨((WorkT.list a0) ++ ([a1] : List ByteArray)), (butName (WorkT.busy a0) a1), (butName (WorkT.again a0) a1), (f20v0 a0 a1)⟩ : WorkT))
                                      (cond (!(workQOk (⟨((WorkT.list a0) ++ ([a1] : List ByteArray)), (butName (WorkT.busy a0) a1), (butName (WorkT.again a0) a1), (f20v0 a0 a1)⟩ : WorkT)))
                                        (cond (sm_work a0)
                                          (k [.d .work a0, .d .bool false])
                                          none)
                                        (k [.d .work (⟨((WorkT.list a0) ++ ([a1] : List ByteArray)), (butName (WorkT.busy a0) a1), (butName (WorkT.again a0) a1), (f20v0 a0 a1)⟩ : WorkT), .d .bool true]))
                                      none))
                                  none)
                                none)
                              (cond (Nat.ble ((WorkT.fails a0).length + 1) LIM)
                                (cond (!a2)
                                  (cond ((fun (x : List ByteArray) (_ : ByteArray) => gLenW x) ((WorkT.list a0) ++ ([a1] : List ByteArray)) a1)
                                    (cond (!(isIn ((WorkT.list a0) ++ ([a1] : List ByteArray)) a1))
                                      (cond (Nat.ble (((WorkT.list a0) ++ ([a1] : List ByteArray)).length + 1) LIM)
                                        (cond (sm_work (⟨(((WorkT.list a0) ++ ([a1] : List ByteArray)) ++ ([a1] : List ByteArray)), (butName (WorkT.busy a0) a1), (butName (WorkT.again a0) a1), ((WorkT.fails a0) ++ ([(⟨a1, (1 : Int)⟩ : FailT)] : List FailT))⟩ : WorkT))
                                          (cond (!(workQOk (⟨(((WorkT.list a0) ++ ([a1] : List ByteArray)) ++ ([a1] : List ByteArray)), (butName (WorkT.busy a0) a1), (butName (WorkT.again a0) a1), ((WorkT.fails a0) ++ ([(⟨a1, (1 : Int)⟩ : FailT)] : List FailT))⟩ : WorkT)))
                                            (cond (sm_work a0)
                                              (k [.d .work a0, .d .bool false])
                                              none)
                                            (k [.d .work (⟨(((WorkT.list a0) ++ ([a1] : List ByteArray)) ++ ([a1] : List ByteArray)), (butName (WorkT.busy a0) a1), (butName (WorkT.again a0) a1), ((WorkT.fails a0) ++ ([(⟨a1, (1 : Int)⟩ : FailT)] : List FailT))⟩ : WorkT), .d .bool true]))
                                          none)
                                        none)
                                      (cond (sm_work (⟨((WorkT.list a0) ++ ([a1] : List ByteArray)), (butName (WorkT.busy a0) a1), (butName (WorkT.again a0) a1), ((WorkT.fails a0) ++ ([(⟨a1, (1 : Int)⟩ : FailT)] : List FailT))⟩ : WorkT))
                                        (cond (!(workQOk (⟨((WorkT.list a0) ++ ([a1] : List ByteArray)), (butName (WorkT.busy a0) a1), (butName (WorkT.again a0) a1), ((WorkT.fails a0) ++ ([(⟨a1, (1 : Int)⟩ : FailT)] : List FailT))⟩ : WorkT)))
                                          (cond (sm_work a0)
                                            (k [.d .work a0, .d .bool false])
                                            none)
                                          (k [.d .work (⟨((WorkT.list a0) ++ ([a1] : List ByteArray)), (butName (WorkT.busy a0) a1), (butName (WorkT.again a0) a1), ((WorkT.fails a0) ++ ([(⟨a1, (1 : Int)⟩ : FailT)] : List FailT))⟩ : WorkT), .d .bool true]))
                                        none))
                                    none)
                                  (cond (sm_work (⟨((WorkT.list a0) ++ ([a1] : List ByteArray)), (butName (WorkT.busy a0) a1), (butName (WorkT.again a0) a1), ((WorkT.fails a0) ++ ([(⟨a1, (1 : Int)⟩ : FailT)] : List FailT))⟩ : WorkT))
                                    (cond (!(workQOk (⟨((WorkT.list a0) ++ ([a1] : List ByteArray)), (butName (WorkT.busy a0) a1), (butName (WorkT.again a0) a1), ((WorkT.fails a0) ++ ([(⟨a1, (1 : Int)⟩ : FailT)] : List FailT))⟩ : WorkT)))
                                      (cond (sm_work a0)
                                        (k [.d .work a0, .d .bool false])
                                        none)
                                      (k [.d .work (⟨((WorkT.list a0) ++ ([a1] : List ByteArray)), (butName (WorkT.busy a0) a1), (butName (WorkT.again a0) a1), ((WorkT.fails a0) ++ ([(⟨a1, (1 : Int)⟩ : FailT)] : List FailT))⟩ : WorkT), .d .bool true]))
                                    none))
                                none))))
                        none)
                      none)
                    none)
                  (cond ((fun (x : List FailT) (_ : ByteArray) => smL sm_fail x) (WorkT.fails a0) a1)
                    (cond a2
                      (cond (decide ((failAt (WorkT.fails a0) a1) ≥ (0 : Int)))
                        (cond (gDel (WorkT.fails a0) (failAt (WorkT.fails a0) a1) (IntKind.wrap .i64 ((failAt (WorkT.fails a0) a1) + (1 : Int))))
                          (cond (!a2)
                            (cond ((fun (x : List ByteArray) (_ : ByteArray) => gLenW x) (WorkT.list a0) a1)
                              (cond (!(isIn (WorkT.list a0) a1))
                                (cond (Nat.ble ((WorkT.list a0).length + 1) LIM)
                                  (cond (sm_work (⟨((WorkT.list a0) ++ ([a1] : List ByteArray)), (butName (WorkT.busy a0) a1), (WorkT.again a0), (delL (WorkT.fails a0) (failAt (WorkT.fails a0) a1) (IntKind.wrap .i64 ((failAt (WorkT.fails a0) a1) + (1 : Int))))⟩ : WorkT))
                                    (cond (!(workQOk (⟨((WorkT.list a0) ++ ([a1] : List ByteArray)), (butName (WorkT.busy a0) a1), (WorkT.again a0), (delL (WorkT.fails a0) (failAt (WorkT.fails a0) a1) (IntKind.wrap .i64 ((failAt (WorkT.fails a0) a1) + (1 : Int))))⟩ : WorkT)))
                                      (cond (sm_work a0)
                                        (k [.d .work a0, .d .bool false])
                                        none)
                                      (k [.d .work (⟨((WorkT.list a0) ++ ([a1] : List ByteArray)), (butName (WorkT.busy a0) a1), (WorkT.again a0), (delL (WorkT.fails a0) (failAt (WorkT.fails a0) a1) (IntKind.wrap .i64 ((failAt (WorkT.fails a0) a1) + (1 : Int))))⟩ : WorkT), .d .bool true]))
                                    none)
                                  none)
                                (cond (sm_work (⟨(WorkT.list a0), (butName (WorkT.busy a0) a1), (WorkT.again a0), (delL (WorkT.fails a0) (failAt (WorkT.fails a0) a1) (IntKind.wrap .i64 ((failAt (WorkT.fails a0) a1) + (1 : Int))))⟩ : WorkT))
                                  (cond (!(workQOk (⟨(WorkT.list a0), (butName (WorkT.busy a0) a1), (WorkT.again a0), (delL (WorkT.fails a0) (failAt (WorkT.fails a0) a1) (IntKind.wrap .i64 ((failAt (WorkT.fails a0) a1) + (1 : Int))))⟩ : WorkT)))
                                    (cond (sm_work a0)
                                      (k [.d .work a0, .d .bool false])
                                      none)
                                    (k [.d .work (⟨(WorkT.list a0), (butName (WorkT.busy a0) a1), (WorkT.again a0), (delL (WorkT.fails a0) (failAt (WorkT.fails a0) a1) (IntKind.wrap .i64 ((failAt (WorkT.fails a0) a1) + (1 : Int))))⟩ : WorkT), .d .bool true]))
                                  none))
                              none)
                            (cond (sm_work (⟨(WorkT.list a0), (butName (WorkT.busy a0) a1), (WorkT.again a0), (delL (WorkT.fails a0) (failAt (WorkT.fails a0) a1) (IntKind.wrap .i64 ((failAt (WorkT.fails a0) a1) + (1 : Int))))⟩ : WorkT))
                              (cond (!(workQOk (⟨(WorkT.list a0), (butName (WorkT.busy a0) a1), (WorkT.again a0), (delL (WorkT.fails a0) (failAt (WorkT.fails a0) a1) (IntKind.wrap .i64 ((failAt (WorkT.fails a0) a1) + (1 : Int))))⟩ : WorkT)))
                                (cond (sm_work a0)
                                  (k [.d .work a0, .d .bool false])
                                  none)
                                (k [.d .work (⟨(WorkT.list a0), (butName (WorkT.busy a0) a1), (WorkT.again a0), (delL (WorkT.fails a0) (failAt (WorkT.fails a0) a1) (IntKind.wrap .i64 ((failAt (WorkT.fails a0) a1) + (1 : Int))))⟩ : WorkT), .d .bool true]))
                              none))
                          none)
                        (cond a2
                          (cond (!a2)
                            (cond ((fun (x : List ByteArray) (_ : ByteArray) => gLenW x) (WorkT.list a0) a1)
                              (cond (!(isIn (WorkT.list a0) a1))
                                (cond (Nat.ble ((WorkT.list a0).length + 1) LIM)
                                  (cond (sm_work (⟨((WorkT.list a0) ++ ([a1] : List ByteArray)), (butName (WorkT.busy a0) a1), (WorkT.again a0), (WorkT.fails a0)⟩ : WorkT))
                                    (cond (!(workQOk (⟨((WorkT.list a0) ++ ([a1] : List ByteArray)), (butName (WorkT.busy a0) a1), (WorkT.again a0), (WorkT.fails a0)⟩ : WorkT)))
                                      (cond (sm_work a0)
                                        (k [.d .work a0, .d .bool false])
                                        none)
                                      (k [.d .work (⟨((WorkT.list a0) ++ ([a1] : List ByteArray)), (butName (WorkT.busy a0) a1), (WorkT.again a0), (WorkT.fails a0)⟩ : WorkT), .d .bool true]))
                                    none)
                                  none)
                                (cond (sm_work (⟨(WorkT.list a0), (butName (WorkT.busy a0) a1), (WorkT.again a0), (WorkT.fails a0)⟩ : WorkT))
                                  (cond (!(workQOk (⟨(WorkT.list a0), (butName (WorkT.busy a0) a1), (WorkT.again a0), (WorkT.fails a0)⟩ : WorkT)))
                                    (cond (sm_work a0)
                                      (k [.d .work a0, .d .bool false])
                                      none)
                                    (k [.d .work (⟨(WorkT.list a0), (butName (WorkT.busy a0) a1), (WorkT.again a0), (WorkT.fails a0)⟩ : WorkT), .d .bool true]))
                                  none))
                              none)
                            (cond (sm_work (⟨(WorkT.list a0), (butName (WorkT.busy a0) a1), (WorkT.again a0), (WorkT.fails a0)⟩ : WorkT))
                              (cond (!(workQOk (⟨(WorkT.list a0), (butName (WorkT.busy a0) a1), (WorkT.again a0), (WorkT.fails a0)⟩ : WorkT)))
                                (cond (sm_work a0)
                                  (k [.d .work a0, .d .bool false])
                                  none)
                                (k [.d .work (⟨(WorkT.list a0), (butName (WorkT.busy a0) a1), (WorkT.again a0), (WorkT.fails a0)⟩ : WorkT), .d .bool true]))
                              none))
                          (cond (decide ((failAt (WorkT.fails a0) a1) ≥ (0 : Int)))
                            (cond ((decide ((0 : Int) ≤ (failAt (WorkT.fails a0) a1))) && (decide ((failAt (WorkT.fails a0) a1) < ((WorkT.fails a0).length : Int))))
                              (cond ((decide ((0 : Int) ≤ (failAt (WorkT.fails a0) a1))) && (decide ((failAt (WorkT.fails a0) a1) < ((WorkT.fails a0).length : Int))))
                                (cond (!a2)
                                  (cond ((fun (x : List ByteArray) (_ : ByteArray) => gLenW x) (WorkT.list a0) a1)
                                    (cond (!(isIn (WorkT.list a0) a1))
                                      (cond (Nat.ble ((WorkT.list a0).length + 1) LIM)
                                        (cond (sm_work (⟨((WorkT.list a0) ++ ([a1] : List ByteArray)), (butName (WorkT.busy a0) a1), (WorkT.again a0), (f20v0 a0 a1)⟩ : WorkT))
                                          (cond (!(workQOk (⟨((WorkT.list a0) ++ ([a1] : List ByteArray)), (butName (WorkT.busy a0) a1), (WorkT.again a0), (f20v0 a0 a1)⟩ : WorkT)))
                                            (cond (sm_work a0)
                                              (k [.d .work a0, .d .bool false])
                                              none)
                                            (k [.d .work (⟨((WorkT.list a0) ++ ([a1] : List ByteArray)), (butName (WorkT.busy a0) a1), (WorkT.again a0), (f20v0 a0 a1)⟩ : WorkT), .d .bool true]))
                                          none)
                                        none)
                                      (cond (sm_work (⟨(WorkT.list a0), (butName (WorkT.busy a0) a1), (WorkT.again a0), (f20v0 a0 a1)⟩ : WorkT))
                                        (cond (!(workQOk (⟨(WorkT.list a0), (butName (WorkT.busy a0) a1), (WorkT.again a0), (f20v0 a0 a1)⟩ : WorkT)))
                                          (cond (sm_work a0)
                                            (k [.d .work a0, .d .bool false])
                                            none)
                                          (k [.d .work (⟨(WorkT.list a0), (butName (WorkT.busy a0) a1), (WorkT.again a0), (f20v0 a0 a1)⟩ : WorkT), .d .bool true]))
                                        none))
                                    none)
                                  (cond (sm_work (⟨(WorkT.list a0), (butName (WorkT.busy a0) a1), (WorkT.again a0), (f20v0 a0 a1)⟩ : WorkT))
                                    (cond (!(workQOk (⟨(WorkT.list a0), (butName (WorkT.busy a0) a1), (WorkT.again a0), (f20v0 a0 a1)⟩ : WorkT)))
                                      (cond (sm_work a0)
                                        (k [.d .work a0, .d .bool false])
                                        none)
                                      (k [.d .work (⟨(WorkT.list a0), (butName (WorkT.busy a0) a1), (WorkT.again a0), (f20v0 a0 a1)⟩ : WorkT), .d .bool true]))
                                    none))
                                none)
                              none)
                            (cond (Nat.ble ((WorkT.fails a0).length + 1) LIM)
                              (cond (!a2)
                                (cond ((fun (x : List ByteArray) (_ : ByteArray) => gLenW x) (WorkT.list a0) a1)
                                  (cond (!(isIn (WorkT.list a0) a1))
                                    (cond (Nat.ble ((WorkT.list a0).length + 1) LIM)
                                      (cond (sm_work (⟨((WorkT.list a0) ++ ([a1] : List ByteArray)), (butName (WorkT.busy a0) a1), (WorkT.again a0), ((WorkT.fails a0) ++ ([(⟨a1, (1 : Int)⟩ : FailT)] : List FailT))⟩ : WorkT))
                                        (cond (!(workQOk (⟨((WorkT.list a0) ++ ([a1] : List ByteArray)), (butName (WorkT.busy a0) a1), (WorkT.again a0), ((WorkT.fails a0) ++ ([(⟨a1, (1 : Int)⟩ : FailT)] : List FailT))⟩ : WorkT)))
                                          (cond (sm_work a0)
                                            (k [.d .work a0, .d .bool false])
                                            none)
                                          (k [.d .work (⟨((WorkT.list a0) ++ ([a1] : List ByteArray)), (butName (WorkT.busy a0) a1), (WorkT.again a0), ((WorkT.fails a0) ++ ([(⟨a1, (1 : Int)⟩ : FailT)] : List FailT))⟩ : WorkT), .d .bool true]))
                                        none)
                                      none)
                                    (cond (sm_work (⟨(WorkT.list a0), (butName (WorkT.busy a0) a1), (WorkT.again a0), ((WorkT.fails a0) ++ ([(⟨a1, (1 : Int)⟩ : FailT)] : List FailT))⟩ : WorkT))
                                      (cond (!(workQOk (⟨(WorkT.list a0), (butName (WorkT.busy a0) a1), (WorkT.again a0), ((WorkT.fails a0) ++ ([(⟨a1, (1 : Int)⟩ : FailT)] : List FailT))⟩ : WorkT)))
                                        (cond (sm_work a0)
                                          (k [.d .work a0, .d .bool false])
                                          none)
                                        (k [.d .work (⟨(WorkT.list a0), (butName (WorkT.busy a0) a1), (WorkT.again a0), ((WorkT.fails a0) ++ ([(⟨a1, (1 : Int)⟩ : FailT)] : List FailT))⟩ : WorkT), .d .bool true]))
                                      none))
                                  none)
                                (cond (sm_work (⟨(WorkT.list a0), (butName (WorkT.busy a0) a1), (WorkT.again a0), ((WorkT.fails a0) ++ ([(⟨a1, (1 : Int)⟩ : FailT)] : List FailT))⟩ : WorkT))
                                  (cond (!(workQOk (⟨(WorkT.list a0), (butName (WorkT.busy a0) a1), (WorkT.again a0), ((WorkT.fails a0) ++ ([(⟨a1, (1 : Int)⟩ : FailT)] : List FailT))⟩ : WorkT)))
                                    (cond (sm_work a0)
                                      (k [.d .work a0, .d .bool false])
                                      none)
                                    (k [.d .work (⟨(WorkT.list a0), (butName (WorkT.busy a0) a1), (WorkT.again a0), ((WorkT.fails a0) ++ ([(⟨a1, (1 : Int)⟩ : FailT)] : List FailT))⟩ : WorkT), .d .bool true]))
                                  none))
                              none))))
                      (cond a2
                        (cond (!a2)
                          (cond ((fun (x : List ByteArray) (_ : ByteArray) => gLenW x) (WorkT.list a0) a1)
                            (cond (!(isIn (WorkT.list a0) a1))
                              (cond (Nat.ble ((WorkT.list a0).length + 1) LIM)
                                (cond (sm_work (⟨((WorkT.list a0) ++ ([a1] : List ByteArray)), (butName (WorkT.busy a0) a1), (WorkT.again a0), (WorkT.fails a0)⟩ : WorkT))
                                  (cond (!(workQOk (⟨((WorkT.list a0) ++ ([a1] : List ByteArray)), (butName (WorkT.busy a0) a1), (WorkT.again a0), (WorkT.fails a0)⟩ : WorkT)))
                                    (cond (sm_work a0)
                                      (k [.d .work a0, .d .bool false])
                                      none)
                                    (k [.d .work (⟨((WorkT.list a0) ++ ([a1] : List ByteArray)), (butName (WorkT.busy a0) a1), (WorkT.again a0), (WorkT.fails a0)⟩ : WorkT), .d .bool true]))
                                  none)
                                none)
                              (cond (sm_work (⟨(WorkT.list a0), (butName (WorkT.busy a0) a1), (WorkT.again a0), (WorkT.fails a0)⟩ : WorkT))
                                (cond (!(workQOk (⟨(WorkT.list a0), (butName (WorkT.busy a0) a1), (WorkT.again a0), (WorkT.fails a0)⟩ : WorkT)))
                                  (cond (sm_work a0)
                                    (k [.d .work a0, .d .bool false])
                                    none)
                                  (k [.d .work (⟨(WorkT.list a0), (butName (WorkT.busy a0) a1), (WorkT.again a0), (WorkT.fails a0)⟩ : WorkT), .d .bool true]))
                                none))
                            none)
                          (cond (sm_work (⟨(WorkT.list a0), (butName (WorkT.busy a0) a1), (WorkT.again a0), (WorkT.fails a0)⟩ : WorkT))
                            (cond (!(workQOk (⟨(WorkT.list a0), (butName (WorkT.busy a0) a1), (WorkT.again a0), (WorkT.fails a0)⟩ : WorkT)))
                              (cond (sm_work a0)
                                (k [.d .work a0, .d .bool false])
                                none)
                              (k [.d .work (⟨(WorkT.list a0), (butName (WorkT.busy a0) a1), (WorkT.again a0), (WorkT.fails a0)⟩ : WorkT), .d .bool true]))
                            none))
                        (cond (decide ((failAt (WorkT.fails a0) a1) ≥ (0 : Int)))
                          (cond ((decide ((0 : Int) ≤ (failAt (WorkT.fails a0) a1))) && (decide ((failAt (WorkT.fails a0) a1) < ((WorkT.fails a0).length : Int))))
                            (cond ((decide ((0 : Int) ≤ (failAt (WorkT.fails a0) a1))) && (decide ((failAt (WorkT.fails a0) a1) < ((WorkT.fails a0).length : Int))))
                              (cond (!a2)
                                (cond ((fun (x : List ByteArray) (_ : ByteArray) => gLenW x) (WorkT.list a0) a1)
                                  (cond (!(isIn (WorkT.list a0) a1))
                                    (cond (Nat.ble ((WorkT.list a0).length + 1) LIM)
                                      (cond (sm_work (⟨((WorkT.list a0) ++ ([a1] : List ByteArray)), (butName (WorkT.busy a0) a1), (WorkT.again a0), (f20v0 a0 a1)⟩ : WorkT))
                                        (cond (!(workQOk (⟨((WorkT.list a0) ++ ([a1] : List ByteArray)), (butName (WorkT.busy a0) a1), (WorkT.again a0), (f20v0 a0 a1)⟩ : WorkT)))
                                          (cond (sm_work a0)
                                            (k [.d .work a0, .d .bool false])
                                            none)
                                          (k [.d .work (⟨((WorkT.list a0) ++ ([a1] : List ByteArray)), (butName (WorkT.busy a0) a1), (WorkT.again a0), (f20v0 a0 a1)⟩ : WorkT), .d .bool true]))
                                        none)
                                      none)
                                    (cond (sm_work (⟨(WorkT.list a0), (butName (WorkT.busy a0) a1), (WorkT.again a0), (f20v0 a0 a1)⟩ : WorkT))
                                      (cond (!(workQOk (⟨(WorkT.list a0), (butName (WorkT.busy a0) a1), (WorkT.again a0), (f20v0 a0 a1)⟩ : WorkT)))
                                        (cond (sm_work a0)
                                          (k [.d .work a0, .d .bool false])
                                          none)
                                        (k [.d .work (⟨(WorkT.list a0), (butName (WorkT.busy a0) a1), (WorkT.again a0), (f20v0 a0 a1)⟩ : WorkT), .d .bool true]))
                                      none))
                                  none)
                                (cond (sm_work (⟨(WorkT.list a0), (butName (WorkT.busy a0) a1), (WorkT.again a0), (f20v0 a0 a1)⟩ : WorkT))
                                  (cond (!(workQOk (⟨(WorkT.list a0), (butName (WorkT.busy a0) a1), (WorkT.again a0), (f20v0 a0 a1)⟩ : WorkT)))
                                    (cond (sm_work a0)
                                      (k [.d .work a0, .d .bool false])
                                      none)
                                    (k [.d .work (⟨(WorkT.list a0), (butName (WorkT.busy a0) a1), (WorkT.again a0), (f20v0 a0 a1)⟩ : WorkT), .d .bool true]))
                                  none))
                              none)
                            none)
                          (cond (Nat.ble ((WorkT.fails a0).length + 1) LIM)
                            (cond (!a2)
                              (cond ((fun (x : List ByteArray) (_ : ByteArray) => gLenW x) (WorkT.list a0) a1)
                                (cond (!(isIn (WorkT.list a0) a1))
                                  (cond (Nat.ble ((WorkT.list a0).length + 1) LIM)
                                    (cond (sm_work (⟨((WorkT.list a0) ++ ([a1] : List ByteArray)), (butName (WorkT.busy a0) a1), (WorkT.again a0), ((WorkT.fails a0) ++ ([(⟨a1, (1 : Int)⟩ : FailT)] : List FailT))⟩ : WorkT))
                                      (cond (!(workQOk (⟨((WorkT.list a0) ++ ([a1] : List ByteArray)), (butName (WorkT.busy a0) a1), (WorkT.again a0), ((WorkT.fails a0) ++ ([(⟨a1, (1 : Int)⟩ : FailT)] : List FailT))⟩ : WorkT)))
                                        (cond (sm_work a0)
                                          (k [.d .work a0, .d .bool false])
                                          none)
                                        (k [.d .work (⟨((WorkT.list a0) ++ ([a1] : List ByteArray)), (butName (WorkT.busy a0) a1), (WorkT.again a0), ((WorkT.fails a0) ++ ([(⟨a1, (1 : Int)⟩ : FailT)] : List FailT))⟩ : WorkT), .d .bool true]))
                                      none)
                                    none)
                                  (cond (sm_work (⟨(WorkT.list a0), (butName (WorkT.busy a0) a1), (WorkT.again a0), ((WorkT.fails a0) ++ ([(⟨a1, (1 : Int)⟩ : FailT)] : List FailT))⟩ : WorkT))
                                    (cond (!(workQOk (⟨(WorkT.list a0), (butName (WorkT.busy a0) a1), (WorkT.again a0), ((WorkT.fails a0) ++ ([(⟨a1, (1 : Int)⟩ : FailT)] : List FailT))⟩ : WorkT)))
                                      (cond (sm_work a0)
                                        (k [.d .work a0, .d .bool false])
                                        none)
                                      (k [.d .work (⟨(WorkT.list a0), (butName (WorkT.busy a0) a1), (WorkT.again a0), ((WorkT.fails a0) ++ ([(⟨a1, (1 : Int)⟩ : FailT)] : List FailT))⟩ : WorkT), .d .bool true]))
                                    none))
                                none)
                              (cond (sm_work (⟨(WorkT.list a0), (butName (WorkT.busy a0) a1), (WorkT.again a0), ((WorkT.fails a0) ++ ([(⟨a1, (1 : Int)⟩ : FailT)] : List FailT))⟩ : WorkT))
                                (cond (!(workQOk (⟨(WorkT.list a0), (butName (WorkT.busy a0) a1), (WorkT.again a0), ((WorkT.fails a0) ++ ([(⟨a1, (1 : Int)⟩ : FailT)] : List FailT))⟩ : WorkT)))
                                  (cond (sm_work a0)
                                    (k [.d .work a0, .d .bool false])
                                    none)
                                  (k [.d .work (⟨(WorkT.list a0), (butName (WorkT.busy a0) a1), (WorkT.again a0), ((WorkT.fails a0) ++ ([(⟨a1, (1 : Int)⟩ : FailT)] : List FailT))⟩ : WorkT), .d .bool true]))
                                none))
                            none))))
                    none))
                none)
              none)
            none))
        none))
    none) := by kernel_rfl
theorem f20_spec (a0 : WorkT) (a1 : ByteArray) (a2 : Bool) (hg : gDoneW a0 a1 a2 = true) : ∃ keep rounds, ∀ {R : Type} (k : List Dt → Option R), evFn f20e keep rounds f20c [.ro, .ro, .ro] [false, false] true [.cell 6 30, .tmp 7] [30, 4] [.d .work a0, .d .str a1, .d .bool a2] k = k [.d .work ((workDone a0 a1 a2).1), .d .bool ((workDone a0 a1 a2).2)] := by
  simp only [gDoneW, Bool.and_eq_true] at hg
  obtain ⟨hg0, hs⟩ := hg
  have hg := hg0
  simp only [sm_work, Bool.and_eq_true] at hg
  obtain ⟨hl, hb, ha, hf⟩ := hg
  have nl := smL_len hl
  refine ⟨f20k, 0, fun {R} k => ?_⟩
  rw [f20_run]
  show _ = k [.d .work (workDone a0 a1 a2).1, .d .bool (workDone a0 a1 a2).2]
  cases hq : workQOk a0
  · simp only [hg0, hq, workDone, Bool.not_false, cond_true, cond_false]
  have hlb := gLenW_sm hb
  have hla := gLenW_sm ha
  have hll := gLenW_sm hl
  cases hB : isIn a0.busy a1
  · simp only [hg0, hq, hB, hlb, workDone, Bool.not_false, Bool.not_true, cond_true, cond_false]
  have hql := qOk_len hq
  have h1 : Nat.ble (a0.list.length + 1) LIM = true := limLe1 nl
  have hno := qOk_apart hq hB
  have h2 : isIn (a0.list ++ [a1]) a1 = true := isIn_snoc _ _
  have h3 : gLenW (a0.list ++ [a1]) = true := gLenW_of (by rw [List.length_append, List.length_cons, List.length_nil]; omega)
  have hff := qOk_fails hq
  have h4 : Nat.ble (a0.fails.length + 1) LIM = true := Nat.ble_eq_true_of_le (by have : (LIM : Nat) = 4294967296 := rfl; omega)
  cases hO : failO a0.fails a1 with
  | none =>
    have hfa : failAt a0.fails a1 = -1 := by unfold failAt; rw [hO]; rfl
    have hd : decide ((-1 : Int) ≥ (0 : Int)) = false := by decide
    simp only [hg0, hq, hB, hlb, hla, hll, hl, hb, ha, hf, h1, h2, h3, h4, hno, hfa, hd, Bool.not_true, Bool.not_false, cond_true, cond_false]
    cases hA : isIn a0.again a1 <;> cases a2 <;> simp only [Bool.not_true, Bool.not_false, cond_true, cond_false] <;> refine done_fin hq hB hg0 hs ?_ <;> simp [doneW, failedI, hO, hA, butName_no]
  | some i =>
    have hfa : failAt a0.fails a1 = (i : Int) := by unfold failAt; rw [hO]; rfl
    have hi := failO_lt hO
    obtain ⟨i1, i0, iw, it⟩ := idx hi (by omega)
    have hd : decide ((i : Int) ≥ (0 : Int)) = true := i0
    have hdel := gDel_one hi
    have hci := (allN_iff.1 (qOk_allF hq)) i (by omega) (by omega)
    simp only [failC, Bool.and_eq_true, inR_iff] at hci
    have hwn : IntKind.wrap .i64 ((atI (t := .fail) a0.fails i).n + (1 : Int)) = (atI (t := .fail) a0.fails i).n + 1 := wrap_id (by omega) (by omega)
    have hmin : (if (20 : Int) < (atI (t := .fail) a0.fails i).n + 1 then (20 : Int) else (atI (t := .fail) a0.fails i).n + 1) = minI ((atI (t := .fail) a0.fails i).n + 1) 20 := by unfold minI; split <;> split <;> omega
    simp only [hg0, hq, hB, hlb, hla, hll, hl, hb, ha, hf, h1, h2, h3, h4, hno, hfa, hd, i1, i0, iw, hdel, Bool.and_self, Bool.not_true, Bool.not_false, cond_true, cond_false, f20v0, it, hwn, hmin]
    cases hA : isIn a0.again a1 <;> cases a2 <;> simp only [Bool.not_true, Bool.not_false, cond_true, cond_false] <;> refine done_fin hq hB hg0 hs ?_ <;> simp [doneW, failedI, hO, hA, butName_no]

noncomputable def q20 : List Dt → Option (Bool × List Dt)
  | [.d .work a0, .d .str a1, .d .bool a2] => some ((gDoneW a0 a1 a2), [.d .work ((workDone a0 a1 a2).1), .d .bool ((workDone a0 a1 a2).2)])
  | _ => none
noncomputable def s20 : Gm.Spec := Gm.Spec.of [.ro, .ro, .ro] [false, false] true q20
theorem good20 : Gm.Good Try.prog (20, s20) := by
  have hl : ∀ x ∈ [(23, s23), (42, s42), (45, s45), (46, s46), (47, s47), (48, s48)], Gm.Good Try.prog x := List.forall_mem_cons.2 ⟨good23, List.forall_mem_cons.2 ⟨good42, List.forall_mem_cons.2 ⟨good45, List.forall_mem_cons.2 ⟨good46, List.forall_mem_cons.2 ⟨good47, List.forall_mem_cons.2 ⟨good48, List.forall_mem_nil _⟩⟩⟩⟩⟩⟩
  refine ⟨⟨spec_ok (tab_ok.env hl) (tab.natl hl) Try.func20 (by kernel_rfl : Try.f20.body = some f20c) [30, 4] (by kernel_rfl) ?_, _, Try.func20, by kernel_rfl, of_decide_eq_true (by kernel_rfl)⟩, Gm.Spec.of_natl _ _ _ _⟩
  intro ds outs h
  unfold q20 at h
  split at h
  · simp only [Option.some.injEq, Prod.mk.injEq] at h; obtain ⟨hg, h⟩ := h; cases h; exact f20_spec _ _ _ hg
  · cases h
end Go.Proofs.Ytmeeoilfnahihaa

/- x -/
namespace Go.Proofs.Ytmeeoilfnahihaa
open Go Go.Gm
/-! ### loop.example/g00465/spec.l27DrawName -/
noncomputable def f68c : Code := (Try.f68.body).getD .skip
def f68k : Nat → Kp := kat [⟨[0], [], [], []⟩, ⟨[0, 2], [], [], []⟩]
noncomputable def f68e : Env := tab.env [(67, s67)]
theorem f68_run {R : Type} (n : Nat) (k : List Dt → Option R) (a0 : CurT) : evFn f68e f68k n f68c [.pmut] [false] true [.tmp 2] [9] [.d .cur a0] k =
    (cond (gPickS a0 ([(bs [97]), (bs [98]), (bs [119,101,98]), (bs [97,112,105]), (bs [120,45,49])] : List ByteArray))
    (k [.d .str ((curPick a0 ([(bs [97]), (bs [98]), (bs [119,101,98]), (bs [97,112,105]), (bs [120,45,49])] : List ByteArray)).1), .d .cur ((curPick a0 ([(bs [97]), (bs [98]), (bs [119,101,98]), (bs [97,112,105]), (bs [120,45,49])] : List ByteArray)).2)])
    none) := by kernel_rfl
def f68_P (a0 : CurT) (o : ByteArray × CurT) : Prop := (fun _ o => smStr o.1 = true ∧ gCur o.2 = true) a0 o ∧ ∃ n : Nat, ∀ {R : Type} (k : List Dt → Option R), evFn f68e f68k n f68c [.pmut] [false] true [.tmp 2] [9] [.d .cur a0] k = k [.d .str o.1, .d .cur o.2]
theorem f68_ex (a0 : CurT) (hg : gCur a0 = true) : ∃ o : ByteArray × CurT, (fun _ o => smStr o.1 = true ∧ gCur o.2 = true) a0 o ∧ ∃ n : Nat, ∀ {R : Type} (k : List Dt → Option R), evFn f68e f68k n f68c [.pmut] [false] true [.tmp 2] [9] [.d .cur a0] k = k [.d .str o.1, .d .cur o.2] := by
  have hp := gPickS_of (l := ([(bs [97]), (bs [98]), (bs [119,101,98]), (bs [97,112,105]), (bs [120,45,49])] : List ByteArray)) hg rfl
  obtain ⟨hm, g1⟩ := curPick_ok a0 _ hp
  refine ⟨(?a0z0, ?a1z0), ?gz0, 0, ?rz0⟩
  case rz0 =>
    intro R k
    rw [f68_run]
    simp only [hp, cond_true, cond_false, Bool.not_true, Bool.not_false]
    exact rfl
  case gz0 => exact ⟨smStr_in hm (by decide), g1⟩

theorem f68_ne (a0 : CurT) : Nonempty {o : ByteArray × CurT // gCur a0 = true → f68_P a0 o} := by
  by_cases hg : gCur a0 = true
  · obtain ⟨o, ho⟩ := f68_ex a0 hg
    exact ⟨⟨o, fun _ => ho⟩⟩
  · exact ⟨⟨((zero .str), (zero .cur)), fun h => absurd h hg⟩⟩
noncomputable def wName (a0 : CurT) : ByteArray × CurT := (Classical.choice (f68_ne a0)).val
theorem f68_sp (a0 : CurT) (hg : gCur a0 = true) : f68_P a0 (wName a0) := (Classical.choice (f68_ne a0)).property hg
theorem wName_ok (a0 : CurT) (hg : gCur a0 = true) : (fun _ o => smStr o.1 = true ∧ gCur o.2 = true) a0 (wName a0) := (f68_sp a0 hg).1
theorem f68_spec (a0 : CurT) (hg : gCur a0 = true) : ∃ keep rounds, ∀ {R : Type} (k : List Dt → Option R), evFn f68e keep rounds f68c [.pmut] [false] true [.tmp 2] [9] [.d .cur a0] k = k [.d .str ((wName a0).1), .d .cur ((wName a0).2)] := by
  obtain ⟨n, hn⟩ := (f68_sp a0 hg).2
  exact ⟨f68k, n, hn⟩

noncomputable def q68 : List Dt → Option (Bool × List Dt)
  | [.d .cur a0] => some ((gCur a0), [.d .str ((wName a0).1), .d .cur ((wName a0).2)])
  | _ => none
noncomputable def s68 : Gm.Spec := Gm.Spec.of [.pmut] [false] true q68
theorem good68 : Gm.Good Try.prog (68, s68) := by
  have hl : ∀ x ∈ [(67, s67)], Gm.Good Try.prog x := List.forall_mem_cons.2 ⟨good67, List.forall_mem_nil _⟩
  refine ⟨⟨spec_ok (tab_ok.env hl) (tab.natl hl) Try.func68 (by kernel_rfl : Try.f68.body = some f68c) [9] (by kernel_rfl) ?_, _, Try.func68, by kernel_rfl, of_decide_eq_true (by kernel_rfl)⟩, Gm.Spec.of_natl _ _ _ _⟩
  intro ds outs h
  unfold q68 at h
  split at h
  · simp only [Option.some.injEq, Prod.mk.injEq] at h; obtain ⟨hg, h⟩ := h; cases h; exact f68_spec _ hg
  · cases h
/-! ### loop.example/g00465/spec.l27DrawRight -/
noncomputable def f86c : Code := (Try.f86.body).getD .skip
def f86k : Nat → Kp := kat [⟨[0, 2], [], [], []⟩, ⟨[0, 2, 3], [], [], []⟩, ⟨[0, 2, 3, 4], [⟨true, false, 3, 0, .str⟩, ⟨true, false, 3, 1, .str⟩, ⟨true, false, 3, 2, .str⟩, ⟨true, false, 3, 3, .fail⟩], [], []⟩, ⟨[0, 2, 3, 4, 10], [], [], []⟩, ⟨[0, 2, 3, 4], [], [], [(2048, 192), (2049, 193), (2050, 194), (2051, 195), (2496, 192), (2497, 193), (2498, 194), (2499, 195), (1408, 192), (1409, 193), (1410, 194), (1411, 195)]⟩, ⟨[0, 2, 3, 4, 14], [], [], []⟩, ⟨[0, 2, 3, 4, 5], [], [], []⟩, ⟨[0, 2, 3, 4], [], [], []⟩, ⟨[0, 2, 3, 4, 14, 25], [], [], []⟩, ⟨[0, 2, 3, 4, 14, 25], [], [], []⟩, ⟨[0, 2, 3, 4], [], [], []⟩, ⟨[0, 2, 3, 4, 35], [], [], []⟩, ⟨[0, 2, 3, 4], [], [], []⟩, ⟨[0, 2], [], [], []⟩]
noncomputable def f86e : Env := tab.env [(25, s25), (28, s28), (32, s32), (66, s66), (68, s68), (69, s69)]
noncomputable def f86L0 {R : Type} (n : Nat) (x0 : Int → Bool → (List Int) → Int → Int → (List ByteArray) → (List ByteArray) → (List ByteArray) → (List FailT) → Option R)  : Nat → Int → (List Int) → Int → Int → (List ByteArray) → (List ByteArray) → (List ByteArray) → (List FailT) → Option R
  | 0, _, _, _, _, _, _, _, _ => none
  | m + 1, vs4, vb0_0, vb0_1, vb0_2, vr192, vr193, vr194, vr195 =>
    (cond ((fun c _ => gCur c) (⟨vb0_0, vb0_1, vb0_2⟩ : CurT) (12 : Int))
      (cond (decide (vs4 < ((curBelow (⟨vb0_0, vb0_1, vb0_2⟩ : CurT) (12 : Int)).1)))
        (cond ((fun c _ => gCur c) ((curBelow (⟨vb0_0, vb0_1, vb0_2⟩ : CurT) (12 : Int)).2) (4 : Int))
          (cond (((curBelow ((curBelow (⟨vb0_0, vb0_1, vb0_2⟩ : CurT) (12 : Int)).2) (4 : Int)).1) == (0 : Int))
            (cond (((curBelow ((curBelow (⟨vb0_0, vb0_1, vb0_2⟩ : CurT) (12 : Int)).2) (4 : Int)).1) == (0 : Int))
              (cond (gCur ((curBelow ((curBelow (⟨vb0_0, vb0_1, vb0_2⟩ : CurT) (12 : Int)).2) (4 : Int)).2))
                (cond (gAddW (⟨vr192, vr193, vr194, vr195⟩ : WorkT) ((wName ((curBelow ((curBelow (⟨vb0_0, vb0_1, vb0_2⟩ : CurT) (12 : Int)).2) (4 : Int)).2)).1))
                  (f86L0 n x0 m (IntKind.wrap .i64 (vs4 + (1 : Int))) (CurT.b ((wName ((curBelow ((curBelow (⟨vb0_0, vb0_1, vb0_2⟩ : CurT) (12 : Int)).2) (4 : Int)).2)).2)) (CurT.i ((wName ((curBelow ((curBelow (⟨vb0_0, vb0_1, vb0_2⟩ : CurT) (12 : Int)).2) (4 : Int)).2)).2)) (CurT.h ((wName ((curBelow ((curBelow (⟨vb0_0, vb0_1, vb0_2⟩ : CurT) (12 : Int)).2) (4 : Int)).2)).2)) (WorkT.list ((workAdd (⟨vr192, vr193, vr194, vr195⟩ : WorkT) ((wName ((curBelow ((curBelow (⟨vb0_0, vb0_1, vb0_2⟩ : CurT) (12 : Int)).2) (4 : Int)).2)).1)).1)) (WorkT.busy ((workAdd (⟨vr192, vr193, vr194, vr195⟩ : WorkT) ((wName ((curBelow ((curBelow (⟨vb0_0, vb0_1, vb0_2⟩ : CurT) (12 : Int)).2) (4 : Int)).2)).1)).1)) (WorkT.again ((workAdd (⟨vr192, vr193, vr194, vr195⟩ : WorkT) ((wName ((curBelow ((curBelow (⟨vb0_0, vb0_1, vb0_2⟩ : CurT) (12 : Int)).2) (4 : Int)).2)).1)).1)) (WorkT.fails ((workAdd (⟨vr192, vr193, vr194, vr195⟩ : WorkT) ((wName ((curBelow ((curBelow (⟨vb0_0, vb0_1, vb0_2⟩ : CurT) (12 : Int)).2) (4 : Int)).2)).1)).1)))
                  none)
                none)
              (cond (((curBelow ((curBelow (⟨vb0_0, vb0_1, vb0_2⟩ : CurT) (12 : Int)).2) (4 : Int)).1) == (2 : Int))
                (cond (sm_work (⟨vr192, vr193, vr194, vr195⟩ : WorkT))
                  (f86L0 n x0 m (IntKind.wrap .i64 (vs4 + (1 : Int))) (CurT.b ((curBelow ((curBelow (⟨vb0_0, vb0_1, vb0_2⟩ : CurT) (12 : Int)).2) (4 : Int)).2)) (CurT.i ((curBelow ((curBelow (⟨vb0_0, vb0_1, vb0_2⟩ : CurT) (12 : Int)).2) (4 : Int)).2)) (CurT.h ((curBelow ((curBelow (⟨vb0_0, vb0_1, vb0_2⟩ : CurT) (12 : Int)).2) (4 : Int)).2)) (WorkT.list ((workTake (⟨vr192, vr193, vr194, vr195⟩ : WorkT)).1)) (WorkT.busy ((workTake (⟨vr192, vr193, vr194, vr195⟩ : WorkT)).1)) (WorkT.again ((workTake (⟨vr192, vr193, vr194, vr195⟩ : WorkT)).1)) (WorkT.fails ((workTake (⟨vr192, vr193, vr194, vr195⟩ : WorkT)).1)))
                  none)
                (cond (gCur ((curBelow ((curBelow (⟨vb0_0, vb0_1, vb0_2⟩ : CurT) (12 : Int)).2) (4 : Int)).2))
                  (cond ((fun c _ => gCur c) ((wName ((curBelow ((curBelow (⟨vb0_0, vb0_1, vb0_2⟩ : CurT) (12 : Int)).2) (4 : Int)).2)).2) (2 : Int))
                    (cond (gDoneW (⟨vr192, vr193, vr194, vr195⟩ : WorkT) ((wName ((curBelow ((curBelow (⟨vb0_0, vb0_1, vb0_2⟩ : CurT) (12 : Int)).2) (4 : Int)).2)).1) ((curOnce ((wName ((curBelow ((curBelow (⟨vb0_0, vb0_1, vb0_2⟩ : CurT) (12 : Int)).2) (4 : Int)).2)).2) (2 : Int)).1))
                      (f86L0 n x0 m (IntKind.wrap .i64 (vs4 + (1 : Int))) (CurT.b ((curOnce ((wName ((curBelow ((curBelow (⟨vb0_0, vb0_1, vb0_2⟩ : CurT) (12 : Int)).2) (4 : Int)).2)).2) (2 : Int)).2)) (CurT.i ((curOnce ((wName ((curBelow ((curBelow (⟨vb0_0, vb0_1, vb0_2⟩ : CurT) (12 : Int)).2) (4 : Int)).2)).2) (2 : Int)).2)) (CurT.h ((curOnce ((wName ((curBelow ((curBelow (⟨vb0_0, vb0_1, vb0_2⟩ : CurT) (12 : Int)).2) (4 : Int)).2)).2) (2 : Int)).2)) (WorkT.list ((workDone (⟨vr192, vr193, vr194, vr195⟩ : WorkT) ((wName ((curBelow ((curBelow (⟨vb0_0, vb0_1, vb0_2⟩ : CurT) (12 : Int)).2) (4 : Int)).2)).1) ((curOnce ((wName ((curBelow ((curBelow (⟨vb0_0, vb0_1, vb0_2⟩ : CurT) (12 : Int)).2) (4 : Int)).2)).2) (2 : Int)).1)).1)) (WorkT.busy ((workDone (⟨vr192, vr193, vr194, vr195⟩ : WorkT) ((wName ((curBelow ((curBelow (⟨vb0_0, vb0_1, vb0_2⟩ : CurT) (12 : Int)).2) (4 : Int)).2)).1) ((curOnce ((wName ((curBelow ((curBelow (⟨vb0_0, vb0_1, vb0_2⟩ : CurT) (12 : Int)).2) (4 : Int)).2)).2) (2 : Int)).1)).1)) (WorkT.again ((workDone (⟨vr192, vr193, vr194, vr195⟩ : WorkT) ((wName ((curBelow ((curBelow (⟨vb0_0, vb0_1, vb0_2⟩ : CurT) (12 : Int)).2) (4 : Int)).2)).1) ((curOnce ((wName ((curBelow ((curBelow (⟨vb0_0, vb0_1, vb0_2⟩ : CurT) (12 : Int)).2) (4 : Int)).2)).2) (2 : Int)).1)).1)) (WorkT.fails ((workDone (⟨vr192, vr193, vr194, vr195⟩ : WorkT) ((wName ((curBelow ((curBelow (⟨vb0_0, vb0_1, vb0_2⟩ : CurT) (12 : Int)).2) (4 : Int)).2)).1) ((curOnce ((wName ((curBelow ((curBelow (⟨vb0_0, vb0_1, vb0_2⟩ : CurT) (12 : Int)).2) (4 : Int)).2)).2) (2 : Int)).1)).1)))
                      none)
                    none)
                  none)))
            (cond (((curBelow ((curBelow (⟨vb0_0, vb0_1, vb0_2⟩ : CurT) (12 : Int)).2) (4 : Int)).1) == (1 : Int))
              (cond (gCur ((curBelow ((curBelow (⟨vb0_0, vb0_1, vb0_2⟩ : CurT) (12 : Int)).2) (4 : Int)).2))
                (cond (gAddW (⟨vr192, vr193, vr194, vr195⟩ : WorkT) ((wName ((curBelow ((curBelow (⟨vb0_0, vb0_1, vb0_2⟩ : CurT) (12 : Int)).2) (4 : Int)).2)).1))
                  (f86L0 n x0 m (IntKind.wrap .i64 (vs4 + (1 : Int))) (CurT.b ((wName ((curBelow ((curBelow (⟨vb0_0, vb0_1, vb0_2⟩ : CurT) (12 : Int)).2) (4 : Int)).2)).2)) (CurT.i ((wName ((curBelow ((curBelow (⟨vb0_0, vb0_1, vb0_2⟩ : CurT) (12 : Int)).2) (4 : Int)).2)).2)) (CurT.h ((wName ((curBelow ((curBelow (⟨vb0_0, vb0_1, vb0_2⟩ : CurT) (12 : Int)).2) (4 : Int)).2)).2)) (WorkT.list ((workAdd (⟨vr192, vr193, vr194, vr195⟩ : WorkT) ((wName ((curBelow ((curBelow (⟨vb0_0, vb0_1, vb0_2⟩ : CurT) (12 : Int)).2) (4 : Int)).2)).1)).1)) (WorkT.busy ((workAdd (⟨vr192, vr193, vr194, vr195⟩ : WorkT) ((wName ((curBelow ((curBelow (⟨vb0_0, vb0_1, vb0_2⟩ : CurT) (12 : Int)).2) (4 : Int)).2)).1)).1)) (WorkT.again ((workAdd (⟨vr192, vr193, vr194, vr195⟩ : WorkT) ((wName ((curBelow ((curBelow (⟨vb0_0, vb0_1, vb0_2⟩ : CurT) (12 : Int)).2) (4 : Int)).2)).1)).1)) (WorkT.fails ((workAdd (⟨vr192, vr193, vr194, vr195⟩ : WorkT) ((wName ((curBelow ((curBelow (⟨vb0_0, vb0_1, vb0_2⟩ : CurT) (12 : Int)).2) (4 : Int)).2)).1)).1)))
                  none)
                none)
              (cond (((curBelow ((curBelow (⟨vb0_0, vb0_1, vb0_2⟩ : CurT) (12 : Int)).2) (4 : Int)).1) == (2 : Int))
                (cond (sm_work (⟨vr192, vr193, vr194, vr195⟩ : WorkT))
                  (f86L0 n x0 m (IntKind.wrap .i64 (vs4 + (1 : Int))) (CurT.b ((curBelow ((curBelow (⟨vb0_0, vb0_1, vb0_2⟩ : CurT) (12 : Int)).2) (4 : Int)).2)) (CurT.i ((curBelow ((curBelow (⟨vb0_0, vb0_1, vb0_2⟩ : CurT) (12 : Int)).2) (4 : Int)).2)) (CurT.h ((curBelow ((curBelow (⟨vb0_0, vb0_1, vb0_2⟩ : CurT) (12 : Int)).2) (4 : Int)).2)) (WorkT.list ((workTake (⟨vr192, vr193, vr194, vr195⟩ : WorkT)).1)) (WorkT.busy ((workTake (⟨vr192, vr193, vr194, vr195⟩ : WorkT)).1)) (WorkT.again ((workTake (⟨vr192, vr193, vr194, vr195⟩ : WorkT)).1)) (WorkT.fails ((workTake (⟨vr192, vr193, vr194, vr195⟩ : WorkT)).1)))
                  none)
                (cond (gCur ((curBelow ((curBelow (⟨vb0_0, vb0_1, vb0_2⟩ : CurT) (12 : Int)).2) (4 : Int)).2))
                  (cond ((fun c _ => gCur c) ((wName ((curBelow ((curBelow (⟨vb0_0, vb0_1, vb0_2⟩ : CurT) (12 : Int)).2) (4 : Int)).2)).2) (2 : Int))
                    (cond (gDoneW (⟨vr192, vr193, vr194, vr195⟩ : WorkT) ((wName ((curBelow ((curBelow (⟨vb0_0, vb0_1, vb0_2⟩ : CurT) (12 : Int)).2) (4 : Int)).2)).1) ((curOnce ((wName ((curBelow ((curBelow (⟨vb0_0, vb0_1, vb0_2⟩ : CurT) (12 : Int)).2) (4 : Int)).2)).2) (2 : Int)).1))
                      (f86L0 n x0 m (IntKind.wrap .i64 (vs4 + (1 : Int))) (CurT.b ((curOnce ((wName ((curBelow ((curBelow (⟨vb0_0, vb0_1, vb0_2⟩ : CurT) (12 : Int)).2) (4 : Int)).2)).2) (2 : Int)).2)) (CurT.i ((curOnce ((wName ((curBelow ((curBelow (⟨vb0_0, vb0_1, vb0_2⟩ : CurT) (12 : Int)).2) (4 : Int)).2)).2) (2 : Int)).2)) (CurT.h ((curOnce ((wName ((curBelow ((curBelow (⟨vb0_0, vb0_1, vb0_2⟩ : CurT) (12 : Int)).2) (4 : Int)).2)).2) (2 : Int)).2)) (WorkT.list ((workDone (⟨vr192, vr193, vr194, vr195⟩ : WorkT) ((wName ((curBelow ((curBelow (⟨vb0_0, vb0_1, vb0_2⟩ : CurT) (12 : Int)).2) (4 : Int)).2)).1) ((curOnce ((wName ((curBelow ((curBelow (⟨vb0_0, vb0_1, vb0_2⟩ : CurT) (12 : Int)).2) (4 : Int)).2)).2) (2 : Int)).1)).1)) (WorkT.busy ((workDone (⟨vr192, vr193, vr194, vr195⟩ : WorkT) ((wName ((curBelow ((curBelow (⟨vb0_0, vb0_1, vb0_2⟩ : CurT) (12 : Int)).2) (4 : Int)).2)).1) ((curOnce ((wName ((curBelow ((curBelow (⟨vb0_0, vb0_1, vb0_2⟩ : CurT) (12 : Int)).2) (4 : Int)).2)).2) (2 : Int)).1)).1)) (WorkT.again ((workDone (⟨vr192, vr193, vr194, vr195⟩ : WorkT) ((wName ((curBelow ((curBelow (⟨vb0_0, vb0_1, vb0_2⟩ : CurT) (12 : Int)).2) (4 : Int)).2)).1) ((curOnce ((wName ((curBelow ((curBelow (⟨vb0_0, vb0_1, vb0_2⟩ : CurT) (12 : Int)).2) (4 : Int)).2)).2) (2 : Int)).1)).1)) (WorkT.fails ((workDone (⟨vr192, vr193, vr194, vr195⟩ : WorkT) ((wName ((curBelow ((curBelow (⟨vb0_0, vb0_1, vb0_2⟩ : CurT) (12 : Int)).2) (4 : Int)).2)).1) ((curOnce ((wName ((curBelow ((curBelow (⟨vb0_0, vb0_1, vb0_2⟩ : CurT) (12 : Int)).2) (4 : Int)).2)).2) (2 : Int)).1)).1)))
                      none)
                    none)
                  none))))
          none)
        (x0 vs4 (decide (vs4 < ((curBelow (⟨vb0_0, vb0_1, vb0_2⟩ : CurT) (12 : Int)).1))) (CurT.b ((curBelow (⟨vb0_0, vb0_1, vb0_2⟩ : CurT) (12 : Int)).2)) (CurT.i ((curBelow (⟨vb0_0, vb0_1, vb0_2⟩ : CurT) (12 : Int)).2)) (CurT.h ((curBelow (⟨vb0_0, vb0_1, vb0_2⟩ : CurT) (12 : Int)).2)) vr192 vr193 vr194 vr195))
      none)
theorem f86L0_b {R : Type} (n : Nat) (k' : Ex → St → Option R) (vs4 : Int) (vb0_0 : List Int) (vb0_1 : Int) (vb0_2 : Int) (vr192 : List ByteArray) (vr193 : List ByteArray) (vr194 : List ByteArray) (vr195 : List FailT) : ev f86e f86k n (cAt [1,1,0,1,0,0] f86c) ⟨[(0, .c (.one (.pt 0 0))), (2, .c (.one (.pt 2 0))), (3, .c (.one (.pt 3 0))), (4, .c (.one (.v (.int .i64 vs4))))], [(0, ⟨.cur, [.rk (.i .u8) vb0_0, .v (.int .i64 vb0_1), .v (.int .i64 vb0_2)]⟩), (2, ⟨.work, [.nl, .nl, .nl, .nl]⟩), (3, ⟨.work, [.h 192 0 0 [], .h 193 0 0 [], .h 194 0 0 [], .h 195 0 0 []]⟩)], [(192, .live ⟨.str, .deep, 0, [], vr192⟩), (193, .live ⟨.str, .deep, 0, [], vr193⟩), (194, .live ⟨.str, .deep, 0, [], vr194⟩), (195, .live ⟨.fail, .deep, 0, [], vr195⟩)]⟩ k' =
    (cond ((fun c _ => gCur c) (⟨vb0_0, vb0_1, vb0_2⟩ : CurT) (12 : Int))
    (cond (decide (vs4 < ((curBelow (⟨vb0_0, vb0_1, vb0_2⟩ : CurT) (12 : Int)).1)))
      (cond ((fun c _ => gCur c) ((curBelow (⟨vb0_0, vb0_1, vb0_2⟩ : CurT) (12 : Int)).2) (4 : Int))
        (cond (((curBelow ((curBelow (⟨vb0_0, vb0_1, vb0_2⟩ : CurT) (12 : Int)).2) (4 : Int)).1) == (0 : Int))
          (cond (((curBelow ((curBelow (⟨vb0_0, vb0_1, vb0_2⟩ : CurT) (12 : Int)).2) (4 : Int)).1) == (0 : Int))
            (cond (gCur ((curBelow ((curBelow (⟨vb0_0, vb0_1, vb0_2⟩ : CurT) (12 : Int)).2) (4 : Int)).2))
              (cond (gAddW (⟨vr192, vr193, vr194, vr195⟩ : WorkT) ((wName ((curBelow ((curBelow (⟨vb0_0, vb0_1, vb0_2⟩ : CurT) (12 : Int)).2) (4 : Int)).2)).1))
                (k' .normal ⟨[(0, .c (.one (.pt 0 0))), (2, .c (.one (.pt 2 0))), (3, .c (.one (.pt 3 0))), (4, .c (.one (.v (.int .i64 (IntKind.wrap .i64 (vs4 + (1 : Int)))))))], [(0, ⟨.cur, [.rk (.i .u8) (CurT.b ((wName ((curBelow ((curBelow (⟨vb0_0, vb0_1, vb0_2⟩ : CurT) (12 : Int)).2) (4 : Int)).2)).2)), .v (.int .i64 (CurT.i ((wName ((curBelow ((curBelow (⟨vb0_0, vb0_1, vb0_2⟩ : CurT) (12 : Int)).2) (4 : Int)).2)).2))), .v (.int .i64 (CurT.h ((wName ((curBelow ((curBelow (⟨vb0_0, vb0_1, vb0_2⟩ : CurT) (12 : Int)).2) (4 : Int)).2)).2)))]⟩), (2, ⟨.work, [.nl, .nl, .nl, .nl]⟩), (3, ⟨.work, [.h 192 0 0 [], .h 193 0 0 [], .h 194 0 0 [], .h 195 0 0 []]⟩)], [(192, .live ⟨.str, .deep, 0, [], (WorkT.list ((workAdd (⟨vr192, vr193, vr194, vr195⟩ : WorkT) ((wName ((curBelow ((curBelow (⟨vb0_0, vb0_1, vb0_2⟩ : CurT) (12 : Int)).2) (4 : Int)).2)).1)).1))⟩), (193, .live ⟨.str, .deep, 0, [], (WorkT.busy ((workAdd (⟨vr192, vr193, vr194, vr195⟩ : WorkT) ((wName ((curBelow ((curBelow (⟨vb0_0, vb0_1, vb0_2⟩ : CurT) (12 : Int)).2) (4 : Int)).2)).1)).1))⟩), (194, .live ⟨.str, .deep, 0, [], (WorkT.again ((workAdd (⟨vr192, vr193, vr194, vr195⟩ : WorkT) ((wName ((curBelow ((curBelow (⟨vb0_0, vb0_1, vb0_2⟩ : CurT) (12 : Int)).2) (4 : Int)).2)).1)).1))⟩), (195, .live ⟨.fail, .deep, 0, [], (WorkT.fails ((workAdd (⟨vr192, vr193, vr194, vr195⟩ : WorkT) ((wName ((curBelow ((curBelow (⟨vb0_0, vb0_1, vb0_2⟩ : CurT) (12 : Int)).2) (4 : Int)).2)).1)).1))⟩)]⟩)
                none)
              none)
            (cond (((curBelow ((curBelow (⟨vb0_0, vb0_1, vb0_2⟩ : CurT) (12 : Int)).2) (4 : Int)).1) == (2 : Int))
              (cond (sm_work (⟨vr192, vr193, vr194, vr195⟩ : WorkT))
                (k' .normal ⟨[(0, .c (.one (.pt 0 0))), (2, .c (.one (.pt 2 0))), (3, .c (.one (.pt 3 0))), (4, .c (.one (.v (.int .i64 (IntKind.wrap .i64 (vs4 + (1 : Int)))))))], [(0, ⟨.cur, [.rk (.i .u8) (CurT.b ((curBelow ((curBelow (⟨vb0_0, vb0_1, vb0_2⟩ : CurT) (12 : Int)).2) (4 : Int)).2)), .v (.int .i64 (CurT.i ((curBelow ((curBelow (⟨vb0_0, vb0_1, vb0_2⟩ : CurT) (12 : Int)).2) (4 : Int)).2))), .v (.int .i64 (CurT.h ((curBelow ((curBelow (⟨vb0_0, vb0_1, vb0_2⟩ : CurT) (12 : Int)).2) (4 : Int)).2)))]⟩), (2, ⟨.work, [.nl, .nl, .nl, .nl]⟩), (3, ⟨.work, [.h 192 0 0 [], .h 193 0 0 [], .h 194 0 0 [], .h 195 0 0 []]⟩)], [(192, .live ⟨.str, .deep, 0, [], (WorkT.list ((workTake (⟨vr192, vr193, vr194, vr195⟩ : WorkT)).1))⟩), (193, .live ⟨.str, .deep, 0, [], (WorkT.busy ((workTake (⟨vr192, vr193, vr194, vr195⟩ : WorkT)).1))⟩), (194, .live ⟨.str, .deep, 0, [], (WorkT.again ((workTake (⟨vr192, vr193, vr194, vr195⟩ : WorkT)).1))⟩), (195, .live ⟨.fail, .deep, 0, [], (WorkT.fails ((workTake (⟨vr192, vr193, vr194, vr195⟩ : WorkT)).1))⟩)]⟩)
                none)
              (cond (gCur ((curBelow ((curBelow (⟨vb0_0, vb0_1, vb0_2⟩ : CurT) (12 : Int)).2) (4 : Int)).2))
                (cond ((fun c _ => gCur c) ((wName ((curBelow ((curBelow (⟨vb0_0, vb0_1, vb0_2⟩ : CurT) (12 : Int)).2) (4 : Int)).2)).2) (2 : Int))
                  (cond (gDoneW (⟨vr192, vr193, vr194, vr195⟩ : WorkT) ((wName ((curBelow ((curBelow (⟨vb0_0, vb0_1, vb0_2⟩ : CurT) (12 : Int)).2) (4 : Int)).2)).1) ((curOnce ((wName ((curBelow ((curBelow (⟨vb0_0, vb0_1, vb0_2⟩ : CurT) (12 : Int)).2) (4 : Int)).2)).2) (2 : Int)).1))
                    (k' .normal ⟨[(0, .c (.one (.pt 0 0))), (2, .c (.one (.pt 2 0))), (3, .c (.one (.pt 3 0))), (4, .c (.one (.v (.int .i64 (IntKind.wrap .i64 (vs4 + (1 : Int)))))))], [(0, ⟨.cur, [.rk (.i .u8) (CurT.b ((curOnce ((wName ((curBelow ((curBelow (⟨vb0_0, vb0_1, vb0_2⟩ : CurT) (12 : Int)).2) (4 : Int)).2)).2) (2 : Int)).2)), .v (.int .i64 (CurT.i ((curOnce ((wName ((curBelow ((curBelow (⟨vb0_0, vb0_1, vb0_2⟩ : CurT) (12 : Int)).2) (4 : Int)).2)).2) (2 : Int)).2))), .v (.int .i64 (CurT.h ((curOnce ((wName ((curBelow ((curBelow (⟨vb0_0, vb0_1, vb0_2⟩ : CurT) (12 : Int)).2) (4 : Int)).2)).2) (2 : Int)).2)))]⟩), (2, ⟨.work, [.nl, .nl, .nl, .nl]⟩), (3, ⟨.work, [.h 192 0 0 [], .h 193 0 0 [], .h 194 0 0 [], .h 195 0 0 []]⟩)], [(192, .live ⟨.str, .deep, 0, [], (WorkT.list ((workDone (⟨vr192, vr193, vr194, vr195⟩ : WorkT) ((wName ((curBelow ((curBelow (⟨vb0_0, vb0_1, vb0_2⟩ : CurT) (12 : Int)).2) (4 : Int)).2)).1) ((curOnce ((wName ((curBelow ((curBelow (⟨vb0_0, vb0_1, vb0_2⟩ : CurT) (12 : Int)).2) (4 : Int)).2)).2) (2 : Int)).1)).1))⟩), (193, .live ⟨.str, .deep, 0, [], (WorkT.busy ((workDone (⟨vr192, vr193, vr194, vr195⟩ : WorkT) ((wName ((curBelow ((curBelow (⟨vb0_0, vb0_1, vb0_2⟩ : CurT) (12 : Int)).2) (4 : Int)).2)).1) ((curOnce ((wName ((curBelow ((curBelow (⟨vb0_0, vb0_1, vb0_2⟩ : CurT) (12 : Int)).2) (4 : Int)).2)).2) (2 : Int)).1)).1))⟩), (194, .live ⟨.str, .deep, 0, [], (WorkT.again ((workDone (⟨vr192, vr193, vr194, vr195⟩ : WorkT) ((wName ((curBelow ((curBelow (⟨vb0_0, vb0_1, vb0_2⟩ : CurT) (12 : Int)).2) (4 : Int)).2)).1) ((curOnce ((wName ((curBelow ((curBelow (⟨vb0_0, vb0_1, vb0_2⟩ : CurT) (12 : Int)).2) (4 : Int)).2)).2) (2 : Int)).1)).1))⟩), (195, .live ⟨.fail, .deep, 0, [], (WorkT.fails ((workDone (⟨vr192, vr193, vr194, vr195⟩ : WorkT) ((wName ((curBelow ((curBelow (⟨vb0_0, vb0_1, vb0_2⟩ : CurT) (12 : Int)).2) (4 : Int)).2)).1) ((curOnce ((wName ((curBelow ((curBelow (⟨vb0_0, vb0_1, vb0_2⟩ : CurT) (12 : Int)).2) (4 : Int)).2)).2) (2 : Int)).1)).1))⟩)]⟩)
                    none)
                  none)
                none)))
          (cond (((curBelow ((curBelow (⟨vb0_0, vb0_1, vb0_2⟩ : CurT) (12 : Int)).2) (4 : Int)).1) == (1 : Int))
            (cond (gCur ((curBelow ((curBelow (⟨vb0_0, vb0_1, vb0_2⟩ : CurT) (12 : Int)).2) (4 : Int)).2))
              (cond (gAddW (⟨vr192, vr193, vr194, vr195⟩ : WorkT) ((wName ((curBelow ((curBelow (⟨vb0_0, vb0_1, vb0_2⟩ : CurT) (12 : Int)).2) (4 : Int)).2)).1))
                (k' .normal ⟨[(0, .c (.one (.pt 0 0))), (2, .c (.one (.pt 2 0))), (3, .c (.one (.pt 3 0))), (4, .c (.one (.v (.int .i64 (IntKind.wrap .i64 (vs4 + (1 : Int)))))))], [(0, ⟨.cur, [.rk (.i .u8) (CurT.b ((wName ((curBelow ((curBelow (⟨vb0_0, vb0_1, vb0_2⟩ : CurT) (12 : Int)).2) (4 : Int)).2)).2)), .v (.int .i64 (CurT.i ((wName ((curBelow ((curBelow (⟨vb0_0, vb0_1, vb0_2⟩ : CurT) (12 : Int)).2) (4 : Int)).2)).2))), .v (.int .i64 (CurT.h ((wName ((curBelow ((curBelow (⟨vb0_0, vb0_1, vb0_2⟩ : CurT) (12 : Int)).2) (4 : Int)).2)).2)))]⟩), (2, ⟨.work, [.nl, .nl, .nl, .nl]⟩), (3, ⟨.work, [.h 192 0 0 [], .h 193 0 0 [], .h 194 0 0 [], .h 195 0 0 []]⟩)], [(192, .live ⟨.str, .deep, 0, [], (WorkT.list ((workAdd (⟨vr192, vr193, vr194, vr195⟩ : WorkT) ((wName ((curBelow ((curBelow (⟨vb0_0, vb0_1, vb0_2⟩ : CurT) (12 : Int)).2) (4 : Int)).2)).1)).1))⟩), (193, .live ⟨.str, .deep, 0, [], (WorkT.busy ((workAdd (⟨vr192, vr193, vr194, vr195⟩ : WorkT) ((wName ((curBelow ((curBelow (⟨vb0_0, vb0_1, vb0_2⟩ : CurT) (12 : Int)).2) (4 : Int)).2)).1)).1))⟩), (194, .live ⟨.str, .deep, 0, [], (WorkT.again ((workAdd (⟨vr192, vr193, vr194, vr195⟩ : WorkT) ((wName ((curBelow ((curBelow (⟨vb0_0, vb0_1, vb0_2⟩ : CurT) (12 : Int)).2) (4 : Int)).2)).1)).1))⟩), (195, .live ⟨.fail, .deep, 0, [], (WorkT.fails ((workAdd (⟨vr192, vr193, vr194, vr195⟩ : WorkT) ((wName ((curBelow ((curBelow (⟨vb0_0, vb0_1, vb0_2⟩ : CurT) (12 : Int)).2) (4 : Int)).2)).1)).1))⟩)]⟩)
                none)
              none)
            (cond (((curBelow ((curBelow (⟨vb0_0, vb0_1, vb0_2⟩ : CurT) (12 : Int)).2) (4 : Int)).1) == (2 : Int))
              (cond (sm_work (⟨vr192, vr193, vr194, vr195⟩ : WorkT))
                (k' .normal ⟨[(0, .c (.one (.pt 0 0))), (2, .c (.one (.pt 2 0))), (3, .c (.one (.pt 3 0))), (4, .c (.one (.v (.int .i64 (IntKind.wrap .i64 (vs4 + (1 : Int)))))))], [(0, ⟨.cur, [.rk (.i .u8) (CurT.b ((curBelow ((curBelow (⟨vb0_0, vb0_1, vb0_2⟩ : CurT) (12 : Int)).2) (4 : Int)).2)), .v (.int .i64 (CurT.i ((curBelow ((curBelow (⟨vb0_0, vb0_1, vb0_2⟩ : CurT) (12 : Int)).2) (4 : Int)).2))), .v (.int .i64 (CurT.h ((curBelow ((curBelow (⟨vb0_0, vb0_1, vb0_2⟩ : CurT) (12 : Int)).2) (4 : Int)).2)))]⟩), (2, ⟨.work, [.nl, .nl, .nl, .nl]⟩), (3, ⟨.work, [.h 192 0 0 [], .h 193 0 0 [], .h 194 0 0 [], .h 195 0 0 []]⟩)], [(192, .live ⟨.str, .deep, 0, [], (WorkT.list ((workTake (⟨vr192, vr193, vr194, vr195⟩ : WorkT)).1))⟩), (193, .live ⟨.str, .deep, 0, [], (WorkT.busy ((workTake (⟨vr192, vr193, vr194, vr195⟩ : WorkT)).1))⟩), (194, .live ⟨.str, .deep, 0, [], (WorkT.again ((workTake (⟨vr192, vr193, vr194, vr195⟩ : WorkT)).1))⟩), (195, .live ⟨.fail, .deep, 0, [], (WorkT.fails ((workTake (⟨vr192, vr193, vr194, vr195⟩ : WorkT)).1))⟩)]⟩)
                none)
              (cond (gCur ((curBelow ((curBelow (⟨vb0_0, vb0_1, vb0_2⟩ : CurT) (12 : Int)).2) (4 : Int)).2))
                (cond ((fun c _ => gCur c) ((wName ((curBelow ((curBelow (⟨vb0_0, vb0_1, vb0_2⟩ : CurT) (12 : Int)).2) (4 : Int)).2)).2) (2 : Int))
                  (cond (gDoneW (⟨vr192, vr193, vr194, vr195⟩ : WorkT) ((wName ((curBelow ((curBelow (⟨vb0_0, vb0_1, vb0_2⟩ : CurT) (12 : Int)).2) (4 : Int)).2)).1) ((curOnce ((wName ((curBelow ((curBelow (⟨vb0_0, vb0_1, vb0_2⟩ : CurT) (12 : Int)).2) (4 : Int)).2)).2) (2 : Int)).1))
                    (k' .normal ⟨[(0, .c (.one (.pt 0 0))), (2, .c (.one (.pt 2 0))), (3, .c (.one (.pt 3 0))), (4, .c (.one (.v (.int .i64 (IntKind.wrap .i64 (vs4 + (1 : Int)))))))], [(0, ⟨.cur, [.rk (.i .u8) (CurT.b ((curOnce ((wName ((curBelow ((curBelow (⟨vb0_0, vb0_1, vb0_2⟩ : CurT) (12 : Int)).2) (4 : Int)).2)).2) (2 : Int)).2)), .v (.int .i64 (CurT.i ((curOnce ((wName ((curBelow ((curBelow (⟨vb0_0, vb0_1, vb0_2⟩ : CurT) (12 : Int)).2) (4 : Int)).2)).2) (2 : Int)).2))), .v (.int .i64 (CurT.h ((curOnce ((wName ((curBelow ((curBelow (⟨vb0_0, vb0_1, vb0_2⟩ : CurT) (12 : Int)).2) (4 : Int)).2)).2) (2 : Int)).2)))]⟩), (2, ⟨.work, [.nl, .nl, .nl, .nl]⟩), (3, ⟨.work, [.h 192 0 0 [], .h 193 0 0 [], .h 194 0 0 [], .h 195 0 0 []]⟩)], [(192, .live ⟨.str, .deep, 0, [], (WorkT.list ((workDone (⟨vr192, vr193, vr194, vr195⟩ : WorkT) ((wName ((curBelow ((curBelow (⟨vb0_0, vb0_1, vb0_2⟩ : CurT) (12 : Int)).2) (4 : Int)).2)).1) ((curOnce ((wName ((curBelow ((curBelow (⟨vb0_0, vb0_1, vb0_2⟩ : CurT) (12 : Int)).2) (4 : Int)).2)).2) (2 : Int)).1)).1))⟩), (193, .live ⟨.str, .deep, 0, [], (WorkT.busy ((workDone (⟨vr192, vr193, vr194, vr195⟩ : WorkT) ((wName ((curBelow ((curBelow (⟨vb0_0, vb0_1, vb0_2⟩ : CurT) (12 : Int)).2) (4 : Int)).2)).1) ((curOnce ((wName ((curBelow ((curBelow (⟨vb0_0, vb0_1, vb0_2⟩ : CurT) (12 : Int)).2) (4 : Int)).2)).2) (2 : Int)).1)).1))⟩), (194, .live ⟨.str, .deep, 0, [], (WorkT.again ((workDone (⟨vr192, vr193, vr194, vr195⟩ : WorkT) ((wName ((curBelow ((curBelow (⟨vb0_0, vb0_1, vb0_2⟩ : CurT) (12 : Int)).2) (4 : Int)).2)).1) ((curOnce ((wName ((curBelow ((curBelow (⟨vb0_0, vb0_1, vb0_2⟩ : CurT) (12 : Int)).2) (4 : Int)).2)).2) (2 : Int)).1)).1))⟩), (195, .live ⟨.fail, .deep, 0, [], (WorkT.fails ((workDone (⟨vr192, vr193, vr194, vr195⟩ : WorkT) ((wName ((curBelow ((curBelow (⟨vb0_0, vb0_1, vb0_2⟩ : CurT) (12 : Int)).2) (4 : Int)).2)).1) ((curOnce ((wName ((curBelow ((curBelow (⟨vb0_0, vb0_1, vb0_2⟩ : CurT) (12 : Int)).2) (4 : Int)).2)).2) (2 : Int)).1)).1))⟩)]⟩)
                    none)
                  none)
                none))))
        none)
      (k' (.exit 0) ⟨[(0, .c (.one (.pt 0 0))), (2, .c (.one (.pt 2 0))), (3, .c (.one (.pt 3 0))), (4, .c (.one (.v (.int .i64 vs4)))), (10, .c (.one (.v (.bool (decide (vs4 < ((curBelow (⟨vb0_0, vb0_1, vb0_2⟩ : CurT) (12 : Int)).1)))))))], [(0, ⟨.cur, [.rk (.i .u8) (CurT.b ((curBelow (⟨vb0_0, vb0_1, vb0_2⟩ : CurT) (12 : Int)).2)), .v (.int .i64 (CurT.i ((curBelow (⟨vb0_0, vb0_1, vb0_2⟩ : CurT) (12 : Int)).2))), .v (.int .i64 (CurT.h ((curBelow (⟨vb0_0, vb0_1, vb0_2⟩ : CurT) (12 : Int)).2)))]⟩), (2, ⟨.work, [.nl, .nl, .nl, .nl]⟩), (3, ⟨.work, [.h 192 0 0 [], .h 193 0 0 [], .h 194 0 0 [], .h 195 0 0 []]⟩)], [(192, .live ⟨.str, .deep, 0, [], vr192⟩), (193, .live ⟨.str, .deep, 0, [], vr193⟩), (194, .live ⟨.str, .deep, 0, [], vr194⟩), (195, .live ⟨.fail, .deep, 0, [], vr195⟩)]⟩))
    none) := by kernel_rfl
theorem f86L0_eq {R : Type} (n : Nat) (k' : Ex → St → Option R)  : ∀ (m : Nat) (vs4 : Int) (vb0_0 : List Int) (vb0_1 : Int) (vb0_2 : Int) (vr192 : List ByteArray) (vr193 : List ByteArray) (vr194 : List ByteArray) (vr195 : List FailT), iter (fun st k => ev f86e f86k n (cAt [1,1,0,1,0,0] f86c) st k) m ⟨[(0, .c (.one (.pt 0 0))), (2, .c (.one (.pt 2 0))), (3, .c (.one (.pt 3 0))), (4, .c (.one (.v (.int .i64 vs4))))], [(0, ⟨.cur, [.rk (.i .u8) vb0_0, .v (.int .i64 vb0_1), .v (.int .i64 vb0_2)]⟩), (2, ⟨.work, [.nl, .nl, .nl, .nl]⟩), (3, ⟨.work, [.h 192 0 0 [], .h 193 0 0 [], .h 194 0 0 [], .h 195 0 0 []]⟩)], [(192, .live ⟨.str, .deep, 0, [], vr192⟩), (193, .live ⟨.str, .deep, 0, [], vr193⟩), (194, .live ⟨.str, .deep, 0, [], vr194⟩), (195, .live ⟨.fail, .deep, 0, [], vr195⟩)]⟩ k' = f86L0 n (fun (xvs4 : Int) (xvs10 : Bool) (xvb0_0 : List Int) (xvb0_1 : Int) (xvb0_2 : Int) (xvr192 : List ByteArray) (xvr193 : List ByteArray) (xvr194 : List ByteArray) (xvr195 : List FailT) => k' (.exit 0) ⟨[(0, .c (.one (.pt 0 0))), (2, .c (.one (.pt 2 0))), (3, .c (.one (.pt 3 0))), (4, .c (.one (.v (.int .i64 xvs4)))), (10, .c (.one (.v (.bool xvs10))))], [(0, ⟨.cur, [.rk (.i .u8) xvb0_0, .v (.int .i64 xvb0_1), .v (.int .i64 xvb0_2)]⟩), (2, ⟨.work, [.nl, .nl, .nl, .nl]⟩), (3, ⟨.work, [.h 192 0 0 [], .h 193 0 0 [], .h 194 0 0 [], .h 195 0 0 []]⟩)], [(192, .live ⟨.str, .deep, 0, [], xvr192⟩), (193, .live ⟨.str, .deep, 0, [], xvr193⟩), (194, .live ⟨.str, .deep, 0, [], xvr194⟩), (195, .live ⟨.fail, .deep, 0, [], xvr195⟩)]⟩) m vs4 vb0_0 vb0_1 vb0_2 vr192 vr193 vr194 vr195 := by
  intro m; induction m with
  | zero => intros; rfl
  | succ m ih =>
    intro vs4 vb0_0 vb0_1 vb0_2 vr192 vr193 vr194 vr195
    simp only [iter]
    rw [f86L0_b]
    simp only [ih, f86L0]

noncomputable def f86K0 {R : Type} (n : Nat) (k' : Ex → St → Option R) : Ex → St → Option R := (blockK 0 (seqK f86e f86k n (cAt [1,1,1] f86c) k'))
theorem f86K0_x0 {R : Type} (n : Nat) (k : List Dt → Option R) (a0 : CurT) (xvs4 : Int) (xvs10 : Bool) (xvb0_0 : List Int) (xvb0_1 : Int) (xvb0_2 : Int) (xvr192 : List ByteArray) (xvr193 : List ByteArray) (xvr194 : List ByteArray) (xvr195 : List FailT) : f86K0 n (exitK f86e [.pmut] [false] true [.cell 2 30] [30] [.d .cur a0] k) (.exit 0) ⟨[(0, .c (.one (.pt 0 0))), (2, .c (.one (.pt 2 0))), (3, .c (.one (.pt 3 0))), (4, .c (.one (.v (.int .i64 xvs4)))), (10, .c (.one (.v (.bool xvs10))))], [(0, ⟨.cur, [.rk (.i .u8) xvb0_0, .v (.int .i64 xvb0_1), .v (.int .i64 xvb0_2)]⟩), (2, ⟨.work, [.nl, .nl, .nl, .nl]⟩), (3, ⟨.work, [.h 192 0 0 [], .h 193 0 0 [], .h 194 0 0 [], .h 195 0 0 []]⟩)], [(192, .live ⟨.str, .deep, 0, [], xvr192⟩), (193, .live ⟨.str, .deep, 0, [], xvr193⟩), (194, .live ⟨.str, .deep, 0, [], xvr194⟩), (195, .live ⟨.fail, .deep, 0, [], xvr195⟩)]⟩ =
    (k [.d .work (⟨xvr192, xvr193, xvr194, xvr195⟩ : WorkT), .d .cur (⟨xvb0_0, xvb0_1, xvb0_2⟩ : CurT)]) := by kernel_rfl

theorem f86_run {R : Type} (n : Nat) (k : List Dt → Option R) (a0 : CurT) : evFn f86e f86k n f86c [.pmut] [false] true [.cell 2 30] [30] [.d .cur a0] k =
    (f86L0 n (fun (xvs4 : Int) (xvs10 : Bool) (xvb0_0 : List Int) (xvb0_1 : Int) (xvb0_2 : Int) (xvr192 : List ByteArray) (xvr193 : List ByteArray) (xvr194 : List ByteArray) (xvr195 : List FailT) =>
    (k [.d .work (⟨xvr192, xvr193, xvr194, xvr195⟩ : WorkT), .d .cur (⟨xvb0_0, xvb0_1, xvb0_2⟩ : CurT)])) n (0 : Int) (CurT.b a0) (CurT.i a0) (CurT.h a0) ([] : List ByteArray) ([] : List ByteArray) ([] : List ByteArray) ([] : List FailT)) := by
  refine Eq.trans (b := (iter (fun st k => ev f86e f86k n (cAt [1,1,0,1,0,0] f86c) st k) n ⟨[(0, .c (.one (.pt 0 0))), (2, .c (.one (.pt 2 0))), (3, .c (.one (.pt 3 0))), (4, .c (.one (.v (.int .i64 (0 : Int)))))], [(0, ⟨.cur, [.rk (.i .u8) (CurT.b a0), .v (.int .i64 (CurT.i a0)), .v (.int .i64 (CurT.h a0))]⟩), (2, ⟨.work, [.nl, .nl, .nl, .nl]⟩), (3, ⟨.work, [.h 192 0 0 [], .h 193 0 0 [], .h 194 0 0 [], .h 195 0 0 []]⟩)], [(192, .live ⟨.str, .deep, 0, [], ([] : List ByteArray)⟩), (193, .live ⟨.str, .deep, 0, [], ([] : List ByteArray)⟩), (194, .live ⟨.str, .deep, 0, [], ([] : List ByteArray)⟩), (195, .live ⟨.fail, .deep, 0, [], ([] : List FailT)⟩)]⟩ (f86K0 n (exitK f86e [.pmut] [false] true [.cell 2 30] [30] [.d .cur a0] k)))) (by kernel_rfl) ?_
  simp only [f86L0_eq, f86K0_x0]
def f86_P (a0 : CurT) (o : WorkT × CurT) : Prop := (fun _ o => workQOk o.1 = true ∧ sm_work o.1 = true ∧ gCur o.2 = true) a0 o ∧ ∃ n : Nat, ∀ {R : Type} (k : List Dt → Option R), evFn f86e f86k n f86c [.pmut] [false] true [.cell 2 30] [30] [.d .cur a0] k = k [.d .work o.1, .d .cur o.2]
theorem f86_ex (a0 : CurT) (hg : gCur a0 = true) : ∃ o : WorkT × CurT, (fun _ o => workQOk o.1 = true ∧ sm_work o.1 = true ∧ gCur o.2 = true) a0 o ∧ ∃ n : Nat, ∀ {R : Type} (k : List Dt → Option R), evFn f86e f86k n f86c [.pmut] [false] true [.cell 2 30] [30] [.d .cur a0] k = k [.d .work o.1, .d .cur o.2] := by
  have key : ∀ (d m : Nat) (i : Int) (w : WorkT) (c : CurT), 0 ≤ i → 12 ≤ i + d → i ≤ 12 → d < m → workQOk w = true → sm_work w = true → gCur c = true →
      ∃ o : WorkT × CurT, (workQOk o.1 = true ∧ sm_work o.1 = true ∧ gCur o.2 = true) ∧ ∀ {R : Type} (X : Int → Bool → (List Int) → Int → Int → (List ByteArray) → (List ByteArray) → (List ByteArray) → (List FailT) → Option R) (Z : WorkT → CurT → Option R),
        (∀ i b c1 c2 c3 w1 w2 w3 w4, X i b c1 c2 c3 w1 w2 w3 w4 = Z ⟨w1, w2, w3, w4⟩ ⟨c1, c2, c3⟩) → f86L0 13 X m i c.b c.i c.h w.list w.busy w.again w.fails = Z o.1 o.2 := by
    intro d
    induction d with
    | zero =>
      intro m i w c h0 hi hi2 hm hq hs hc
      obtain ⟨m, rfl⟩ : ∃ m', m = m' + 1 := ⟨m - 1, by omega⟩
      obtain ⟨b0, b1, g1⟩ := curBelow_ok c 12 hc
      have b1 := b1 (by omega)
      refine ⟨(w, (curBelow c 12).2), ⟨hq, hs, g1⟩, fun {R} X Z hX => ?_⟩
      simp only [f86L0, eta_cur, eta_work, hc, decide_eq_false (show ¬ i < (curBelow c 12).1 by omega), cond_true, cond_false, hX]
    | succ d ih =>
      intro m i w c h0 hi hi2 hm hq hs hc
      obtain ⟨m, rfl⟩ : ∃ m', m = m' + 1 := ⟨m - 1, by omega⟩
      obtain ⟨b0, b1, g1⟩ := curBelow_ok c 12 hc
      have b1 := b1 (by omega)
      cases hd : decide (i < (curBelow c 12).1)
      · refine ⟨(w, (curBelow c 12).2), ⟨hq, hs, g1⟩, fun {R} X Z hX => ?_⟩
        simp only [f86L0, eta_cur, eta_work, hc, hd, cond_true, cond_false, hX]
      have hlt := of_decide_eq_true hd
      have hw : IntKind.wrap .i64 (i + 1) = i + 1 := wrap_id (by omega) (by omega)
      obtain ⟨x0, x1, g2⟩ := curBelow_ok _ 4 g1
      obtain ⟨sn, g3⟩ := wName_ok _ g2
      have ga := gAdd_of hs sn
      obtain ⟨o1, ho1, hh1⟩ := ih m (i + 1) (workAdd w (wName (curBelow (curBelow c 12).2 4).2).1).1 (wName (curBelow (curBelow c 12).2 4).2).2 (by omega) (by omega) (by omega) (by omega) (qOk_add hq) (workAdd_sm hs sn) g3
      cases e0 : ((curBelow (curBelow c 12).2 4).1 == (0 : Int))
      rotate_left
      · exact ⟨o1, ho1, fun {R} X Z hX => by
          simp only [f86L0, eta_cur, eta_work, hc, hd, g1, e0, g2, ga, hw, cond_true, cond_false]
          exact hh1 X Z hX⟩
      cases e1 : ((curBelow (curBelow c 12).2 4).1 == (1 : Int))
      rotate_left
      · exact ⟨o1, ho1, fun {R} X Z hX => by
          simp only [f86L0, eta_cur, eta_work, hc, hd, g1, e0, e1, g2, ga, hw, cond_true, cond_false]
          exact hh1 X Z hX⟩
      cases e2 : ((curBelow (curBelow c 12).2 4).1 == (2 : Int))
      rotate_left
      · obtain ⟨o2, ho2, hh2⟩ := ih m (i + 1) (workTake w).1 (curBelow (curBelow c 12).2 4).2 (by omega) (by omega) (by omega) (by omega) (qOk_take hq) (workTake_sm hs) g2
        exact ⟨o2, ho2, fun {R} X Z hX => by
          simp only [f86L0, eta_cur, eta_work, hc, hd, g1, e0, e1, e2, g2, hs, hw, cond_true, cond_false]
          exact hh2 X Z hX⟩
      have g4 := curOnce_ok _ 2 g3
      have gd := gDone_of (ok := (curOnce (wName (curBelow (curBelow c 12).2 4).2).2 2).1) hs sn
      obtain ⟨o3, ho3, hh3⟩ := ih m (i + 1) (workDone w (wName (curBelow (curBelow c 12).2 4).2).1 (curOnce (wName (curBelow (curBelow c 12).2 4).2).2 2).1).1 (curOnce (wName (curBelow (curBelow c 12).2 4).2).2 2).2 (by omega) (by omega) (by omega) (by omega) (qOk_done hq) (workDone_sm hs sn) g4
      exact ⟨o3, ho3, fun {R} X Z hX => by
        simp only [f86L0, eta_cur, eta_work, hc, hd, g1, e0, e1, e2, g2, g3, gd, hw, cond_true, cond_false]
        exact hh3 X Z hX⟩
  obtain ⟨o, ho, hh⟩ := key 12 13 0 ⟨[], [], [], []⟩ a0 (by omega) (by omega) (by omega) (by omega) rfl rfl hg
  refine ⟨o, ho, 13, fun {R} k => ?_⟩
  rw [f86_run]
  exact hh _ (fun w c => k [.d .work w, .d .cur c]) (fun _ _ _ _ _ _ _ _ _ => rfl)

theorem f86_ne (a0 : CurT) : Nonempty {o : WorkT × CurT // gCur a0 = true → f86_P a0 o} := by
  by_cases hg : gCur a0 = true
  · obtain ⟨o, ho⟩ := f86_ex a0 hg
    exact ⟨⟨o, fun _ => ho⟩⟩
  · exact ⟨⟨((zero .work), (zero .cur)), fun h => absurd h hg⟩⟩
noncomputable def wRight (a0 : CurT) : WorkT × CurT := (Classical.choice (f86_ne a0)).val
theorem f86_sp (a0 : CurT) (hg : gCur a0 = true) : f86_P a0 (wRight a0) := (Classical.choice (f86_ne a0)).property hg
theorem wRight_ok (a0 : CurT) (hg : gCur a0 = true) : (fun _ o => workQOk o.1 = true ∧ sm_work o.1 = true ∧ gCur o.2 = true) a0 (wRight a0) := (f86_sp a0 hg).1
theorem f86_spec (a0 : CurT) (hg : gCur a0 = true) : ∃ keep rounds, ∀ {R : Type} (k : List Dt → Option R), evFn f86e keep rounds f86c [.pmut] [false] true [.cell 2 30] [30] [.d .cur a0] k = k [.d .work ((wRight a0).1), .d .cur ((wRight a0).2)] := by
  obtain ⟨n, hn⟩ := (f86_sp a0 hg).2
  exact ⟨f86k, n, hn⟩

noncomputable def q86 : List Dt → Option (Bool × List Dt)
  | [.d .cur a0] => some ((gCur a0), [.d .work ((wRight a0).1), .d .cur ((wRight a0).2)])
  | _ => none
noncomputable def s86 : Gm.Spec := Gm.Spec.of [.pmut] [false] true q86
theorem good86 : Gm.Good Try.prog (86, s86) := by
  have hl : ∀ x ∈ [(25, s25), (28, s28), (32, s32), (66, s66), (68, s68), (69, s69)], Gm.Good Try.prog x := List.forall_mem_cons.2 ⟨good25, List.forall_mem_cons.2 ⟨good28, List.forall_mem_cons.2 ⟨good32, List.forall_mem_cons.2 ⟨good66, List.forall_mem_cons.2 ⟨good68, List.forall_mem_cons.2 ⟨good69, List.forall_mem_nil _⟩⟩⟩⟩⟩⟩
  refine ⟨⟨spec_ok (tab_ok.env hl) (tab.natl hl) Try.func86 (by kernel_rfl : Try.f86.body = some f86c) [30] (by kernel_rfl) ?_, _, Try.func86, by kernel_rfl, of_decide_eq_true (by kernel_rfl)⟩, Gm.Spec.of_natl _ _ _ _⟩
  intro ds outs h
  unfold q86 at h
  split at h
  · simp only [Option.some.injEq, Prod.mk.injEq] at h; obtain ⟨hg, h⟩ := h; cases h; exact f86_spec _ hg
  · cases h
/-! ### loop.example/g00465/spec.l27Draw -/
noncomputable def f65c : Code := (Try.f65.body).getD .skip
def f65k : Nat → Kp := kat [⟨[0, 2], [], [], []⟩, ⟨[0, 2, 3], [], [], []⟩, ⟨[0, 2, 3, 7], [], [], []⟩, ⟨[0, 2, 3, 7, 8], [], [], []⟩, ⟨[0, 2, 3], [], [], []⟩, ⟨[0, 2, 3, 7, 18], [], [], []⟩, ⟨[0, 2, 3], [], [], []⟩, ⟨[0, 2, 3, 27], [], [], []⟩, ⟨[0, 2, 3], [], [], []⟩, ⟨[0, 2], [], [], []⟩]
noncomputable def f65e : Env := tab.env [(67, s67), (68, s68), (69, s69), (86, s86), (87, s87)]
theorem f65_run {R : Type} (n : Nat) (k : List Dt → Option R) (a0 : CurT) : evFn f65e f65k n f65c [.pmut] [false] true [.cell 2 30] [30] [.d .cur a0] k =
    (cond (gCur a0)
    (cond ((fun c _ => gCur c) ((wRight a0).2) (10 : Int))
      (cond (((curBelow ((wRight a0).2) (10 : Int)).1) == (0 : Int))
        (cond (gPickS ((curBelow ((wRight a0).2) (10 : Int)).2) ([ByteArray.empty, (bs [97]), (bs [65]), (bs [113])] : List ByteArray))
          (cond (Nat.ble ((WorkT.list ((wRight a0).1)).length + 1) LIM)
            (k [.d .work (⟨((WorkT.list ((wRight a0).1)) ++ ([((curPick ((curBelow ((wRight a0).2) (10 : Int)).2) ([ByteArray.empty, (bs [97]), (bs [65]), (bs [113])] : List ByteArray)).1)] : List ByteArray)), (WorkT.busy ((wRight a0).1)), (WorkT.again ((wRight a0).1)), (WorkT.fails ((wRight a0).1))⟩ : WorkT), .d .cur ((curPick ((curBelow ((wRight a0).2) (10 : Int)).2) ([ByteArray.empty, (bs [97]), (bs [65]), (bs [113])] : List ByteArray)).2)])
            none)
          none)
        (cond (((curBelow ((wRight a0).2) (10 : Int)).1) == (1 : Int))
          (cond (gCur ((curBelow ((wRight a0).2) (10 : Int)).2))
            (cond (Nat.ble ((WorkT.again ((wRight a0).1)).length + 1) LIM)
              (k [.d .work (⟨(WorkT.list ((wRight a0).1)), (WorkT.busy ((wRight a0).1)), ((WorkT.again ((wRight a0).1)) ++ ([((wName ((curBelow ((wRight a0).2) (10 : Int)).2)).1)] : List ByteArray)), (WorkT.fails ((wRight a0).1))⟩ : WorkT), .d .cur ((wName ((curBelow ((wRight a0).2) (10 : Int)).2)).2)])
              none)
            none)
          (cond (((curBelow ((wRight a0).2) (10 : Int)).1) == (2 : Int))
            (cond (gCur ((curBelow ((wRight a0).2) (10 : Int)).2))
              (cond (gPickI ((wName ((curBelow ((wRight a0).2) (10 : Int)).2)).2) ([(0 : Int), (1 : Int), (9 : Int), (20 : Int), (21 : Int), (-9223372036854775807 : Int)] : List Int))
                (cond (Nat.ble ((WorkT.fails ((wRight a0).1)).length + 1) LIM)
                  (k [.d .work (⟨(WorkT.list ((wRight a0).1)), (WorkT.busy ((wRight a0).1)), (WorkT.again ((wRight a0).1)), ((WorkT.fails ((wRight a0).1)) ++ ([(⟨((wName ((curBelow ((wRight a0).2) (10 : Int)).2)).1), ((curPickI ((wName ((curBelow ((wRight a0).2) (10 : Int)).2)).2) ([(0 : Int), (1 : Int), (9 : Int), (20 : Int), (21 : Int), (-9223372036854775807 : Int)] : List Int)).1)⟩ : FailT)] : List FailT))⟩ : WorkT), .d .cur ((curPickI ((wName ((curBelow ((wRight a0).2) (10 : Int)).2)).2) ([(0 : Int), (1 : Int), (9 : Int), (20 : Int), (21 : Int), (-9223372036854775807 : Int)] : List Int)).2)])
                  none)
                none)
              none)
            (k [.d .work ((wRight a0).1), .d .cur ((curBelow ((wRight a0).2) (10 : Int)).2)]))))
      none)
    none) := by kernel_rfl
def f65_P (a0 : CurT) (o : WorkT × CurT) : Prop := (fun _ o => sm_work o.1 = true ∧ gCur o.2 = true) a0 o ∧ ∃ n : Nat, ∀ {R : Type} (k : List Dt → Option R), evFn f65e f65k n f65c [.pmut] [false] true [.cell 2 30] [30] [.d .cur a0] k = k [.d .work o.1, .d .cur o.2]
theorem f65_ex (a0 : CurT) (hg : gCur a0 = true) : ∃ o : WorkT × CurT, (fun _ o => sm_work o.1 = true ∧ gCur o.2 = true) a0 o ∧ ∃ n : Nat, ∀ {R : Type} (k : List Dt → Option R), evFn f65e f65k n f65c [.pmut] [false] true [.cell 2 30] [30] [.d .cur a0] k = k [.d .work o.1, .d .cur o.2] := by
  obtain ⟨hq, hs, g1⟩ := wRight_ok a0 hg
  obtain ⟨_, _, g2⟩ := curBelow_ok _ 10 g1
  obtain ⟨l1, l2, l3⟩ := qOk_len hq
  have l4 := qOk_fails hq
  have b1 := ble_lim (Nat.le_of_lt l1)
  have b3 := ble_lim (Nat.le_of_lt l3)
  have b4 := ble_lim (n := (wRight a0).1.fails.length) (by omega)
  obtain ⟨s1, s2, s3, s4⟩ : smL smStr (wRight a0).1.list = true ∧ smL smStr (wRight a0).1.busy = true ∧ smL smStr (wRight a0).1.again = true ∧ smL sm_fail (wRight a0).1.fails = true := by
    simpa only [sm_work, Bool.and_eq_true] using hs
  cases e0 : ((curBelow (wRight a0).2 10).1 == (0 : Int))
  rotate_left
  · have hp := gPickS_of (l := ([ByteArray.empty, (bs [97]), (bs [65]), (bs [113])] : List ByteArray)) g2 rfl
    obtain ⟨hm, g3⟩ := curPick_ok _ _ hp
    have := smStr_in hm (by decide)
    refine ⟨(?a0z0, ?a1z0), ?gz0, 0, ?rz0⟩
    case rz0 =>
      intro R k
      rw [f65_run]
      simp only [hg, g1, g2, e0, hp, b1, cond_true, cond_false, Bool.not_true, Bool.not_false]
      exact rfl
    case gz0 => exact ⟨by simp only [sm_work, Bool.and_eq_true]; exact ⟨smL_snoc s1 this l1, s2, s3, s4⟩, g3⟩
  cases e1 : ((curBelow (wRight a0).2 10).1 == (1 : Int))
  rotate_left
  · obtain ⟨sn, g3⟩ := wName_ok _ g2
    refine ⟨(?a0z1, ?a1z1), ?gz1, 0, ?rz1⟩
    case rz1 =>
      intro R k
      rw [f65_run]
      simp only [hg, g1, g2, e0, e1, b3, cond_true, cond_false, Bool.not_true, Bool.not_false]
      exact rfl
    case gz1 => exact ⟨by simp only [sm_work, Bool.and_eq_true]; exact ⟨s1, s2, smL_snoc s3 sn l3, s4⟩, g3⟩
  cases e2 : ((curBelow (wRight a0).2 10).1 == (2 : Int))
  rotate_left
  · obtain ⟨sn, g3⟩ := wName_ok _ g2
    have hp := gPickI_of (l := ([(0 : Int), (1 : Int), (9 : Int), (20 : Int), (21 : Int), (-9223372036854775807 : Int)] : List Int)) g3 rfl
    obtain ⟨hm, g4⟩ := curPickI_ok _ _ hp
    have hi := List.all_eq_true.1 (show (([(0 : Int), (1 : Int), (9 : Int), (20 : Int), (21 : Int), (-9223372036854775807 : Int)] : List Int).all okI) = true by decide) _ hm
    refine ⟨(?a0z2, ?a1z2), ?gz2, 0, ?rz2⟩
    case rz2 =>
      intro R k
      rw [f65_run]
      simp only [hg, g1, g2, e0, e1, e2, g3, hp, b4, cond_true, cond_false, Bool.not_true, Bool.not_false]
      exact rfl
    case gz2 => exact ⟨by simp only [sm_work, Bool.and_eq_true]; exact ⟨s1, s2, s3, smL_snoc s4 (by simp only [sm_fail, Bool.and_eq_true]; exact ⟨sn, hi⟩) (by omega)⟩, g4⟩
  refine ⟨(?a0z3, ?a1z3), ?gz3, 0, ?rz3⟩
  case rz3 =>
    intro R k
    rw [f65_run]
    simp only [hg, g1, e0, e1, e2, cond_true, cond_false, Bool.not_true, Bool.not_false]
    exact rfl
  case gz3 => exact ⟨hs, g2⟩

theorem f65_ne (a0 : CurT) : Nonempty {o : WorkT × CurT // gCur a0 = true → f65_P a0 o} := by
  by_cases hg : gCur a0 = true
  · obtain ⟨o, ho⟩ := f65_ex a0 hg
    exact ⟨⟨o, fun _ => ho⟩⟩
  · exact ⟨⟨((zero .work), (zero .cur)), fun h => absurd h hg⟩⟩
noncomputable def wDraw (a0 : CurT) : WorkT × CurT := (Classical.choice (f65_ne a0)).val
theorem f65_sp (a0 : CurT) (hg : gCur a0 = true) : f65_P a0 (wDraw a0) := (Classical.choice (f65_ne a0)).property hg
theorem wDraw_ok (a0 : CurT) (hg : gCur a0 = true) : (fun _ o => sm_work o.1 = true ∧ gCur o.2 = true) a0 (wDraw a0) := (f65_sp a0 hg).1
theorem f65_spec (a0 : CurT) (hg : gCur a0 = true) : ∃ keep rounds, ∀ {R : Type} (k : List Dt → Option R), evFn f65e keep rounds f65c [.pmut] [false] true [.cell 2 30] [30] [.d .cur a0] k = k [.d .work ((wDraw a0).1), .d .cur ((wDraw a0).2)] := by
  obtain ⟨n, hn⟩ := (f65_sp a0 hg).2
  exact ⟨f65k, n, hn⟩

noncomputable def q65 : List Dt → Option (Bool × List Dt)
  | [.d .cur a0] => some ((gCur a0), [.d .work ((wDraw a0).1), .d .cur ((wDraw a0).2)])
  | _ => none
noncomputable def s65 : Gm.Spec := Gm.Spec.of [.pmut] [false] true q65
theorem good65 : Gm.Good Try.prog (65, s65) := by
  have hl : ∀ x ∈ [(67, s67), (68, s68), (69, s69), (86, s86), (87, s87)], Gm.Good Try.prog x := List.forall_mem_cons.2 ⟨good67, List.forall_mem_cons.2 ⟨good68, List.forall_mem_cons.2 ⟨good69, List.forall_mem_cons.2 ⟨good86, List.forall_mem_cons.2 ⟨good87, List.forall_mem_nil _⟩⟩⟩⟩⟩
  refine ⟨⟨spec_ok (tab_ok.env hl) (tab.natl hl) Try.func65 (by kernel_rfl : Try.f65.body = some f65c) [30] (by kernel_rfl) ?_, _, Try.func65, by kernel_rfl, of_decide_eq_true (by kernel_rfl)⟩, Gm.Spec.of_natl _ _ _ _⟩
  intro ds outs h
  unfold q65 at h
  split at h
  · simp only [Option.some.injEq, Prod.mk.injEq] at h; obtain ⟨hg, h⟩ := h; cases h; exact f65_spec _ hg
  · cases h
/-! ### loop.example/g00465/spec.DrawWorkQOk -/
noncomputable def f33c : Code := (Try.f33.body).getD .skip
def f33k : Nat → Kp := kat [⟨[0, 2], [], [], []⟩, ⟨[2], [], [], []⟩]
noncomputable def f33e : Env := tab.env [(64, s64), (65, s65)]
theorem f33_run {R : Type} (n : Nat) (k : List Dt → Option R) (a0 : List Int) : evFn f33e f33k n f33c [.kp] [false] true [.cell 2 30] [30] [.d (.sl (.i .u8)) a0] k =
    (cond (gCode a0)
    (cond (gCur (curNew a0))
      (k [.d .work ((wDraw (curNew a0)).1)])
      none)
    none) := by kernel_rfl
def f33_P (a0 : List Int) (o : WorkT) : Prop := (fun _ o => sm_work o = true) a0 o ∧ ∃ n : Nat, ∀ {R : Type} (k : List Dt → Option R), evFn f33e f33k n f33c [.kp] [false] true [.cell 2 30] [30] [.d (.sl (.i .u8)) a0] k = k [.d .work o]
theorem f33_ex (a0 : List Int) (hg : gCode a0 = true) : ∃ o : WorkT, (fun _ o => sm_work o = true) a0 o ∧ ∃ n : Nat, ∀ {R : Type} (k : List Dt → Option R), evFn f33e f33k n f33c [.kp] [false] true [.cell 2 30] [30] [.d (.sl (.i .u8)) a0] k = k [.d .work o] := by
  have g0 := curNew_ok a0 hg
  obtain ⟨hs, g1⟩ := wDraw_ok _ g0
  refine ⟨?a0z0, ?gz0, 0, ?rz0⟩
  case rz0 =>
    intro R k
    rw [f33_run]
    simp only [hg, g0, cond_true, cond_false, Bool.not_true, Bool.not_false]
    exact rfl
  case gz0 => exact hs

theorem f33_ne (a0 : List Int) : Nonempty {o : WorkT // gCode a0 = true → f33_P a0 o} := by
  by_cases hg : gCode a0 = true
  · obtain ⟨o, ho⟩ := f33_ex a0 hg
    exact ⟨⟨o, fun _ => ho⟩⟩
  · exact ⟨⟨((zero .work)), fun h => absurd h hg⟩⟩
noncomputable def dQOk (a0 : List Int) : WorkT := (Classical.choice (f33_ne a0)).val
theorem f33_sp (a0 : List Int) (hg : gCode a0 = true) : f33_P a0 (dQOk a0) := (Classical.choice (f33_ne a0)).property hg
theorem dQOk_ok (a0 : List Int) (hg : gCode a0 = true) : (fun _ o => sm_work o = true) a0 (dQOk a0) := (f33_sp a0 hg).1
theorem f33_spec (a0 : List Int) (hg : gCode a0 = true) : ∃ keep rounds, ∀ {R : Type} (k : List Dt → Option R), evFn f33e keep rounds f33c [.kp] [false] true [.cell 2 30] [30] [.d (.sl (.i .u8)) a0] k = k [.d .work (dQOk a0)] := by
  obtain ⟨n, hn⟩ := (f33_sp a0 hg).2
  exact ⟨f33k, n, hn⟩

noncomputable def q33 : List Dt → Option (Bool × List Dt)
  | [.d (.sl (.i .u8)) a0] => some ((gCode a0), [.d .work (dQOk a0)])
  | _ => none
noncomputable def s33 : Gm.Spec := Gm.Spec.of [.kp] [false] true q33
theorem good33 : Gm.Good Try.prog (33, s33) := by
  have hl : ∀ x ∈ [(64, s64), (65, s65)], Gm.Good Try.prog x := List.forall_mem_cons.2 ⟨good64, List.forall_mem_cons.2 ⟨good65, List.forall_mem_nil _⟩⟩
  refine ⟨⟨spec_ok (tab_ok.env hl) (tab.natl hl) Try.func33 (by kernel_rfl : Try.f33.body = some f33c) [30] (by kernel_rfl) ?_, _, Try.func33, by kernel_rfl, of_decide_eq_true (by kernel_rfl)⟩, Gm.Spec.of_natl _ _ _ _⟩
  intro ds outs h
  unfold q33 at h
  split at h
  · simp only [Option.some.injEq, Prod.mk.injEq] at h; obtain ⟨hg, h⟩ := h; cases h; exact f33_spec _ hg
  · cases h
/-! ### loop.example/g00465/spec.DrawWorkTake -/
noncomputable def f30c : Code := (Try.f30.body).getD .skip
def f30k : Nat → Kp := kat [⟨[0, 2], [], [], []⟩, ⟨[2], [], [], []⟩]
noncomputable def f30e : Env := tab.env [(64, s64), (65, s65)]
theorem f30_run {R : Type} (n : Nat) (k : List Dt → Option R) (a0 : List Int) : evFn f30e f30k n f30c [.kp] [false] true [.cell 2 30] [30] [.d (.sl (.i .u8)) a0] k =
    (cond (gCode a0)
    (cond (gCur (curNew a0))
      (k [.d .work ((wDraw (curNew a0)).1)])
      none)
    none) := by kernel_rfl
def f30_P (a0 : List Int) (o : WorkT) : Prop := (fun _ o => sm_work o = true) a0 o ∧ ∃ n : Nat, ∀ {R : Type} (k : List Dt → Option R), evFn f30e f30k n f30c [.kp] [false] true [.cell 2 30] [30] [.d (.sl (.i .u8)) a0] k = k [.d .work o]
theorem f30_ex (a0 : List Int) (hg : gCode a0 = true) : ∃ o : WorkT, (fun _ o => sm_work o = true) a0 o ∧ ∃ n : Nat, ∀ {R : Type} (k : List Dt → Option R), evFn f30e f30k n f30c [.kp] [false] true [.cell 2 30] [30] [.d (.sl (.i .u8)) a0] k = k [.d .work o] := by
  have g0 := curNew_ok a0 hg
  obtain ⟨hs, g1⟩ := wDraw_ok _ g0
  refine ⟨?a0z0, ?gz0, 0, ?rz0⟩
  case rz0 =>
    intro R k
    rw [f30_run]
    simp only [hg, g0, cond_true, cond_false, Bool.not_true, Bool.not_false]
    exact rfl
  case gz0 => exact hs

theorem f30_ne (a0 : List Int) : Nonempty {o : WorkT // gCode a0 = true → f30_P a0 o} := by
  by_cases hg : gCode a0 = true
  · obtain ⟨o, ho⟩ := f30_ex a0 hg
    exact ⟨⟨o, fun _ => ho⟩⟩
  · exact ⟨⟨((zero .work)), fun h => absurd h hg⟩⟩
noncomputable def dTake (a0 : List Int) : WorkT := (Classical.choice (f30_ne a0)).val
theorem f30_sp (a0 : List Int) (hg : gCode a0 = true) : f30_P a0 (dTake a0) := (Classical.choice (f30_ne a0)).property hg
theorem dTake_ok (a0 : List Int) (hg : gCode a0 = true) : (fun _ o => sm_work o = true) a0 (dTake a0) := (f30_sp a0 hg).1
theorem f30_spec (a0 : List Int) (hg : gCode a0 = true) : ∃ keep rounds, ∀ {R : Type} (k : List Dt → Option R), evFn f30e keep rounds f30c [.kp] [false] true [.cell 2 30] [30] [.d (.sl (.i .u8)) a0] k = k [.d .work (dTake a0)] := by
  obtain ⟨n, hn⟩ := (f30_sp a0 hg).2
  exact ⟨f30k, n, hn⟩

noncomputable def q30 : List Dt → Option (Bool × List Dt)
  | [.d (.sl (.i .u8)) a0] => some ((gCode a0), [.d .work (dTake a0)])
  | _ => none
noncomputable def s30 : Gm.Spec := Gm.Spec.of [.kp] [false] true q30
theorem good30 : Gm.Good Try.prog (30, s30) := by
  have hl : ∀ x ∈ [(64, s64), (65, s65)], Gm.Good Try.prog x := List.forall_mem_cons.2 ⟨good64, List.forall_mem_cons.2 ⟨good65, List.forall_mem_nil _⟩⟩
  refine ⟨⟨spec_ok (tab_ok.env hl) (tab.natl hl) Try.func30 (by kernel_rfl : Try.f30.body = some f30c) [30] (by kernel_rfl) ?_, _, Try.func30, by kernel_rfl, of_decide_eq_true (by kernel_rfl)⟩, Gm.Spec.of_natl _ _ _ _⟩
  intro ds outs h
  unfold q30 at h
  split at h
  · simp only [Option.some.injEq, Prod.mk.injEq] at h; obtain ⟨hg, h⟩ := h; cases h; exact f30_spec _ hg
  · cases h
/-! ### loop.example/g00465/spec.DrawWorkAdd -/
noncomputable def f29c : Code := (Try.f29.body).getD .skip
def f29k : Nat → Kp := kat [⟨[0, 2], [], [], []⟩, ⟨[2, 4], [], [], []⟩, ⟨[2, 4, 5], [], [], []⟩, ⟨[2, 4, 5, 11], [], [], []⟩, ⟨[2, 3], [], [], []⟩, ⟨[2, 3], [], [], []⟩]
noncomputable def f29e : Env := tab.env [(64, s64), (65, s65), (66, s66), (67, s67), (68, s68)]
theorem f29_run {R : Type} (n : Nat) (k : List Dt → Option R) (a0 : List Int) : evFn f29e f29k n f29c [.kp] [false, false] true [.cell 2 30, .tmp 3] [30, 9] [.d (.sl (.i .u8)) a0] k =
    (cond (gCode a0)
    (cond (gCur (curNew a0))
      (cond ((fun c _ => gCur c) ((wDraw (curNew a0)).2) (8 : Int))
        (cond ((curOnce ((wDraw (curNew a0)).2) (8 : Int)).1)
          (cond (gPickS ((curOnce ((wDraw (curNew a0)).2) (8 : Int)).2) ([ByteArray.empty, (bs [65])] : List ByteArray))
            (k [.d .work ((wDraw (curNew a0)).1), .d .str ((curPick ((curOnce ((wDraw (curNew a0)).2) (8 : Int)).2) ([ByteArray.empty, (bs [65])] : List ByteArray)).1)])
            none)
          (cond (gCur ((curOnce ((wDraw (curNew a0)).2) (8 : Int)).2))
            (k [.d .work ((wDraw (curNew a0)).1), .d .str ((wName ((curOnce ((wDraw (curNew a0)).2) (8 : Int)).2)).1)])
            none))
        none)
      none)
    none) := by kernel_rfl
def f29_P (a0 : List Int) (o : WorkT × ByteArray) : Prop := (fun _ o => sm_work o.1 = true ∧ smStr o.2 = true) a0 o ∧ ∃ n : Nat, ∀ {R : Type} (k : List Dt → Option R), evFn f29e f29k n f29c [.kp] [false, false] true [.cell 2 30, .tmp 3] [30, 9] [.d (.sl (.i .u8)) a0] k = k [.d .work o.1, .d .str o.2]
theorem f29_ex (a0 : List Int) (hg : gCode a0 = true) : ∃ o : WorkT × ByteArray, (fun _ o => sm_work o.1 = true ∧ smStr o.2 = true) a0 o ∧ ∃ n : Nat, ∀ {R : Type} (k : List Dt → Option R), evFn f29e f29k n f29c [.kp] [false, false] true [.cell 2 30, .tmp 3] [30, 9] [.d (.sl (.i .u8)) a0] k = k [.d .work o.1, .d .str o.2] := by
  have g0 := curNew_ok a0 hg
  obtain ⟨hs, g1⟩ := wDraw_ok _ g0
  have g2 := curOnce_ok _ 8 g1
  cases e : (curOnce (wDraw (curNew a0)).2 8).1
  · obtain ⟨sn, g3⟩ := wName_ok _ g2
    refine ⟨(?a0z0, ?a1z0), ?gz0, 0, ?rz0⟩
    case rz0 =>
      intro R k
      rw [f29_run]
      simp only [hg, g0, g1, g2, e, cond_true, cond_false, Bool.not_true, Bool.not_false]
      exact rfl
    case gz0 => exact ⟨hs, sn⟩
  · have hp := gPickS_of (l := ([ByteArray.empty, (bs [65])] : List ByteArray)) g2 rfl
    obtain ⟨hm, g3⟩ := curPick_ok _ _ hp
    refine ⟨(?a0z1, ?a1z1), ?gz1, 0, ?rz1⟩
    case rz1 =>
      intro R k
      rw [f29_run]
      simp only [hg, g0, g1, g2, e, hp, cond_true, cond_false, Bool.not_true, Bool.not_false]
      exact rfl
    case gz1 => exact ⟨hs, smStr_in hm (by decide)⟩

theorem f29_ne (a0 : List Int) : Nonempty {o : WorkT × ByteArray // gCode a0 = true → f29_P a0 o} := by
  by_cases hg : gCode a0 = true
  · obtain ⟨o, ho⟩ := f29_ex a0 hg
    exact ⟨⟨o, fun _ => ho⟩⟩
  · exact ⟨⟨((zero .work), (zero .str)), fun h => absurd h hg⟩⟩
noncomputable def dAdd (a0 : List Int) : WorkT × ByteArray := (Classical.choice (f29_ne a0)).val
theorem f29_sp (a0 : List Int) (hg : gCode a0 = true) : f29_P a0 (dAdd a0) := (Classical.choice (f29_ne a0)).property hg
theorem dAdd_ok (a0 : List Int) (hg : gCode a0 = true) : (fun _ o => sm_work o.1 = true ∧ smStr o.2 = true) a0 (dAdd a0) := (f29_sp a0 hg).1
theorem f29_spec (a0 : List Int) (hg : gCode a0 = true) : ∃ keep rounds, ∀ {R : Type} (k : List Dt → Option R), evFn f29e keep rounds f29c [.kp] [false, false] true [.cell 2 30, .tmp 3] [30, 9] [.d (.sl (.i .u8)) a0] k = k [.d .work ((dAdd a0).1), .d .str ((dAdd a0).2)] := by
  obtain ⟨n, hn⟩ := (f29_sp a0 hg).2
  exact ⟨f29k, n, hn⟩

noncomputable def q29 : List Dt → Option (Bool × List Dt)
  | [.d (.sl (.i .u8)) a0] => some ((gCode a0), [.d .work ((dAdd a0).1), .d .str ((dAdd a0).2)])
  | _ => none
noncomputable def s29 : Gm.Spec := Gm.Spec.of [.kp] [false, false] true q29
theorem good29 : Gm.Good Try.prog (29, s29) := by
  have hl : ∀ x ∈ [(64, s64), (65, s65), (66, s66), (67, s67), (68, s68)], Gm.Good Try.prog x := List.forall_mem_cons.2 ⟨good64, List.forall_mem_cons.2 ⟨good65, List.forall_mem_cons.2 ⟨good66, List.forall_mem_cons.2 ⟨good67, List.forall_mem_cons.2 ⟨good68, List.forall_mem_nil _⟩⟩⟩⟩⟩
  refine ⟨⟨spec_ok (tab_ok.env hl) (tab.natl hl) Try.func29 (by kernel_rfl : Try.f29.body = some f29c) [30, 9] (by kernel_rfl) ?_, _, Try.func29, by kernel_rfl, of_decide_eq_true (by kernel_rfl)⟩, Gm.Spec.of_natl _ _ _ _⟩
  intro ds outs h
  unfold q29 at h
  split at h
  · simp only [Option.some.injEq, Prod.mk.injEq] at h; obtain ⟨hg, h⟩ := h; cases h; exact f29_spec _ hg
  · cases h
/-! ### loop.example/g00465/spec.DrawWaitOf -/
noncomputable def f34c : Code := (Try.f34.body).getD .skip
def f34k : Nat → Kp := kat [⟨[0, 2], [], [], []⟩, ⟨[2, 4], [], [], []⟩, ⟨[2, 4, 5], [], [], []⟩, ⟨[2, 4, 5, 11], [], [], []⟩, ⟨[2, 3], [], [], []⟩, ⟨[2, 3], [], [], []⟩]
noncomputable def f34e : Env := tab.env [(64, s64), (65, s65), (66, s66), (67, s67), (68, s68)]
theorem f34_run {R : Type} (n : Nat) (k : List Dt → Option R) (a0 : List Int) : evFn f34e f34k n f34c [.kp] [false, false] true [.cell 2 30, .tmp 3] [30, 9] [.d (.sl (.i .u8)) a0] k =
    (cond (gCode a0)
    (cond (gCur (curNew a0))
      (cond ((fun c _ => gCur c) ((wDraw (curNew a0)).2) (8 : Int))
        (cond ((curOnce ((wDraw (curNew a0)).2) (8 : Int)).1)
          (cond (gPickS ((curOnce ((wDraw (curNew a0)).2) (8 : Int)).2) ([ByteArray.empty, (bs [65])] : List ByteArray))
            (k [.d .work ((wDraw (curNew a0)).1), .d .str ((curPick ((curOnce ((wDraw (curNew a0)).2) (8 : Int)).2) ([ByteArray.empty, (bs [65])] : List ByteArray)).1)])
            none)
          (cond (gCur ((curOnce ((wDraw (curNew a0)).2) (8 : Int)).2))
            (k [.d .work ((wDraw (curNew a0)).1), .d .str ((wName ((curOnce ((wDraw (curNew a0)).2) (8 : Int)).2)).1)])
            none))
        none)
      none)
    none) := by kernel_rfl
def f34_P (a0 : List Int) (o : WorkT × ByteArray) : Prop := (fun _ o => sm_work o.1 = true ∧ smStr o.2 = true) a0 o ∧ ∃ n : Nat, ∀ {R : Type} (k : List Dt → Option R), evFn f34e f34k n f34c [.kp] [false, false] true [.cell 2 30, .tmp 3] [30, 9] [.d (.sl (.i .u8)) a0] k = k [.d .work o.1, .d .str o.2]
theorem f34_ex (a0 : List Int) (hg : gCode a0 = true) : ∃ o : WorkT × ByteArray, (fun _ o => sm_work o.1 = true ∧ smStr o.2 = true) a0 o ∧ ∃ n : Nat, ∀ {R : Type} (k : List Dt → Option R), evFn f34e f34k n f34c [.kp] [false, false] true [.cell 2 30, .tmp 3] [30, 9] [.d (.sl (.i .u8)) a0] k = k [.d .work o.1, .d .str o.2] := by
  have g0 := curNew_ok a0 hg
  obtain ⟨hs, g1⟩ := wDraw_ok _ g0
  have g2 := curOnce_ok _ 8 g1
  cases e : (curOnce (wDraw (curNew a0)).2 8).1
  · obtain ⟨sn, g3⟩ := wName_ok _ g2
    refine ⟨(?a0z0, ?a1z0), ?gz0, 0, ?rz0⟩
    case rz0 =>
      intro R k
      rw [f34_run]
      simp only [hg, g0, g1, g2, e, cond_true, cond_false, Bool.not_true, Bool.not_false]
      exact rfl
    case gz0 => exact ⟨hs, sn⟩
  · have hp := gPickS_of (l := ([ByteArray.empty, (bs [65])] : List ByteArray)) g2 rfl
    obtain ⟨hm, g3⟩ := curPick_ok _ _ hp
    refine ⟨(?a0z1, ?a1z1), ?gz1, 0, ?rz1⟩
    case rz1 =>
      intro R k
      rw [f34_run]
      simp only [hg, g0, g1, g2, e, hp, cond_true, cond_false, Bool.not_true, Bool.not_false]
      exact rfl
    case gz1 => exact ⟨hs, smStr_in hm (by decide)⟩

theorem f34_ne (a0 : List Int) : Nonempty {o : WorkT × ByteArray // gCode a0 = true → f34_P a0 o} := by
  by_cases hg : gCode a0 = true
  · obtain ⟨o, ho⟩ := f34_ex a0 hg
    exact ⟨⟨o, fun _ => ho⟩⟩
  · exact ⟨⟨((zero .work), (zero .str)), fun h => absurd h hg⟩⟩
noncomputable def dWait (a0 : List Int) : WorkT × ByteArray := (Classical.choice (f34_ne a0)).val
theorem f34_sp (a0 : List Int) (hg : gCode a0 = true) : f34_P a0 (dWait a0) := (Classical.choice (f34_ne a0)).property hg
theorem dWait_ok (a0 : List Int) (hg : gCode a0 = true) : (fun _ o => sm_work o.1 = true ∧ smStr o.2 = true) a0 (dWait a0) := (f34_sp a0 hg).1
theorem f34_spec (a0 : List Int) (hg : gCode a0 = true) : ∃ keep rounds, ∀ {R : Type} (k : List Dt → Option R), evFn f34e keep rounds f34c [.kp] [false, false] true [.cell 2 30, .tmp 3] [30, 9] [.d (.sl (.i .u8)) a0] k = k [.d .work ((dWait a0).1), .d .str ((dWait a0).2)] := by
  obtain ⟨n, hn⟩ := (f34_sp a0 hg).2
  exact ⟨f34k, n, hn⟩

noncomputable def q34 : List Dt → Option (Bool × List Dt)
  | [.d (.sl (.i .u8)) a0] => some ((gCode a0), [.d .work ((dWait a0).1), .d .str ((dWait a0).2)])
  | _ => none
noncomputable def s34 : Gm.Spec := Gm.Spec.of [.kp] [false, false] true q34
theorem good34 : Gm.Good Try.prog (34, s34) := by
  have hl : ∀ x ∈ [(64, s64), (65, s65), (66, s66), (67, s67), (68, s68)], Gm.Good Try.prog x := List.forall_mem_cons.2 ⟨good64, List.forall_mem_cons.2 ⟨good65, List.forall_mem_cons.2 ⟨good66, List.forall_mem_cons.2 ⟨good67, List.forall_mem_cons.2 ⟨good68, List.forall_mem_nil _⟩⟩⟩⟩⟩
  refine ⟨⟨spec_ok (tab_ok.env hl) (tab.natl hl) Try.func34 (by kernel_rfl : Try.f34.body = some f34c) [30, 9] (by kernel_rfl) ?_, _, Try.func34, by kernel_rfl, of_decide_eq_true (by kernel_rfl)⟩, Gm.Spec.of_natl _ _ _ _⟩
  intro ds outs h
  unfold q34 at h
  split at h
  · simp only [Option.some.injEq, Prod.mk.injEq] at h; obtain ⟨hg, h⟩ := h; cases h; exact f34_spec _ hg
  · cases h
/-! ### loop.example/g00465/spec.DrawWorkDone -/
noncomputable def f31c : Code := (Try.f31.body).getD .skip
def f31k : Nat → Kp := kat [⟨[0, 2], [], [], []⟩, ⟨[2, 5], [], [], []⟩, ⟨[2, 5, 6], [], [], []⟩, ⟨[2, 5, 6, 20], [], [], []⟩, ⟨[2, 3, 4], [], [], []⟩, ⟨[2, 5, 6, 7], [], [], []⟩, ⟨[2, 3, 4], [], [], []⟩]
noncomputable def f31e : Env := tab.env [(64, s64), (65, s65), (66, s66), (68, s68), (69, s69)]
theorem f31_run {R : Type} (n : Nat) (k : List Dt → Option R) (a0 : List Int) : evFn f31e f31k n f31c [.kp] [false, false, false] true [.cell 2 30, .tmp 3, .tmp 4] [30, 9, 4] [.d (.sl (.i .u8)) a0] k =
    (cond (gCode a0)
    (cond (gCur (curNew a0))
      (cond (decide (((WorkT.busy ((wDraw (curNew a0)).1)).length : Int) > (0 : Int)))
        (cond ((fun c _ => gCur c) ((wDraw (curNew a0)).2) (3 : Int))
          (cond (!((curOnce ((wDraw (curNew a0)).2) (3 : Int)).1))
            (cond ((fun c _ => gCur c) ((curOnce ((wDraw (curNew a0)).2) (3 : Int)).2) ((WorkT.busy ((wDraw (curNew a0)).1)).length : Int))
              (cond ((decide ((0 : Int) ≤ ((curBelow ((curOnce ((wDraw (curNew a0)).2) (3 : Int)).2) ((WorkT.busy ((wDraw (curNew a0)).1)).length : Int)).1))) && (decide (((curBelow ((curOnce ((wDraw (curNew a0)).2) (3 : Int)).2) ((WorkT.busy ((wDraw (curNew a0)).1)).length : Int)).1) < ((WorkT.busy ((wDraw (curNew a0)).1)).length : Int))))
                (cond ((fun c _ => gCur c) ((curBelow ((curOnce ((wDraw (curNew a0)).2) (3 : Int)).2) ((WorkT.busy ((wDraw (curNew a0)).1)).length : Int)).2) (2 : Int))
                  (k [.d .work ((wDraw (curNew a0)).1), .d .str (atI (t := .str) (WorkT.busy ((wDraw (curNew a0)).1)) (Int.toNat ((curBelow ((curOnce ((wDraw (curNew a0)).2) (3 : Int)).2) ((WorkT.busy ((wDraw (curNew a0)).1)).length : Int)).1))), .d .bool ((curOnce ((curBelow ((curOnce ((wDraw (curNew a0)).2) (3 : Int)).2) ((WorkT.busy ((wDraw (curNew a0)).1)).length : Int)).2) (2 : Int)).1)])
                  none)
                none)
              none)
            (cond (gCur ((curOnce ((wDraw (curNew a0)).2) (3 : Int)).2))
              (cond ((fun c _ => gCur c) ((wName ((curOnce ((wDraw (curNew a0)).2) (3 : Int)).2)).2) (2 : Int))
                (k [.d .work ((wDraw (curNew a0)).1), .d .str ((wName ((curOnce ((wDraw (curNew a0)).2) (3 : Int)).2)).1), .d .bool ((curOnce ((wName ((curOnce ((wDraw (curNew a0)).2) (3 : Int)).2)).2) (2 : Int)).1)])
                none)
              none))
          none)
        (cond (gCur ((wDraw (curNew a0)).2))
          (cond ((fun c _ => gCur c) ((wName ((wDraw (curNew a0)).2)).2) (2 : Int))
            (k [.d .work ((wDraw (curNew a0)).1), .d .str ((wName ((wDraw (curNew a0)).2)).1), .d .bool ((curOnce ((wName ((wDraw (curNew a0)).2)).2) (2 : Int)).1)])
            none)
          none))
      none)
    none) := by kernel_rfl
def f31_P (a0 : List Int) (o : WorkT × ByteArray × Bool) : Prop := (fun _ o => sm_work o.1 = true ∧ smStr o.2.1 = true) a0 o ∧ ∃ n : Nat, ∀ {R : Type} (k : List Dt → Option R), evFn f31e f31k n f31c [.kp] [false, false, false] true [.cell 2 30, .tmp 3, .tmp 4] [30, 9, 4] [.d (.sl (.i .u8)) a0] k = k [.d .work o.1, .d .str o.2.1, .d .bool o.2.2]
theorem f31_ex (a0 : List Int) (hg : gCode a0 = true) : ∃ o : WorkT × ByteArray × Bool, (fun _ o => sm_work o.1 = true ∧ smStr o.2.1 = true) a0 o ∧ ∃ n : Nat, ∀ {R : Type} (k : List Dt → Option R), evFn f31e f31k n f31c [.kp] [false, false, false] true [.cell 2 30, .tmp 3, .tmp 4] [30, 9, 4] [.d (.sl (.i .u8)) a0] k = k [.d .work o.1, .d .str o.2.1, .d .bool o.2.2] := by
  have g0 := curNew_ok a0 hg
  obtain ⟨hs, g1⟩ := wDraw_ok _ g0
  cases e0 : decide (((wDraw (curNew a0)).1.busy.length : Int) > (0 : Int))
  · obtain ⟨sn, g3⟩ := wName_ok _ g1
    have g4 := curOnce_ok _ 2 g3
    refine ⟨(?a0z0, ?a1z0, ?a2z0), ?gz0, 0, ?rz0⟩
    case rz0 =>
      intro R k
      rw [f31_run]
      simp only [hg, g0, g1, e0, g3, cond_true, cond_false, Bool.not_true, Bool.not_false]
      exact rfl
    case gz0 => exact ⟨hs, sn⟩
  have g2 := curOnce_ok _ 3 g1
  cases e : (curOnce (wDraw (curNew a0)).2 3).1
  · obtain ⟨b0, b1, g3⟩ := curBelow_ok _ ((wDraw (curNew a0)).1.busy.length : Int) g2
    have b1 := b1 (of_decide_eq_true e0)
    have g4 := curOnce_ok _ 2 g3
    have hin := idxOk b0 b1
    have hb : smL smStr (wDraw (curNew a0)).1.busy = true := by simp only [sm_work, Bool.and_eq_true] at hs; exact hs.2.1
    refine ⟨(?a0z1, ?a1z1, ?a2z1), ?gz1, 0, ?rz1⟩
    case rz1 =>
      intro R k
      rw [f31_run]
      simp only [hg, g0, g1, e0, g2, e, hin, g3, cond_true, cond_false, Bool.not_true, Bool.not_false]
      exact rfl
    case gz1 => exact ⟨hs, List.all_eq_true.1 (smL_all hb) _ (mem_atI (t := .str) b0 b1)⟩
  · obtain ⟨sn, g3⟩ := wName_ok _ g2
    have g4 := curOnce_ok _ 2 g3
    refine ⟨(?a0z2, ?a1z2, ?a2z2), ?gz2, 0, ?rz2⟩
    case rz2 =>
      intro R k
      rw [f31_run]
      simp only [hg, g0, g1, e0, g2, e, g3, cond_true, cond_false, Bool.not_true, Bool.not_false]
      exact rfl
    case gz2 => exact ⟨hs, sn⟩

theorem f31_ne (a0 : List Int) : Nonempty {o : WorkT × ByteArray × Bool // gCode a0 = true → f31_P a0 o} := by
  by_cases hg : gCode a0 = true
  · obtain ⟨o, ho⟩ := f31_ex a0 hg
    exact ⟨⟨o, fun _ => ho⟩⟩
  · exact ⟨⟨((zero .work), (zero .str), (zero .bool)), fun h => absurd h hg⟩⟩
noncomputable def dDone (a0 : List Int) : WorkT × ByteArray × Bool := (Classical.choice (f31_ne a0)).val
theorem f31_sp (a0 : List Int) (hg : gCode a0 = true) : f31_P a0 (dDone a0) := (Classical.choice (f31_ne a0)).property hg
theorem dDone_ok (a0 : List Int) (hg : gCode a0 = true) : (fun _ o => sm_work o.1 = true ∧ smStr o.2.1 = true) a0 (dDone a0) := (f31_sp a0 hg).1
theorem f31_spec (a0 : List Int) (hg : gCode a0 = true) : ∃ keep rounds, ∀ {R : Type} (k : List Dt → Option R), evFn f31e keep rounds f31c [.kp] [false, false, false] true [.cell 2 30, .tmp 3, .tmp 4] [30, 9, 4] [.d (.sl (.i .u8)) a0] k = k [.d .work ((dDone a0).1), .d .str ((dDone a0).2.1), .d .bool ((dDone a0).2.2)] := by
  obtain ⟨n, hn⟩ := (f31_sp a0 hg).2
  exact ⟨f31k, n, hn⟩

noncomputable def q31 : List Dt → Option (Bool × List Dt)
  | [.d (.sl (.i .u8)) a0] => some ((gCode a0), [.d .work ((dDone a0).1), .d .str ((dDone a0).2.1), .d .bool ((dDone a0).2.2)])
  | _ => none
noncomputable def s31 : Gm.Spec := Gm.Spec.of [.kp] [false, false, false] true q31
theorem good31 : Gm.Good Try.prog (31, s31) := by
  have hl : ∀ x ∈ [(64, s64), (65, s65), (66, s66), (68, s68), (69, s69)], Gm.Good Try.prog x := List.forall_mem_cons.2 ⟨good64, List.forall_mem_cons.2 ⟨good65, List.forall_mem_cons.2 ⟨good66, List.forall_mem_cons.2 ⟨good68, List.forall_mem_cons.2 ⟨good69, List.forall_mem_nil _⟩⟩⟩⟩⟩
  refine ⟨⟨spec_ok (tab_ok.env hl) (tab.natl hl) Try.func31 (by kernel_rfl : Try.f31.body = some f31c) [30, 9, 4] (by kernel_rfl) ?_, _, Try.func31, by kernel_rfl, of_decide_eq_true (by kernel_rfl)⟩, Gm.Spec.of_natl _ _ _ _⟩
  intro ds outs h
  unfold q31 at h
  split at h
  · simp only [Option.some.injEq, Prod.mk.injEq] at h; obtain ⟨hg, h⟩ := h; cases h; exact f31_spec _ hg
  · cases h
end Go.Proofs.Ytmeeoilfnahihaa

/- x -/
namespace Go.Proofs.Ytmeeoilfnahihaa
open Go Go.Gm
/-! ### loop.example/g00465/laws.big -/
noncomputable def f16c : Code := (Try.f16.body).getD .skip
def f16k : Nat → Kp := kat [⟨[0], [], [], []⟩, ⟨[2], [], [], []⟩]
noncomputable def f16e : Env := tab.env []
theorem f16_run {R : Type} (n : Nat) (k : List Dt → Option R) (a0 : List Int) : evFn f16e f16k n f16c [.ro] [false] true [.tmp 2] [4] [.d (.sl (.i .u8)) a0] k =
    (k [.d .bool (decide ((a0.length : Int) > (1048576 : Int)))]) := by kernel_rfl
theorem f16_spec (a0 : List Int) : ∃ keep rounds, ∀ {R : Type} (k : List Dt → Option R), evFn f16e keep rounds f16c [.ro] [false] true [.tmp 2] [4] [.d (.sl (.i .u8)) a0] k = k [.d .bool (bigC a0)] := by
  exact ⟨f16k, 0, fun k => f16_run 0 k a0⟩

noncomputable def q16 : List Dt → Option (Bool × List Dt)
  | [.d (.sl (.i .u8)) a0] => some (true, [.d .bool (bigC a0)])
  | _ => none
noncomputable def s16 : Gm.Spec := Gm.Spec.of [.ro] [false] true q16
theorem good16 : Gm.Good Try.prog (16, s16) := by
  have hl : ∀ x ∈ ([] : List (Nat × Gm.Spec)), Gm.Good Try.prog x := fun _ h => by cases h
  refine ⟨⟨spec_ok (tab_ok.env hl) (tab.natl hl) Try.func16 (by kernel_rfl : Try.f16.body = some f16c) [4] (by kernel_rfl) ?_, _, Try.func16, by kernel_rfl, of_decide_eq_true (by kernel_rfl)⟩, Gm.Spec.of_natl _ _ _ _⟩
  intro ds outs h
  unfold q16 at h
  split at h
  · cases h; exact f16_spec _
  · cases h
/-! ### loop.example/g00465/laws.withinTexts -/
noncomputable def f21c : Code := (Try.f21.body).getD .skip
def f21k : Nat → Kp := kat [⟨[0, 1], [], [], []⟩, ⟨[0, 1, 5], [], [], []⟩, ⟨[0, 1, 5, 9], [], [], []⟩, ⟨[0, 1, 5], [], [], []⟩, ⟨[0, 1, 5, 17], [], [], []⟩, ⟨[4], [], [], []⟩, ⟨[4], [], [], []⟩]
noncomputable def f21e : Env := tab.env []
noncomputable def f21L0 {R : Type} (n : Nat) (x0 : Option R) (x1 : Int → Bool → Option R) (vs0 : List ByteArray) (vs1 : ByteArray) : Nat → Int → Option R
  | 0, _ => none
  | m + 1, vs5 =>
    (cond (decide (vs5 < (vs0.length : Int)))
      (cond ((decide ((0 : Int) ≤ vs5)) && (decide (vs5 < (vs0.length : Int))))
        (cond (sEq (atI (t := .str) vs0 (Int.toNat vs5)) vs1)
          (x0)
          (f21L0 n x0 x1 vs0 vs1 m (IntKind.wrap .i64 (vs5 + (1 : Int)))))
        none)
      (x1 vs5 (decide (vs5 < (vs0.length : Int)))))
theorem f21L0_b {R : Type} (n : Nat) (k' : Ex → St → Option R) (vs0 : List ByteArray) (vs1 : ByteArray) (vs5 : Int) : ev f21e f21k n (cAt [1,0,1,0,0] f21c) ⟨[(0, .c (.one (.ro .str vs0))), (1, .c (.one (.v (.string vs1)))), (5, .c (.one (.v (.int .i64 vs5))))], [], []⟩ k' =
    (cond (decide (vs5 < (vs0.length : Int)))
    (cond ((decide ((0 : Int) ≤ vs5)) && (decide (vs5 < (vs0.length : Int))))
      (cond (sEq (atI (t := .str) vs0 (Int.toNat vs5)) vs1)
        (k' .ret ⟨[(4, .c (.one (.v (.bool true))))], [], []⟩)
        (k' .normal ⟨[(0, .c (.one (.ro .str vs0))), (1, .c (.one (.v (.string vs1)))), (5, .c (.one (.v (.int .i64 (IntKind.wrap .i64 (vs5 + (1 : Int)))))))], [], []⟩))
      none)
    (k' (.exit 0) ⟨[(0, .c (.one (.ro .str vs0))), (1, .c (.one (.v (.string vs1)))), (5, .c (.one (.v (.int .i64 vs5)))), (9, .c (.one (.v (.bool (decide (vs5 < (vs0.length : Int)))))))], [], []⟩)) := by kernel_rfl
theorem f21L0_eq {R : Type} (n : Nat) (k' : Ex → St → Option R) (vs0 : List ByteArray) (vs1 : ByteArray) : ∀ (m : Nat) (vs5 : Int), iter (fun st k => ev f21e f21k n (cAt [1,0,1,0,0] f21c) st k) m ⟨[(0, .c (.one (.ro .str vs0))), (1, .c (.one (.v (.string vs1)))), (5, .c (.one (.v (.int .i64 vs5))))], [], []⟩ k' = f21L0 n (k' .ret ⟨[(4, .c (.one (.v (.bool true))))], [], []⟩) (fun (xvs5 : Int) (xvs9 : Bool) => k' (.exit 0) ⟨[(0, .c (.one (.ro .str vs0))), (1, .c (.one (.v (.string vs1)))), (5, .c (.one (.v (.int .i64 xvs5)))), (9, .c (.one (.v (.bool xvs9))))], [], []⟩) vs0 vs1 m vs5 := by
  intro m; induction m with
  | zero => intros; rfl
  | succ m ih =>
    intro vs5
    simp only [iter]
    rw [f21L0_b]
    simp only [ih, f21L0]

noncomputable def f21K0 {R : Type} (n : Nat) (k' : Ex → St → Option R) : Ex → St → Option R := (blockK 0 (seqK f21e f21k n (cAt [1,1] f21c) k'))
theorem f21K0_x0 {R : Type} (n : Nat) (k : List Dt → Option R) (a0 : List ByteArray) (a1 : ByteArray)  : f21K0 n (exitK f21e [.ro, .ro] [false] true [.tmp 4] [4] [.d (.sl .str) a0, .d .str a1] k) .ret ⟨[(4, .c (.one (.v (.bool true))))], [], []⟩ =
    (k [.d .bool true]) := by kernel_rfl
theorem f21K0_x1 {R : Type} (n : Nat) (k : List Dt → Option R) (a0 : List ByteArray) (a1 : ByteArray) (vs0 : List ByteArray) (vs1 : ByteArray) (xvs5 : Int) (xvs9 : Bool) : f21K0 n (exitK f21e [.ro, .ro] [false] true [.tmp 4] [4] [.d (.sl .str) a0, .d .str a1] k) (.exit 0) ⟨[(0, .c (.one (.ro .str vs0))), (1, .c (.one (.v (.string vs1)))), (5, .c (.one (.v (.int .i64 xvs5)))), (9, .c (.one (.v (.bool xvs9))))], [], []⟩ =
    (k [.d .bool false]) := by kernel_rfl

theorem f21_run {R : Type} (n : Nat) (k : List Dt → Option R) (a0 : List ByteArray) (a1 : ByteArray) : evFn f21e f21k n f21c [.ro, .ro] [false] true [.tmp 4] [4] [.d (.sl .str) a0, .d .str a1] k =
    (f21L0 n (k [.d .bool true]) (fun (xvs5 : Int) (xvs9 : Bool) =>
    (k [.d .bool false])) a0 a1 n (0 : Int)) := by
  refine Eq.trans (b := (iter (fun st k => ev f21e f21k n (cAt [1,0,1,0,0] f21c) st k) n ⟨[(0, .c (.one (.ro .str a0))), (1, .c (.one (.v (.string a1)))), (5, .c (.one (.v (.int .i64 (0 : Int)))))], [], []⟩ (f21K0 n (exitK f21e [.ro, .ro] [false] true [.tmp 4] [4] [.d (.sl .str) a0, .d .str a1] k)))) (by kernel_rfl) ?_
  simp only [f21L0_eq, f21K0_x0, f21K0_x1]
theorem f21_spec (a0 : List ByteArray) (a1 : ByteArray) (hg : gLenW a0 = true) : ∃ keep rounds, ∀ {R : Type} (k : List Dt → Option R), evFn f21e keep rounds f21c [.ro, .ro] [false] true [.tmp 4] [4] [.d (.sl .str) a0, .d .str a1] k = k [.d .bool (isIn a0 a1)] := by
  have hl := gLenW_le hg
  refine ⟨f21k, a0.length + 1, fun k => ?_⟩
  rw [f21_run]
  refine Eq.trans (loop_find (n := a0.length) (F := fun m i => f21L0 (a0.length + 1) _ _ a0 a1 m i) (p := fun j => sEq (atI (t := .str) a0 j) a1) (hit := fun i => k [.d .bool true]) (miss := k [.d .bool false])
    (fun m j hj => ?_) (fun m => by simp only [f21L0, idxE, cond_false]) a0.length 0 (a0.length + 1) (by omega) (by omega)) ?_
  · obtain ⟨h1, h0, hw, ht⟩ := idx hj (by omega)
    simp only [f21L0, h1, h0, hw, ht, Bool.and_self, cond_true]
  · show _ = k [.d .bool (isIn a0 a1)]
    unfold isIn
    rw [← firstN_any (t := .str)]
    cases firstN (fun j => sEq (atI (t := .str) a0 j) a1) 0 a0.length <;> rfl

noncomputable def q21 : List Dt → Option (Bool × List Dt)
  | [.d (.sl .str) a0, .d .str a1] => some (((fun (x : List ByteArray) (_ : ByteArray) => gLenW x) a0 a1), [.d .bool (isIn a0 a1)])
  | _ => none
noncomputable def s21 : Gm.Spec := Gm.Spec.of [.ro, .ro] [false] true q21
theorem good21 : Gm.Good Try.prog (21, s21) := by
  have hl : ∀ x ∈ ([] : List (Nat × Gm.Spec)), Gm.Good Try.prog x := fun _ h => by cases h
  refine ⟨⟨spec_ok (tab_ok.env hl) (tab.natl hl) Try.func21 (by kernel_rfl : Try.f21.body = some f21c) [4] (by kernel_rfl) ?_, _, Try.func21, by kernel_rfl, of_decide_eq_true (by kernel_rfl)⟩, Gm.Spec.of_natl _ _ _ _⟩
  intro ds outs h
  unfold q21 at h
  split at h
  · simp only [Option.some.injEq, Prod.mk.injEq] at h; obtain ⟨hg, h⟩ := h; cases h; exact f21_spec _ _ hg
  · cases h
/-! ### loop.example/g00465/laws.sameTexts -/
noncomputable def f72c : Code := (Try.f72.body).getD .skip
def f72k : Nat → Kp := kat [⟨[0, 1], [], [], []⟩, ⟨[0, 1, 10], [], [], []⟩, ⟨[4], [], [], []⟩, ⟨[0, 1, 5], [], [], []⟩, ⟨[0, 1, 5, 14], [], [], []⟩, ⟨[0, 1, 5], [], [], []⟩, ⟨[0, 1, 5, 25], [], [], []⟩, ⟨[4], [], [], []⟩, ⟨[4], [], [], []⟩]
noncomputable def f72e : Env := tab.env []
noncomputable def f72L0 {R : Type} (n : Nat) (x0 : Option R) (x1 : Int → Bool → Option R) (vs0 : List ByteArray) (vs1 : List ByteArray) : Nat → Int → Option R
  | 0, _ => none
  | m + 1, vs5 =>
    (cond (decide (vs5 < (vs0.length : Int)))
      (cond ((decide ((0 : Int) ≤ vs5)) && (decide (vs5 < (vs0.length : Int))))
        (cond ((decide ((0 : Int) ≤ vs5)) && (decide (vs5 < (vs1.length : Int))))
          (cond (!(sEq (atI (t := .str) vs0 (Int.toNat vs5)) (atI (t := .str) vs1 (Int.toNat vs5))))
            (x0)
            (f72L0 n x0 x1 vs0 vs1 m (IntKind.wrap .i64 (vs5 + (1 : Int)))))
          none)
        none)
      (x1 vs5 (decide (vs5 < (vs0.length : Int)))))
theorem f72L0_b {R : Type} (n : Nat) (k' : Ex → St → Option R) (vs0 : List ByteArray) (vs1 : List ByteArray) (vs5 : Int) : ev f72e f72k n (cAt [1,1,0,1,0,0] f72c) ⟨[(0, .c (.one (.ro .str vs0))), (1, .c (.one (.ro .str vs1))), (5, .c (.one (.v (.int .i64 vs5))))], [], []⟩ k' =
    (cond (decide (vs5 < (vs0.length : Int)))
    (cond ((decide ((0 : Int) ≤ vs5)) && (decide (vs5 < (vs0.length : Int))))
      (cond ((decide ((0 : Int) ≤ vs5)) && (decide (vs5 < (vs1.length : Int))))
        (cond (!(sEq (atI (t := .str) vs0 (Int.toNat vs5)) (atI (t := .str) vs1 (Int.toNat vs5))))
          (k' .ret ⟨[(4, .c (.one (.v (.bool false))))], [], []⟩)
          (k' .normal ⟨[(0, .c (.one (.ro .str vs0))), (1, .c (.one (.ro .str vs1))), (5, .c (.one (.v (.int .i64 (IntKind.wrap .i64 (vs5 + (1 : Int)))))))], [], []⟩))
        none)
      none)
    (k' (.exit 0) ⟨[(0, .c (.one (.ro .str vs0))), (1, .c (.one (.ro .str vs1))), (5, .c (.one (.v (.int .i64 vs5)))), (14, .c (.one (.v (.bool (decide (vs5 < (vs0.length : Int)))))))], [], []⟩)) := by kernel_rfl
theorem f72L0_eq {R : Type} (n : Nat) (k' : Ex → St → Option R) (vs0 : List ByteArray) (vs1 : List ByteArray) : ∀ (m : Nat) (vs5 : Int), iter (fun st k => ev f72e f72k n (cAt [1,1,0,1,0,0] f72c) st k) m ⟨[(0, .c (.one (.ro .str vs0))), (1, .c (.one (.ro .str vs1))), (5, .c (.one (.v (.int .i64 vs5))))], [], []⟩ k' = f72L0 n (k' .ret ⟨[(4, .c (.one (.v (.bool false))))], [], []⟩) (fun (xvs5 : Int) (xvs14 : Bool) => k' (.exit 0) ⟨[(0, .c (.one (.ro .str vs0))), (1, .c (.one (.ro .str vs1))), (5, .c (.one (.v (.int .i64 xvs5)))), (14, .c (.one (.v (.bool xvs14))))], [], []⟩) vs0 vs1 m vs5 := by
  intro m; induction m with
  | zero => intros; rfl
  | succ m ih =>
    intro vs5
    simp only [iter]
    rw [f72L0_b]
    simp only [ih, f72L0]

noncomputable def f72K0 {R : Type} (n : Nat) (k' : Ex → St → Option R) : Ex → St → Option R := (blockK 0 (seqK f72e f72k n (cAt [1,1,1] f72c) k'))
theorem f72K0_x0 {R : Type} (n : Nat) (k : List Dt → Option R) (a0 : List ByteArray) (a1 : List ByteArray)  : f72K0 n (exitK f72e [.ro, .ro] [false] true [.tmp 4] [4] [.d (.sl .str) a0, .d (.sl .str) a1] k) .ret ⟨[(4, .c (.one (.v (.bool false))))], [], []⟩ =
    (k [.d .bool false]) := by kernel_rfl
theorem f72K0_x1 {R : Type} (n : Nat) (k : List Dt → Option R) (a0 : List ByteArray) (a1 : List ByteArray) (vs0 : List ByteArray) (vs1 : List ByteArray) (xvs5 : Int) (xvs14 : Bool) : f72K0 n (exitK f72e [.ro, .ro] [false] true [.tmp 4] [4] [.d (.sl .str) a0, .d (.sl .str) a1] k) (.exit 0) ⟨[(0, .c (.one (.ro .str vs0))), (1, .c (.one (.ro .str vs1))), (5, .c (.one (.v (.int .i64 xvs5)))), (14, .c (.one (.v (.bool xvs14))))], [], []⟩ =
    (k [.d .bool true]) := by kernel_rfl

theorem f72_run {R : Type} (n : Nat) (k : List Dt → Option R) (a0 : List ByteArray) (a1 : List ByteArray) : evFn f72e f72k n f72c [.ro, .ro] [false] true [.tmp 4] [4] [.d (.sl .str) a0, .d (.sl .str) a1] k =
    (cond ((a0.length : Int) != (a1.length : Int))
    (k [.d .bool false])
    (f72L0 n (k [.d .bool false]) (fun (xvs5 : Int) (xvs14 : Bool) =>
      (k [.d .bool true])) a0 a1 n (0 : Int))) := by
  refine Eq.trans (b := (cond ((a0.length : Int) != (a1.length : Int))
    (k [.d .bool false])
    (iter (fun st k => ev f72e f72k n (cAt [1,1,0,1,0,0] f72c) st k) n ⟨[(0, .c (.one (.ro .str a0))), (1, .c (.one (.ro .str a1))), (5, .c (.one (.v (.int .i64 (0 : Int)))))], [], []⟩ (f72K0 n (exitK f72e [.ro, .ro] [false] true [.tmp 4] [4] [.d (.sl .str) a0, .d (.sl .str) a1] k))))) (by kernel_rfl) ?_
  simp only [f72L0_eq, f72K0_x0, f72K0_x1]
theorem f72_spec (a0 : List ByteArray) (a1 : List ByteArray) (hg : gSame gLenW a0 a1 = true) : ∃ keep rounds, ∀ {R : Type} (k : List Dt → Option R), evFn f72e keep rounds f72c [.ro, .ro] [false] true [.tmp 4] [4] [.d (.sl .str) a0, .d (.sl .str) a1] k = k [.d .bool ((fun (_ _ : List ByteArray) => true) a0 a1)] := by
  obtain ⟨hl, rfl⟩ := gSame_iff.1 hg
  have hl := gLenW_le hl
  refine ⟨f72k, a0.length + 1, fun {R} k => ?_⟩
  rw [f72_run, bne_self_eq_false]
  show _ = k [.d .bool true]
  have key : ∀ (X : Option R) (Y : Int → Bool → Option R), (∀ i b, Y i b = k [.d .bool true]) → ∀ d j m, j + d = a0.length → d < m → f72L0 (a0.length + 1) X Y a0 a0 m (j : Int) = k [.d .bool true] := by
    intro X Y hY d
    induction d with
    | zero =>
      intro j m hj hm
      obtain ⟨m, rfl⟩ : ∃ m', m = m' + 1 := ⟨m - 1, by omega⟩
      simp only [f72L0, decide_eq_false (show ¬ ((j : Int) < (a0.length : Int)) by omega), cond_false, hY]
    | succ d ih =>
      intro j m hj hm
      obtain ⟨m, rfl⟩ : ∃ m', m = m' + 1 := ⟨m - 1, by omega⟩
      obtain ⟨h1, h0, hw, ht⟩ := idx (show j < a0.length by omega) (by omega)
      simp only [f72L0, h1, h0, hw, ht, sEq_self, bab_self, beq_self_eq_true, Bool.and_self, Bool.not_true, cond_true, cond_false]
      exact ih (j + 1) m (by omega) (by omega)
  exact key _ _ (fun _ _ => rfl) a0.length 0 (a0.length + 1) (by omega) (by omega)

noncomputable def q72 : List Dt → Option (Bool × List Dt)
  | [.d (.sl .str) a0, .d (.sl .str) a1] => some (((gSame (gLenW (α := ByteArray))) a0 a1), [.d .bool ((fun (_ _ : List ByteArray) => true) a0 a1)])
  | _ => none
noncomputable def s72 : Gm.Spec := Gm.Spec.of [.ro, .ro] [false] true q72
theorem good72 : Gm.Good Try.prog (72, s72) := by
  have hl : ∀ x ∈ ([] : List (Nat × Gm.Spec)), Gm.Good Try.prog x := fun _ h => by cases h
  refine ⟨⟨spec_ok (tab_ok.env hl) (tab.natl hl) Try.func72 (by kernel_rfl : Try.f72.body = some f72c) [4] (by kernel_rfl) ?_, _, Try.func72, by kernel_rfl, of_decide_eq_true (by kernel_rfl)⟩, Gm.Spec.of_natl _ _ _ _⟩
  intro ds outs h
  unfold q72 at h
  split at h
  · simp only [Option.some.injEq, Prod.mk.injEq] at h; obtain ⟨hg, h⟩ := h; cases h; exact f72_spec _ _ hg
  · cases h
/-! ### loop.example/g00465/laws.sameWork -/
noncomputable def f35c : Code := (Try.f35.body).getD .skip
def f35k : Nat → Kp := kat [⟨[2, 3], [], [], []⟩, ⟨[2, 3, 36], [], [], []⟩, ⟨[4], [], [], []⟩, ⟨[2, 3, 5], [], [], []⟩, ⟨[2, 3, 5, 41], [], [], []⟩, ⟨[2, 3, 5], [], [], []⟩, ⟨[2, 3, 5, 54], [], [], []⟩, ⟨[4], [], [], []⟩, ⟨[4], [], [], []⟩]
noncomputable def f35e : Env := tab.env [(72, s72)]
noncomputable def f35L0 {R : Type} (n : Nat) (x0 : Option R) (x1 : Int → Bool → Option R) (vb2_0 : List ByteArray) (vb2_1 : List ByteArray) (vb2_2 : List ByteArray) (vb2_3 : List FailT) (vb3_0 : List ByteArray) (vb3_1 : List ByteArray) (vb3_2 : List ByteArray) (vb3_3 : List FailT) : Nat → Int → Option R
  | 0, _ => none
  | m + 1, vs5 =>
    (cond (decide (vs5 < (vb2_3.length : Int)))
      (cond ((decide ((0 : Int) ≤ vs5)) && (decide (vs5 < (vb2_3.length : Int))))
        (cond ((decide ((0 : Int) ≤ vs5)) && (decide (vs5 < (vb3_3.length : Int))))
          (cond (!(((FailT.name (atI (t := .fail) vb2_3 (Int.toNat vs5))) == (FailT.name (atI (t := .fail) vb3_3 (Int.toNat vs5)))) && (((FailT.n (atI (t := .fail) vb2_3 (Int.toNat vs5))) == (FailT.n (atI (t := .fail) vb3_3 (Int.toNat vs5)))) && true)))
            (x0)
            (f35L0 n x0 x1 vb2_0 vb2_1 vb2_2 vb2_3 vb3_0 vb3_1 vb3_2 vb3_3 m (IntKind.wrap .i64 (vs5 + (1 : Int)))))
          none)
        none)
      (x1 vs5 (decide (vs5 < (vb2_3.length : Int)))))
theorem f35L0_b {R : Type} (n : Nat) (k' : Ex → St → Option R) (vs5 : Int) (vb2_0 : List ByteArray) (vb2_1 : List ByteArray) (vb2_2 : List ByteArray) (vb2_3 : List FailT) (vb3_0 : List ByteArray) (vb3_1 : List ByteArray) (vb3_2 : List ByteArray) (vb3_3 : List FailT) : ev f35e f35k n (cAt [1,1,0,1,0,0] f35c) ⟨[(2, .c (.one (.pt 2 0))), (3, .c (.one (.pt 3 0))), (5, .c (.one (.v (.int .i64 vs5))))], [(2, ⟨.work, [.ro .str vb2_0, .ro .str vb2_1, .ro .str vb2_2, .ro .fail vb2_3]⟩), (3, ⟨.work, [.ro .str vb3_0, .ro .str vb3_1, .ro .str vb3_2, .ro .fail vb3_3]⟩)], []⟩ k' =
    (cond (decide (vs5 < (vb2_3.length : Int)))
    (cond ((decide ((0 : Int) ≤ vs5)) && (decide (vs5 < (vb2_3.length : Int))))
      (cond ((decide ((0 : Int) ≤ vs5)) && (decide (vs5 < (vb3_3.length : Int))))
        (cond (!(((FailT.name (atI (t := .fail) vb2_3 (Int.toNat vs5))) == (FailT.name (atI (t := .fail) vb3_3 (Int.toNat vs5)))) && (((FailT.n (atI (t := .fail) vb2_3 (Int.toNat vs5))) == (FailT.n (atI (t := .fail) vb3_3 (Int.toNat vs5)))) && true)))
          (k' .ret ⟨[(4, .c (.one (.v (.bool false))))], [], []⟩)
          (k' .normal ⟨[(2, .c (.one (.pt 2 0))), (3, .c (.one (.pt 3 0))), (5, .c (.one (.v (.int .i64 (IntKind.wrap .i64 (vs5 + (1 : Int)))))))], [(2, ⟨.work, [.ro .str vb2_0, .ro .str vb2_1, .ro .str vb2_2, .ro .fail vb2_3]⟩), (3, ⟨.work, [.ro .str vb3_0, .ro .str vb3_1, .ro .str vb3_2, .ro .fail vb3_3]⟩)], []⟩))
        none)
      none)
    (k' (.exit 0) ⟨[(2, .c (.one (.pt 2 0))), (3, .c (.one (.pt 3 0))), (5, .c (.one (.v (.int .i64 vs5)))), (41, .c (.one (.v (.bool (decide (vs5 < (vb2_3.length : Int)))))))], [(2, ⟨.work, [.ro .str vb2_0, .ro .str vb2_1, .ro .str vb2_2, .ro .fail vb2_3]⟩), (3, ⟨.work, [.ro .str vb3_0, .ro .str vb3_1, .ro .str vb3_2, .ro .fail vb3_3]⟩)], []⟩)) := by kernel_rfl
theorem f35L0_eq {R : Type} (n : Nat) (k' : Ex → St → Option R) (vb2_0 : List ByteArray) (vb2_1 : List ByteArray) (vb2_2 : List ByteArray) (vb2_3 : List FailT) (vb3_0 : List ByteArray) (vb3_1 : List ByteArray) (vb3_2 : List ByteArray) (vb3_3 : List FailT) : ∀ (m : Nat) (vs5 : Int), iter (fun st k => ev f35e f35k n (cAt [1,1,0,1,0,0] f35c) st k) m ⟨[(2, .c (.one (.pt 2 0))), (3, .c (.one (.pt 3 0))), (5, .c (.one (.v (.int .i64 vs5))))], [(2, ⟨.work, [.ro .str vb2_0, .ro .str vb2_1, .ro .str vb2_2, .ro .fail vb2_3]⟩), (3, ⟨.work, [.ro .str vb3_0, .ro .str vb3_1, .ro .str vb3_2, .ro .fail vb3_3]⟩)], []⟩ k' = f35L0 n (k' .ret ⟨[(4, .c (.one (.v (.bool false))))], [], []⟩) (fun (xvs5 : Int) (xvs41 : Bool) => k' (.exit 0) ⟨[(2, .c (.one (.pt 2 0))), (3, .c (.one (.pt 3 0))), (5, .c (.one (.v (.int .i64 xvs5)))), (41, .c (.one (.v (.bool xvs41))))], [(2, ⟨.work, [.ro .str vb2_0, .ro .str vb2_1, .ro .str vb2_2, .ro .fail vb2_3]⟩), (3, ⟨.work, [.ro .str vb3_0, .ro .str vb3_1, .ro .str vb3_2, .ro .fail vb3_3]⟩)], []⟩) vb2_0 vb2_1 vb2_2 vb2_3 vb3_0 vb3_1 vb3_2 vb3_3 m vs5 := by
  intro m; induction m with
  | zero => intros; rfl
  | succ m ih =>
    intro vs5
    simp only [iter]
    rw [f35L0_b]
    simp only [ih, f35L0]

noncomputable def f35K0 {R : Type} (n : Nat) (k' : Ex → St → Option R) : Ex → St → Option R := (blockK 0 (seqK f35e f35k n (cAt [1,1,1] f35c) k'))
theorem f35K0_x0 {R : Type} (n : Nat) (k : List Dt → Option R) (a0 : WorkT) (a1 : WorkT)  : f35K0 n (exitK f35e [.ro, .ro] [false] true [.tmp 4] [4] [.d .work a0, .d .work a1] k) .ret ⟨[(4, .c (.one (.v (.bool false))))], [], []⟩ =
    (k [.d .bool false]) := by kernel_rfl
theorem f35K0_x1 {R : Type} (n : Nat) (k : List Dt → Option R) (a0 : WorkT) (a1 : WorkT) (vb2_0 : List ByteArray) (vb2_1 : List ByteArray) (vb2_2 : List ByteArray) (vb2_3 : List FailT) (vb3_0 : List ByteArray) (vb3_1 : List ByteArray) (vb3_2 : List ByteArray) (vb3_3 : List FailT) (xvs5 : Int) (xvs41 : Bool) : f35K0 n (exitK f35e [.ro, .ro] [false] true [.tmp 4] [4] [.d .work a0, .d .work a1] k) (.exit 0) ⟨[(2, .c (.one (.pt 2 0))), (3, .c (.one (.pt 3 0))), (5, .c (.one (.v (.int .i64 xvs5)))), (41, .c (.one (.v (.bool xvs41))))], [(2, ⟨.work, [.ro .str vb2_0, .ro .str vb2_1, .ro .str vb2_2, .ro .fail vb2_3]⟩), (3, ⟨.work, [.ro .str vb3_0, .ro .str vb3_1, .ro .str vb3_2, .ro .fail vb3_3]⟩)], []⟩ =
    (k [.d .bool true]) := by kernel_rfl

theorem f35_run {R : Type} (n : Nat) (k : List Dt → Option R) (a0 : WorkT) (a1 : WorkT) : evFn f35e f35k n f35c [.ro, .ro] [false] true [.tmp 4] [4] [.d .work a0, .d .work a1] k =
    (cond ((gSame (gLenW (α := ByteArray))) (WorkT.list a0) (WorkT.list a1))
    (cond (!((fun (_ _ : List ByteArray) => true) (WorkT.list a0) (WorkT.list a1)))
      (k [.d .bool false])
      (cond ((gSame (gLenW (α := ByteArray))) (WorkT.busy a0) (WorkT.busy a1))
        (cond (!((fun (_ _ : List ByteArray) => true) (WorkT.busy a0) (WorkT.busy a1)))
          (k [.d .bool false])
          (cond ((gSame (gLenW (α := ByteArray))) (WorkT.again a0) (WorkT.again a1))
            (cond (!((fun (_ _ : List ByteArray) => true) (WorkT.again a0) (WorkT.again a1)))
              (k [.d .bool false])
              (cond (((WorkT.fails a0).length : Int) != ((WorkT.fails a1).length : Int))
                (k [.d .bool false])
                (f35L0 n (k [.d .bool false]) (fun (xvs5 : Int) (xvs41 : Bool) =>
                  (k [.d .bool true])) (WorkT.list a0) (WorkT.busy a0) (WorkT.again a0) (WorkT.fails a0) (WorkT.list a1) (WorkT.busy a1) (WorkT.again a1) (WorkT.fails a1) n (0 : Int))))
            none))
        none))
    none) := by
  refine Eq.trans (b := (cond ((gSame (gLenW (α := ByteArray))) (WorkT.list a0) (WorkT.list a1))
    (cond (!((fun (_ _ : List ByteArray) => true) (WorkT.list a0) (WorkT.list a1)))
      (k [.d .bool false])
      (cond ((gSame (gLenW (α := ByteArray))) (WorkT.busy a0) (WorkT.busy a1))
        (cond (!((fun (_ _ : List ByteArray) => true) (WorkT.busy a0) (WorkT.busy a1)))
          (k [.d .bool false])
          (cond ((gSame (gLenW (α := ByteArray))) (WorkT.again a0) (WorkT.again a1))
            (cond (!((fun (_ _ : List ByteArray) => true) (WorkT.again a0) (WorkT.again a1)))
              (k [.d .bool false])
              (cond (((WorkT.fails a0).length : Int) != ((WorkT.fails a1).length : Int))
                (k [.d .bool false])
                (iter (fun st k => ev f35e f35k n (cAt [1,1,0,1,0,0] f35c) st k) n ⟨[(2, .c (.one (.pt 2 0))), (3, .c (.one (.pt 3 0))), (5, .c (.one (.v (.int .i64 (0 : Int)))))], [(2, ⟨.work, [.ro .str (WorkT.list a0), .ro .str (WorkT.busy a0), .ro .str (WorkT.again a0), .ro .fail (WorkT.fails a0)]⟩), (3, ⟨.work, [.ro .str (WorkT.list a1), .ro .str (WorkT.busy a1), .ro .str (WorkT.again a1), .ro .fail (WorkT.fails a1)]⟩)], []⟩ (f35K0 n (exitK f35e [.ro, .ro] [false] true [.tmp 4] [4] [.d .work a0, .d .work a1] k)))))
            none))
        none))
    none)) (by kernel_rfl) ?_
  simp only [f35L0_eq, f35K0_x0, f35K0_x1]
theorem f35_spec (a0 : WorkT) (a1 : WorkT) (hg : gSame sm_work a0 a1 = true) : ∃ keep rounds, ∀ {R : Type} (k : List Dt → Option R), evFn f35e keep rounds f35c [.ro, .ro] [false] true [.tmp 4] [4] [.d .work a0, .d .work a1] k = k [.d .bool true] := by
  obtain ⟨hs, rfl⟩ := gSame_iff.1 hg
  simp only [sm_work, Bool.and_eq_true] at hs
  obtain ⟨s1, s2, s3, s4⟩ := hs
  have hl := smL_len s4
  refine ⟨f35k, a0.fails.length + 1, fun {R} k => ?_⟩
  rw [f35_run]
  simp only [bne_self_eq_false, gSame_self (gLen_sm s1), gSame_self (gLen_sm s2), gSame_self (gLen_sm s3), Bool.not_true, cond_true, cond_false]
  show _ = k [.d .bool true]
  have key : ∀ (X : Option R) (Y : Int → Bool → Option R), (∀ i b, Y i b = k [.d .bool true]) → ∀ d j m, j + d = a0.fails.length → d < m → f35L0 (a0.fails.length + 1) X Y a0.list a0.busy a0.again a0.fails a0.list a0.busy a0.again a0.fails m (j : Int) = k [.d .bool true] := by
    intro X Y hY d
    induction d with
    | zero =>
      intro j m hj hm
      obtain ⟨m, rfl⟩ : ∃ m', m = m' + 1 := ⟨m - 1, by omega⟩
      simp only [f35L0, decide_eq_false (show ¬ ((j : Int) < (a0.fails.length : Int)) by omega), cond_false, hY]
    | succ d ih =>
      intro j m hj hm
      obtain ⟨m, rfl⟩ : ∃ m', m = m' + 1 := ⟨m - 1, by omega⟩
      obtain ⟨h1, h0, hw, ht⟩ := idx (show j < a0.fails.length by omega) (by omega)
      simp only [f35L0, h1, h0, hw, ht, sEq_self, bab_self, beq_self_eq_true, Bool.and_self, Bool.not_true, cond_true, cond_false]
      exact ih (j + 1) m (by omega) (by omega)
  exact key _ _ (fun _ _ => rfl) a0.fails.length 0 (a0.fails.length + 1) (by omega) (by omega)

noncomputable def q35 : List Dt → Option (Bool × List Dt)
  | [.d .work a0, .d .work a1] => some (((gSame sm_work) a0 a1), [.d .bool true])
  | _ => none
noncomputable def s35 : Gm.Spec := Gm.Spec.of [.ro, .ro] [false] true q35
theorem good35 : Gm.Good Try.prog (35, s35) := by
  have hl : ∀ x ∈ [(72, s72)], Gm.Good Try.prog x := List.forall_mem_cons.2 ⟨good72, List.forall_mem_nil _⟩
  refine ⟨⟨spec_ok (tab_ok.env hl) (tab.natl hl) Try.func35 (by kernel_rfl : Try.f35.body = some f35c) [4] (by kernel_rfl) ?_, _, Try.func35, by kernel_rfl, of_decide_eq_true (by kernel_rfl)⟩, Gm.Spec.of_natl _ _ _ _⟩
  intro ds outs h
  unfold q35 at h
  split at h
  · simp only [Option.some.injEq, Prod.mk.injEq] at h; obtain ⟨hg, h⟩ := h; cases h; exact f35_spec _ _ hg
  · cases h
end Go.Proofs.Ytmeeoilfnahihaa

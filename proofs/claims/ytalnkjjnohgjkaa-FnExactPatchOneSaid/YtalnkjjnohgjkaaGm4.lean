/- The G-machine, part 4: an evaluator of translated code on typed values, and that it is sound. No conditions. -/
import Derived.Test.YtalnkjjnohgjkaaGm3
import Derived.Shelf.Strings.OnBuilder
import Derived.Laws.Cover4
import Derived.Laws.CopyRow
import Derived.Deep.RegionLaw
import Derived.Below
import Derived.Lib.AppendZerosOnto
import Derived.Lib.Overlaps
/- Plain functions and laws of all structs: sizes, sameness. Printed by mkp3.py of this session. -/
namespace Go.Gm
open Go

def okI (n : Int) : Bool := decide (-9223372036854775808 ≤ n) && decide (n ≤ 9223372036854775807)
theorem okI_iff {n : Int} : okI n = true ↔ -9223372036854775808 ≤ n ∧ n ≤ 9223372036854775807 := by simp [okI]
theorem okI_w {n : Int} (h : WideC (.v (.int .i64 n))) : okI n = true := by
  cases h with
  | int h2 =>
    simp only [Lit.wf, Bool.and_eq_true, decide_eq_true_eq] at h2
    have e1 : IntKind.i64.min = -9223372036854775808 := rfl
    have e2 : IntKind.i64.max = 9223372036854775807 := rfl
    rw [okI_iff]; omega
def smStr (s : ByteArray) : Bool := Nat.ble s.size 1048576
def smL {α : Type} (f : α → Bool) (xs : List α) : Bool := Nat.ble xs.length 1048576 && xs.all f
theorem smStr_of {s : ByteArray} (h : s.size ≤ 1048576) : smStr s = true := Nat.ble_eq_true_of_le h
theorem sum_le {α : Type} (g : α → Nat) : ∀ {xs : List α} {x : α}, x ∈ xs → g x ≤ (xs.map g).sum
  | y :: ys, x, h => by
    simp only [List.map_cons, List.sum_cons]
    rcases List.mem_cons.1 h with rfl | h
    · exact Nat.le_add_right _ _
    · exact Nat.le_trans (sum_le g h) (Nat.le_add_left _ _)
theorem smL_of {α : Type} {f e : α → Bool} {g : α → Nat} {xs : List α} (hw : okL e xs = true) (h : szL g xs ≤ 1048576) (hf : ∀ x, e x = true → g x ≤ 1048576 → f x = true) : smL f xs = true := by
  simp only [okL, Bool.and_eq_true] at hw
  unfold smL
  have h1 := szL_ge g xs
  rw [Nat.ble_eq_true_of_le (by omega : xs.length ≤ 1048576), Bool.true_and, List.all_eq_true]
  intro x hx
  refine hf x (List.all_eq_true.1 hw.2 x hx) (Nat.le_trans (sum_le g hx) ?_)
  have : szL g xs = xs.length + (xs.map g).sum := rfl
  omega
theorem smL_len {α : Type} {f : α → Bool} {xs : List α} (h : smL f xs = true) : xs.length ≤ 1048576 := by
  simp only [smL, Bool.and_eq_true] at h; exact bleN h.1
theorem smL_all {α : Type} {f : α → Bool} {xs : List α} (h : smL f xs = true) : xs.all f = true := by
  simp only [smL, Bool.and_eq_true] at h; exact h.2
def same {α : Type} (x : α) : α := x
def sm2 {α : Type} (f : α → Bool) (x y : α) : Bool := f x && f y
theorem smL_at {t : Ty} {f : El t → Bool} {xs : List (El t)} (h : smL f xs = true) {j : Nat} (hj : j < xs.length) : f (atI xs j) = true := by
  obtain ⟨x, hx, _⟩ := drop_get hj
  rw [atI_of hx]; exact List.all_eq_true.1 (smL_all h) x (List.mem_of_getElem? hx)
def gzL_str (x : List ByteArray) (n : Int) : Bool := okL okStr x && okN n
def zL_str (x : List ByteArray) (n : Int) : Int := szI (szL ByteArray.size x) n

end Go.Gm

/- Plain functions: what is to be looked at. -/
namespace Go.Gm
open Go

def firstN (p : Nat → Bool) : Nat → Nat → Option Nat
  | _, 0 => none
  | j, d + 1 => cond (p j) (some j) (firstN p (j + 1) d)
theorem loop_find {R : Type} {F : Nat → Int → Option R} {n : Nat} {p : Nat → Bool} {hit : Int → Option R} {miss : Option R} (hs : ∀ m j, j < n → F (m + 1) (j : Int) = cond (p j) (hit (j : Int)) (F m ((j + 1 : Nat) : Int)))
    (he : ∀ m, F (m + 1) (n : Int) = miss) : ∀ d j m, j + d = n → d < m → F m (j : Int) = (firstN p j d).elim miss (fun i => hit (i : Int)) := by
  intro d
  induction d with
  | zero =>
    intro j m hj hm
    obtain ⟨m, rfl⟩ : ∃ m', m = m' + 1 := ⟨m - 1, by omega⟩
    have : j = n := by omega
    subst this
    rw [he]; rfl
  | succ d ih =>
    intro j m hj hm
    obtain ⟨m, rfl⟩ : ∃ m', m = m' + 1 := ⟨m - 1, by omega⟩
    rw [hs m j (by omega), ih (j + 1) m (by omega) (by omega)]
    simp only [firstN]
    cases p j <;> rfl
theorem firstN_some {p : Nat → Bool} : ∀ {d j i : Nat}, firstN p j d = some i → j ≤ i ∧ i < j + d ∧ p i = true ∧ ∀ k, j ≤ k → k < i → p k = false
  | 0, _, _, h => by cases h
  | d + 1, j, i, h => by
    simp only [firstN] at h
    cases hp : p j with
    | true => rw [hp] at h; cases h; exact ⟨Nat.le_refl _, by omega, hp, fun k h1 h2 => by omega⟩
    | false =>
      rw [hp] at h
      obtain ⟨h1, h2, h3, h4⟩ := firstN_some h
      refine ⟨by omega, by omega, h3, fun k hk hk' => ?_⟩
      by_cases e : k = j
      · subst e; exact hp
      · exact h4 k (by omega) hk'
theorem firstN_none {p : Nat → Bool} : ∀ {d j : Nat}, firstN p j d = none → ∀ k, j ≤ k → k < j + d → p k = false
  | 0, _, _, k, h1, h2 => by omega
  | d + 1, j, h, k, h1, h2 => by
    simp only [firstN] at h
    cases hp : p j with
    | true => rw [hp] at h; cases h
    | false =>
      rw [hp] at h
      by_cases e : k = j
      · subst e; exact hp
      · exact firstN_none h k (by omega) (by omega)
/-- A place as a number; -1 without one. -/
def plc (o : Option Nat) : Int := o.elim (-1) fun i => (i : Int)

end Go.Gm

/- Contracts of library functions that are not walked by the evaluator: one plain result, what was there stays. -/
namespace Go.Gm
open Go

variable {w w' : World} {Mf ROa : Nat → Prop}

end Go.Gm

/- Contracts of functions that call themselves, by a measure. -/
namespace Go.Gm
open Go

abbrev Q := List Dt → Option (Bool × List Dt)
/-- Only where the measure is below N. -/
def qlt (μ : List Dt → Nat) (N : Nat) (q : Q) : Q := fun ds => match q ds with | some (g, outs) => some (g && Nat.blt (μ ds) N, outs) | none => none
def qeq (μ : List Dt → Nat) (N : Nat) (q : Q) : Q := fun ds => match q ds with | some (g, outs) => some (g && Nat.beq (μ ds) N, outs) | none => none

theorem spec_part {P : Program} {f : Nat} {modes : List Am} {res : List Bool} {own : Bool} {q : Q} (h : ∀ ds outs, q ds = some (true, outs) → ∃ q0 : Q, SpecOk P f (Spec.of modes res own q0) ∧ q0 ds = some (true, outs)) : SpecOk P f (Spec.of modes res own q) := by
  intro R ds k r hr
  obtain ⟨outs, hq, hk⟩ := Spec.of_some hr
  obtain ⟨q0, hs, h0⟩ := h ds outs hq
  have hr0 : (Spec.of modes res own q0).fn ds k = some r := by
    show (match q0 ds with | some (g, outs) => cond g (k outs) none | none => none) = some r
    rw [h0]; exact hk
  intro w us Mf ROa Fs hA hp hFM hRM hRlt hMlt
  exact Calls.mono (hs ds k r hr0 w us Mf ROa Fs hA hp hFM hRM hRlt hMlt) fun e w' ⟨outs, h1, h2⟩ => ⟨outs, h1, ⟨h2.out, h2.kept⟩⟩

theorem qeq_some {μ : List Dt → Nat} {N : Nat} {q : Q} {ds : List Dt} {outs : List Dt} (h : qeq μ N q ds = some (true, outs)) : q ds = some (true, outs) ∧ μ ds = N := by
  unfold qeq at h
  cases hq : q ds with
  | none => rw [hq] at h; cases h
  | some go =>
    obtain ⟨g, o⟩ := go
    rw [hq] at h
    simp only [Option.some.injEq, Prod.mk.injEq, Bool.and_eq_true] at h
    obtain ⟨⟨h1, h2⟩, h3⟩ := h
    exact ⟨by rw [h1, h3], beqN h2⟩
theorem qlt_some {μ : List Dt → Nat} {N : Nat} {q : Q} {ds : List Dt} {outs : List Dt} (h : qlt μ N q ds = some (true, outs)) : q ds = some (true, outs) ∧ μ ds < N := by
  unfold qlt at h
  cases hq : q ds with
  | none => rw [hq] at h; cases h
  | some go =>
    obtain ⟨g, o⟩ := go
    rw [hq] at h
    simp only [Option.some.injEq, Prod.mk.injEq, Bool.and_eq_true] at h
    obtain ⟨⟨h1, h2⟩, h3⟩ := h
    rw [Nat.blt_eq] at h2
    exact ⟨by rw [h1, h3], h2⟩
theorem qeq_self {μ : List Dt → Nat} {q : Q} {ds : List Dt} {outs : List Dt} (h : q ds = some (true, outs)) : qeq μ (μ ds) q ds = some (true, outs) := by
  unfold qeq; rw [h]; simp

theorem spec_rec {P : Program} {f : Nat} {modes : List Am} {res : List Bool} {own : Bool} {q : Q} (μ : List Dt → Nat)
    (h : ∀ N, SpecOk P f (Spec.of modes res own (qlt μ N q)) → SpecOk P f (Spec.of modes res own (qeq μ N q))) : SpecOk P f (Spec.of modes res own q) := by
  have all : ∀ N, SpecOk P f (Spec.of modes res own (qeq μ N q)) := by
    intro N
    induction N using Nat.strongRecOn with
    | _ N ih =>
      refine h N (spec_part fun ds outs hq => ?_)
      obtain ⟨h1, h2⟩ := qlt_some hq
      exact ⟨qeq μ (μ ds) q, ih (μ ds) h2, qeq_self h1⟩
  intro R
  exact spec_part fun ds outs hq => ⟨qeq μ (μ ds) q, all (μ ds), qeq_self hq⟩

end Go.Gm

/- Plain laws: numbers as texts, joined texts. -/
namespace Go.Gm
open Go

/-! ### loops that carry something on -/
theorem loop_acc {α A R : Type} {xs : List α} {F : Nat → Nat → A → Option R} {f : A → α → A} {good : A → Option R} (inv : Nat → A → Prop)
    (hi : ∀ (j : Nat) a x, xs[j]? = some x → inv j a → inv (j + 1) (f a x))
    (hs : ∀ m (j : Nat) a x, xs[j]? = some x → inv j a → F (m + 1) j a = F m (j + 1) (f a x)) (he : ∀ m a, inv xs.length a → F (m + 1) xs.length a = good a) :
    ∀ (d j m : Nat) (a : A), j + d = xs.length → d < m → inv j a → F m j a = good ((xs.drop j).foldl f a) := by
  intro d
  induction d with
  | zero =>
    intro j m a hj hm hia
    obtain ⟨m, rfl⟩ : ∃ m', m = m' + 1 := ⟨m - 1, by omega⟩
    have : j = xs.length := by omega
    subst this
    rw [he m a hia, List.drop_length]; rfl
  | succ d ih =>
    intro j m a hj hm hia
    obtain ⟨m, rfl⟩ : ∃ m', m = m' + 1 := ⟨m - 1, by omega⟩
    obtain ⟨x, hx, hd⟩ := drop_get (show j < xs.length by omega)
    rw [hs m j a x hx hia, hd, List.foldl_cons]
    exact ih (j + 1) m _ (by omega) (by omega) (hi j a x hx hia)

/-! ### numbers -/
def natDig (n : Nat) : List UInt8 := if n < 10 then [UInt8.ofNat (48 + n)] else natDig (n / 10) ++ [UInt8.ofNat (48 + n % 10)]
termination_by n
decreasing_by omega
theorem natDig_lt {n : Nat} (h : n < 10) : natDig n = [UInt8.ofNat (48 + n)] := by rw [natDig, if_pos h]
theorem natDig_ge {n : Nat} (h : ¬ n < 10) : natDig n = natDig (n / 10) ++ [UInt8.ofNat (48 + n % 10)] := by rw [natDig, if_neg h]
theorem natDig_len : ∀ (k n : Nat), n < 10 ^ (k + 1) → (natDig n).length ≤ k + 1
  | 0, n, h => by rw [natDig_lt (by omega)]; simp
  | k + 1, n, h => by
    by_cases h1 : n < 10
    · rw [natDig_lt h1]; simp
    · rw [natDig_ge h1, List.length_append]
      have := natDig_len k (n / 10) (by rw [Nat.pow_succ] at h; omega)
      simp only [List.length_cons, List.length_nil]; omega
def digS (n : Int) : ByteArray := ⟨((if n < 0 then [(45 : UInt8)] else []) ++ natDig n.natAbs).toArray⟩
theorem digS_size {n : Int} (h : okI n = true) : (digS n).size ≤ 20 := by
  rw [okI_iff] at h
  have h1 := natDig_len 18 n.natAbs (by have : (10 : Nat) ^ (18 + 1) = 10000000000000000000 := rfl; omega)
  show ((if n < 0 then [(45 : UInt8)] else []) ++ natDig n.natAbs).toArray.size ≤ 20
  rw [List.size_toArray, List.length_append]
  split <;> simp <;> omega
theorem ba_ext {x y : ByteArray} (h : x.data.toList = y.data.toList) : x = y := by
  cases x; cases y
  congr
  exact Array.toList_inj.1 h
theorem ba_app (x y : ByteArray) : (x ++ y).data.toList = x.data.toList ++ y.data.toList := by simp
theorem enc_dig : ∀ d : Nat, d < 10 → Utf8.encode (IntKind.wrap .i32 (IntKind.wrap .i64 ((48 : Int) + (d : Int)))) = ⟨#[UInt8.ofNat (48 + d)]⟩
  | 0, _ => rfl | 1, _ => rfl | 2, _ => rfl | 3, _ => rfl | 4, _ => rfl | 5, _ => rfl | 6, _ => rfl | 7, _ => rfl | 8, _ => rfl | 9, _ => rfl
  | d + 10, h => by omega
theorem tmod_pos {n : Int} (h : 0 ≤ n) : Int.tmod n 10 = ((n.natAbs % 10 : Nat) : Int) := by
  obtain ⟨m, rfl⟩ := Int.eq_ofNat_of_zero_le h
  rfl
theorem tdiv_pos {n : Int} (h : 0 ≤ n) : Int.tdiv n 10 = ((n.natAbs / 10 : Nat) : Int) := by
  obtain ⟨m, rfl⟩ := Int.eq_ofNat_of_zero_le h
  rfl
theorem tmod_neg {n : Int} (h : n < 0) : Int.tmod n 10 = -((n.natAbs % 10 : Nat) : Int) := by
  obtain ⟨m, rfl⟩ : ∃ m : Nat, n = -(m : Int) := ⟨n.natAbs, by omega⟩
  rw [Int.neg_tmod]
  have : (-(m : Int)).natAbs = m := by omega
  rw [this]; rfl
theorem tdiv_neg {n : Int} (h : n < 0) : Int.tdiv n 10 = -((n.natAbs / 10 : Nat) : Int) := by
  obtain ⟨m, rfl⟩ : ∃ m : Nat, n = -(m : Int) := ⟨n.natAbs, by omega⟩
  rw [Int.neg_tdiv]
  have : (-(m : Int)).natAbs = m := by omega
  rw [this]; rfl
theorem digS_nat (m : Nat) : digS (m : Int) = ⟨(natDig m).toArray⟩ := by
  unfold digS
  rw [if_neg (by omega)]; simp
theorem digS_one {n : Int} (h0 : 0 ≤ n) (h : n < 10) : digS n = Utf8.encode (IntKind.wrap .i32 (IntKind.wrap .i64 ((48 : Int) + n))) := by
  obtain ⟨m, rfl⟩ := Int.eq_ofNat_of_zero_le h0
  rw [enc_dig m (by omega), digS_nat, natDig_lt (by omega)]
theorem digS_negone {n : Int} (h0 : n < 0) (h : n > -10) : bs [45] ++ digS (IntKind.wrap .i64 (0 - n)) = digS n := by
  obtain ⟨m, rfl⟩ : ∃ m : Nat, n = -(m : Int) := ⟨n.natAbs, by omega⟩
  rw [wrap_id (by omega) (by omega), show (0 : Int) - -(m : Int) = (m : Int) by omega, digS_nat]
  unfold digS
  rw [if_pos h0]
  apply ba_ext
  rw [ba_app]; simp [bs]
theorem digS_ge {n : Int} (h : ¬ n < 10) : digS (Int.tdiv n 10) ++ Utf8.encode (IntKind.wrap .i32 (IntKind.wrap .i64 ((48 : Int) + (Int.tmod n 10)))) = digS n := by
  rw [tdiv_pos (by omega), tmod_pos (by omega), enc_dig _ (by omega), digS_nat]
  obtain ⟨m, rfl⟩ : ∃ m : Nat, n = (m : Int) := ⟨n.natAbs, by omega⟩
  rw [digS_nat]
  apply ba_ext
  rw [ba_app]
  simp only [Int.natAbs_natCast]
  rw [natDig_ge (n := m) (by omega)]
theorem digS_le {n : Int} (h : ¬ n > -10) : digS (Int.tdiv n 10) ++ digS (IntKind.wrap .i64 (0 - (Int.tmod n 10))) = digS n := by
  rw [tdiv_neg (by omega), tmod_neg (by omega)]
  rw [show (0 : Int) - -((n.natAbs % 10 : Nat) : Int) = ((n.natAbs % 10 : Nat) : Int) by omega, wrap_id (by omega) (by omega), digS_nat]
  obtain ⟨m, rfl⟩ : ∃ m : Nat, n = -(m : Int) := ⟨n.natAbs, by omega⟩
  have e : (-(m : Int)).natAbs = m := by omega
  rw [e]
  unfold digS
  rw [if_pos (by omega), if_pos (by omega)]
  apply ba_ext
  rw [ba_app]
  have e2 : (-((m / 10 : Nat) : Int)).natAbs = m / 10 := by omega
  rw [e, e2, natDig_ge (n := m) (by omega), natDig_lt (n := m % 10) (by omega)]
  simp
def muDig (n : Int) : Nat := 2 * n.natAbs + if n < 0 then 1 else 0
/-- One byte. -/
theorem byte_dig : ∀ d : Nat, d < 10 → bytesOf [IntKind.wrap .u8 (IntKind.wrap .i64 ((48 : Int) + (d : Int)))] = ⟨#[UInt8.ofNat (48 + d)]⟩
  | 0, _ => rfl | 1, _ => rfl | 2, _ => rfl | 3, _ => rfl | 4, _ => rfl | 5, _ => rfl | 6, _ => rfl | 7, _ => rfl | 8, _ => rfl | 9, _ => rfl
  | d + 10, h => by omega
/-- The digits of what is left, ahead of what there is. -/
def digR (n : Nat) (out : ByteArray) : ByteArray := if n = 0 then out else ⟨(natDig n).toArray⟩ ++ out
theorem digR_step {n : Nat} (h : n ≠ 0) (out : ByteArray) : digR (n / 10) (⟨#[UInt8.ofNat (48 + n % 10)]⟩ ++ out) = digR n out := by
  unfold digR
  rw [if_neg h]
  by_cases h1 : n < 10
  · rw [if_pos (by omega), natDig_lt h1, Nat.mod_eq_of_lt h1]
  · rw [if_neg (by omega), natDig_ge h1]
    apply ba_ext
    simp only [ba_app]; simp

theorem app_le {a b : ByteArray} (h : a.size + b.size ≤ 9223372036854775807) : decide (ByteArray.size a + ByteArray.size b ≤ 9223372036854775807) = true := decide_eq_true h

theorem bs_size (l : List Nat) : (bs l).size = l.length := by
  show (List.toArray (l.map UInt8.ofNat)).size = l.length
  simp
theorem inR_iff {c l h : Int} : inR c l h = true ↔ l ≤ c ∧ c ≤ h := by unfold inR; simp
end Go.Gm

/- Plain functions: picks, their texts, what they fit. -/
namespace Go.Gm
open Go

def gLenW {α : Type} (x : List α) : Bool := Nat.ble x.length WIDE
theorem gLenW_le {α : Type} {x : List α} (h : gLenW x = true) : x.length ≤ 9223372036854775807 := bleN h
theorem gLenW_of {α : Type} {x : List α} (h : x.length ≤ 9223372036854775807) : gLenW x = true := Nat.ble_eq_true_of_le h
theorem gLenW_sm {α : Type} {f : α → Bool} {x : List α} (h : smL f x = true) : gLenW x = true := gLenW_of (Nat.le_trans (smL_len h) (by decide))

/-- The place of the first that is so; -1 without one. -/
def findI {t : Ty} (q : El t → Bool) (xs : List (El t)) : Int := plc (firstN (fun j => q (atI xs j)) 0 xs.length)
/-! ### what picks fit -/
def isIn (xs : List ByteArray) (s : ByteArray) : Bool := xs.any fun x => sEq x s
theorem sEq_comm (x y : ByteArray) : sEq x y = sEq y x := by rw [Bool.eq_iff_iff, sEq_iff, sEq_iff, eq_comm]
def idxS (xs : List ByteArray) (s : ByteArray) : Int := findI (t := .str) (fun x => sEq s x) xs
def noteIs (n : NoteT) (p : PickT) : Bool := sEq n.key p.key
/-- What a pick asks is among the notes. -/
def among (p : PickT) (ns : List NoteT) : Bool := (ns.find? fun n => noteIs n p).elim false fun n => isIn p.vals n.text
noncomputable def fits (p : PickT) (ns : List NoteT) : Bool :=
  pickOk p && cond (p.op == (1 : Int) || p.op == (3 : Int)) (among p ns) (cond (p.op == (2 : Int) || p.op == (4 : Int)) (!(among p ns)) (cond (p.op == (5 : Int)) (ns.any fun n => noteIs n p) (!(ns.any fun n => noteIs n p))))
noncomputable def fitsNot (p : PickT) (i : ItemT) : Bool := !(fits p i.order.notes)
noncomputable def fitsNotAny (ps : List PickT) (i : ItemT) : Bool := ps.any fun p => fitsNot p i
noncomputable def chosenStep (ps : List PickT) (out : List ByteArray) (i : ItemT) : List ByteArray := cond (fitsNotAny ps i) out (out ++ [i.order.name])
noncomputable def chosen (s : StoreT) (ps : List PickT) : List ByteArray := s.items.foldl (chosenStep ps) []
end Go.Gm

/- Plain functions and laws: marks that are written into lists one after another, and whether they are held. Printed by mkp7.py of this session. -/
namespace Go.Gm
open Go

noncomputable def mkT (k : Int) : ByteArray := cond (decide (k ≤ 0)) (bs [109,48]) (bs [109] ++ digS k)
def mkL {α : Type} (f : Int → α → α × Int) : Int → List α → List α × Int
  | k, [] => ([], k)
  | k, x :: xs => ((f k x).1 :: (mkL f (f k x).2 xs).1, (mkL f (f k x).2 xs).2)
def ctL {α : Type} (c : α → Nat) (xs : List α) : Nat := (xs.map c).sum
theorem ctL_cons {α : Type} (c : α → Nat) (x : α) (xs : List α) : ctL c (x :: xs) = c x + ctL c xs := by simp [ctL]
theorem mkL_ct {α : Type} {f : Int → α → α × Int} {c : α → Nat} (h : ∀ k x, (f k x).2 = k + (c x : Nat)) : ∀ (k : Int) (xs : List α), (mkL f k xs).2 = k + (ctL c xs : Nat)
  | k, [] => by simp [mkL, ctL]
  | k, x :: xs => by
    simp only [mkL]
    rw [mkL_ct h, h, ctL_cons]; omega
theorem mkL_idem {α : Type} {f : Int → α → α × Int} (h : ∀ k x, f k (f k x).1 = f k x) : ∀ (k : Int) (xs : List α), mkL f k (mkL f k xs).1 = mkL f k xs
  | _, [] => rfl
  | k, x :: xs => by
    simp only [mkL]
    rw [h, mkL_idem h]
theorem ctL_len {α : Type} {c : α → Nat} (h : ∀ x, 1 ≤ c x) : ∀ xs : List α, xs.length ≤ ctL c xs
  | [] => Nat.le_refl _
  | x :: xs => by
    have := ctL_len h xs
    have h1 := h x
    rw [ctL_cons, List.length_cons]; omega
theorem ctL_le {α : Type} {c s : α → Nat} (h : ∀ x, c x ≤ 64 * s x + 64) : ∀ xs : List α, ctL c xs ≤ 64 * szL s xs
  | [] => by simp [ctL]
  | x :: xs => by
    have := ctL_le h xs
    have h1 := h x
    have : szL s (x :: xs) = szL s xs + s x + 1 := by simp only [szL, List.length_cons, List.map_cons, List.sum_cons]; omega
    rw [ctL_cons]; omega
/-- The list as it is marked is held where it is the same. -/
noncomputable def hdL {α : Type} (f : Int → α → α × Int) (k : Int) (xs : List α) : Int := cond (eqD xs (mkL f k xs).1) (mkL f k xs).2 (-1)
theorem hdL_cases {α : Type} (f : Int → α → α × Int) (k : Int) (xs : List α) : (eqD xs (mkL f k xs).1 = true ∧ hdL f k xs = (mkL f k xs).2) ∨ (eqD xs (mkL f k xs).1 = false ∧ hdL f k xs = -1) := by
  unfold hdL
  cases eqD xs (mkL f k xs).1 with
  | true => exact .inl ⟨rfl, rfl⟩
  | false => exact .inr ⟨rfl, rfl⟩
theorem eqD_cons {α : Type} (x y : α) (xs ys : List α) : eqD (x :: xs) (y :: ys) = (eqD x y && eqD xs ys) := by
  rw [Bool.eq_iff_iff, Bool.and_eq_true, eqD_iff, eqD_iff, eqD_iff, List.cons.injEq]
def gmk (k : Int) (c : Nat) : Bool := decide (0 ≤ k) && decide (k + (c : Nat) ≤ 4611686018427387904)
theorem gmk_iff {k : Int} {c : Nat} : gmk k c = true ↔ 0 ≤ k ∧ k + (c : Nat) ≤ 4611686018427387904 := by simp [gmk]
theorem gmk_of {k : Int} {c : Nat} (h0 : 0 ≤ k) (h : k + (c : Nat) ≤ 4611686018427387904) : gmk k c = true := gmk_iff.2 ⟨h0, h⟩
theorem okI_of {n : Int} (h0 : -9223372036854775808 ≤ n) (h : n ≤ 9223372036854775807) : okI n = true := okI_iff.2 ⟨h0, h⟩
theorem cond_and {α : Type} (a b : Bool) (x y : α) : cond (a && b) x y = cond a (cond b x y) y := by cases a <;> rfl
theorem decide_ge0 {n : Int} (h : 0 ≤ n) : decide (n < 0) = false := decide_eq_false (by omega)
theorem decide_m1 : decide ((-1 : Int) < 0) = true := rfl
theorem atI_set {t : Ty} {l : List (El t)} {j : Nat} (h : j < l.length) (a : El t) : atI (l.set j a) j = a := by
  apply atI_of; simp [h]
theorem loop_mark {α R : Type} {F : Nat → Int → Int → List α → Option R} {f : Int → α → α × Int} {c : α → Nat} {good : Int → List α → Option R} {n : Nat} (hc : ∀ k x, (f k x).2 = k + (c x : Nat))
    (hs : ∀ (m : Nat) (k : Int) (j : Nat) (l : List α) (x : α), l[j]? = some x → l.length = n → 0 ≤ k → k + (c x : Nat) ≤ 4611686018427387904 → F (m + 1) k (j : Int) l = F m (f k x).2 ((j : Int) + 1) (l.set j (f k x).1))
    (he : ∀ (m : Nat) (k : Int) (l : List α), l.length = n → F (m + 1) k (n : Int) l = good k l) :
    ∀ (rest : List α) (m : Nat) (k : Int) (pre : List α), pre.length + rest.length = n → rest.length < m → 0 ≤ k → k + (ctL c rest : Nat) ≤ 4611686018427387904 → F m k (pre.length : Int) (pre ++ rest) = good (mkL f k rest).2 (pre ++ (mkL f k rest).1)
  | [], m, k, pre, hn, hm, _, _ => by
    obtain ⟨m, rfl⟩ : ∃ m', m = m' + 1 := ⟨m - 1, by omega⟩
    simp only [List.append_nil, mkL]
    have e : pre.length = n := by simpa using hn
    rw [e]; exact he m k pre e
  | x :: xs, m, k, pre, hn, hm, h0, hB => by
    obtain ⟨m, rfl⟩ : ∃ m', m = m' + 1 := ⟨m - 1, by omega⟩
    rw [ctL_cons] at hB
    simp only [List.length_cons] at hn hm
    rw [hs m k pre.length (pre ++ x :: xs) x (by simp) (by simp; omega) h0 (by omega)]
    have e : (pre ++ x :: xs).set pre.length (f k x).1 = (pre ++ [(f k x).1]) ++ xs := by
      rw [List.set_append_right _ _ (Nat.le_refl _), Nat.sub_self]; simp
    have := loop_mark hc hs he xs m (f k x).2 (pre ++ [(f k x).1]) (by simp; omega) (by omega) (by rw [hc]; omega) (by rw [hc]; omega)
    rw [e]
    simp only [List.length_append, List.length_cons, List.length_nil] at this
    rw [show ((pre.length : Int) + 1) = ((pre.length + (0 + 1) : Nat) : Int) by omega, this]
    simp only [mkL, List.append_assoc, List.cons_append, List.nil_append]
theorem loop_held {α R : Type} {xs : List α} {F : Nat → Int → Int → Option R} {f : Int → α → α × Int} {c : α → Nat} {good : Int → Option R} {bad : Option R} (hc : ∀ k x, (f k x).2 = k + (c x : Nat))
    (hs : ∀ (m : Nat) (k : Int) (j : Nat) (x : α), xs[j]? = some x → 0 ≤ k → k + (c x : Nat) ≤ 4611686018427387904 → F (m + 1) k (j : Int) = cond (eqD x (f k x).1) (F m (f k x).2 ((j : Int) + 1)) bad)
    (he : ∀ (m : Nat) (k : Int), F (m + 1) k (xs.length : Int) = good k) :
    ∀ (d j m : Nat) (k : Int), j + d = xs.length → d < m → 0 ≤ k → k + (ctL c (xs.drop j) : Nat) ≤ 4611686018427387904 → F m k (j : Int) = cond (eqD (xs.drop j) (mkL f k (xs.drop j)).1) (good (mkL f k (xs.drop j)).2) bad := by
  intro d
  induction d with
  | zero =>
    intro j m k hj hm _ _
    obtain ⟨m, rfl⟩ : ∃ m', m = m' + 1 := ⟨m - 1, by omega⟩
    have : j = xs.length := by omega
    subst this
    rw [List.drop_length, he]
    simp only [mkL]; rw [eqD_self]; rfl
  | succ d ih =>
    intro j m k hj hm h0 hB
    obtain ⟨m, rfl⟩ : ∃ m', m = m' + 1 := ⟨m - 1, by omega⟩
    obtain ⟨x, hx, hd⟩ := drop_get (show j < xs.length by omega)
    rw [hd, ctL_cons] at hB
    rw [hs m k j x hx h0 (by omega), hd]
    simp only [mkL]
    rw [eqD_cons]
    have := ih (j + 1) m (f k x).2 (by omega) (by omega) (by rw [hc]; omega) (by rw [hc]; omega)
    rw [show ((j : Int) + 1) = ((j + 1 : Nat) : Int) by omega, this]
    cases eqD x (f k x).1 <;> rfl

/-! ### single ones -/
noncomputable def mk_str (k : Int) (_x : ByteArray) : ByteArray × Int := (mkT k, k + 1)
def ct_str (_x : ByteArray) : Nat := 1
theorem mk_str_ct (k : Int) (x : ByteArray) : (mk_str k x).2 = k + (ct_str x : Nat) := rfl
theorem mk_str_idem (k : Int) (x : ByteArray) : mk_str k (mk_str k x).1 = mk_str k x := rfl
theorem ct_str_pos (x : ByteArray) : 1 ≤ ct_str x := Nat.le_refl _
theorem mkL_str_ct (k : Int) (xs : List ByteArray) : (mkL mk_str k xs).2 = k + (ctL ct_str xs : Nat) := mkL_ct mk_str_ct k xs
end Go.Gm

/- Plain laws: what is chosen. -/
namespace Go.Gm
open Go

end Go.Gm

/- Plain functions: names, what is to be looked at. -/
namespace Go.Gm
open Go

def nameC (i c : Int) : Bool := (decide (c ≥ (97 : Int)) && decide (c ≤ (122 : Int))) || (!(i == (0 : Int)) && (digit c || (c == (45 : Int))))
def nameOk (s : ByteArray) : Bool := allN (fun j => nameC (j : Int) (byteAt s j)) 0 s.size && inR (s.size : Int) 1 20
end Go.Gm

/- Plain functions: amounts, orders and worlds as texts. -/
namespace Go.Gm
open Go

end Go.Gm

/- Contracts of two or three functions that call each other, by measures. -/
namespace Go.Gm
open Go

structure Rc where
  f : Nat
  ms : List Am
  rs : List Bool
  ow : Bool
  mu : List Dt → Nat
  q : Q
theorem spec_recs {P : Program} (L : List Rc)
    (h : ∀ N, (∀ x ∈ L, SpecOk P x.f (Spec.of x.ms x.rs x.ow (qlt x.mu N x.q))) → ∀ x ∈ L, SpecOk P x.f (Spec.of x.ms x.rs x.ow (qeq x.mu N x.q))) :
    ∀ x ∈ L, SpecOk P x.f (Spec.of x.ms x.rs x.ow x.q) := by
  have all : ∀ N, ∀ x ∈ L, SpecOk P x.f (Spec.of x.ms x.rs x.ow (qeq x.mu N x.q)) := by
    intro N
    induction N using Nat.strongRecOn with
    | _ N ih =>
      refine h N fun x hx => spec_part fun ds outs hq => ?_
      obtain ⟨h1, h2⟩ := qlt_some hq
      exact ⟨qeq x.mu (x.mu ds) x.q, ih (x.mu ds) h2 x hx, qeq_self h1⟩
  intro x hx R
  exact spec_part fun ds outs hq => ⟨qeq x.mu (x.mu ds) x.q, all (x.mu ds) x hx, qeq_self hq⟩

end Go.Gm

/- Plain functions and laws of trees: nodes and rules. Printed by mkp11.py of this session. -/
namespace Go.Gm
open Go

theorem okL_wm {t : Ty} {xs : List (El t)} {f : El t → Bool} (h : WideC (.l t xs)) (hf : ∀ x ∈ xs, (∀ c ∈ enc t x, WideC c) → f x = true) : okL f xs = true := by
  cases h with
  | lst h hx =>
    unfold okL
    rw [Nat.ble_eq_true_of_le (show xs.length ≤ WIDE from h), Bool.true_and, List.all_eq_true]
    exact fun x hm => hf x hm (hx x hm)
theorem smL_ofm {α : Type} {f e : α → Bool} {g : α → Nat} {xs : List α} (hw : okL e xs = true) (h : szL g xs ≤ 1048576) (hf : ∀ x ∈ xs, e x = true → g x ≤ 1048576 → f x = true) : smL f xs = true := by
  simp only [okL, Bool.and_eq_true] at hw
  unfold smL
  have h1 := szL_ge g xs
  rw [Nat.ble_eq_true_of_le (by omega : xs.length ≤ 1048576), Bool.true_and, List.all_eq_true]
  intro x hx
  refine hf x hx (List.all_eq_true.1 hw.2 x hx) (Nat.le_trans (sum_le g hx) ?_)
  have : szL g xs = xs.length + (xs.map g).sum := rfl
  omega
def ndL {α : Type} (f : α → Nat) (xs : List α) : Nat := (xs.map f).sum
theorem ndL_mem {α : Type} {f : α → Nat} {xs : List α} {x : α} (h : x ∈ xs) : f x ≤ ndL f xs := sum_le f h

mutual
def ok_node : NodeT → Bool
  | ⟨kind, n, s, keys, kids⟩ => (okI kind && (okI n && (okStr s && (okL okStr keys && (Nat.ble kids.length WIDE && okA_node kids)))))
def okA_node : List NodeT → Bool
  | [] => true
  | x :: xs => ok_node x && okA_node xs
end
theorem okA_node_eq : ∀ xs : List NodeT, okA_node xs = xs.all ok_node
  | [] => by simp [okA_node]
  | x :: xs => by rw [okA_node, okA_node_eq xs, List.all_cons]
theorem ok_node_def (x : NodeT) : ok_node x = (okI x.kind && (okI x.n && (okStr x.s && (okL okStr x.keys && okL ok_node x.kids)))) := by
  cases x; rw [ok_node, okA_node_eq]; rfl
mutual
def sm_node : NodeT → Bool
  | ⟨kind, n, s, keys, kids⟩ => (okI kind && (okI n && (smStr s && (smL smStr keys && (Nat.ble kids.length 1048576 && smA_node kids)))))
def smA_node : List NodeT → Bool
  | [] => true
  | x :: xs => sm_node x && smA_node xs
end
theorem smA_node_eq : ∀ xs : List NodeT, smA_node xs = xs.all sm_node
  | [] => by simp [smA_node]
  | x :: xs => by rw [smA_node, smA_node_eq xs, List.all_cons]
theorem sm_node_def (x : NodeT) : sm_node x = (okI x.kind && (okI x.n && (smStr x.s && (smL smStr x.keys && smL sm_node x.kids)))) := by
  cases x; rw [sm_node, smA_node_eq]; rfl
mutual
def szN_node : NodeT → Nat
  | ⟨_, _, s, keys, kids⟩ => s.size + szL ByteArray.size keys + (kids.length + szA_node kids)
def szA_node : List NodeT → Nat
  | [] => 0
  | x :: xs => szN_node x + szA_node xs
end
theorem szA_node_eq : ∀ xs : List NodeT, szA_node xs = (xs.map szN_node).sum
  | [] => by simp [szA_node]
  | x :: xs => by rw [szA_node, szA_node_eq xs, List.map_cons, List.sum_cons]
theorem szN_node_def (x : NodeT) : szN_node x = x.s.size + szL ByteArray.size x.keys + szL szN_node x.kids := by
  cases x; rw [szN_node, szA_node_eq]; rfl
mutual
def nd_node : NodeT → Nat
  | ⟨_, _, _, _, kids⟩ => 1 + ndA_node kids
def ndA_node : List NodeT → Nat
  | [] => 0
  | x :: xs => nd_node x + ndA_node xs
end
theorem ndA_node_eq : ∀ xs : List NodeT, ndA_node xs = ndL nd_node xs
  | [] => by simp [ndA_node, ndL]
  | x :: xs => by rw [ndA_node, ndA_node_eq xs]; simp [ndL]
theorem nd_node_def (x : NodeT) : nd_node x = 1 + ndL nd_node x.kids := by
  cases x; rw [nd_node, ndA_node_eq]
theorem nd_node_kid {x y : NodeT} (h : y ∈ x.kids) : nd_node y < nd_node x := by
  have := ndL_mem (f := nd_node) h
  rw [nd_node_def x]; omega
def gz_node (x : NodeT) (n : Int) : Bool := ok_node x && okN n
def z_node (x : NodeT) (n : Int) : Int := szI (szN_node x) n
def gzL_node (x : List NodeT) (n : Int) : Bool := okL ok_node x && okN n
def zL_node (x : List NodeT) (n : Int) : Int := szI (szL szN_node x) n
theorem ok_node_w1 (x : NodeT) (h : ∀ c ∈ enc .node x, WideC c) : ok_node x = true := by
  rw [ok_node_def]
  simp only [Bool.and_eq_true]
  exact ⟨okI_w (h (.v (.int .i64 x.kind)) (by simp [enc, encNodeT])), okI_w (h (.v (.int .i64 x.n)) (by simp [enc, encNodeT])), okStr_w (h (.v (.string x.s)) (by simp [enc, encNodeT])), okStrs_w (h (.l .str x.keys) (by simp [enc, encNodeT])), okL_wm (h (.l .node x.kids) (by simp [enc, encNodeT])) fun y _hy h2 => ok_node_w1 y h2⟩
termination_by nd_node x
decreasing_by exact nd_node_kid _hy
theorem sm_node_of1 (x : NodeT) (hw : ok_node x = true) (h : szN_node x ≤ 1048576) : sm_node x = true := by
  rw [ok_node_def] at hw
  simp only [Bool.and_eq_true] at hw
  obtain ⟨hw_kind, hw_n, hw_s, hw_keys, hw_kids⟩ := hw
  rw [szN_node_def] at h
  rw [sm_node_def]
  simp only [Bool.and_eq_true]
  exact ⟨hw_kind, hw_n, smStr_of (by omega), smL_ofm hw_keys (show szL ByteArray.size x.keys ≤ 1048576 by omega) fun y _ _ h2 => smStr_of h2, smL_ofm hw_kids (by omega) fun y _hy h1 h2 => sm_node_of1 y h1 h2⟩
termination_by nd_node x
decreasing_by exact nd_node_kid _hy
theorem ok_node_w {x : NodeT} (h : ∀ c ∈ enc .node x, WideC c) : ok_node x = true := ok_node_w1 x h
theorem sm_node_of {x : NodeT} (hw : ok_node x = true) (h : szN_node x ≤ 1048576) : sm_node x = true := sm_node_of1 x hw h
theorem eqD_node (a b : NodeT) : eqD a b = ((a.kind == b.kind) && ((a.n == b.n) && (sEq a.s b.s && (eqD a.keys b.keys && eqD a.kids b.kids)))) := by
  cases a; cases b
  rw [Bool.eq_iff_iff]; simp [eqD_iff, sEq_iff]
theorem eta_node (x : NodeT) : (⟨x.kind, x.n, x.s, x.keys, x.kids⟩ : NodeT) = x := by cases x; rfl
abbrev eN (x : NodeT) : NodeT := ⟨x.kind, x.n, x.s, x.keys, x.kids⟩
theorem eN_eq (x : NodeT) : eN x = x := eta_node x
def mz_node (x : NodeT) (_ : Int) : Nat := 2 * nd_node x
def mzL_node (x : List NodeT) (_ : Int) : Nat := 2 * ndL nd_node x + 1
def mt_node (x : NodeT) : Nat := 2 * nd_node x
def mtL_node (x : List NodeT) : Nat := 2 * ndL nd_node x + 1
def me_node (x : NodeT) (_ : NodeT) : Nat := 2 * nd_node x
def meL_node (x : List NodeT) (_ : List NodeT) : Nat := 2 * ndL nd_node x + 1
theorem eta_rule (x : RuleT) : (⟨x.kind, x.keys, x.kids, x.need, x.low, x.high⟩ : RuleT) = x := by cases x; rfl
abbrev eR (x : RuleT) : RuleT := ⟨x.kind, x.keys, x.kids, x.need, x.low, x.high⟩
theorem eR_eq (x : RuleT) : eR x = x := eta_rule x
end Go.Gm

/- Plain functions: texts, keys, rules. -/
namespace Go.Gm
open Go

def textOk (s : ByteArray) : Bool := allN (fun j => inR (byteAt s j) 32 126) 0 s.size && decide ((s.size : Int) ≤ 400)
end Go.Gm

/- Contracts of functions of which one argument, the first, comes in cell by cell: its lists are lent, each by itself. -/
namespace Go.Gm
open Go

section ev
variable {R : Type}
/-- The cells of an argument, one by one. -/
def cellsIn : Nat → List Am → List Dt → St → (List Sc → St → Option R) → Option R
  | _, [], [], st, k => k [] st
  | id, .mut :: ms, .d (.sl t) x :: ds, st, k => impL true st id [.l t x] fun cs _ st _ => match cs with
      | [c] => cellsIn (id + 1) ms ds st fun cs st => k (c :: cs) st
      | _ => none
  | id, .skp :: ms, _ :: ds, st, k => cellsIn (id + 1) ms ds st fun cs st => k (.dead :: cs) st
  | _, _, _, _, _ => none
def cellsOf : List Am → List Sc → Option (List (Am × Nat × Sv))
  | [], [] => some []
  | .mut :: ms, c :: cs => (cellsOf ms cs).bind fun l => some ((.mut, 0, .c (.one c)) :: l)
  | .skp :: ms, _ :: cs => cellsOf ms cs
  | _, _ => none
def evExitS (E : Env) (ms1 ms2 : List Am) (res : List Bool) (rvs : List ResultVar) (Ts : List Nat) (ds1 ds2 : List Dt) (st : St) (k : List Dt → Option R) : Option R :=
  exitRes E st true rvs res Ts fun l1 => match aget st.slots 0 with
    | some (.c (.agg cs)) => (cellsOf ms1 cs).bind fun la => backsOf st 1 ms2 fun lb =>
        passArgs E (l1 ++ (la ++ lb)) st fun outs _ _ _ => cond (backsChk (ms1 ++ ms2) (ds1 ++ ds2) (outs.drop l1.length)) (k outs) none
    | _ => none
def evFnS (E : Env) (keep : Nat → Kp) (rounds : Nat) (body : Code) (ms1 ms2 : List Am) (res : List Bool) (rvs : List ResultVar) (Ts : List Nat) (ds1 ds2 : List Dt) (k : List Dt → Option R) : Option R :=
  cellsIn 0 ms1 ds1 ⟨[], [], []⟩ fun cs st => entry 1 ms2 ds2 { st with slots := aset st.slots 0 (.c (.agg cs)) } fun st => ev E keep rounds body st fun e st => match e with
    | .exit _ => none
    | _ => evExitS E ms1 ms2 res rvs Ts ds1 ds2 st k
end ev

variable {R : Type} {P : Program} {E : Env} {w0 w w' : World} {Mf : Nat → Prop} {g : Gh} {st : St} {a : Act}

theorem cellsIn_sound {ROa : Nat → Prop} : ∀ {ms1 ms2 : List Am} {ds1 ds2 : List Dt} {us : List Value} {Fs : List (Nat → Prop)} {id : Nat} {g : Gh} {st : St} {k : List Sc → St → Option R} {r : R}, Inv w0 Mf g st a w →
    ArgsOk w ROa (ms1 ++ ms2) (ds1 ++ ds2) us Fs → PairApart Fs → (∀ n, Given (ms1 ++ ms2) Fs n → Free w0 Mf g st n ∧ n < w.heap.size) → g.ro = ROa → cellsIn id ms1 ds1 st k = some r →
    ∃ cs g' st' Fs', k cs st' = some r ∧ g'.n = g.n ∧ Inv w0 Mf g' st' a w ∧ (∀ c u, ScRel w g st c u → ScRel w g' st' c u) ∧ CsL w g' st' cs (us.take ms1.length) ∧ ArgsOk w ROa ms2 ds2 (us.drop ms1.length) Fs' ∧ PairApart Fs' ∧
      (∀ n, Given ms2 Fs' n → Free w0 Mf g' st' n ∧ n < w.heap.size) ∧ g'.ro = ROa
  | [], ms2, ds1, ds2, us, Fs, id, g, st, k, r, I, hA, hp, hf, hro, h => by
    cases ds1 with
    | cons _ _ => cases h
    | nil => exact ⟨[], g, st, Fs, h, rfl, I, fun _ _ h => h, trivial, hA, hp, hf, hro⟩
  | m :: ms1, ms2, ds0, ds2, us0, Fs0, id, g, st, k, r, I, hA, hp, hf, hro, h => by
    cases ds0 with
    | nil => cases m <;> cases h
    | cons d ds1 =>
    rw [List.cons_append, List.cons_append] at hA
    cases hA with
    | cons hA1 hA2 =>
    rename_i u us F Fs
    obtain ⟨hp1, hp2⟩ := List.pairwise_cons.1 hp
    cases m with
    | «mut» =>
      cases d with
      | clo _ _ => cases h
      | d t x =>
      obtain ⟨e, xs, heq, hO⟩ := hA1
      cases heq
      simp only [cellsIn] at h
      obtain ⟨ss, mm, g1, st1, v, h1, I1, G1, hc⟩ := Inv.impOwn (cs := [.l e xs]) (Fs := [F]) (us := [u]) I ⟨hO, trivial⟩ (fun x hx => by simp at hx) (List.pairwise_singleton _ _) (fun G hG n hn => by
        have : G = F := by simpa using hG
        subst this
        exact hf n (.here rfl hn)) h
      cases ss with
      | nil => exact hc.elim
      | cons c ss =>
      cases ss with
      | cons _ _ => exact hc.2.elim
      | nil =>
      obtain ⟨cs, g', st', Fs', h2, h3, I2, hm, hcs, hA3, hp3, hf3, hro3⟩ := cellsIn_sound I1 hA2 hp2 (fun n hn => by
        obtain ⟨hfr, hlt⟩ := hf n (.there hn)
        refine ⟨⟨fun id' hi h5 => ?_, by rw [G1.ro]; exact hfr.ro, fun b hb => by rw [G1.bx]; rw [G1.eq] at hb; exact hfr.b b hb, hfr.mine⟩, hlt⟩
        rcases G1.own id' hi with ⟨h6, h7⟩ | h6
        · rw [h7] at h5; exact hfr.r id' h6 h5
        · obtain ⟨F', hF', hk⟩ := h6 n h5
          have : F' = F := by simpa using hF'
          subst this
          obtain ⟨G, hG, hg⟩ := hn.any
          exact hp1 G hG n hk hg) (by rw [G1.ro]; exact hro) h1
      exact ⟨c :: cs, g', st', Fs', h2, h3.trans G1.n, I2, fun c u h => hm c u (G1.map c u h), ⟨hm _ _ hc.1, hcs⟩, hA3, hp3, hf3, hro3⟩
    | skp =>
      simp only [cellsIn] at h
      obtain ⟨cs, g', st', Fs', h2, h3, I2, hm, hcs, hA3, hp3, hf3, hro3⟩ := cellsIn_sound I hA2 hp2 (fun n hn => hf n (.there hn)) hro h
      exact ⟨.dead :: cs, g', st', Fs', h2, h3, I2, hm, ⟨⟨hA1, trivial⟩, hcs⟩, hA3, hp3, hf3, hro3⟩
    | _ => cases h

theorem cellsOf_sound : ∀ {ms : List Am} {cs : List Sc} {us : List Value} {la : List (Am × Nat × Sv)}, CsL w g st cs us → cellsOf ms cs = some la → SvL w g st (la.map (·.2)) (backUs ms us) ∧ la.map (·.1) = ms.filter isBack
  | [], [], us, la, hc, h => by
    cases h
    cases us with
    | nil => exact ⟨trivial, rfl⟩
    | cons _ _ => exact hc.elim
  | [], _ :: _, _, _, _, h => by cases h
  | m :: ms, [], _, _, _, h => by cases m <;> cases h
  | m :: ms, c :: cs, us, la, hc, h => by
    cases us with
    | nil => exact hc.elim
    | cons u us =>
    cases m with
    | «mut» =>
      simp only [cellsOf] at h
      obtain ⟨l, hl, h⟩ := Option.bind_eq_some_iff.1 h
      cases h
      obtain ⟨h1, h2⟩ := cellsOf_sound hc.2 hl
      exact ⟨⟨hc.1, h1⟩, by rw [List.map_cons, h2]; rfl⟩
    | skp =>
      obtain ⟨h1, h2⟩ := cellsOf_sound (ms := ms) hc.2 h
      exact ⟨h1, by simpa [isBack] using h2⟩
    | _ => cases h

theorem backUs_append : ∀ {ms1 ms2 : List Am} {us1 us2 : List Value}, ms1.length = us1.length → backUs (ms1 ++ ms2) (us1 ++ us2) = backUs ms1 us1 ++ backUs ms2 us2
  | [], _, [], _, _ => rfl
  | [], _, _ :: _, _, h => by simp at h
  | _ :: _, _, [], _, h => by simp at h
  | m :: ms, ms2, u :: us, us2, h => by
    have := backUs_append (ms1 := ms) (ms2 := ms2) (us1 := us) (us2 := us2) (by simpa using h)
    simp only [List.cons_append, backUs, this]
    split <;> rfl

/-- A contract of which the first argument comes in cell by cell. -/
def Spec.ofS (ms1 ms2 : List Am) (res : List Bool) (q : List Dt → Option (Bool × List Dt)) : Spec := { Spec.of (ms1 ++ ms2) res true q with shape := [ms1.length] }
theorem Spec.ofS_natl (ms1 ms2 : List Am) (res : List Bool) (q : List Dt → Option (Bool × List Dt)) : (Spec.ofS ms1 ms2 res q).Natl := Spec.of_natl (ms1 ++ ms2) res true q

theorem spec_okS (hE : E.Ok P) (hN : E.Natl) {f : Nat} {fn : Func} {c : Code} (hf : P.funcs[f]? = some fn) (hb : fn.body = some c) {m : Am} {ms1 ms2 : List Am} {res : List Bool} {q : List Dt → Option (Bool × List Dt)} (Ts : List Nat)
    (hok : codeOk fn.ntmps (0 :: stays 1 ms2) c = true)
    (hrun : ∀ ds outs, q ds = some (true, outs) → ds.length = (m :: ms1).length + ms2.length → ∃ keep rounds, ∀ {R : Type} (k : List Dt → Option R), evFnS E keep rounds c (m :: ms1) ms2 res fn.results.toList Ts (ds.take (m :: ms1).length) (ds.drop (m :: ms1).length) k = k outs) :
    SpecOk P f (Spec.ofS (m :: ms1) ms2 res q) := by
  intro R ds k r h w us Mf ROa Fs hA hp hFM hRM hRlt hMlt
  have hA : ArgsOk w ROa ((m :: ms1) ++ ms2) ds us Fs := hA
  obtain ⟨hl1, hl2, _⟩ := hA.len
  have hlm : ((m :: ms1) ++ ms2).length = (m :: ms1).length + ms2.length := List.length_append
  obtain ⟨outs, hq, hk⟩ := Spec.of_some (modes := (m :: ms1) ++ ms2) (res := res) (own := true) h
  obtain ⟨keep, rounds, hev⟩ := hrun ds outs hq (by omega)
  replace h := (hev k).trans hk
  have hds : ds.take (m :: ms1).length ++ ds.drop (m :: ms1).length = ds := List.take_append_drop _ _
  have hus : us.take (m :: ms1).length ++ us.drop (m :: ms1).length = us := List.take_append_drop _ _
  generalize hd1 : ds.take (m :: ms1).length = ds1 at h hds
  generalize hd2 : ds.drop (m :: ms1).length = ds2 at h hds
  have hzl : (us.take (m :: ms1).length).length = (m :: ms1).length := by rw [List.length_take]; omega
  have hpk : packA [(m :: ms1).length] us = .agg (us.take (m :: ms1).length).toArray :: us.drop (m :: ms1).length := rfl
  show Calls P f (packA [(m :: ms1).length] us).toArray w _
  rw [hpk]
  generalize hz1 : us.take (m :: ms1).length = zs at hus hzl
  generalize hz2 : us.drop (m :: ms1).length = us2 at hus
  refine calls_of_wp hf hb ?_
  let vs0 : List Value := .agg zs.toArray :: us2
  let a0 : Act := { tmps := vs0.toArray ++ Array.replicate (fn.ntmps - vs0.toArray.size) undef, defers := [] }
  let F0 : Fx := ⟨a0.tmps.size, ROa⟩
  let g0 : Gh := { rv := fun _ _ => undef, rf := fun _ _ => False, bx := fun _ => 0, ro := ROa, n := F0 }
  have hsz : fn.ntmps ≤ F0.sz := by
    show fn.ntmps ≤ (vs0.toArray ++ Array.replicate (fn.ntmps - vs0.toArray.size) undef).size
    simp; omega
  have hgive : ∀ n, Given ((m :: ms1) ++ ms2) Fs n → Mf n := fun n hg => by obtain ⟨F, hF, h⟩ := hg.any; exact hFM F hF n h
  have noO : ∀ id, ¬ OwnAt ⟨[], [], []⟩ id := fun id ⟨r, h, _⟩ => by simp [aget] at h
  have noB : ∀ b, ¬ BoxAt ⟨[], [], []⟩ b := fun b h => by simp [BoxAt, aget] at h
  have I0 : Inv w (Given ((m :: ms1) ++ ms2) Fs) g0 ⟨[], [], []⟩ a0 w :=
    { slots := fun s sv h => by simp [aget] at h
      boxes := fun b x h => by simp [aget] at h
      roots := fun id r h => by simp [aget] at h
      apart := {
        rr := fun id id' k h => (noO id h).elim
        rb := fun id b h => (noO id h).elim
        bb := fun b b' h => (noB b h).elim
        ro_r := fun id k h => (noO id h).elim
        ro_b := fun b h => (noB b h).elim
        mine_r := fun id k h => (noO id h).elim
        mine_b := fun b h => (noB b h).elim
        lt_r := fun id k h => (noO id h).elim
        lt_ro := hRlt
        mine_ro := fun k h => .inl h }
      kept := ⟨rfl, rfl, rfl, Nat.le_refl _, fun _ _ _ => rfl⟩
      defers := rfl
      size := rfl }
  have htm : ∀ (i : Nat) u, vs0[i]? = some u → a0.tmps[i]? = some u := fun i u hu => by
    have hi : i < vs0.length := by
      rcases Nat.lt_or_ge i vs0.length with h' | h'
      · exact h'
      · simp [List.getElem?_eq_none h'] at hu
    show (vs0.toArray ++ Array.replicate (fn.ntmps - vs0.toArray.size) undef)[i]? = some u
    rw [Array.getElem?_append_left (by simpa using hi)]
    simpa using hu
  unfold evFnS at h
  obtain ⟨cs, g1, st1, Fs1, h, hg1, I1, _, hcs, hA1, hp1, hf1, hro1⟩ := cellsIn_sound (ROa := ROa) (ms1 := m :: ms1) (ms2 := ms2) (ds1 := ds1) (ds2 := ds2) I0 (by rw [hds]; exact hA) hp
    (fun n hg => ⟨⟨fun id h => (noO id h).elim, fun h => hRM n h (hgive n hg), fun b h => (noB b h).elim, .inr hg⟩, hMlt n (hgive n hg)⟩) rfl h
  rw [hz1] at hcs
  rw [hz2] at hA1
  have I1' := I1.note (j := 0) (sv := .c (.agg cs)) (htm 0 _ rfl) ⟨zs.toArray, rfl, CsL.arr hcs⟩
  obtain ⟨g2, st2, h, hg2, I2⟩ := entry_sound (ROa := ROa) (j := 1) I1' (us := us2) (fun i u hu => by
      have := htm (i + 1) u (by simpa [vs0] using hu)
      rw [Nat.add_comm]; exact this) hA1 hp1 (fun n hn => let ⟨h1, h2⟩ := hf1 n hn; ⟨⟨h1.r, h1.ro, h1.b, h1.mine⟩, h2⟩) hro1 h
  have hmem : ∀ {ms : List Am} {j : Nat} {x : Nat}, x ∈ stays j ms → j ≤ x ∧ x < j + ms.length := by
    intro ms
    induction ms with
    | nil => intro j x h; simp [stays] at h
    | cons m ms ih =>
      intro j x h
      cases m <;> simp only [stays, List.mem_cons] at h <;> first
        | (have := ih h; simp only [List.length_cons]; omega)
        | (rcases h with rfl | h
           · simp
           · have := ih h; simp only [List.length_cons]; omega)
  obtain ⟨hla, _, _⟩ := hA1.len
  have hstay0 : Stay (0 :: stays 1 ms2) (fun j => vs0[j]?) a0.tmps := by
    intro j hj
    have hlt : j < vs0.length := by
      rcases List.mem_cons.1 hj with rfl | hj
      · simp [vs0]
      · have := hmem hj
        simp only [vs0, List.length_cons]; omega
    have := htm j vs0[j] (by simp [hlt])
    rw [this]; simp [hlt]
  refine ev_sound hE hN (F := F0) c (codeOk_mono hsz hok) h (hg2.trans hg1) I2 hstay0 fun e g' st' a' w' hk' hg' I' hJ' => ?_
  have fin : evExitS E (m :: ms1) ms2 res fn.results.toList Ts ds1 ds2 st' k = some r → a'.defers = [] ∧ ∃ v, (results fn a'.tmps).run P w' = .ok v w' ∧ ∃ outs, k outs = some r ∧ After w w' Mf ROa (Spec.ofS (m :: ms1) ms2 res q) ds us outs (.returned v) := by
    unfold evExitS
    intro h
    obtain ⟨l1, vs, h, hrn, hS1, hm1⟩ := exitRes_sound hE I' h
    split at h
    case h_2 => cases h
    rename_i cs' hslot
    obtain ⟨la, hla', h⟩ := Option.bind_eq_some_iff.1 h
    obtain ⟨lb, h, hSb, hmb⟩ := backsOf_sound I' (us := us2) hla (fun i hi n hin => by
      have := hJ' i (List.mem_cons_of_mem _ hi)
      rw [this]
      have : i = n + 1 := by omega
      subst this
      simp [vs0]) h
    obtain ⟨u, hu, hr⟩ := I'.slots 0 _ hslot
    have hu0 := hJ' 0 (by simp)
    rw [hu] at hu0
    have hu0 : u = .agg zs.toArray := by simpa [vs0] using hu0
    subst hu0
    obtain ⟨ys, hy, hcy⟩ := hr
    have hy : ys = zs.toArray := by simpa using hy.symm
    subst hy
    obtain ⟨hSa, hma⟩ := cellsOf_sound (us := zs) (by simpa using hcy.l) hla'
    have hbu : backUs ((m :: ms1) ++ ms2) us = backUs (m :: ms1) zs ++ backUs ms2 us2 := by rw [← hus]; exact backUs_append hzl.symm
    refine ⟨I'.defers, exit_core (s := Spec.ofS (m :: ms1) ms2 res q) hE I' (by rw [hg']) hl1 hgive (fun hall n hn => Given.none hall hn) hrn hS1 hm1 (l2 := la ++ lb) ?_ ?_ ?_⟩
    · show SvL w' g' st' ((la ++ lb).map (·.2)) (backUs ((m :: ms1) ++ ms2) us)
      rw [hbu, List.map_append]; exact hSa.append' hSb
    · show (la ++ lb).map (·.1) = ((m :: ms1) ++ ms2).filter isBack
      rw [List.map_append, List.filter_append, hma, hmb]
    · rw [← hds]; exact h
  cases e with
  | normal => exact fin hk'
  | ret => exact fin hk'
  | exit id => cases hk'

end Go.Gm

/- Contracts of library functions that are not walked by the evaluator: one result, the caller's own. -/
namespace Go.Gm
open Go

variable {P : Program} {w w' : World} {Mf ROa : Nat → Prop}

theorem backs_skip : ∀ {ms : List Am} {ds : List Dt} {us : List Value}, ms.all (fun m => !(isBack m)) = true → ms.length = us.length → ds.length = us.length → BacksOk w ms ds us [] []
  | [], [], [], _, _, _ => .nil
  | m :: ms, d :: ds, u :: us, h, h1, h2 => by
    simp only [List.all_cons, Bool.and_eq_true] at h
    refine .skip ?_ (backs_skip h.2 (by simpa using h1) (by simpa using h2))
    cases m <;> first | trivial | exact absurd h.1 (by simp [isBack])
  | [], _ :: _, [], _, _, h => by simp at h
  | [], _, _ :: _, _, h, _ => by simp at h
  | _ :: _, _, [], _, h, _ => by simp at h
  | _ :: _, [], _ :: _, _, _, h => by simp at h

theorem After.own1 {s : Spec} (hown : s.own = true) (hres : s.res = [false]) (hm : s.modes.all (fun m => !(isBack m)) = true) {ds : List Dt} {us : List Value} (h1 : s.modes.length = us.length) (h2 : ds.length = us.length) {t : Ty} {x : El t} {v : Value}
    {G : Nat → Prop} (hv : ValOwn w' G t x v) (hG : ∀ k, G k → (Mf k ∨ w.heap.size ≤ k) ∧ k < w'.heap.size) (hk : Kept w w' Mf) : After w w' Mf ROa s ds us [.d t x] (.returned v) := by
  refine ⟨⟨[v], [G], [], rfl, ?_, ?_, List.Pairwise.nil, fun B hB => by simp at hB, fun _ => ⟨List.pairwise_singleton _ _, fun G' hG' k hk => ?_⟩, fun e => absurd (hown.symm.trans e) (by simp), fun G hG B hB => by simp at hB, fun G' hG' k hk => ?_, fun B hB => by simp at hB⟩, hk⟩
  · rw [hown, hres]; exact .val (by simpa using hv) .nil
  · rw [hres]; exact backs_skip hm h1 h2
  · have : G' = G := by simpa using hG'
    subst this; exact (hG k hk).1
  · have : G' = G := by simpa using hG'
    subst this; exact (hG k hk).2

/-- A contract of one result of the caller's own, from what the function does with these values. -/
theorem spec_own1 {f : Nat} {modes : List Am} {q : List Dt → Option (Bool × List Dt)} (hm : modes.all (fun m => !(isBack m)) = true)
    (h : ∀ ds outs, q ds = some (true, outs) → ∃ t x, outs = [.d t x] ∧ ∀ (w : World) (us : List Value) (Mf ROa : Nat → Prop) (Fs : List (Nat → Prop)), ArgsOk w ROa modes ds us Fs → PairApart Fs → (∀ F ∈ Fs, ∀ k, F k → Mf k) →
      (∀ k, ROa k → ¬ Mf k) → (∀ k, ROa k → k < w.heap.size) → (∀ k, Mf k → k < w.heap.size) →
      Calls P f us.toArray w fun e w' => ∃ v G, e = .returned v ∧ Kept w w' Mf ∧ ValOwn w' G t x v ∧ ∀ k, G k → (Mf k ∨ w.heap.size ≤ k) ∧ k < w'.heap.size) : SpecOk P f (Spec.of modes [false] true q) := by
  intro R ds k r hr w us Mf ROa Fs hA hp hFM hRM hRlt hMlt
  obtain ⟨outs, hq, hk⟩ := Spec.of_some hr
  obtain ⟨t, x, rfl, hc⟩ := h ds outs hq
  refine Calls.mono (hc w us Mf ROa Fs hA hp hFM hRM hRlt hMlt) ?_
  rintro e w' ⟨v, G, rfl, h1, h2, h3⟩
  obtain ⟨hl1, hl2, _⟩ := hA.len
  exact ⟨_, hk, After.own1 rfl rfl hm hl1 hl2 h2 h3 h1⟩

theorem valOwn_sl {G : Nat → Prop} {t : Ty} {xs : List (El t)} {v : Value} (h : OwnSl w G t xs v) : ValOwn w G (.sl t) xs v := by
  refine ⟨#[v], by simp [Form, isSt, h.flat], fun j => if j = 0 then G else fun _ => False, fun j k hk => ?_, fun j j' k hk hk' => ?_, by simp [enc], fun j c hc => ?_⟩
  · dsimp only at hk
    split at hk
    · exact hk
    · exact hk.elim
  · dsimp only at hk hk'
    by_cases e1 : j = 0
    · by_cases e2 : j' = 0
      · omega
      · simp [e2] at hk'
    · simp [e1] at hk
  · cases j with
    | zero =>
      simp only [enc, List.getElem?_cons_zero, Option.some.injEq] at hc
      subst hc
      exact ⟨v, rfl, by simpa [COwn] using h⟩
    | succ j => simp [enc] at hc
theorem valRd_sl {Pr : Nat → Prop} {t : Ty} {xs : List (El t)} {u : Value} (h : ValRd w Pr (.sl t) xs u) : RdSl w Pr t xs u := by
  obtain ⟨us, hf, hr⟩ := h
  obtain ⟨e, _⟩ := hf.size rfl
  subst e
  obtain ⟨z, hz, hc⟩ := hr.2 0 (.l t xs) rfl
  have hz : u = z := by simpa using hz
  subst hz; exact hc
theorem valOwn_sl' {F : Nat → Prop} {t : Ty} {xs : List (El t)} {u : Value} (h : ValOwn w F (.sl t) xs u) : ∃ G, (∀ k, G k → F k) ∧ OwnSl w G t xs u := by
  obtain ⟨us, hf, Fs, h1, h2, h3, h4⟩ := h
  obtain ⟨e, _⟩ := hf.size rfl
  subst e
  obtain ⟨z, hz, hc⟩ := h4 0 (.l t xs) rfl
  have hz : u = z := by simpa using hz
  subst hz
  exact ⟨Fs 0, h1 0, hc⟩

/-! ### a copy of an empty list -/
/-- What slices.Clone does with an empty list: nil, or a new empty list. -/
def CloneE (P : Program) (f : Nat) : Prop := ∀ (a : Option Addr) (c : Nat) (w : World), Calls P f #[.slice a 0 c] w fun e w' =>
  (e = .returned (.slice none 0 0) ∧ w' = w) ∨ ∃ el, e = .returned (.slice (some ⟨w.heap.size, 0, none⟩) 0 0) ∧ w' = w.alloc (.cells #[] el)
theorem ownSl_nil (w : World) (F : Nat → Prop) (t : Ty) {v : Value} (h : NodeOwn w F t [] v fun _ _ => v) : OwnSl w F t [] v := by
  refine ⟨fun _ => v, rfl, fun p s hs => ?_, fun p q s s' b hp hq _ _ => ?_⟩
  · cases p with
    | nil => simp only [subR, Option.some.injEq] at hs; subst hs; exact h
    | cons ij p => simp [subR] at hs
  · cases p with
    | nil => cases q with
      | nil => rfl
      | cons ij q => simp [subR] at hq
    | cons ij p => simp [subR] at hp
theorem spec_cloneE {f : Nat} {t : Ty} (h : CloneE P f) {q : List Dt → Option (Bool × List Dt)} (hq : ∀ ds outs, q ds = some (true, outs) → ds = [.d (.sl t) []] ∧ outs = [.d (.sl t) []]) : SpecOk P f (Spec.of [.ro] [false] true q) := by
  refine spec_own1 rfl fun ds outs hqs => ?_
  obtain ⟨rfl, rfl⟩ := hq ds outs hqs
  refine ⟨_, _, rfl, fun w us Mf ROa Fs hA _ _ _ _ _ => ?_⟩
  cases hA with
  | cons h1 hA =>
    cases hA
    obtain ⟨av, h0, hav⟩ := valRd_sl h1
    obtain ⟨a, cap, e1, _, _⟩ := hav [] ⟨t, []⟩ rfl
    rw [h0] at e1
    subst e1
    refine Calls.mono (h a cap w) ?_
    rintro e w' (⟨rfl, rfl⟩ | ⟨el, rfl, rfl⟩)
    · exact ⟨_, fun _ => False, rfl, ⟨rfl, rfl, rfl, Nat.le_refl _, fun _ _ _ => rfl⟩, valOwn_sl (nilOwn _ _ _), fun _ h => h.elim⟩
    · refine ⟨_, fun k => k = w.heap.size, rfl, ⟨rfl, rfl, rfl, by simp, fun b hb _ => heap_alloc_old w _ hb⟩, valOwn_sl (ownSl_nil _ _ _ ?_), fun k hk => ?_⟩
      · exact .inr ⟨w.heap.size, 0, 0, #[], el, rfl, rfl, heap_alloc_new w _, Nat.le_refl _, by simp, fun i y j c h => by simp at h⟩
      · subst hk; exact ⟨.inr (Nat.le_refl _), by simp⟩
/-- A copy: of a list that is not empty as the evaluator has it, of an empty one as above. -/
theorem spec_clone {f : Nat} {q qa qb : List Dt → Option (Bool × List Dt)} (ha : SpecOk P f (Spec.of [.ro] [false] true qa)) (hb : SpecOk P f (Spec.of [.ro] [false] true qb)) (h : ∀ ds outs, q ds = some (true, outs) → qa ds = some (true, outs) ∨ qb ds = some (true, outs)) :
    SpecOk P f (Spec.of [.ro] [false] true q) :=
  spec_part fun ds outs hq => (h ds outs hq).elim (fun h => ⟨qa, ha, h⟩) fun h => ⟨qb, hb, h⟩
end Go.Gm

/- Plain functions: what is to be looked at, taken and added. -/
namespace Go.Gm
open Go

theorem limLe {α : Type} {xs : List α} (h : xs.length ≤ 1048576) : Nat.ble xs.length LIM = true := Nat.ble_eq_true_of_le (by have : (LIM : Nat) = 4294967296 := rfl; omega)
theorem smL_tail {α : Type} {f : α → Bool} {x : α} {r : List α} (h : smL f (x :: r) = true) : smL f r = true := by
  simp only [smL, Bool.and_eq_true, List.all_cons] at h ⊢
  have := bleN h.1
  rw [List.length_cons] at this
  exact ⟨Nat.ble_eq_true_of_le (by omega), h.2.2⟩
theorem smL_head {α : Type} {f : α → Bool} {x : α} {r : List α} (h : smL f (x :: r) = true) : f x = true := by
  simp only [smL, Bool.and_eq_true, List.all_cons] at h; exact h.2.1
theorem smL_sub {α : Type} {f : α → Bool} {xs ys : List α} (h : smL f ys = true) (hs : ∀ x ∈ xs, x ∈ ys) (hl : xs.length ≤ ys.length) : smL f xs = true := by
  simp only [smL, Bool.and_eq_true] at h ⊢
  exact ⟨Nat.ble_eq_true_of_le (Nat.le_trans hl (bleN h.1)), List.all_eq_true.2 fun x hx => List.all_eq_true.1 h.2 x (hs x hx)⟩
end Go.Gm

/- Plain laws: marks of structs, list by list; how many there are. Printed by mkp14.py of this session. -/
namespace Go.Gm
open Go

theorem ct_of {α : Type} {f : Int → α → α × Int} {c : α → Nat} (hc : ∀ k x, (f k x).2 = k + (c x : Nat)) (hi : ∀ k x, f k (f k x).1 = f k x) (k : Int) (x : α) : c (f k x).1 = c x := by
  have h1 := hc k (f k x).1
  rw [hi, hc] at h1; omega
theorem ctL_bd {α : Type} {c : α → Nat} {f : α → Bool} {B : Nat} (h : ∀ x, f x = true → c x ≤ B) : ∀ xs : List α, xs.all f = true → ctL c xs ≤ xs.length * B
  | [], _ => by simp [ctL]
  | x :: xs, ha => by
    simp only [List.all_cons, Bool.and_eq_true] at ha
    have h1 := ctL_bd h xs ha.2
    have h2 := h x ha.1
    rw [ctL_cons, List.length_cons, Nat.add_mul]; omega
theorem ctL_sm {α : Type} {c : α → Nat} {f : α → Bool} {B : Nat} (h : ∀ x, f x = true → c x ≤ B) {xs : List α} (hs : smL f xs = true) : ctL c xs ≤ 1048576 * B :=
  Nat.le_trans (ctL_bd h xs (smL_all hs)) (Nat.mul_le_mul_right _ (smL_len hs))

theorem ct_str_sm (x : ByteArray) (_h : smStr x = true) : ct_str x ≤ 1 := Nat.le_refl _
end Go.Gm

/- Plain functions and laws: marks of trees. Printed by mkp17.py of this session. -/
namespace Go.Gm
open Go

theorem mkL_ctm {α : Type} {f : Int → α → α × Int} {c : α → Nat} : ∀ (k : Int) (xs : List α), (∀ x ∈ xs, ∀ k, (f k x).2 = k + (c x : Nat)) → (mkL f k xs).2 = k + (ctL c xs : Nat)
  | k, [], _ => by simp [mkL, ctL]
  | k, x :: xs, h => by
    simp only [mkL]
    rw [mkL_ctm _ xs fun y hy => h y (by simp [hy]), h x (by simp), ctL_cons]; omega
theorem mkL_idemm {α : Type} {f : Int → α → α × Int} : ∀ (k : Int) (xs : List α), (∀ x ∈ xs, ∀ k, f k (f k x).1 = f k x) → mkL f k (mkL f k xs).1 = mkL f k xs
  | _, [], _ => rfl
  | k, x :: xs, h => by
    simp only [mkL]
    rw [h x (by simp), mkL_idemm _ xs fun y hy => h y (by simp [hy])]
theorem loop_markM {α R : Type} {F : Nat → Int → Int → List α → Option R} {f : Int → α → α × Int} {c : α → Nat} {good : Int → List α → Option R} {n : Nat} (Pm : α → Prop) (hc : ∀ k x, (f k x).2 = k + (c x : Nat))
    (hs : ∀ (m : Nat) (k : Int) (j : Nat) (l : List α) (x : α), l[j]? = some x → Pm x → l.length = n → 0 ≤ k → k + (c x : Nat) ≤ 4611686018427387904 → F (m + 1) k (j : Int) l = F m (f k x).2 ((j : Int) + 1) (l.set j (f k x).1))
    (he : ∀ (m : Nat) (k : Int) (l : List α), l.length = n → F (m + 1) k (n : Int) l = good k l) :
    ∀ (rest : List α) (m : Nat) (k : Int) (pre : List α), (∀ x ∈ rest, Pm x) → pre.length + rest.length = n → rest.length < m → 0 ≤ k → k + (ctL c rest : Nat) ≤ 4611686018427387904 → F m k (pre.length : Int) (pre ++ rest) = good (mkL f k rest).2 (pre ++ (mkL f k rest).1)
  | [], m, k, pre, _, hn, hm, _, _ => by
    obtain ⟨m, rfl⟩ : ∃ m', m = m' + 1 := ⟨m - 1, by omega⟩
    simp only [List.append_nil, mkL]
    have e : pre.length = n := by simpa using hn
    rw [e]; exact he m k pre e
  | x :: xs, m, k, pre, hP, hn, hm, h0, hB => by
    obtain ⟨m, rfl⟩ : ∃ m', m = m' + 1 := ⟨m - 1, by omega⟩
    rw [ctL_cons] at hB
    simp only [List.length_cons] at hn hm
    rw [hs m k pre.length (pre ++ x :: xs) x (by simp) (hP x (by simp)) (by simp; omega) h0 (by omega)]
    have e : (pre ++ x :: xs).set pre.length (f k x).1 = (pre ++ [(f k x).1]) ++ xs := by
      rw [List.set_append_right _ _ (Nat.le_refl _), Nat.sub_self]; simp
    have := loop_markM Pm hc hs he xs m (f k x).2 (pre ++ [(f k x).1]) (fun y hy => hP y (by simp [hy])) (by simp; omega) (by omega) (by rw [hc]; omega) (by rw [hc]; omega)
    rw [e]
    simp only [List.length_append, List.length_cons, List.length_nil] at this
    rw [show ((pre.length : Int) + 1) = ((pre.length + (0 + 1) : Nat) : Int) by omega, this]
    simp only [mkL, List.append_assoc, List.cons_append, List.nil_append]

theorem ctL_lem {α : Type} {c s : α → Nat} : ∀ xs : List α, (∀ x ∈ xs, c x ≤ 64 * s x + 64) → ctL c xs ≤ 64 * szL s xs
  | [], _ => by simp [ctL]
  | x :: xs, h => by
    have := ctL_lem xs fun y hy => h y (by simp [hy])
    have h1 := h x (by simp)
    have : szL s (x :: xs) = szL s xs + s x + 1 := by simp only [szL, List.length_cons, List.map_cons, List.sum_cons]; omega
    rw [ctL_cons]; omega
mutual
noncomputable def mkN_node : NodeT → Int → NodeT × Int
  | ⟨kind, n, s, keys, kids⟩, k => (⟨k, k + 1, mkT (k + 1 + 1), (mkL mk_str (k + 1 + 1 + 1) keys).1, (mkA_node kids ((mkL mk_str (k + 1 + 1 + 1) keys).2)).1⟩, (mkA_node kids ((mkL mk_str (k + 1 + 1 + 1) keys).2)).2)
noncomputable def mkA_node : List NodeT → Int → List NodeT × Int
  | [], k => ([], k)
  | x :: xs, k => ((mkN_node x k).1 :: (mkA_node xs (mkN_node x k).2).1, (mkA_node xs (mkN_node x k).2).2)
end
noncomputable def mk_node (k : Int) (x : NodeT) : NodeT × Int := mkN_node x k
theorem mkA_node_eq : ∀ (xs : List NodeT) (k : Int), mkA_node xs k = mkL mk_node k xs
  | [], k => by simp [mkA_node, mkL]
  | x :: xs, k => by rw [mkA_node, mkA_node_eq xs]; rfl
theorem mk_node_def (k : Int) (x : NodeT) : mk_node k x = (⟨k, k + 1, mkT (k + 1 + 1), (mkL mk_str (k + 1 + 1 + 1) x.keys).1, (mkL mk_node ((mkL mk_str (k + 1 + 1 + 1) x.keys).2) x.kids).1⟩, (mkL mk_node ((mkL mk_str (k + 1 + 1 + 1) x.keys).2) x.kids).2) := by
  cases x; refine Eq.trans (b := mkN_node _ k) rfl ?_; rw [mkN_node]; simp only [mkA_node_eq]
mutual
def ct_node : NodeT → Nat
  | ⟨_, _, _, keys, kids⟩ => 3 + ctL ct_str keys + ctA_node kids
def ctA_node : List NodeT → Nat
  | [] => 0
  | x :: xs => ct_node x + ctA_node xs
end
theorem ctA_node_eq : ∀ xs : List NodeT, ctA_node xs = ctL ct_node xs
  | [] => by simp [ctA_node, ctL]
  | x :: xs => by rw [ctA_node, ctA_node_eq xs, ctL_cons]
theorem ct_node_def (x : NodeT) : ct_node x = 3 + ctL ct_str x.keys + ctL ct_node x.kids := by
  cases x; rw [ct_node]; simp only [ctA_node_eq]
theorem mk_node_ct1 (x : NodeT) (k : Int) : (mk_node k x).2 = k + (ct_node x : Nat) := by
  rw [mk_node_def, ct_node_def]
  simp only [mkL_str_ct, mkL_ctm _ x.kids fun y _hy k => mk_node_ct1 y k]
  omega
termination_by nd_node x
decreasing_by exact nd_node_kid _hy
theorem mk_node_ct (k : Int) (x : NodeT) : (mk_node k x).2 = k + (ct_node x : Nat) := mk_node_ct1 x k
theorem mk_node_idem1 (x : NodeT) (k : Int) : mk_node k (mk_node k x).1 = mk_node k x := by
  rw [mk_node_def k x, mk_node_def]
  simp only [mkL_idem mk_str_idem, mkL_idemm _ x.kids fun y _hy k => mk_node_idem1 y k]
termination_by nd_node x
decreasing_by exact nd_node_kid _hy
theorem mk_node_idem (k : Int) (x : NodeT) : mk_node k (mk_node k x).1 = mk_node k x := mk_node_idem1 x k
theorem mkL_node_ct (k : Int) (xs : List NodeT) : (mkL mk_node k xs).2 = k + (ctL ct_node xs : Nat) := mkL_ct mk_node_ct k xs
theorem ct_node_pos (x : NodeT) : 1 ≤ ct_node x := by rw [ct_node_def]; omega
noncomputable def mks_node (k : Int) (x : NodeT) : NodeT × Int := (⟨x.kind, x.n, x.s, (mkL mk_str k x.keys).1, (mkL mk_node ((mkL mk_str k x.keys).2) x.kids).1⟩, (mkL mk_node ((mkL mk_str k x.keys).2) x.kids).2)
def cts_node (x : NodeT) : Nat := ctL ct_str x.keys + ctL ct_node x.kids
theorem mks_node_ct (k : Int) (x : NodeT) : (mks_node k x).2 = k + (cts_node x : Nat) := by
  simp only [mks_node, cts_node, mkL_node_ct, mkL_str_ct]; omega
theorem mks_node_idem (k : Int) (x : NodeT) : mks_node k (mks_node k x).1 = mks_node k x := by
  simp only [mks_node, mkL_idem mk_node_idem, mkL_idem mk_str_idem]
noncomputable def hds_node (k : Int) (x : NodeT) : Int := cond (eqD x (mks_node k x).1) (mks_node k x).2 (-1)
theorem hds_node_marked (k : Int) (x : NodeT) : hds_node k (mks_node k x).1 = (mks_node k x).2 := by
  unfold hds_node; rw [mks_node_idem, eqD_self]; rfl
theorem hds_node_mk (k : Int) (kind : Int) (n : Int) (s : ByteArray) (keys : List ByteArray) (kids : List NodeT) : hds_node k (⟨kind, n, s, (mkL mk_str k keys).1, (mkL mk_node ((mkL mk_str k keys).2) kids).1⟩ : NodeT) = (mkL mk_node ((mkL mk_str k keys).2) kids).2 := hds_node_marked k (⟨kind, n, s, keys, kids⟩ : NodeT)
theorem cts_node_mk (k : Int) (kind : Int) (n : Int) (s : ByteArray) (keys : List ByteArray) (kids : List NodeT) : cts_node (⟨kind, n, s, (mkL mk_str k keys).1, (mkL mk_node ((mkL mk_str k keys).2) kids).1⟩ : NodeT) = cts_node (⟨kind, n, s, keys, kids⟩ : NodeT) := ct_of mks_node_ct mks_node_idem k (⟨kind, n, s, keys, kids⟩ : NodeT)
theorem ct_node_sz (x : NodeT) : ct_node x ≤ 64 * szN_node x + 64 := by
  rw [ct_node_def, szN_node_def]
  have hk : ctL ct_node x.kids ≤ 64 * szL szN_node x.kids := ctL_lem x.kids fun y _hy => ct_node_sz y
  have h_keys := ctL_le (c := ct_str) (s := ByteArray.size) (fun _ => by unfold ct_str; omega) x.keys
  omega
termination_by nd_node x
decreasing_by exact nd_node_kid _hy
theorem cts_node_sz (x : NodeT) : cts_node x ≤ 64 * szN_node x + 64 := by
  have := ct_node_sz x
  rw [ct_node_def] at this
  unfold cts_node; omega
def mmL_node (xs : List NodeT) (_ : Int) : Nat := ndL nd_node xs
end Go.Gm

/- slices.Delete: from what it does with cells to a contract. -/
namespace Go.Gm
open Go

variable {P : Program} {E : Env} {w w' : World}

theorem run_append_at (t ty e : TypeId) (i : TypeInfo) (ht : P.underlying t = some (.slice e)) (hi : P.info? e = some i) (b off n cap : Nat) (a : Addr) (m c : Nat) (news : List Value) (hl : news.length = m * i.size)
    (hnews : ∀ j u, news[j]? = some u → w.cell? (a.add j) = some u) (h1 : ∀ u ∈ news, u.oneCell' = true) (hroom : n + m ≤ cap) (cs : Array Value) (el : TypeId) (hb : w.heap[b]? = some (.cells cs el (0, 0))) (hfit : off + n * i.size + news.length ≤ cs.size) :
    (Builtin.append_ #[t, t] ty #[.slice (some ⟨b, off, none⟩) n cap, .slice (some a) m c]).run P w = .ok (.slice (some ⟨b, off, none⟩) (n + m) cap) (w.setRow b (putAt cs (off + n * i.size) news.toArray)) := by
  have hfc := run_firstCells_some (P := P) w i.size m a m c news hl hnews
  have hst := run_storeCells_at P b (off + n * i.size) el news 0 cs w hb (by simpa using hfit) h1
  simp only [Nat.add_zero] at hst
  rw [← row_putAt (by simpa using hfit)]
  simp [Builtin.append_, run_underlying ht, sizeOf, typeInfo, hi, Builtin.lenOf, hroom, hfc, addrAdd, hst]

theorem step_append_at {ops : Array Oper} {o : Oper} {a : Act} {K : Act → World → Prop} {Q : Exit → Act → World → Prop} {R : Prop}
    (hg : o.guard = none) (s x : Operand) (t : TypeId) (hop : o.op = Op.call { callee := Callee.builtin Builtin.append, args := #[s, x], argTypes := #[t, t] })
    (e : TypeId) (i : TypeInfo) (size : Nat) (h1 : P.underlying t = some (.slice e)) (h2 : P.info? e = some i) (h4 : i.size = size)
    (b off n cap : Nat) (hs : a.eval s = .slice (some ⟨b, off, none⟩) n cap)
    (ad : Addr) (m c : Nat) (news : List Value) (hx : a.eval x = .slice (some ad) m c) (hn : news.length = m * size) (hc : ∀ j u, news[j]? = some u → w.cell? (ad.add j) = some u) (h1c : ∀ u ∈ news, u.oneCell' = true)
    (hroom : n + m ≤ cap) (cs : Array Value) (el : TypeId) (hb : w.heap[b]? = some (.cells cs el (0, 0))) (hfit : off + n * size + news.length ≤ cs.size)
    (hK : K (a.put o.dst (.slice (some ⟨b, off, none⟩) (n + m) cap)) (w.setRow b (putAt cs (off + n * size) news.toArray))) :
    if Region.wanted o (yielded ops a.tmps) = true then Oper.wp P o a w K Q else R := by
  have hw : Region.wanted o (yielded ops a.tmps) = true := by simp [Region.wanted, hg]
  rw [if_pos hw]
  subst h4
  have hrun := run_append_at (P := P) (w := w) t o.type e i h1 h2 b off n cap ad m c news hn hc h1c hroom cs el hb hfit
  unfold Oper.wp
  simp [execOp, hop, resolve, invoke, builtin, hs, hx, hrun, Result.andThen]
  exact hK

/-- What is left behind a Delete of the elements from i on to j. -/
def DelEnd (w w' : World) (b o n i j sz : Nat) (cs : Array Value) (el : TypeId) : Prop :=
  Kept w w' (fun k => k = b) ∧ ∃ cs', w'.heap[b]? = some (.cells cs' el (0, 0)) ∧ cs'.size = cs.size ∧ ∀ k, k < (n - (j - i)) * sz → cs'[o + k]? = cs[o + if k < i * sz then k else k + (j - i) * sz]?
/-- slices.Delete, as the cells have it. -/
def DelE (P : Program) (f sz : Nat) : Prop :=
  (∀ (a : Option Addr) (n cap i : Nat) (w : World), i ≤ n → n ≤ cap → Calls P f #[.slice a n cap, .int .i64 i, .int .i64 i] w fun e w' => e = .returned (.slice a n cap) ∧ w' = w) ∧
  ∀ (b o n cap i j : Nat) (cs : Array Value) (el : TypeId) (w : World), i < j → j ≤ n → n ≤ cap → w.heap[b]? = some (.cells cs el (0, 0)) → o + cap * sz ≤ cs.size → (∀ k u, k < n * sz → cs[o + k]? = some u → u.oneCell' = true) →
    Calls P f #[.slice (some ⟨b, o, none⟩) n cap, .int .i64 i, .int .i64 j] w fun e w' => e = .returned (.slice (some ⟨b, o, none⟩) (n - (j - i)) cap) ∧ DelEnd w w' b o n i j sz cs el

theorem del_pack (hE : E.Ok P) {T : TypeId} {e : Ty} (hT : E.code T = some (.sl e)) {sz : Nat} (hsz : esz e = sz) {b o n cap i j : Nat} {cs : Array Value} {el : TypeId} (hij : i < j) (hj : j ≤ n) (hn : n ≤ cap)
    (hb : w.heap[b]? = some (.cells cs el (0, 0))) (hs : o + cap * sz ≤ cs.size) (h1 : ∀ k u, k < n * sz → cs[o + k]? = some u → u.oneCell' = true) :
    ∃ (eT : TypeId) (ii : TypeInfo) (news : List Value) (W1 W2 : World), P.underlying T = some (.slice eT) ∧ P.info? eT = some ii ∧ ii.size = sz ∧ news.length = (n - j) * sz ∧ (∀ u ∈ news, u.oneCell' = true) ∧
      (∀ A : Addr, A = ⟨b, o + j * sz, none⟩ ∨ n = j → ∀ t u, news[t]? = some u → w.drew.cell? (A.add t) = some u) ∧ o + i * sz + news.length ≤ cs.size ∧ W1 = w.drew.setRow b (putAt cs (o + i * sz) news.toArray) ∧
      (∀ ty, (Builtin.clear_ #[T] ty #[.slice (some ⟨b, o + (i + (n - j)) * sz, none⟩) (n - (i + (n - j))) (cap - (i + (n - j)))]).run P W1 = .ok (.tuple #[]) W2) ∧ DelEnd w W2 b o n i j sz cs el := by
  subst hsz
  obtain ⟨eT, hu, hel⟩ := hE.slice hT
  obtain ⟨ii, zv, hi, hsz, hby, hz, hzc⟩ := hE.info eT e hel
  have hpos := esz_pos e
  have hzs : zv.cells.size = esz e := by rw [hzc]; simp [zvals, enc_length]
  have hzf : ∀ v ∈ zv.cells.toList, v.oneCell' = true := by
    rw [hzc]
    intro v hv
    simp only [zvals] at hv
    obtain ⟨c, hc, rfl⟩ := List.mem_map.1 (by simpa using hv)
    obtain ⟨m, hm⟩ := List.getElem?_of_mem hc
    cases c with
    | v x => exact flat_one (flat_of_cell (P' := fun _ => True) (w := w) hm rfl)
    | l t ys => rfl
  have hm1 : j * esz e ≤ n * esz e := Nat.mul_le_mul_right _ hj
  have hm2 : n * esz e ≤ cap * esz e := Nat.mul_le_mul_right _ hn
  have hm3 : i * esz e ≤ j * esz e := Nat.mul_le_mul_right _ (Nat.le_of_lt hij)
  have hm4 : (n - j) * esz e = n * esz e - j * esz e := Nat.sub_mul _ _ _
  have hm5 : (j - i) * esz e = j * esz e - i * esz e := Nat.sub_mul _ _ _
  have hm6 : (i + (n - j)) * esz e = i * esz e + (n * esz e - j * esz e) := by rw [Nat.add_mul, hm4]
  have hm7 : (n - (i + (n - j))) * esz e = j * esz e - i * esz e := by rw [show n - (i + (n - j)) = j - i by omega, hm5]
  have hm8 : (n - (j - i)) * esz e = i * esz e + (n * esz e - j * esz e) := by rw [show n - (j - i) = i + (n - j) by omega, hm6]
  have hlen : ((cs.toList.drop (o + j * esz e)).take ((n - j) * esz e)).length = (n - j) * esz e := by simp; omega
  have hget : ∀ t, t < (n - j) * esz e → ((cs.toList.drop (o + j * esz e)).take ((n - j) * esz e))[t]? = cs[o + j * esz e + t]? := by
    intro t ht
    rw [List.getElem?_take, if_pos ht, List.getElem?_drop, Array.getElem?_toList]
  generalize (cs.toList.drop (o + j * esz e)).take ((n - j) * esz e) = news at hlen hget
  have hnl : ∀ t u, news[t]? = some u → t < (n - j) * esz e := fun t u hu => by
    have := (List.getElem?_eq_some_iff.1 hu).1
    omega
  have hfit : o + i * esz e + news.length ≤ cs.size := by omega
  have hb1 : (w.drew.setRow b (putAt cs (o + i * esz e) news.toArray)).heap[b]? = some (.cells (putAt cs (o + i * esz e) news.toArray) el (0, 0)) := setRow_heap w.drew b cs _ el (0, 0) hb
  have hsize1 : (putAt cs (o + i * esz e) news.toArray).size = cs.size := putAt_size (by simpa using hfit)
  have hcl := fun ty => run_clear_at (P := P) T eT ty zv hu (fun w => by simp [zeroValue, typeInfo, hi, hz]) hzf (by omega) b (o + (i + (n - j)) * esz e) (n - (i + (n - j))) (cap - (i + (n - j))) (by omega) _ el hb1 (by rw [hsize1, hzs, hm7]; omega)
  have hzl : (Builtin.zeroCells zv.cells (n - (i + (n - j)))).size = j * esz e - i * esz e := by rw [size_zeroCells, hzs, hm7]
  have hsize2 : (putAt (putAt cs (o + i * esz e) news.toArray) (o + (i + (n - j)) * esz e) (Builtin.zeroCells zv.cells (n - (i + (n - j))))).size = cs.size := by rw [putAt_size (by rw [hsize1, hzl]; omega), hsize1]
  refine ⟨eT, ii, news, _, _, hu, hi, hsz, hlen, fun u hu => ?_, fun A hA t u hu => ?_, hfit, rfl, hcl, ⟨rfl, rfl, rfl, ?_⟩, _, setRow_heap _ b _ _ el (0, 0) hb1, hsize2, fun k hk => ?_⟩
  · obtain ⟨t, ht⟩ := List.getElem?_of_mem hu
    have hlt := hnl t u ht
    rw [hget t hlt] at ht
    exact h1 (j * esz e + t) u (by omega) (by rw [← Nat.add_assoc]; exact ht)
  · have hlt := hnl t u hu
    rcases hA with rfl | h
    · rw [hget t hlt] at hu
      rw [addrAdd, cellIn (w := w.drew) hb]
      exact hu
    · subst h; simp at hlt
  · exact SameBut.trans (Y := fun k => k = b) (Z := fun k => k = b) (setRow_same w.drew b _) (setRow_same _ b _) (fun _ h => h) (fun _ _ h => h)
  · rw [hm8] at hk
    rw [putAt_get (by rw [hsize1, hzl]; omega), if_neg (by omega), putAt_get (by simpa using hfit)]
    have hna : news.toArray.size = news.length := by simp
    by_cases h : k < i * esz e
    · rw [if_neg (by omega), if_pos h]
    · rw [if_pos (by omega), if_neg h, List.getElem?_toArray, show o + k - (o + i * esz e) = k - i * esz e by omega, hget _ (by omega), hm5]
      congr 1
      omega

/-- Of an own list some elements, each once, in whatever order. -/
theorem TreeOwn.pick {F : Nat → Prop} {t : Ty} {xs ys : List (El t)} {av : Path → Value} (h : TreeOwn w F t xs av) (σ : Nat → Nat) (hσ : ∀ i y, ys[i]? = some y → xs[σ i]? = some y) (hinj : ∀ i i', σ i = σ i' → i = i')
    (hsame : SameBut (fun k => blk (av []) = some k) w w') {v : Value} (hblk : ∀ k, blk v = some k → blk (av []) = some k) (hn : NodeOwn w' F t ys v fun i j => av [(σ i, j)]) : OwnSl w' F t ys v := by
  have hsub : ∀ i j p s, subR t ys ((i, j) :: p) = some s → subR t xs ((σ i, j) :: p) = some s := by
    intro i j p s hs
    simp only [subR] at hs ⊢
    split at hs
    · rename_i y hy
      rw [hσ i y hy]; exact hs
    · cases hs
  refine ⟨fun p => match p with | [] => v | (i, j) :: p => av ((σ i, j) :: p), rfl, fun p s hs => ?_, fun p q s s' k hp hq hk hk' => ?_⟩
  · cases p with
    | nil => simp only [subR, Option.some.injEq] at hs; subst hs; exact hn
    | cons x p =>
      obtain ⟨i, j⟩ := x
      have hs' := hsub i j p s hs
      exact (h.1 _ s hs').here hsame fun k hk e => by have := h.2 _ [] s ⟨t, xs⟩ k hs' rfl hk e; cases this
  · cases p with
    | nil => cases q with
      | nil => rfl
      | cons y q =>
        obtain ⟨i, j⟩ := y
        have := h.2 [] _ ⟨t, xs⟩ s' k rfl (hsub i j q s' hq) (hblk k hk) hk'
        cases this
    | cons x p =>
      obtain ⟨i, j⟩ := x
      cases q with
      | nil =>
        have := h.2 _ [] s ⟨t, xs⟩ k (hsub i j p s hp) rfl hk (hblk k hk')
        cases this
      | cons y q =>
        obtain ⟨i', j'⟩ := y
        have := h.2 _ _ s s' k (hsub i j p s hp) (hsub i' j' q s' hq) hk hk'
        simp only [List.cons.injEq, Prod.mk.injEq] at this
        obtain ⟨⟨h1, rfl⟩, rfl⟩ := this
        rw [hinj _ _ h1]

theorem TreeOwn.oneCell {F : Nat → Prop} {t : Ty} {xs : List (El t)} {av : Path → Value} (h : TreeOwn w F t xs av) {cs : Array Value} {o : Nat} (hr : RowsIn t xs cs o fun i j => av [(i, j)]) : ∀ k u, k < xs.length * esz t → cs[o + k]? = some u → u.oneCell' = true := by
  intro k u hk hu
  have hpos := esz_pos t
  have hi : k / esz t < xs.length := Nat.div_lt_of_lt_mul (by rw [Nat.mul_comm]; exact hk)
  have hj : k % esz t < esz t := Nat.mod_lt _ hpos
  have hc := List.getElem?_eq_getElem (l := enc t xs[k / esz t]) (i := k % esz t) (by rw [enc_length]; exact hj)
  obtain ⟨z, hz, hcz⟩ := hr (k / esz t) xs[k / esz t] (k % esz t) _ (List.getElem?_eq_getElem hi) hc
  have : k / esz t * esz t + k % esz t = k := by rw [Nat.mul_comm]; exact Nat.div_add_mod k (esz t)
  rw [Nat.add_assoc, this, hu] at hz; cases hz
  generalize (enc t xs[k / esz t])[k % esz t]'(by rw [enc_length]; exact hj) = c at hc hcz
  cases c with
  | v x => exact flat_one (flat_of_cell (P' := fun _ => True) (w := w) hc hcz)
  | l t' ys =>
    have hs := h.1 [(k / esz t, k % esz t)] ⟨t', ys⟩ (subR_one (List.getElem?_eq_getElem hi) hc)
    simp only [CellIs] at hcz
    subst hcz
    rcases hs with ⟨_, e⟩ | ⟨b, o, cap, cs, el, e, _⟩ <;> rw [e] <;> rfl

theorem spec_del {f : Nat} {t : Ty} {sz : Nat} (hsz : esz t = sz) (h : DelE P f sz) {q : List Dt → Option (Bool × List Dt)}
    (hq : ∀ ds outs, q ds = some (true, outs) → ∃ (xs : List (El t)) (i j : Nat), ds = [.d (.sl t) xs, .d (.i .i64) (i : Int), .d (.i .i64) (j : Int)] ∧ i ≤ j ∧ j ≤ xs.length ∧ outs = [.d (.sl t) (xs.take i ++ xs.drop j)]) :
    SpecOk P f (Spec.of [.mov, .ro, .ro] [false] true q) := by
  subst hsz
  refine spec_own1 rfl fun ds outs hqs => ?_
  obtain ⟨xs, i, j, rfl, hij, hj, rfl⟩ := hq ds outs hqs
  refine ⟨_, _, rfl, fun w us Mf ROa Fs hA _ hFM _ _ hMlt => ?_⟩
  cases hA with
  | @cons _ _ _ _ u1 us F Fs h1 hA =>
    cases hA with
    | cons h2 hA =>
      cases hA with
      | cons h3 hA =>
        cases hA
        have e2 := valRd_v (t := .i .i64) (v := .int .i64 i) rfl rfl h2
        have e3 := valRd_v (t := .i .i64) (v := .int .i64 j) rfl rfl h3
        subst e2; subst e3
        obtain ⟨G, hG, hown⟩ := valOwn_sl' h1
        have hGM : ∀ k, G k → Mf k := fun k hk => hFM F (by simp) k (hG k hk)
        have same : i = j → ∀ (a : Option Addr) (cap : Nat), u1 = .slice a xs.length cap → xs.length ≤ cap → Calls P f #[u1, .int .i64 i, .int .i64 j] w fun e w' => ∃ v G, e = .returned v ∧ Kept w w' Mf ∧ ValOwn w' G (.sl t) (xs.take i ++ xs.drop j) v ∧ ∀ k, G k → (Mf k ∨ w.heap.size ≤ k) ∧ k < w'.heap.size := by
          rintro rfl a cap rfl hcap
          refine Calls.mono (h.1 a xs.length cap i w hj hcap) ?_
          rintro e w' ⟨rfl, rfl⟩
          rw [List.take_append_drop]
          exact ⟨_, G, rfl, ⟨rfl, rfl, rfl, Nat.le_refl _, fun _ _ _ => rfl⟩, valOwn_sl hown, fun k hk => ⟨.inl (hGM k hk), hMlt k (hGM k hk)⟩⟩
        obtain ⟨av, h0, hT⟩ := hown
        have hnode := hT.1 [] ⟨t, xs⟩ rfl
        rw [h0] at hnode
        rcases hnode with ⟨e, rfl⟩ | ⟨b, o, cap, cs, el, rfl, hF, hb, hcap, hsize, hrows⟩
        · have e : xs = [] := e
          subst e
          exact same (by simp at hj; omega) none 0 rfl (Nat.le_refl _)
        · have hcap : xs.length ≤ cap := hcap
          have hsize : o + cap * esz t ≤ cs.size := hsize
          have hrows : RowsIn t xs cs o fun i j => av [(i, j)] := hrows
          by_cases hne : i = j
          · exact same hne _ cap rfl hcap
          · have hlt : i < j := by omega
            refine Calls.mono (h.2 b o xs.length cap i j cs el w hlt hj hcap hb hsize (hT.oneCell hrows)) ?_
            rintro e w' ⟨rfl, hk, cs', hb', hcs, hget⟩
            have hlen : (xs.take i ++ xs.drop j).length = xs.length - (j - i) := by simp; omega
            refine ⟨_, G, rfl, ⟨hk.os, hk.tape, hk.output, hk.same.1, fun k hk1 hk2 => hk.same.2 k hk1 fun e => by subst e; exact hk2 (hGM _ hF)⟩, ?_, fun k hk' => ⟨.inl (hGM k hk'), Nat.lt_of_lt_of_le (hMlt k (hGM k hk')) hk.same.1⟩⟩
            have hσ : ∀ m y, (xs.take i ++ xs.drop j)[m]? = some y → xs[if m < i then m else m + (j - i)]? = some y := by
              intro m y hy
              by_cases hm : m < i
              · rw [List.getElem?_append_left (by simp; omega), List.getElem?_take, if_pos hm] at hy
                rw [if_pos hm]; exact hy
              · rw [List.getElem?_append_right (by simp; omega), List.getElem?_drop] at hy
                rw [if_neg hm, ← hy]
                congr 1
                simp; omega
            refine valOwn_sl (hT.pick (fun m => if m < i then m else m + (j - i)) hσ (fun m m' e => by split at e <;> split at e <;> omega) ⟨hk.same.1, fun k hk1 hk2 => hk.same.2 k hk1 fun e => by subst e; exact hk2 (by rw [h0]; rfl)⟩ (fun k hk => by rw [h0]; exact hk) (.inr ⟨b, o, cap, cs', el, ?_, hF, hb', ?_, by omega, ?_⟩))
            · rw [hlen]
            · rw [hlen]; omega
            · intro m y c z hy hc
              obtain ⟨u, hu, hcu⟩ := hrows _ y c z (hσ m y hy) hc
              refine ⟨u, ?_, hcu⟩
              have hml := el_lt hy
              have hcl := enc_lt hc
              have h1 : m * esz t + esz t ≤ (xs.length - (j - i)) * esz t := by
                have : (m + 1) * esz t ≤ (xs.length - (j - i)) * esz t := Nat.mul_le_mul_right _ (by omega)
                rw [Nat.add_mul] at this; omega
              rw [Nat.add_assoc, hget (m * esz t + c) (by omega), ← hu]
              congr 1
              by_cases hm : m < i
              · have : m * esz t + esz t ≤ i * esz t := by
                  have : (m + 1) * esz t ≤ i * esz t := Nat.mul_le_mul_right _ (by omega)
                  rw [Nat.add_mul] at this; omega
                rw [if_pos (by omega), if_pos hm]; omega
              · have : i * esz t ≤ m * esz t := Nat.mul_le_mul_right _ (by omega)
                rw [if_neg (by omega), if_neg hm, Nat.add_mul (m) (j - i)]; omega
end Go.Gm

/- Lists with some elements taken out. -/
namespace Go.Gm
open Go
def delL {α : Type} (xs : List α) (i j : Int) : List α := xs.take i.toNat ++ xs.drop j.toNat
def gDel {α : Type} (xs : List α) (i j : Int) : Bool := decide (0 ≤ i) && decide (i ≤ j) && decide (j ≤ (xs.length : Int))
end Go.Gm

/- Plain functions: orders. -/
namespace Go.Gm
open Go

def hasPre (a b : ByteArray) : Bool := decide ((a.size : Int) ≥ (b.size : Int)) && sEq (a.extract 0 b.size) b
def ours (a : ByteArray) : Bool := hasPre a (bs [113,117,97,121,47])
def paceOk (p : PaceT) : Bool := inR p.up 0 1000 && (inR p.down 0 1000 && (inR p.upSpan 0 3600 && inR p.downSpan 0 3600))
def metricOk (m : MetricT) : Bool := nameOk m.name && (inR m.kind 1 3 && inR m.goal 1 1000000)
noncomputable def noteC (xs : List NoteT) (j : Nat) : Bool :=
  plainOk (atI (t := .note) xs j).key && (!(hasPre (atI (t := .note) xs j).key (bs [113,117,97,121,47])) && (textOk (atI (t := .note) xs j).text && (!(decide (((atI (t := .note) xs j).text.size : Int) > 40)) &&
    (!(decide ((j : Int) > 0)) || sLt (atI (t := .note) xs (j - 1)).key (atI (t := .note) xs j).key))))
noncomputable def notesOk (xs : List NoteT) : Bool := allN (noteC xs) 0 xs.length && decide ((xs.length : Int) ≤ 4)
def metC (xs : List MetricT) (j : Nat) : Bool := metricOk (atI (t := .metric) xs j) && (!(decide ((j : Int) > 0)) || sLt (atI (t := .metric) xs (j - 1)).name (atI (t := .metric) xs j).name)
def metsOk (xs : List MetricT) : Bool := allN (metC xs) 0 xs.length && decide ((xs.length : Int) ≤ 4)
noncomputable def orderOk (o : OrderT) : Bool :=
  nameOk o.name && (nameOk o.target && (inR o.low 1 o.high && (decide (o.high ≤ 1000) && (metsOk o.metrics && (paceOk o.pace && notesOk o.notes)))))
end Go.Gm

/- Plain functions: what has happened. -/
namespace Go.Gm
open Go

noncomputable def eventC (h : HistT) (j : Nat) : Bool :=
  ((atI (t := .event) h.list j).seq == h.base + 1 + (j : Int)) && (inR (atI (t := .event) h.list j).kind 1 2 && (orderOk (atI (t := .event) h.list j).item.order && inR (atI (t := .event) h.list j).item.ver 1 100000))
noncomputable def histOk (h : HistT) : Bool := inR h.base 0 100000 && (!(decide ((h.list.length : Int) > 60)) && allN (eventC h) 0 h.list.length)
noncomputable def since (h : HistT) (n : Int) : List EventT × Bool := cond (histOk h && inR n h.base (h.base + (h.list.length : Int))) (h.list.drop (n - h.base).toNat, true) ([], false)
theorem foldl_snoc {α : Type} (xs out : List α) : xs.foldl (fun o x => o ++ [x]) out = out ++ xs := by
  induction xs generalizing out with
  | nil => simp
  | cons x r ih => rw [List.foldl_cons, ih]; simp
end Go.Gm

/- Plain functions: names taken out of lists; what was looked at. -/
namespace Go.Gm
open Go

theorem gDel_one {α : Type} {xs : List α} {i : Nat} (h : i < xs.length) : gDel xs (i : Int) ((i + 1 : Nat) : Int) = true := by
  simp only [gDel, Bool.and_eq_true, decide_eq_true_eq]; omega
end Go.Gm

/- Plain functions: numbers that are read, ways into trees. -/
namespace Go.Gm
open Go

/-! ### numbers that are read -/
def numT (s : ByteArray) : ByteArray := cond (!(sEq s ByteArray.empty)) (cond ((((ByteArray.data s).getD 0 0).toNat : Int) == (45 : Int)) (ByteArray.extract s 1 s.size) s) s
def numStep (c : UInt8) (n : Int) : Unit ⊕ Int :=
  cond (decide ((c.toNat : Int) < (48 : Int))) (.inl ()) (cond (decide ((c.toNat : Int) > (57 : Int))) (.inl ())
    (.inr (IntKind.wrap .i64 ((IntKind.wrap .i64 ((10 : Int) * n)) + (IntKind.wrap .i64 (IntKind.wrap .u8 ((c.toNat : Int) - (48 : Int))))))))
def numEnd (s t : ByteArray) (m : Int) : Int × Bool :=
  let n := cond (decide ((t.size : Int) < (s.size : Int))) (IntKind.wrap .i64 (0 - m)) m
  cond (inR n (-1000000000000) 1000000000000) (cond (sEq (digS n) s) (n, true) ((0 : Int), false)) ((0 : Int), false)
def numS (s : ByteArray) : Int × Bool :=
  cond (sEq (numT s) ByteArray.empty) ((0 : Int), false) (cond (decide (((numT s).size : Int) > 13)) ((0 : Int), false) (Sum.elim (fun _ => ((0 : Int), false)) (numEnd s (numT s)) (foldE numStep (numT s).data.toList 0)))
def natS (s : ByteArray) : Int × Bool := cond (numS s).2 ((numS s).1, decide ((numS s).1 ≥ (0 : Int))) ((numS s).1, false)
theorem numEnd_ok {s t : ByteArray} {m : Int} (h : (numEnd s t m).2 = true) : digS (numEnd s t m).1 = s := by
  unfold numEnd at h ⊢
  simp only at h ⊢
  generalize cond (decide ((t.size : Int) < (s.size : Int))) (IntKind.wrap .i64 (0 - m)) m = n at h ⊢
  cases h1 : inR n (-1000000000000) 1000000000000
  · rw [h1] at h; cases h
  · rw [h1] at h
    cases h2 : sEq (digS n) s
    · rw [h2] at h; cases h
    · exact sEq_iff.1 h2
theorem numS_ok {s : ByteArray} (h : (numS s).2 = true) : digS (numS s).1 = s := by
  unfold numS at h ⊢
  cases h1 : sEq (numT s) ByteArray.empty
  · rw [h1] at h
    simp only [cond_false] at h ⊢
    cases h2 : decide (((numT s).size : Int) > 13)
    · rw [h2] at h
      simp only [cond_false] at h ⊢
      cases h3 : foldE numStep (numT s).data.toList 0 with
      | inl _ => rw [h3] at h; cases h
      | inr m => rw [h3] at h; exact numEnd_ok h
    · rw [h2] at h; cases h
  · rw [h1] at h; cases h
theorem foldE_append {α A B : Type} (step : α → A → B ⊕ A) : ∀ (xs ys : List α) (a : A), foldE step (xs ++ ys) a = Sum.elim Sum.inl (foldE step ys) (foldE step xs a)
  | [], ys, a => rfl
  | x :: xs, ys, a => by
    simp only [List.cons_append, foldE]
    cases step x a with
    | inl b => rfl
    | inr a' => exact foldE_append step xs ys a'
theorem numStep_dig {d : Nat} (hd : d < 10) {n : Int} (h0 : 0 ≤ n) (h : n ≤ 1000000000000) : numStep (UInt8.ofNat (48 + d)) n = .inr (10 * n + d) := by
  unfold numStep
  have e1 : ((UInt8.ofNat (48 + d)).toNat : Int) = 48 + (d : Int) := by
    rw [UInt8.toNat_ofNat_of_lt' (by show 48 + d < 256; omega)]; omega
  have e2 : IntKind.wrap .u8 ((48 : Int) + (d : Int) - 48) = (d : Int) := by
    have : d = 0 ∨ d = 1 ∨ d = 2 ∨ d = 3 ∨ d = 4 ∨ d = 5 ∨ d = 6 ∨ d = 7 ∨ d = 8 ∨ d = 9 := by omega
    rcases this with rfl | rfl | rfl | rfl | rfl | rfl | rfl | rfl | rfl | rfl <;> rfl
  rw [e1, e2, wrap_id (x := 10 * n) (by omega) (by omega), wrap_id (x := (d : Int)) (by omega) (by omega), wrap_id (x := 10 * n + (d : Int)) (by omega) (by omega),
    decide_eq_false (show ¬ (48 + (d : Int) < 48) by omega), decide_eq_false (show ¬ (48 + (d : Int) > 57) by omega)]
  rfl
theorem fold_natDig (m : Nat) : m ≤ 1000000000000 → foldE numStep (natDig m) 0 = .inr (m : Int) := by
  induction m using Nat.strongRecOn with
  | ind m ih =>
    intro hm
    by_cases h : m < 10
    · rw [natDig_lt h]
      simp only [foldE]
      rw [numStep_dig h (by omega) (by omega)]
      show (Sum.inr (10 * 0 + (m : Int)) : Unit ⊕ Int) = _
      congr 1; omega
    · rw [natDig_ge h, foldE_append, ih (m / 10) (by omega) (by omega)]
      show foldE numStep [UInt8.ofNat (48 + m % 10)] ((m / 10 : Nat) : Int) = _
      simp only [foldE]
      rw [numStep_dig (by omega) (by omega) (by omega)]
      show (Sum.inr (10 * ((m / 10 : Nat) : Int) + ((m % 10 : Nat) : Int)) : Unit ⊕ Int) = _
      congr 1; omega
theorem natDig_head (m : Nat) : ∃ c r, natDig m = c :: r ∧ 48 ≤ c.toNat := by
  induction m using Nat.strongRecOn with
  | ind m ih =>
    by_cases h : m < 10
    · rw [natDig_lt h]
      exact ⟨_, _, rfl, by rw [UInt8.toNat_ofNat_of_lt' (by show 48 + m < 256; omega)]; omega⟩
    · obtain ⟨c, r, e, hc⟩ := ih (m / 10) (by omega)
      rw [natDig_ge h, e]
      exact ⟨c, _, rfl, hc⟩
theorem numS_dig {i : Nat} (h : i ≤ 1048576) : numS (digS (i : Int)) = ((i : Int), true) := by
  obtain ⟨c, r, e, hc⟩ := natDig_head i
  have hd : (digS (i : Int)).data.toList = natDig i := by rw [digS_nat]
  have hsz : (digS (i : Int)).size = (natDig i).length := by rw [← hd]; rfl
  have hl := natDig_len 6 i (by have : (10 : Nat) ^ (6 + 1) = 10000000 := rfl; omega)
  have hpos : 1 ≤ (natDig i).length := by rw [e]; simp
  have hne : sEq (digS (i : Int)) ByteArray.empty = false := by
    rw [Bool.eq_false_iff]; intro h
    have := sEq_iff.1 h
    rw [this] at hsz
    have h0 : ByteArray.empty.size = 0 := rfl
    omega
  have hb : ((((ByteArray.data (digS (i : Int))).getD 0 0).toNat : Int) == (45 : Int)) = false := by
    have : (ByteArray.data (digS (i : Int))).getD 0 0 = c := by
      rw [digS_nat, e]; rfl
    rw [this, beq_eq_false_iff_ne]; omega
  have hT : numT (digS (i : Int)) = digS (i : Int) := by unfold numT; rw [hne, hb]; rfl
  have h13 : decide (((digS (i : Int)).size : Int) > 13) = false := decide_eq_false (by omega)
  have hin : inR (i : Int) (-1000000000000) 1000000000000 = true := inR_iff.2 (by omega)
  unfold numS
  rw [hT, hne, h13, hd, fold_natDig i (by omega)]
  simp only [cond_false, Sum.elim_inr, numEnd, Int.lt_irrefl, decide_false]
  rw [hin, sEq_self]
  rfl
theorem natS_dig {i : Nat} (h : i ≤ 1048576) : natS (digS (i : Int)) = ((i : Int), true) := by
  unfold natS; rw [numS_dig h]
  simp only [cond_true]
  rw [decide_eq_true (show (i : Int) ≥ 0 by omega)]

theorem size_zero {s : ByteArray} (h : s.size = 0) : s = ByteArray.empty := ba_ext (by rw [List.eq_nil_of_length_eq_zero (show s.data.toList.length = 0 from h)]; rfl)

/-! ### kids -/
theorem firstN_eq {p : Nat → Bool} {i d : Nat} (hi : i < d) (hp : p i = true) (hall : ∀ k, k < i → p k = false) : firstN p 0 d = some i := by
  cases h : firstN p 0 d with
  | none => have := firstN_none h i (by omega) (by omega); rw [hp] at this; cases this
  | some k =>
    obtain ⟨_, h2, h3, h4⟩ := firstN_some h
    rcases Nat.lt_trichotomy k i with h5 | h5 | h5
    · have := hall k h5; rw [h3] at this; cases this
    · rw [h5]
    · have := h4 i (by omega) h5; rw [hp] at this; cases this
theorem firstN_cut {p : Nat → Bool} {n m : Nat} : cond (decide (plc (firstN p 0 n) ≥ (m : Int))) (-1 : Int) (plc (firstN p 0 n)) = plc (firstN p 0 (min n m)) := by
  cases h : firstN p 0 n with
  | none =>
    have : firstN p 0 (min n m) = none := by
      cases h2 : firstN p 0 (min n m) with
      | none => rfl
      | some k =>
        obtain ⟨_, h3, h4, _⟩ := firstN_some h2
        have := firstN_none h k (by omega) (by omega)
        rw [h4] at this; cases this
    rw [this]
    cases decide (plc none ≥ (m : Int)) <;> rfl
  | some i =>
    obtain ⟨_, h3, h4, h5⟩ := firstN_some h
    by_cases hm : i < m
    · rw [firstN_eq (show i < min n m by omega) h4 fun k hk => h5 k (by omega) hk, decide_eq_false (show ¬ (plc (some i) ≥ (m : Int)) by show ¬ ((i : Int) ≥ (m : Int)); omega)]
      rfl
    · have : firstN p 0 (min n m) = none := by
        cases h2 : firstN p 0 (min n m) with
        | none => rfl
        | some k =>
          obtain ⟨_, h6, h7, _⟩ := firstN_some h2
          have := h5 k (by omega) (by omega)
          rw [h7] at this; cases this
      rw [this, decide_eq_true (show plc (some i) ≥ (m : Int) by show (i : Int) ≥ (m : Int); omega)]
      rfl
theorem natS_firstW {s : ByteArray} {n : Nat} (hn : n ≤ 1048577) : cond (!((natS s).2)) (-1 : Int) (cond (decide ((natS s).1 ≥ (n : Int))) (-1 : Int) (natS s).1) = plc (firstN (fun j => sEq (digS (j : Int)) s) 0 n) := by
  cases h : firstN (fun j => sEq (digS (j : Int)) s) 0 n with
  | some i =>
    obtain ⟨_, h3, h4, _⟩ := firstN_some h
    have e := sEq_iff.1 h4
    have : natS s = ((i : Int), true) := by rw [← e]; exact natS_dig (by omega)
    rw [this]
    simp only [Bool.not_true, cond_false]
    rw [decide_eq_false (show ¬ ((i : Int) ≥ (n : Int)) by omega)]
    rfl
  | none =>
    have hno := firstN_none h
    show _ = (-1 : Int)
    cases h1 : (natS s).2
    · rfl
    simp only [Bool.not_true, cond_false]
    unfold natS at h1 ⊢
    cases h2 : (numS s).2
    · rw [h2] at h1; cases h1
    · rw [h2] at h1
      simp only [cond_true] at h1 ⊢
      have h3 : (numS s).1 ≥ 0 := of_decide_eq_true h1
      have h4 := numS_ok h2
      by_cases h5 : (numS s).1 ≥ (n : Int)
      · rw [decide_eq_true h5]; rfl
      · obtain ⟨k, hk⟩ := Int.eq_ofNat_of_zero_le h3
        have := hno k (by omega) (by omega)
        rw [hk] at h4
        rw [h4, sEq_self] at this
        cases this
theorem natS_first {s : ByteArray} {n : Nat} (hn : n ≤ 1048576) : cond (!((natS s).2)) (-1 : Int) (cond (decide ((natS s).1 ≥ (n : Int))) (-1 : Int) (natS s).1) = plc (firstN (fun j => sEq (digS (j : Int)) s) 0 n) := natS_firstW (by omega)
def keyAt (t : NodeT) (s : ByteArray) : Int := cond (t.kind == (5 : Int)) (plc (firstN (fun j => sEq (atI (t := .str) t.keys j) s) 0 (min t.keys.length t.kids.length))) (-1)
def kidAt (t : NodeT) (s : ByteArray) : Int := cond (t.kind == (5 : Int)) (keyAt t s) (cond (t.kind == (4 : Int)) (plc (firstN (fun j => sEq (digS (j : Int)) s) 0 t.kids.length)) (-1))
theorem plc_bd {p : Nat → Bool} {n : Nat} : -1 ≤ plc (firstN p 0 n) ∧ plc (firstN p 0 n) < (n : Int) ∨ plc (firstN p 0 n) = -1 := by
  cases h : firstN p 0 n with
  | none => exact .inr rfl
  | some i =>
    obtain ⟨_, h2, _⟩ := firstN_some h
    exact .inl (by show -1 ≤ (i : Int) ∧ (i : Int) < n; omega)
theorem kidAt_lt {t : NodeT} {s : ByteArray} (h : ¬ kidAt t s < 0) : kidAt t s < (t.kids.length : Int) := by
  revert h
  unfold kidAt keyAt
  cases t.kind == (5 : Int)
  · cases t.kind == (4 : Int)
    · intro h; exact (h (by simp only [cond_false]; omega)).elim
    · intro h
      rcases plc_bd (p := fun j => sEq (digS (j : Int)) s) (n := t.kids.length) with h1 | h1
      · exact h1.2
      · exact (h (by simp only [cond_true, cond_false]; omega)).elim
  · intro h
    rcases plc_bd (p := fun j => sEq (atI (t := .str) t.keys j) s) (n := min t.keys.length t.kids.length) with h1 | h1
    · simp only [cond_true]; omega
    · exact (h (by simp only [cond_true]; omega)).elim
theorem idxS_keyAt {t : NodeT} {s : ByteArray} (hk : (t.kind == (5 : Int)) = true) : cond (decide (idxS t.keys s ≥ (t.kids.length : Int))) (-1 : Int) (idxS t.keys s) = keyAt t s := by
  unfold keyAt idxS findI
  rw [hk, firstN_cut]
  simp only [cond_true]
  congr 2
  funext j
  exact sEq_comm _ _

/-! ### down a way -/
theorem szN_kid {t x : NodeT} (h : x ∈ t.kids) : szN_node x ≤ szN_node t := by
  rw [szN_node_def t]
  have h1 := sum_le szN_node h
  have : szL szN_node t.kids = t.kids.length + (t.kids.map szN_node).sum := rfl
  omega
theorem sm_kid {t x : NodeT} (hs : sm_node t = true) (h : x ∈ t.kids) : sm_node x = true := by
  rw [sm_node_def] at hs
  simp only [Bool.and_eq_true] at hs
  exact List.all_eq_true.1 (smL_all hs.2.2.2.2) x h
def atStep (p : ByteArray) (t : NodeT) : Unit ⊕ NodeT := cond (decide (kidAt t p < (0 : Int))) (.inl ()) (.inr (atI (t := .node) t.kids (Int.toNat (kidAt t p))))
def noNode : NodeT := ⟨(0 : Int), (0 : Int), ByteArray.empty, ([] : List ByteArray), ([] : List NodeT)⟩
def atPtr (t : NodeT) (path : List ByteArray) : NodeT × Bool := Sum.elim (fun _ => (noNode, false)) (fun t => (t, true)) (foldE atStep path t)
theorem kidAt_mem {t : NodeT} {p : ByteArray} (h : ¬ kidAt t p < 0) : atI (t := .node) t.kids (Int.toNat (kidAt t p)) ∈ t.kids := by
  have := kidAt_lt h
  exact List.mem_of_getElem? (atI_lt (t := .node) (xs := t.kids) (i := Int.toNat (kidAt t p)) (by omega))
theorem atStep_in {p : ByteArray} {t t' : NodeT} (h : atStep p t = .inr t') : t' ∈ t.kids := by
  unfold atStep at h
  by_cases hk : kidAt t p < 0
  · rw [decide_eq_true hk] at h; cases h
  · rw [decide_eq_false hk] at h
    cases h
    exact kidAt_mem hk
theorem foldE_at {Q : NodeT → Prop} (hQ : ∀ t x, Q t → x ∈ t.kids → Q x) : ∀ (path : List ByteArray) (t t' : NodeT), Q t → foldE atStep path t = .inr t' → Q t'
  | [], t, t', h, e => by cases e; exact h
  | p :: r, t, t', h, e => by
    simp only [foldE] at e
    cases hs : atStep p t with
    | inl _ => rw [hs] at e; cases e
    | inr x =>
      rw [hs] at e
      exact foldE_at hQ r x t' (hQ t x h (atStep_in hs)) e
theorem atPtr_sm {t : NodeT} {path : List ByteArray} (h : sm_node t = true) : sm_node (atPtr t path).1 = true := by
  unfold atPtr
  cases e : foldE atStep path t with
  | inl _ => show sm_node noNode = true; decide
  | inr x => exact foldE_at (Q := fun t => sm_node t = true) (fun _ _ h hx => sm_kid h hx) path t x h e
theorem atPtr_sz (t : NodeT) (path : List ByteArray) : szN_node (atPtr t path).1 ≤ szN_node t := by
  unfold atPtr
  cases e : foldE atStep path t with
  | inl _ => exact Nat.zero_le _
  | inr x => exact foldE_at (Q := fun y => szN_node y ≤ szN_node t) (fun _ _ h hx => Nat.le_trans (szN_kid hx) h) path t x (Nat.le_refl _) e
end Go.Gm

/- Plain functions: all ways into a tree. -/
namespace Go.Gm
open Go

end Go.Gm

/- Plain functions: cut out of a tree. -/
namespace Go.Gm
open Go

theorem szL_append {α : Type} (f : α → Nat) (xs ys : List α) : szL f (xs ++ ys) = szL f xs + szL f ys := by
  simp only [szL, List.length_append, List.map_append, List.sum_append]; omega
theorem szL_cons {α : Type} (f : α → Nat) (x : α) (ys : List α) : szL f (x :: ys) = 1 + f x + szL f ys := by
  simp only [szL, List.length_cons, List.map_cons, List.sum_cons]; omega
theorem split_at {α : Type} {xs : List α} {i : Nat} {x : α} (h : xs[i]? = some x) : xs = xs.take i ++ x :: xs.drop (i + 1) := by
  obtain ⟨y, hy, hd⟩ := drop_get (lt_of_get h)
  rw [h] at hy; cases hy
  conv => lhs; rw [← List.take_append_drop i xs, hd]
theorem szL_set {α : Type} {f : α → Nat} {xs : List α} {i : Nat} {x y : α} (h : xs[i]? = some x) (hy : f y ≤ f x) : szL f (xs.set i y) ≤ szL f xs := by
  rw [List.set_eq_take_append_cons_drop, if_pos (lt_of_get h)]
  conv => rhs; rw [split_at h]
  rw [szL_append, szL_append, szL_cons, szL_cons]; omega
theorem szL_del {α : Type} (f : α → Nat) (xs : List α) (i : Nat) : szL f (delL xs (i : Int) ((i + 1 : Nat) : Int)) ≤ szL f xs := by
  simp only [delL, Int.toNat_natCast]
  by_cases h : i < xs.length
  · conv => rhs; rw [split_at (List.getElem?_eq_getElem h)]
    rw [szL_append, szL_append, szL_cons]; omega
  · rw [List.drop_eq_nil_of_le (by omega), List.append_nil, List.take_of_length_le (by omega)]
    exact Nat.le_refl _
theorem smL_del {α : Type} {f : α → Bool} {xs : List α} (h : smL f xs = true) (i : Nat) : smL f (delL xs (i : Int) ((i + 1 : Nat) : Int)) = true := by
  simp only [delL, Int.toNat_natCast]
  refine smL_sub h (fun x hx => ?_) (by simp; omega)
  rcases List.mem_append.1 hx with hx | hx
  · exact List.mem_of_mem_take hx
  · exact List.mem_of_mem_drop hx
theorem smL_set {α : Type} {f : α → Bool} {xs : List α} (h : smL f xs = true) (i : Nat) {y : α} (hy : f y = true) : smL f (xs.set i y) = true := by
  simp only [smL, Bool.and_eq_true] at h ⊢
  refine ⟨by rw [List.length_set]; exact h.1, List.all_eq_true.2 fun x hx => ?_⟩
  rcases List.mem_or_eq_of_mem_set hx with hm | rfl
  · exact List.all_eq_true.1 h.2 x hm
  · exact hy

def isMapN (t : NodeT) : Bool := cond (t.kind == (5 : Int)) ((t.keys.length : Int) == (t.kids.length : Int)) false
/-- A map without a key's kid. -/
def cutKey (t : NodeT) (k : Int) : NodeT := ⟨t.kind, t.n, t.s, delL t.keys k (k + 1), delL t.kids k (k + 1)⟩
/-- A list without a kid. -/
def cutKid (t : NodeT) (k : Int) : NodeT := ⟨t.kind, t.n, t.s, t.keys, delL t.kids k (k + 1)⟩
def setKid (t : NodeT) (k : Int) (x : NodeT) : NodeT := ⟨t.kind, t.n, t.s, t.keys, t.kids.set (Int.toNat k) x⟩
def unset (t : NodeT) (s : ByteArray) : NodeT := cond (isMapN t) (cond (decide (keyAt t s < (0 : Int))) t (cutKey t (keyAt t s))) t
theorem isMapN_eq {t : NodeT} (h : isMapN t = true) : (t.kind == (5 : Int)) = true ∧ t.keys.length = t.kids.length := by
  unfold isMapN at h
  cases h5 : t.kind == (5 : Int)
  · rw [h5] at h; cases h
  · rw [h5] at h
    have := eq_of_beq (show ((t.keys.length : Int) == (t.kids.length : Int)) = true from h)
    exact ⟨rfl, by omega⟩
theorem idxS_map {t : NodeT} (h : isMapN t = true) (s : ByteArray) : idxS t.keys s = keyAt t s := by
  obtain ⟨h5, hl⟩ := isMapN_eq h
  unfold keyAt idxS findI
  rw [h5, hl, Nat.min_self, ← hl]
  simp only [cond_true]
  congr 2
  funext j
  exact sEq_comm _ _
theorem keyAt_bd (t : NodeT) (s : ByteArray) (h : ¬ keyAt t s < 0) : ∃ i : Nat, keyAt t s = (i : Int) ∧ i < t.keys.length ∧ i < t.kids.length := by
  revert h
  unfold keyAt
  cases t.kind == (5 : Int)
  · intro h; exact (h (by simp only [cond_false]; omega)).elim
  · simp only [cond_true]
    intro h
    rcases plc_bd (p := fun j => sEq (atI (t := .str) t.keys j) s) (n := min t.keys.length t.kids.length) with h1 | h1
    · exact ⟨Int.toNat (plc (firstN (fun j => sEq (atI (t := .str) t.keys j) s) 0 (min t.keys.length t.kids.length))), by omega, by omega, by omega⟩
    · omega
theorem kidAt_bd {t : NodeT} {s : ByteArray} (h : ¬ kidAt t s < 0) : ∃ i : Nat, kidAt t s = (i : Int) ∧ i < t.kids.length := by
  have := kidAt_lt h
  exact ⟨Int.toNat (kidAt t s), by omega, by omega⟩
def cutLast (t : NodeT) (s : ByteArray) : NodeT × Bool := cond (decide (kidAt t s < (0 : Int))) (noNode, false) (cond (t.kind == (5 : Int)) (unset t s, true) (cutKid t (kidAt t s), true))
def cutIn : NodeT → List ByteArray → NodeT × Bool
  | _, [] => (noNode, false)
  | t, [p] => cutLast t p
  | t, p :: q :: r => cond (decide (kidAt t p < (0 : Int))) (noNode, false)
      (cond (!((cutIn (atI (t := .node) t.kids (Int.toNat (kidAt t p))) (q :: r)).2)) (noNode, false) (setKid t (kidAt t p) (cutIn (atI (t := .node) t.kids (Int.toNat (kidAt t p))) (q :: r)).1, true))
def cutAt (t : NodeT) (path : List ByteArray) : NodeT × Bool := cond (!((cutIn t path).2)) (t, false) ((cutIn t path).1, true)
def cutPtr (t : NodeT) (path : List ByteArray) : NodeT × Bool := cond ((path.length : Int) == (0 : Int)) (t, false) (cutAt t path)
theorem cutPtr_cons (t : NodeT) (p : ByteArray) (r : List ByteArray) : cutPtr t (p :: r) = cutAt t (p :: r) := by
  have : (((p :: r).length : Int) == (0 : Int)) = false := by rw [beq_eq_false_iff_ne, List.length_cons]; omega
  unfold cutPtr; rw [this]; rfl
/-- What the specification does, a step deeper. -/
theorem cutPtr_deep (t : NodeT) (p q : ByteArray) (r : List ByteArray) (h : ¬ kidAt t p < 0) :
    cutPtr t (p :: q :: r) = cond ((cutPtr (atI (t := .node) t.kids (Int.toNat (kidAt t p))) (q :: r)).2) (setKid t (kidAt t p) (cutPtr (atI (t := .node) t.kids (Int.toNat (kidAt t p))) (q :: r)).1, (cutPtr (atI (t := .node) t.kids (Int.toNat (kidAt t p))) (q :: r)).2) (t, (cutPtr (atI (t := .node) t.kids (Int.toNat (kidAt t p))) (q :: r)).2) := by
  rw [cutPtr_cons, cutPtr_cons]
  unfold cutAt
  rw [cutIn, decide_eq_false h]
  simp only [cond_false]
  cases (cutIn (atI (t := .node) t.kids (Int.toNat (kidAt t p))) (q :: r)).2 <;> rfl
theorem cutPtr_one (t : NodeT) (p : ByteArray) (h : ¬ kidAt t p < 0) : cutPtr t [p] = cond (t.kind == (5 : Int)) (unset t p, true) (cutKid t (kidAt t p), true) := by
  rw [cutPtr_cons]
  unfold cutAt
  rw [cutIn, cutLast, decide_eq_false h]
  simp only [cond_false]
  cases t.kind == (5 : Int) <;> rfl
theorem cutPtr_no (t : NodeT) (p : ByteArray) (r : List ByteArray) (h : kidAt t p < 0) : cutPtr t (p :: r) = (t, false) := by
  rw [cutPtr_cons]
  unfold cutAt
  cases r with
  | nil => rw [cutIn, cutLast, decide_eq_true h]; rfl
  | cons q r => rw [cutIn, decide_eq_true h]; rfl

/-! ### small -/
theorem sm_parts {t : NodeT} (h : sm_node t = true) : okI t.kind = true ∧ okI t.n = true ∧ smStr t.s = true ∧ smL smStr t.keys = true ∧ smL sm_node t.kids = true := by
  rw [sm_node_def] at h
  simpa only [Bool.and_eq_true] using h
theorem cutKey_ok {t : NodeT} {i : Nat} (h : sm_node t = true) : sm_node (cutKey t (i : Int)) = true ∧ szN_node (cutKey t (i : Int)) ≤ szN_node t := by
  obtain ⟨h1, h2, h3, h4, h5⟩ := sm_parts h
  constructor
  · rw [sm_node_def]
    simp only [Bool.and_eq_true]
    exact ⟨h1, h2, h3, smL_del h4 i, smL_del h5 i⟩
  · rw [szN_node_def, szN_node_def t]
    have e1 := szL_del ByteArray.size t.keys i
    have e2 := szL_del szN_node t.kids i
    show t.s.size + szL ByteArray.size (delL t.keys (i : Int) ((i + 1 : Nat) : Int)) + szL szN_node (delL t.kids (i : Int) ((i + 1 : Nat) : Int)) ≤ _
    omega
theorem cutKid_ok {t : NodeT} {i : Nat} (h : sm_node t = true) : sm_node (cutKid t (i : Int)) = true ∧ szN_node (cutKid t (i : Int)) ≤ szN_node t := by
  obtain ⟨h1, h2, h3, h4, h5⟩ := sm_parts h
  constructor
  · rw [sm_node_def]
    simp only [Bool.and_eq_true]
    exact ⟨h1, h2, h3, h4, smL_del h5 i⟩
  · rw [szN_node_def, szN_node_def t]
    have e2 := szL_del szN_node t.kids i
    show t.s.size + szL ByteArray.size t.keys + szL szN_node (delL t.kids (i : Int) ((i + 1 : Nat) : Int)) ≤ _
    omega
theorem setKid_ok {t x y : NodeT} {i : Nat} (h : sm_node t = true) (hx : t.kids[i]? = some x) (hy : sm_node y = true) (hz : szN_node y ≤ szN_node x) : sm_node (setKid t (i : Int) y) = true ∧ szN_node (setKid t (i : Int) y) ≤ szN_node t := by
  obtain ⟨h1, h2, h3, h4, h5⟩ := sm_parts h
  constructor
  · rw [sm_node_def]
    simp only [Bool.and_eq_true]
    exact ⟨h1, h2, h3, h4, smL_set h5 _ hy⟩
  · rw [szN_node_def, szN_node_def t]
    have e2 := szL_set (f := szN_node) hx hz
    show t.s.size + szL ByteArray.size t.keys + szL szN_node (t.kids.set (Int.toNat (i : Int)) y) ≤ _
    rw [Int.toNat_natCast]
    omega
theorem unset_ok {t : NodeT} {s : ByteArray} (h : sm_node t = true) : sm_node (unset t s) = true ∧ szN_node (unset t s) ≤ szN_node t := by
  unfold unset
  cases isMapN t
  · exact ⟨h, Nat.le_refl _⟩
  by_cases hk : keyAt t s < 0
  · rw [decide_eq_true hk]; exact ⟨h, Nat.le_refl _⟩
  · rw [decide_eq_false hk]
    obtain ⟨i, e, _⟩ := keyAt_bd t s hk
    simp only [cond_true, cond_false]
    rw [e]; exact cutKey_ok h
theorem noNode_ok (t : NodeT) : sm_node noNode = true ∧ szN_node noNode ≤ szN_node t := ⟨by decide, Nat.zero_le _⟩
theorem cutLast_ok {t : NodeT} {s : ByteArray} (h : sm_node t = true) : sm_node (cutLast t s).1 = true ∧ szN_node (cutLast t s).1 ≤ szN_node t := by
  unfold cutLast
  by_cases hk : kidAt t s < 0
  · rw [decide_eq_true hk]; exact noNode_ok t
  · rw [decide_eq_false hk]
    obtain ⟨i, e, _⟩ := kidAt_bd hk
    cases t.kind == (5 : Int)
    · simp only [cond_false]
      rw [e]; exact cutKid_ok h
    · exact unset_ok h
theorem cutIn_ok : ∀ (path : List ByteArray) (t : NodeT), sm_node t = true → sm_node (cutIn t path).1 = true ∧ szN_node (cutIn t path).1 ≤ szN_node t
  | [], t, _ => noNode_ok t
  | [p], t, h => by rw [cutIn]; exact cutLast_ok h
  | p :: q :: r, t, h => by
    rw [cutIn]
    by_cases hk : kidAt t p < 0
    · rw [decide_eq_true hk]; exact noNode_ok t
    · rw [decide_eq_false hk]
      simp only [cond_false]
      obtain ⟨i, e, hi⟩ := kidAt_bd hk
      rw [e, Int.toNat_natCast]
      have hx := atI_lt (t := .node) hi
      have ih := cutIn_ok (q :: r) (atI (t := .node) t.kids i) (sm_kid h (List.mem_of_getElem? hx))
      cases (cutIn (atI (t := .node) t.kids i) (q :: r)).2
      · exact noNode_ok t
      · exact setKid_ok h hx ih.1 ih.2
theorem cutPtr_ok {t : NodeT} {path : List ByteArray} (h : sm_node t = true) : sm_node (cutPtr t path).1 = true ∧ szN_node (cutPtr t path).1 ≤ szN_node t := by
  have := cutIn_ok path t h
  unfold cutPtr cutAt
  cases (path.length : Int) == (0 : Int) <;> cases (cutIn t path).2 <;> first | exact this | exact ⟨h, Nat.le_refl _⟩
end Go.Gm
namespace Go.Gm
open Go
theorem limT {α : Type} {xs : List α} (h : xs.length ≤ 1048576) (i : Nat) : Nat.ble (0 + (xs.take i).length) LIM = true := Nat.ble_eq_true_of_le (by
  have : (LIM : Nat) = 4294967296 := rfl
  rw [List.length_take]; omega)
theorem limTD {α : Type} {xs : List α} (h : xs.length ≤ 1048576) (i j : Nat) : Nat.ble ((xs.take i).length + (xs.drop j).length) LIM = true := Nat.ble_eq_true_of_le (by
  have : (LIM : Nat) = 4294967296 := rfl
  rw [List.length_take, List.length_drop]; omega)
theorem unset_neg {t : NodeT} {s : ByteArray} (h : keyAt t s < 0) : unset t s = t := by
  unfold unset
  rw [decide_eq_true h]
  cases isMapN t <;> rfl
theorem unset_ne {t : NodeT} {s : ByteArray} (h : ((t.keys.length : Int) != (t.kids.length : Int)) = true) : unset t s = t := by
  unfold unset isMapN
  have : ((t.keys.length : Int) == (t.kids.length : Int)) = false := by simpa [bne] using h
  rw [this]
  cases t.kind == (5 : Int) <;> rfl
theorem unset_eq {t : NodeT} {s : ByteArray} (hk : ¬ keyAt t s < 0) (h : ((t.keys.length : Int) != (t.kids.length : Int)) = false) : unset t s = cutKey t (keyAt t s) := by
  have h1 : ((t.keys.length : Int) == (t.kids.length : Int)) = true := by simpa [bne] using h
  have h5 : (t.kind == (5 : Int)) = true := by
    cases h5 : t.kind == (5 : Int)
    · exact absurd (show keyAt t s < 0 by unfold keyAt; rw [h5]; simp only [cond_false]; omega) hk
    · rfl
  unfold unset isMapN
  rw [h1, h5, decide_eq_false hk]; rfl
def gW (t : NodeT) (path : List ByteArray) : Bool := sm_node t && (smL smStr path && !path.isEmpty)
end Go.Gm

/- slices.Insert: from what it does with cells to a contract. -/
namespace Go.Gm
open Go

variable {P : Program} {E : Env} {w w' : World}

theorem run_copy_at (dT sT ty e : TypeId) (ii : TypeInfo) (hu : P.underlying dT = some (.slice e)) (hi : P.info? e = some ii) (g o dLen dCap : Nat) (a : Addr) (sLen sCap n : Nat) (cur : Array Value) (el : TypeId) (vs : List Value)
    (hn : Nat.min sLen dLen = n) (hl : vs.length = n * ii.size) (hg : w.heap[g]? = some (.cells cur el (0, 0))) (hsrc : ∀ j v, vs[j]? = some v → w.cell? (a.add j) = some v) (hfit : o + vs.length ≤ cur.size) (h1 : ∀ v ∈ vs, v.oneCell' = true) :
    (Builtin.copy_ #[dT, sT] ty #[.slice (some ⟨g, o, none⟩) dLen dCap, .slice (some a) sLen sCap]).run P w = .ok (goInt n) (w.setRow g (putAt cur o vs.toArray)) := by
  have hl' := run_firstCells_some (P := P) w ii.size n a sLen sCap vs hl hsrc
  have hst := run_storeCells_at P g o el vs 0 cur w hg (by simpa using hfit) h1
  simp only [Nat.add_zero] at hst
  rw [← row_putAt (by simpa using hfit)]
  simp [Builtin.copy_, run_underlying hu, Builtin.lenOf, sizeOf, typeInfo, hi, hn, hl', hst]

theorem step_copy_by {ops : Array Oper} {o : Oper} {a : Act} {K : Act → World → Prop} {Q : Exit → Act → World → Prop} {R : Prop}
    (hg : o.guard = none) (d x : Operand) (dT sT : TypeId) (hop : o.op = Op.call { callee := Callee.builtin Builtin.copy, args := #[d, x], argTypes := #[dT, sT] })
    (v u : Value) (hd : a.eval d = v) (hx : a.eval x = u) {v' : Value} (hr : (Builtin.copy_ #[dT, sT] o.type #[v, u]).run P w = .ok v' w') (hK : K (a.put o.dst v') w') :
    if Region.wanted o (yielded ops a.tmps) = true then Oper.wp P o a w K Q else R := by
  have hw : Region.wanted o (yielded ops a.tmps) = true := by simp [Region.wanted, hg]
  rw [if_pos hw]
  unfold Oper.wp
  simp [execOp, hop, resolve, invoke, builtin, hd, hx, hr, Result.andThen]
  exact hK
theorem wpList_copy_by {ops : Array Oper} {rest : List Oper} {o : Oper} {a : Act} {Q : Exit → Act → World → Prop} (hgd : o.guard = none) (d s : Operand) (t t' : TypeId)
    (ho : o.op = .call { callee := .builtin .copy, args := #[d, s], argTypes := #[t, t'] }) (v u : Value) (hd : a.eval d = v) (hs : a.eval s = u) {v' : Value}
    (hr : (Builtin.copy_ #[t, t'] o.type #[v, u]).run P w = .ok v' w') (h : wpList P ops Q rest (a.put o.dst v') w') : wpList P ops Q (o :: rest) a w := by
  refine wpList_plain hgd fun _ hK => ?_
  unfold Oper.wp execOp
  simp only [ho, resolve, invoke, builtin, Sem.run_bind, Sem.run_pure, Result.andThen_ok, List.map_toArray, List.map_cons, List.map_nil, hd, hs, hr]
  exact hK _ _ h

/-- What is left behind an Insert: the row at b' from o' on holds vals. -/
def InsEnd (w w' : World) (base : Option Addr) (b' o' n' cap' sz : Nat) (vals : List Value) : Prop :=
  Kept w w' (fun k => ∃ o, base = some ⟨k, o, none⟩) ∧ n' ≤ cap' ∧ ((∃ o, base = some ⟨b', o, none⟩) ∨ w.heap.size ≤ b') ∧
  ∃ cs' el, w'.heap[b']? = some (.cells cs' el (0, 0)) ∧ o' + cap' * sz ≤ cs'.size ∧ ∀ k v, vals[k]? = some v → cs'[o' + k]? = some v

structure InsIn (w : World) (base : Option Addr) (n cap i vb vo m sz : Nat) (olds news : List Value) : Prop where
  hi : i ≤ n
  hn : n ≤ cap
  hm : 0 < m
  lim : n + m ≤ LIM
  lo : olds.length = n * sz
  ln : news.length = m * sz
  oo : ∀ v ∈ olds, v.oneCell' = true
  on : ∀ v ∈ news, v.oneCell' = true
  nil : base = none → n = 0 ∧ cap = 0
  is : ∀ a, base = some a → ∃ b o cs el, a = ⟨b, o, none⟩ ∧ b ≠ vb ∧ w.heap[b]? = some (.cells cs el (0, 0)) ∧ o + cap * sz ≤ cs.size ∧ ∀ k v, olds[k]? = some v → cs[o + k]? = some v
  v : ∃ vcs vel, w.heap[vb]? = some (.cells vcs vel (0, 0)) ∧ ∀ k v, news[k]? = some v → vcs[vo + k]? = some v

def InsOut (w : World) (base : Option Addr) (n m i sz : Nat) (olds news : List Value) (e : Ending) (w' : World) : Prop :=
  ∃ b' o' cap', e = .returned (.slice (some ⟨b', o', none⟩) (n + m) cap') ∧ InsEnd w w' base b' o' (n + m) cap' sz (olds.take (i * sz) ++ news ++ olds.drop (i * sz))
/-- slices.Insert, as the cells have it. -/
def InsE (P : Program) (f sz : Nat) : Prop := ∀ (base : Option Addr) (n cap i vb vo m vc : Nat) (olds news : List Value) (w : World), InsIn w base n cap i vb vo m sz olds news →
  Calls P f #[.slice base n cap, .int .i64 i, .slice (some ⟨vb, vo, none⟩) m vc] w fun e w' => InsOut w base n m i sz olds news e w'

/-- At the end: append. -/
theorem ins_end (hE : E.Ok P) {T : TypeId} {e : Ty} (hT : E.code T = some (.sl e)) {sz : Nat} (hsz : esz e = sz) {base : Option Addr} {n cap vb vo m : Nat} {olds news : List Value} (h : InsIn w base n cap n vb vo m sz olds news) (vc : Nat) :
    ∃ (b' o' cap' : Nat) (W : World), (∀ ty, (Builtin.append_ #[T, T] ty #[.slice base n cap, .slice (some ⟨vb, vo, none⟩) m vc]).run P w = .ok (.slice (some ⟨b', o', none⟩) (n + m) cap') W) ∧
      InsEnd w W base b' o' (n + m) cap' sz (olds.take (n * sz) ++ news ++ olds.drop (n * sz)) := by
  subst hsz
  obtain ⟨vcs, vel, hvb, hvr⟩ := h.v
  obtain ⟨v', w', hrun, hos, htp, hout, hres⟩ := run_append (ty := 0) hE hT hT (sa := base) (n := n) (cap := cap) (xa := some ⟨vb, vo, none⟩) (m := m) (c := vc) (w := w) h.lo (by
      cases base with
      | none => left; have := (h.nil rfl).1; exact List.eq_nil_of_length_eq_zero (by rw [h.lo, this, Nat.zero_mul])
      | some a => obtain ⟨b, o, cs, el, rfl, _, hb, _, hc⟩ := h.is a rfl; exact .inr ⟨b, o, cs, el, _, rfl, hb, hc⟩) h.ln (.inr ⟨vb, vo, vcs, vel, _, rfl, hvb, hvr⟩) h.on h.hn (fun b o e => by
        obtain ⟨b2, o2, cs, el, e2, _, hb, hs, _⟩ := h.is _ e
        simp only [Addr.mk.injEq, and_true] at e2
        obtain ⟨rfl, rfl⟩ := e2
        exact ⟨cs, el, hb, hs⟩) (fun e => (h.nil e).2) (fun a e => by obtain ⟨b, o, cs, el, rfl, _⟩ := h.is a e; rfl) h.lim
  have hm := h.hm
  rcases hres with ⟨_, _, _, h0, _⟩ | ⟨b', o', cap', cs', el', rfl, hb', hcap', hs', hv', hsame, hwho⟩
  · omega
  · refine ⟨b', o', cap', w', fun ty => hrun, ⟨hos, htp, hout, hsame.1, fun k hk hx => ?_⟩, hcap', ?_, cs', el', hb', hs', ?_⟩
    · rcases hwho with ⟨o2, ho2⟩ | hh
      · exact hsame.2 k hk fun e => hx ⟨o2, by rw [e]; exact ho2⟩
      · exact hsame.2 k hk fun e => by omega
    · rcases hwho with h' | h'
      · exact .inl h'
      · exact .inr (Nat.le_of_eq h'.symm)
    · rw [List.take_of_length_le (by rw [h.lo]; exact Nat.le_refl _), List.drop_of_length_le (by rw [h.lo]; exact Nat.le_refl _), List.append_nil]
      exact hv'

theorem putAt_hit {cells : Array Value} {off : Nat} {vs : List Value} (h : off + vs.length ≤ cells.size) (k : Nat) (hk : k < vs.length) : (putAt cells off vs.toArray)[off + k]? = vs[k]? := by
  rw [putAt_get (by simpa using h), if_pos ⟨by omega, by simp; omega⟩, List.getElem?_toArray]
  congr 1; omega
theorem putAt_miss {cells : Array Value} {off : Nat} {vs : List Value} (h : off + vs.length ≤ cells.size) (k : Nat) (hk : k < off ∨ off + vs.length ≤ k) : (putAt cells off vs.toArray)[k]? = cells[k]? := by
  rw [putAt_get (by simpa using h), if_neg (by simp; omega)]

/-- Within: there is room. -/
theorem ins_room (hE : E.Ok P) {T : TypeId} {e : Ty} (hT : E.code T = some (.sl e)) {sz : Nat} (hsz : esz e = sz) {b o n cap i vb vo m : Nat} {olds news : List Value} (h : InsIn w (some ⟨b, o, none⟩) n cap i vb vo m sz olds news) (hin : i < n) (hroom : n + m ≤ cap) :
    ∃ (W1 : World) (cs1 : Array Value),
      (∀ tR A lb cb vc, A = (⟨b, o + (i + m) * sz, none⟩ : Addr) → (Extern.SlicesOverlaps.overlaps #[T, T] #[tR] #[.slice (some ⟨vb, vo, none⟩) m vc, .slice (some A) lb cb]).run P w = .ok (.bool false) w) ∧
      (∀ ty dc sc, (Builtin.copy_ #[T, T] ty #[.slice (some ⟨b, o + (i + m) * sz, none⟩) (n + m - (i + m)) dc, .slice (some ⟨b, o + i * sz, none⟩) (n + m - i) sc]).run P w.drew = .ok (goInt (n - i : Nat)) W1) ∧
      (∀ W : World, W.heap = W1.heap → ∀ ty dc vc, (Builtin.copy_ #[T, T] ty #[.slice (some ⟨b, o + i * sz, none⟩) (n + m - i) dc, .slice (some ⟨vb, vo, none⟩) m vc]).run P W = .ok (goInt m) (W.setRow b (putAt cs1 (o + i * sz) news.toArray))) ∧
      (∀ W : World, W.heap = W1.heap → W.os = w.os → W.tape = w.tape → W.output = w.output → InsEnd w (W.setRow b (putAt cs1 (o + i * sz) news.toArray)) (some ⟨b, o, none⟩) b o (n + m) cap sz (olds.take (i * sz) ++ news ++ olds.drop (i * sz))) ∧
      W1.os = w.os ∧ W1.tape = w.tape ∧ W1.output = w.output := by
  subst hsz
  obtain ⟨eT, hu, hel⟩ := hE.slice hT
  obtain ⟨ii, zv, hi, hsz, hby, hz, hzc⟩ := hE.info eT e hel
  have hpos := esz_pos e
  obtain ⟨vcs, vel, hvb, hvr⟩ := h.v
  obtain ⟨b2, o2, cs, el, e2, hne, hb, hs, hc⟩ := h.is _ rfl
  simp only [Addr.mk.injEq, and_true] at e2
  obtain ⟨rfl, rfl⟩ := e2
  have hm := h.hm
  have hlo := h.lo
  have hln := h.ln
  have m1 : (n + m) * esz e ≤ cap * esz e := Nat.mul_le_mul_right _ hroom
  have m2 : (n + m) * esz e = n * esz e + m * esz e := Nat.add_mul _ _ _
  have m3 : (i + m) * esz e = i * esz e + m * esz e := Nat.add_mul _ _ _
  have m4 : i * esz e + esz e ≤ n * esz e := by
    have : (i + 1) * esz e ≤ n * esz e := Nat.mul_le_mul_right _ hin
    rw [Nat.add_mul] at this; omega
  have m5 : (n - i) * esz e = n * esz e - i * esz e := Nat.sub_mul _ _ _
  have hdl : (olds.drop (i * esz e)).length = (n - i) * esz e := by rw [List.length_drop, hlo, m5]
  have hfit1 : o + (i + m) * esz e + (olds.drop (i * esz e)).length ≤ cs.size := by rw [hdl]; omega
  have hfit2 : o + i * esz e + news.length ≤ (putAt cs (o + (i + m) * esz e) (olds.drop (i * esz e)).toArray).size := by
    rw [putAt_size (by simpa using hfit1)]; omega
  have hb1 : (w.drew.setRow b (putAt cs (o + (i + m) * esz e) (olds.drop (i * esz e)).toArray)).heap[b]? = some (.cells (putAt cs (o + (i + m) * esz e) (olds.drop (i * esz e)).toArray) el (0, 0)) := setRow_heap w.drew b cs _ el (0, 0) hb
  refine ⟨w.drew.setRow b (putAt cs (o + (i + m) * esz e) (olds.drop (i * esz e)).toArray), putAt cs (o + (i + m) * esz e) (olds.drop (i * esz e)).toArray, fun tR A lb cb vc hA => ?_, fun ty dc sc => ?_, fun W hW ty dc vc => ?_, fun W hW h1 h2 h3 => ?_, rfl, rfl, rfl⟩
  · subst hA
    have hszr : ∀ w : World, (Go.sizeOf eT).run P w = .ok (esz e) w := fun w => by simp [sizeOf, typeInfo, hi, hsz]
    refine Lib.run_overlaps_apart w T tR eT hu (esz e) hszr ⟨vb, vo, none⟩ ⟨b, o + (i + m) * esz e, none⟩ m vc lb cb (fun e => hne e.symm) vel el vcs.size cs.size ?_ ?_ (by omega) ?_ ?_
    · simp [World.shape?, hvb]
    · simp [World.shape?, hb]
    · simp [World.frozen?, hvb]
    · simp [World.frozen?, hvb]
  · refine run_copy_at T T ty eT ii hu hi b _ _ dc ⟨b, o + i * esz e, none⟩ _ sc (n - i) cs el (olds.drop (i * esz e)) (by simp only [Nat.min_def]; split <;> omega) (by rw [hdl, hsz]) hb (fun j v hj => ?_) hfit1 (fun v hv => h.oo v (List.mem_of_mem_drop hv))
    rw [List.getElem?_drop] at hj
    rw [addrAdd, cellIn (w := w.drew) hb, Nat.add_assoc]
    exact hc _ v hj
  · refine run_copy_at T T ty eT ii hu hi b _ _ dc ⟨vb, vo, none⟩ _ vc m _ el news (by simp only [Nat.min_def]; split <;> omega) (by rw [hln, hsz]) (by rw [hW]; exact hb1) (fun j v hj => ?_) hfit2 h.on
    have hvb1 : W.heap[vb]? = some (.cells vcs vel (0, 0)) := by
      rw [hW, setRow_other w.drew b vb _ (fun e => hne e.symm)]; exact hvb
    rw [addrAdd, cellIn hvb1]
    exact hvr _ v hj
  · have hb2 := setRow_heap W b _ (putAt (putAt cs (o + (i + m) * esz e) (olds.drop (i * esz e)).toArray) (o + i * esz e) news.toArray) el (0, 0) (by rw [hW]; exact hb1)
    refine ⟨⟨h1, h2, h3, ?_, fun k hk hx => ?_⟩, hroom, .inl ⟨o, rfl⟩, _, el, hb2, ?_, fun k v hk => ?_⟩
    · simp [hW]
    · have hkb : k ≠ b := fun e => hx ⟨o, by rw [e]⟩
      rw [setRow_other W b k _ hkb, hW, setRow_other w.drew b k _ hkb]; rfl
    · rw [putAt_size (by simpa using hfit2), putAt_size (by simpa using hfit1)]; exact hs
    · have htl : (olds.take (i * esz e)).length = i * esz e := by rw [List.length_take, hlo]; omega
      rcases Nat.lt_or_ge k (i * esz e) with hk1 | hk1
      · rw [List.append_assoc, List.getElem?_append_left (by omega), List.getElem?_take, if_pos hk1] at hk
        rw [putAt_miss hfit2 _ (.inl (by omega)), putAt_miss hfit1 _ (.inl (by omega))]
        exact hc k v hk
      · rcases Nat.lt_or_ge k (i * esz e + news.length) with hk2 | hk2
        · rw [List.append_assoc, List.getElem?_append_right (by omega), List.getElem?_append_left (by omega), htl] at hk
          have := putAt_hit hfit2 (k - i * esz e) (by omega)
          rw [show o + k = o + i * esz e + (k - i * esz e) by omega, this]
          exact hk
        · rw [List.getElem?_append_right (by rw [List.length_append, htl]; omega), List.length_append, htl] at hk
          have hkl := (List.getElem?_eq_some_iff.1 hk).1
          rw [putAt_miss hfit2 _ (.inr (by omega))]
          have := putAt_hit hfit1 (k - (i * esz e + news.length)) hkl
          rw [show o + k = o + (i + m) * esz e + (k - (i * esz e + news.length)) by omega, this]
          exact hk

/-- Within: there is no room. -/
theorem ins_grow (hE : E.Ok P) {T Ti : TypeId} {e : Ty} (hT : E.code T = some (.sl e)) (hTi : P.underlying Ti = some (.int .i64)) {sz : Nat} (hsz : esz e = sz) {b o n cap i vb vo m : Nat} {olds news : List Value} (h : InsIn w (some ⟨b, o, none⟩) n cap i vb vo m sz olds news) (hin : i < n) (hroom : cap < n + m) :
    ∃ (W1 : World) (G : Nat) (row : Array Value),
      (∀ ty, (Builtin.append_ #[T, Ti] ty #[.slice (some ⟨b, o, none⟩) i cap, .int .i64 ((n : Int) + (m : Int) - (i : Int))]).run P w = .ok (.slice (some ⟨w.heap.size, 0, none⟩) (n + m) G) W1) ∧ n + m ≤ G ∧
      (∀ W : World, W.heap = W1.heap → ∀ ty dc vc, (Builtin.copy_ #[T, T] ty #[.slice (some ⟨w.heap.size, i * sz, none⟩) (n + m - i) dc, .slice (some ⟨vb, vo, none⟩) m vc]).run P W = .ok (goInt m) (W.setRow w.heap.size (putAt row (i * sz) news.toArray))) ∧
      (∀ W0 W : World, W0.heap = W1.heap → W.heap = (W0.setRow w.heap.size (putAt row (i * sz) news.toArray)).heap → ∀ ty dc sc, (Builtin.copy_ #[T, T] ty #[.slice (some ⟨w.heap.size, (i + m) * sz, none⟩) (n + m - (i + m)) dc, .slice (some ⟨b, o + i * sz, none⟩) (n - i) sc]).run P W =
        .ok (goInt (n - i : Nat)) (W.setRow w.heap.size (putAt (putAt row (i * sz) news.toArray) ((i + m) * sz) (olds.drop (i * sz)).toArray))) ∧
      (∀ W0 W : World, W0.heap = W1.heap → W.heap = (W0.setRow w.heap.size (putAt row (i * sz) news.toArray)).heap → W.os = w.os → W.tape = w.tape → W.output = w.output →
        InsEnd w (W.setRow w.heap.size (putAt (putAt row (i * sz) news.toArray) ((i + m) * sz) (olds.drop (i * sz)).toArray)) (some ⟨b, o, none⟩) w.heap.size 0 (n + m) G sz (olds.take (i * sz) ++ news ++ olds.drop (i * sz))) ∧
      W1.os = w.os ∧ W1.tape = w.tape ∧ W1.output = w.output := by
  subst hsz
  obtain ⟨eT, hu, hel⟩ := hE.slice hT
  obtain ⟨ii, zv, hi, hsz, hby, hz, hzc⟩ := hE.info eT e hel
  have hpos := esz_pos e
  have hzs : zv.cells.size = esz e := by rw [hzc]; simp [zvals, enc_length]
  obtain ⟨vcs, vel, hvb, hvr⟩ := h.v
  obtain ⟨b2, o2, cs, el, e2, hne, hb, hs, hc⟩ := h.is _ rfl
  simp only [Addr.mk.injEq, and_true] at e2
  obtain ⟨rfl, rfl⟩ := e2
  have hm := h.hm
  have hlo := h.lo
  have hln := h.ln
  have hnc := h.hn
  have hlim := h.lim
  have m2 : (n + m) * esz e = n * esz e + m * esz e := Nat.add_mul _ _ _
  have m3 : (i + m) * esz e = i * esz e + m * esz e := Nat.add_mul _ _ _
  have m4 : i * esz e + esz e ≤ n * esz e := by
    have : (i + 1) * esz e ≤ n * esz e := Nat.mul_le_mul_right _ hin
    rw [Nat.add_mul] at this; omega
  have m5 : (n - i) * esz e = n * esz e - i * esz e := Nat.sub_mul _ _ _
  have hik : i + (n + m - i) = n + m := by omega
  have hkk : (n : Int) + (m : Int) - (i : Int) = ((n + m - i : Nat) : Int) := by omega
  have hbytes : (n + m) * ii.bytes ≤ 140737488355328 := by
    have : (n + m) * ii.bytes ≤ LIM * 1024 := Nat.mul_le_mul hlim hby
    unfold LIM at this; omega
  have hbytes2 : (n + m - i) * ii.bytes ≤ (n + m) * ii.bytes := Nat.mul_le_mul_right _ (by omega)
  have htl : (olds.take (i * esz e)).length = i * esz e := by rw [List.length_take, hlo]; omega
  have hold : (Builtin.firstCells ii.size i (.slice (some ⟨b, o, none⟩) i cap)).run P w.drew = .ok (olds.take (i * esz e)).toArray w.drew := by
    refine run_firstCells_some w.drew ii.size i ⟨b, o, none⟩ i cap (olds.take (i * esz e)) (by rw [htl, hsz]) fun j v hj => ?_
    rw [List.getElem?_take] at hj
    split at hj
    · rw [addrAdd, cellIn (w := w.drew) hb]; exact hc j v hj
    · cases hj
  have hunl : n + m ≤ 4294967296 := by unfold LIM at hlim; exact hlim
  have hrz := fun ty => Lib.run_append_grow_zeros w T Ti ty eT ii zv .i64 .i64 hu hTi hi hz (some ⟨b, o, none⟩) i cap (olds.take (i * esz e)) hold (n + m - i) (by omega) (by rw [hsz]; exact hpos) (by omega) (by omega) (by omega)
    (by rw [hik]; have := growslice_fits (need := n + m) (old := cap) (by omega) hbytes; omega)
  rw [hik] at hrz
  have hge := grownCap_ge w (n + m) cap eT
  have hdl : (olds.drop (i * esz e)).length = (n - i) * esz e := by rw [List.length_drop, hlo, m5]
  have hrs : ((olds.take (i * esz e)).toArray ++ Builtin.zeroCells zv.cells (n + m - i) ++ Builtin.zeroCells zv.cells (grownCap w (n + m) cap eT - (n + m))).size = grownCap w (n + m) cap eT * esz e := by
    simp only [Array.size_append, List.size_toArray, size_zeroCells, hzs, htl, ← Nat.add_mul]
    congr 1; omega
  have hrt : ∀ k, k < i * esz e → ((olds.take (i * esz e)).toArray ++ Builtin.zeroCells zv.cells (n + m - i) ++ Builtin.zeroCells zv.cells (grownCap w (n + m) cap eT - (n + m)))[k]? = olds[k]? := fun k hk => by
    rw [Array.getElem?_append_left (by simp only [Array.size_append, List.size_toArray, htl]; omega), Array.getElem?_append_left (by simp only [List.size_toArray, htl]; omega), List.getElem?_toArray, List.getElem?_take, if_pos hk]
  generalize hR : (olds.take (i * esz e)).toArray ++ Builtin.zeroCells zv.cells (n + m - i) ++ Builtin.zeroCells zv.cells (grownCap w (n + m) cap eT - (n + m)) = row at hrs hrt hrz
  generalize grownCap w (n + m) cap eT = G at hge hrs hrz
  have hGm : (n + m) * esz e ≤ G * esz e := Nat.mul_le_mul_right _ hge
  have hbl : b < w.heap.size := by
    rcases Nat.lt_or_ge b w.heap.size with h' | h'
    · exact h'
    · simp [Array.getElem?_eq_none h'] at hb
  have hvl : vb < w.heap.size := by
    rcases Nat.lt_or_ge vb w.heap.size with h' | h'
    · exact h'
    · simp [Array.getElem?_eq_none h'] at hvb
  have hN : (w.drew.alloc (.cells row eT)).heap[w.heap.size]? = some (.cells row eT (0, 0)) := heap_alloc_new w.drew _
  have hO : ∀ k, k < w.heap.size → (w.drew.alloc (.cells row eT)).heap[k]? = w.heap[k]? := fun k hk => by first | exact heap_alloc_old w.drew _ hk | exact heap_alloc_old w.drew _ k hk
  have hfit1 : i * esz e + news.length ≤ row.size := by rw [hrs]; omega
  have hfit2 : (i + m) * esz e + (olds.drop (i * esz e)).length ≤ (putAt row (i * esz e) news.toArray).size := by rw [putAt_size (by simpa using hfit1), hrs, hdl]; omega
  refine ⟨w.drew.alloc (.cells row eT), G, row, fun ty => by rw [hkk]; exact hrz ty, hge, fun W hW ty dc vc => ?_, fun W0 W hW0 hW ty dc sc => ?_, fun W0 W hW0 hW h1 h2 h3 => ?_, rfl, rfl, rfl⟩
  · refine run_copy_at T T ty eT ii hu hi w.heap.size _ _ dc ⟨vb, vo, none⟩ _ vc m row eT news (by simp only [Nat.min_def]; split <;> omega) (by rw [hln, hsz]) (by rw [hW]; exact hN) (fun j v hj => ?_) hfit1 h.on
    have hvb1 : W.heap[vb]? = some (.cells vcs vel (0, 0)) := by rw [hW, hO vb hvl]; exact hvb
    rw [addrAdd, cellIn hvb1]
    exact hvr _ v hj
  · have hN1 := setRow_heap W0 w.heap.size row (putAt row (i * esz e) news.toArray) eT (0, 0) (by rw [hW0]; exact hN)
    refine run_copy_at T T ty eT ii hu hi w.heap.size _ _ dc ⟨b, o + i * esz e, none⟩ _ sc (n - i) _ eT (olds.drop (i * esz e)) (by simp only [Nat.min_def]; split <;> omega) (by rw [hdl, hsz]) (by rw [hW]; exact hN1) (fun j v hj => ?_) hfit2 (fun v hv => h.oo v (List.mem_of_mem_drop hv))
    have hb1 : W.heap[b]? = some (.cells cs el (0, 0)) := by rw [hW, setRow_other W0 _ b _ (by omega), hW0, hO b hbl]; exact hb
    rw [List.getElem?_drop] at hj
    rw [addrAdd, cellIn hb1, Nat.add_assoc]
    exact hc _ v hj
  · have hN1 := setRow_heap W0 w.heap.size row (putAt row (i * esz e) news.toArray) eT (0, 0) (by rw [hW0]; exact hN)
    have hb2 := setRow_heap W w.heap.size _ (putAt (putAt row (i * esz e) news.toArray) ((i + m) * esz e) (olds.drop (i * esz e)).toArray) eT (0, 0) (by rw [hW]; exact hN1)
    refine ⟨⟨h1, h2, h3, ?_, fun k hk hx => ?_⟩, hge, .inr (Nat.le_refl _), _, eT, hb2, ?_, fun k v hk => ?_⟩
    · have hz : (w.drew.alloc (.cells row eT)).heap.size = w.heap.size + 1 := by simp
      simp [hW, hW0]
    · rw [setRow_other W _ k _ (by omega), hW, setRow_other W0 _ k _ (by omega), hW0, hO k hk]
    · rw [putAt_size (by simpa using hfit2), putAt_size (by simpa using hfit1), hrs]; omega
    · rw [Nat.zero_add]
      rcases Nat.lt_or_ge k (i * esz e) with hk1 | hk1
      · rw [List.append_assoc, List.getElem?_append_left (by omega), List.getElem?_take, if_pos hk1] at hk
        rw [putAt_miss hfit2 _ (.inl (by omega)), putAt_miss hfit1 _ (.inl (by omega)), hrt k hk1]
        exact hk
      · rcases Nat.lt_or_ge k (i * esz e + news.length) with hk2 | hk2
        · rw [List.append_assoc, List.getElem?_append_right (by omega), List.getElem?_append_left (by omega), htl] at hk
          have := putAt_hit hfit1 (k - i * esz e) (by omega)
          rw [putAt_miss hfit2 _ (.inl (by omega)), show k = i * esz e + (k - i * esz e) by omega, this]
          exact hk
        · rw [List.getElem?_append_right (by rw [List.length_append, htl]; omega), List.length_append, htl] at hk
          have hkl := (List.getElem?_eq_some_iff.1 hk).1
          have := putAt_hit hfit2 (k - (i * esz e + news.length)) hkl
          rw [show k = (i + m) * esz e + (k - (i * esz e + news.length)) by omega, this]
          exact hk

/-- An own list, cell by cell. -/
theorem TreeOwn.rowCells {F : Nat → Prop} {t : Ty} {xs : List (El t)} {av : Path → Value} (h : TreeOwn w F t xs av) : ∃ (base : Option Addr) (cap : Nat) (olds : List Value), av [] = .slice base xs.length cap ∧ xs.length ≤ cap ∧ olds.length = xs.length * esz t ∧
    (∀ v ∈ olds, v.oneCell' = true) ∧ (base = none → xs.length = 0 ∧ cap = 0) ∧
    (∀ a, base = some a → ∃ b o cs el, a = ⟨b, o, none⟩ ∧ F b ∧ w.heap[b]? = some (.cells cs el (0, 0)) ∧ o + cap * esz t ≤ cs.size ∧ ∀ k v, olds[k]? = some v → cs[o + k]? = some v) ∧
    ∀ k x j c, xs[k]? = some x → (enc t x)[j]? = some c → ∃ u, olds[k * esz t + j]? = some u ∧ COwn w (Under t xs av [(k, j)]) c u := by
  have hnode := h.1 [] ⟨t, xs⟩ rfl
  rcases hnode with ⟨e, e2⟩ | ⟨b, o, cap, cs, el, e, hF, hb, hcap, hsize, hrows⟩
  · have e : xs = [] := e
    subst e
    exact ⟨none, 0, [], e2, Nat.le_refl _, by simp, by simp, (fun _ => ⟨rfl, rfl⟩), (fun a e => by cases e), fun k x j c hk => by simp at hk⟩
  · have hcap : xs.length ≤ cap := hcap
    have hsize : o + cap * esz t ≤ cs.size := hsize
    have hrows : RowsIn t xs cs o fun i j => av [(i, j)] := hrows
    have hm : xs.length * esz t ≤ cap * esz t := Nat.mul_le_mul_right _ hcap
    have hlen : ((cs.toList.drop o).take (xs.length * esz t)).length = xs.length * esz t := by simp; omega
    have hget : ∀ k v, ((cs.toList.drop o).take (xs.length * esz t))[k]? = some v → k < xs.length * esz t ∧ cs[o + k]? = some v := fun k v hk => by
      have hkl := (List.getElem?_eq_some_iff.1 hk).1
      rw [hlen] at hkl
      rw [List.getElem?_take, if_pos hkl, List.getElem?_drop, Array.getElem?_toList] at hk
      exact ⟨hkl, hk⟩
    refine ⟨some ⟨b, o, none⟩, cap, (cs.toList.drop o).take (xs.length * esz t), e, hcap, hlen, fun v hv => ?_, (fun e => by cases e), fun a ha => ?_, fun k x j c hx hcj => ?_⟩
    · obtain ⟨k, hk⟩ := List.getElem?_of_mem hv
      obtain ⟨hkl, hk⟩ := hget k v hk
      exact h.oneCell hrows k v hkl hk
    · cases ha
      exact ⟨b, o, cs, el, rfl, hF, hb, hsize, fun k v hk => (hget k v hk).2⟩
    · obtain ⟨u, hu, _, ho⟩ := (h.pieces (ro := fun _ => False) hrows).rows k x j c hx hcj
      have hk := el_lt hx
      have hj := enc_lt hcj
      have hmul : k * esz t + esz t ≤ xs.length * esz t := by
        have : (k + 1) * esz t ≤ xs.length * esz t := Nat.mul_le_mul_right _ hk
        rw [Nat.add_mul] at this; omega
      exact ⟨u, by rw [List.getElem?_take, if_pos (by omega), List.getElem?_drop, Array.getElem?_toList, ← Nat.add_assoc]; exact hu, ho rfl⟩

theorem TreeOwn.under_not_root {F : Nat → Prop} {t : Ty} {xs : List (El t)} {av : Path → Value} (h : TreeOwn w F t xs av) {k j n : Nat} (hu : Under t xs av [(k, j)] n) : blk (av []) ≠ some n := by
  intro hb
  obtain ⟨q, s, hs, hbq⟩ := hu
  have := h.2 _ [] s ⟨t, xs⟩ n hs rfl hbq hb
  simp at this
theorem TreeOwn.under_inj {F : Nat → Prop} {t : Ty} {xs : List (El t)} {av : Path → Value} (h : TreeOwn w F t xs av) {k j k' j' n : Nat} (h1 : Under t xs av [(k, j)] n) (h2 : Under t xs av [(k', j')] n) : k = k' ∧ j = j' := by
  obtain ⟨q, s, hs, hb⟩ := h1
  obtain ⟨q', s', hs', hb'⟩ := h2
  have := h.2 _ _ s s' n hs hs' hb hb'
  simp only [List.singleton_append, List.cons.injEq, Prod.mk.injEq] at this
  exact this.1

theorem spec_ins {f : Nat} {t : Ty} {sz : Nat} (hsz : esz t = sz) (h : InsE P f sz) {q : List Dt → Option (Bool × List Dt)}
    (hq : ∀ ds outs, q ds = some (true, outs) → ∃ (xs ys : List (El t)) (i : Nat), ds = [.d (.sl t) xs, .d (.i .i64) (i : Int), .d (.sl t) ys] ∧ i ≤ xs.length ∧ 0 < ys.length ∧ xs.length + ys.length ≤ LIM ∧ outs = [.d (.sl t) (xs.take i ++ ys ++ xs.drop i)]) :
    SpecOk P f (Spec.of [.mov, .ro, .mov] [false] true q) := by
  subst hsz
  refine spec_own1 rfl fun ds outs hqs => ?_
  obtain ⟨xs, ys, i, rfl, hi, hy, hlim, rfl⟩ := hq ds outs hqs
  refine ⟨_, _, rfl, fun w us Mf ROa Fs hA hp hFM _ _ hMlt => ?_⟩
  cases hA with
  | @cons _ _ _ _ u1 us F1 Fs h1 hA =>
    cases hA with
    | @cons _ _ _ _ u2 us F2 Fs h2 hA =>
      cases hA with
      | @cons _ _ _ _ u3 us F3 Fs h3 hA =>
        cases hA
        have e2 := valRd_v (t := .i .i64) (v := .int .i64 i) rfl rfl h2
        subst e2
        obtain ⟨G1, hG1, av, h0, hT⟩ := valOwn_sl' h1
        obtain ⟨G3, hG3, av3, h03, hT3⟩ := valOwn_sl' h3
        have hM1 : ∀ k, G1 k → Mf k := fun k hk => hFM F1 (by simp) k (hG1 k hk)
        have hM3 : ∀ k, G3 k → Mf k := fun k hk => hFM F3 (by simp) k (hG3 k hk)
        have hdis : ∀ k, G1 k → G3 k → False := fun k hk hk3 => by
          have := (List.pairwise_cons.1 hp).1 F3 (by simp)
          exact this k (hG1 k hk) (hG3 k hk3)
        obtain ⟨base, cap, olds, e1, hcap, hlo, hoo, hnil, his, hcell⟩ := hT.rowCells
        obtain ⟨base3, cap3, news, e3, hcap3, hln, hon, hnil3, his3, hcell3⟩ := hT3.rowCells
        rw [h0] at e1; rw [h03] at e3
        subst e1; subst e3
        cases base3 with
        | none => have := (hnil3 rfl).1; omega
        | some a3 =>
        obtain ⟨vb, vo, vcs, vel, rfl, hF3, hb3, hs3, hc3⟩ := his3 _ rfl
        refine Calls.mono (h base xs.length cap i vb vo ys.length cap3 olds news w ⟨hi, hcap, hy, hlim, hlo, hln, hoo, hon, hnil, fun a ha => ?_, vcs, vel, hb3, hc3⟩) ?_
        · obtain ⟨b, o, cs, el, rfl, hF, hb, hs, hc⟩ := his a ha
          exact ⟨b, o, cs, el, rfl, fun e => hdis b hF (e ▸ hF3), hb, hs, hc⟩
        · rintro e w' ⟨b', o', cap', rfl, hk, hcap', hwho, cs', el', hb', hs', hv'⟩
          have hlen : (xs.take i ++ ys ++ xs.drop i).length = xs.length + ys.length := by simp; omega
          have htl : (olds.take (i * esz t)).length = i * esz t := by
            have : i * esz t ≤ xs.length * esz t := Nat.mul_le_mul_right _ hi
            rw [List.length_take, hlo]; omega
          have hxroot : ∀ b o, base = some ⟨b, o, none⟩ → blk (av []) = some b := fun b o e => by rw [h0, e]; rfl
          have hX : ∀ k, (∃ o, base = some ⟨k, o, none⟩) → G1 k := fun k ⟨o, e⟩ => by
            obtain ⟨b, o2, cs, el, e2, hF, _⟩ := his _ e
            cases e2; exact hF
          have hu1 : ∀ k j n, Under t xs av [(k, j)] n → ¬ ∃ o, base = some ⟨n, o, none⟩ := fun k j n hu ⟨o, e⟩ => hT.under_not_root hu (hxroot n o e)
          have hu3 : ∀ k j n, Under t ys av3 [(k, j)] n → ¬ ∃ o, base = some ⟨n, o, none⟩ := fun k j n hu he => hdis n (hX n he) (hT3.under_F hu)
          let G : Nat → Nat → Nat → Prop := fun k j => if k < i then Under t xs av [(k, j)] else if k < i + ys.length then Under t ys av3 [(k - i, j)] else Under t xs av [(k - ys.length, j)]
          have hGin : ∀ k j n, G k j n → (∃ k', Under t xs av [(k', j)] n ∧ (k' = if k < i then k else k - ys.length) ∧ ¬ (i ≤ k ∧ k < i + ys.length)) ∨ (Under t ys av3 [(k - i, j)] n ∧ i ≤ k ∧ k < i + ys.length) := by
            intro k j n hg
            simp only [G] at hg
            by_cases c1 : k < i
            · rw [if_pos c1] at hg; exact .inl ⟨k, hg, by rw [if_pos c1], by omega⟩
            · rw [if_neg c1] at hg
              by_cases c2 : k < i + ys.length
              · rw [if_pos c2] at hg; exact .inr ⟨hg, by omega, c2⟩
              · rw [if_neg c2] at hg; exact .inl ⟨_, hg, by rw [if_neg c1], by omega⟩
          have hGM : ∀ k j n, G k j n → Mf n := fun k j n hg => by
            rcases hGin k j n hg with ⟨k', h', _⟩ | ⟨h', _⟩
            · exact hM1 n (hT.under_F h')
            · exact hM3 n (hT3.under_F h')
          have hP : Pieces w' (fun _ => False) true t (xs.take i ++ ys ++ xs.drop i) cs' o' G := by
            refine ⟨fun k x j c hx hcj => ?_, fun k j k' j' n hg hg' => ?_⟩
            · have hj := enc_lt hcj
              have fin : ∀ (H : Nat → Prop) u, COwn w H c u → (∀ n, H n → ¬ ∃ o, base = some ⟨n, o, none⟩) → (olds.take (i * esz t) ++ news ++ olds.drop (i * esz t))[k * esz t + j]? = some u → (∀ n, H n ↔ G k j n) →
                  ∃ u, cs'[o' + k * esz t + j]? = some u ∧ CRd w' (fun n => G k j n ∨ False) c u ∧ (true = true → COwn w' (G k j) c u) := by
                intro H u ho hn hu hHG
                have ho' : COwn w' (G k j) c u := (ho.same hk.same hn).mono fun n hn => (hHG n).1 hn
                exact ⟨u, by rw [Nat.add_assoc]; exact hv' _ u hu, ho'.rd.mono fun n hn => .inl hn, fun _ => ho'⟩
              by_cases c1 : k < i
              · rw [List.append_assoc, List.getElem?_append_left (by simp; omega), List.getElem?_take, if_pos c1] at hx
                obtain ⟨u, hu, ho⟩ := hcell k x j c hx hcj
                have hmul : k * esz t + esz t ≤ i * esz t := by
                  have : (k + 1) * esz t ≤ i * esz t := Nat.mul_le_mul_right _ c1
                  rw [Nat.add_mul] at this; omega
                refine fin _ u ho (hu1 k j) ?_ (fun n => by simp only [G, if_pos c1])
                rw [List.append_assoc, List.getElem?_append_left (by omega), List.getElem?_take, if_pos (by omega)]; exact hu
              · have hmi : i * esz t ≤ k * esz t := Nat.mul_le_mul_right _ (by omega)
                by_cases c2 : k < i + ys.length
                · rw [List.append_assoc, List.getElem?_append_right (by simp; omega), List.getElem?_append_left (by simp; omega)] at hx
                  have hki : k - (xs.take i).length = k - i := by rw [List.length_take, Nat.min_eq_left hi]
                  rw [hki] at hx
                  obtain ⟨u, hu, ho⟩ := hcell3 (k - i) x j c hx hcj
                  have hul := (List.getElem?_eq_some_iff.1 hu).1
                  refine fin _ u ho (hu3 (k - i) j) ?_ (fun n => by simp only [G, if_neg c1, if_pos c2])
                  have e4 : (k - i) * esz t = k * esz t - i * esz t := Nat.sub_mul _ _ _
                  rw [List.append_assoc, List.getElem?_append_right (by omega), htl, show k * esz t + j - i * esz t = (k - i) * esz t + j by omega, List.getElem?_append_left hul]; exact hu
                · rw [List.getElem?_append_right (by simp; omega), List.length_append, List.length_take, Nat.min_eq_left hi, List.getElem?_drop] at hx
                  have hki : i + (k - (i + ys.length)) = k - ys.length := by omega
                  rw [hki] at hx
                  obtain ⟨u, hu, ho⟩ := hcell (k - ys.length) x j c hx hcj
                  refine fin _ u ho (hu1 (k - ys.length) j) ?_ (fun n => by simp only [G, if_neg c1, if_neg c2])
                  have e4 : (k - ys.length) * esz t = k * esz t - ys.length * esz t := Nat.sub_mul _ _ _
                  have e5 : (i + ys.length) * esz t ≤ k * esz t := Nat.mul_le_mul_right _ (by omega)
                  rw [Nat.add_mul] at e5
                  rw [List.getElem?_append_right (by rw [List.length_append, htl, hln]; omega), List.length_append, htl, hln, List.getElem?_drop, ← hu]
                  congr 1
                  omega
            · rcases hGin k j n hg with ⟨a, h1, e1, n1⟩ | ⟨h1, l1, l2⟩ <;> rcases hGin k' j' n hg' with ⟨a', h1', e1', n1'⟩ | ⟨h1', l1', l2'⟩
              · obtain ⟨e, ej⟩ := hT.under_inj h1 h1'
                refine ⟨?_, ej⟩
                rw [e1, e1'] at e
                split at e <;> split at e <;> omega
              · exact (hdis n (hT.under_F h1) (hT3.under_F h1')).elim
              · exact (hdis n (hT.under_F h1') (hT3.under_F h1)).elim
              · obtain ⟨e, ej⟩ := hT3.under_inj h1 h1'
                exact ⟨by omega, ej⟩
          have hGb : ∀ k j, ¬ G k j b' := fun k j hg => by
            rcases hwho with he | he
            · rcases hGin k j b' hg with ⟨a, h', _⟩ | ⟨h', _⟩
              · exact hu1 _ _ _ h' he
              · exact hu3 _ _ _ h' he
            · have := hMlt b' (hGM k j b' hg); omega
          obtain ⟨av', h0', hT'⟩ := hP.own hb' (by rw [hlen]; exact hcap') hs' hGb
          rw [hlen] at h0'
          have hKM : Kept w w' Mf := ⟨hk.os, hk.tape, hk.output, hk.same.1, fun n h1 h2 => hk.same.2 n h1 fun he => h2 (hM1 n (hX n he))⟩
          refine ⟨_, fun n => n = b' ∨ ∃ i j, G i j n, rfl, hKM, valOwn_sl ⟨av', h0', hT'⟩, fun n hn => ?_⟩
          have hbl : b' < w'.heap.size := by
            rcases Nat.lt_or_ge b' w'.heap.size with h' | h'
            · exact h'
            · simp [Array.getElem?_eq_none h'] at hb'
          rcases hn with rfl | ⟨k, j, hg⟩
          · refine ⟨?_, hbl⟩
            rcases hwho with he | he
            · exact .inl (hM1 _ (hX _ he))
            · exact .inr he
          · exact ⟨.inl (hGM k j n hg), Nat.lt_of_lt_of_le (hMlt n (hGM k j n hg)) hk.same.1⟩
end Go.Gm

/- Lists with some elements put in. -/
namespace Go.Gm
open Go
def insL {α : Type} (xs : List α) (i : Int) (ys : List α) : List α := xs.take i.toNat ++ ys ++ xs.drop i.toNat
def gIns {α : Type} (xs : List α) (i : Int) (ys : List α) : Bool := decide (0 ≤ i) && (decide (i ≤ (xs.length : Int)) && (Nat.blt 0 ys.length && Nat.ble (xs.length + ys.length) LIM))
theorem gIns_iff {α : Type} {xs ys : List α} {i : Int} : gIns xs i ys = true ↔ 0 ≤ i ∧ i ≤ (xs.length : Int) ∧ 0 < ys.length ∧ xs.length + ys.length ≤ LIM := by
  simp only [gIns, Bool.and_eq_true, decide_eq_true_eq, Nat.blt_eq, Nat.ble_eq]
end Go.Gm

/- Plain functions: put into a tree. -/
namespace Go.Gm
open Go

theorem firstN_congr {p q : Nat → Bool} : ∀ {d j : Nat}, (∀ k, j ≤ k → k < j + d → p k = q k) → firstN p j d = firstN q j d
  | 0, _, _ => rfl
  | d + 1, j, h => by
    simp only [firstN]
    rw [h j (by omega) (by omega), firstN_congr (d := d) (j := j + 1) fun k h1 h2 => h k (by omega) (by omega)]
def plcN (n : Nat) (o : Option Nat) : Int := o.elim (n : Int) fun i => (i : Int)
theorem plcN_bd {p : Nat → Bool} {n : Nat} : ∃ i : Nat, plcN n (firstN p 0 n) = (i : Int) ∧ i ≤ n := by
  cases h : firstN p 0 n with
  | none => exact ⟨n, rfl, Nat.le_refl _⟩
  | some i => obtain ⟨_, h2, _⟩ := firstN_some h; exact ⟨i, rfl, by omega⟩
theorem plcN_plc (n : Nat) (o : Option Nat) : cond (decide (plc o < (0 : Int))) (n : Int) (plc o) = plcN n o := by
  cases o with
  | none => rfl
  | some i => rw [decide_eq_false (show ¬ (plc (some i) < 0) by show ¬ ((i : Int) < 0); omega)]; rfl

def gtKey (s key : ByteArray) : Bool := !((sLt s key) || (sEq s key))
def gtAt (keys : List ByteArray) (key : ByteArray) : Int := findI (t := .str) (fun s => gtKey s key) keys
/-- Where a key comes in. -/
def comesAt (keys : List ByteArray) (key : ByteArray) : Int := plcN keys.length (firstN (fun j => !(sLt (atI (t := .str) keys j) key)) 0 keys.length)
theorem comesAt_bd (keys : List ByteArray) (key : ByteArray) : ∃ i : Nat, comesAt keys key = (i : Int) ∧ i ≤ keys.length := plcN_bd
theorem gtAt_comes {t : NodeT} {key : ByteArray} (hm : isMapN t = true) (h : keyAt t key < 0) : cond (decide (gtAt t.keys key < (0 : Int))) (t.keys.length : Int) (gtAt t.keys key) = comesAt t.keys key := by
  unfold gtAt comesAt findI
  rw [plcN_plc]
  congr 1
  refine firstN_congr fun j _ hj => ?_
  obtain ⟨h5, hl⟩ := isMapN_eq hm
  have hne : sEq (atI (t := .str) t.keys j) key = false := by
    unfold keyAt at h
    rw [h5, ← hl, Nat.min_self] at h
    simp only [cond_true] at h
    cases hf : firstN (fun j => sEq (atI (t := .str) t.keys j) key) 0 t.keys.length with
    | none => exact firstN_none hf j (by omega) hj
    | some i =>
      rw [hf] at h
      exact absurd h (by show ¬ ((i : Int) < 0); omega)
  simp only [gtKey, hne, Bool.or_false]
def putKey (t : NodeT) (k : Int) (key : ByteArray) (x : NodeT) : NodeT := ⟨t.kind, t.n, t.s, insL t.keys k [key], insL t.kids k [x]⟩
def putKid (t : NodeT) (k : Int) (x : NodeT) : NodeT := ⟨t.kind, t.n, t.s, t.keys, insL t.kids k [x]⟩
def setK (t : NodeT) (key : ByteArray) (x : NodeT) : NodeT := cond (isMapN t) (cond (decide (keyAt t key < (0 : Int))) (putKey t (comesAt t.keys key) key x) (setKid t (keyAt t key) x)) t
def dash : ByteArray := bs [45]
/-- Where a kid comes into a list. -/
def slotP (p : ByteArray) (n j : Nat) : Bool := cond (sEq (digS (j : Int)) p) true (cond (sEq p dash) ((j : Int) == (n : Int)) false)
def slotAt (t : NodeT) (p : ByteArray) : Int := plc (firstN (slotP p t.kids.length) 0 (t.kids.length + 1))
def putLast (t : NodeT) (p : ByteArray) (x : NodeT) : NodeT × Bool :=
  cond (isMapN t) (setK t p x, true) (cond (t.kind == (4 : Int)) (cond (decide (slotAt t p < (0 : Int))) (noNode, false) (putKid t (slotAt t p) x, true)) (noNode, false))
def putIn : NodeT → List ByteArray → NodeT → NodeT × Bool
  | _, [], _ => (noNode, false)
  | t, [p], x => putLast t p x
  | t, p :: q :: r, x => cond (decide (kidAt t p < (0 : Int))) (noNode, false)
      (cond (!((putIn (atI (t := .node) t.kids (Int.toNat (kidAt t p))) (q :: r) x).2)) (noNode, false) (setKid t (kidAt t p) (putIn (atI (t := .node) t.kids (Int.toNat (kidAt t p))) (q :: r) x).1, true))
def putAtW (t : NodeT) (path : List ByteArray) (x : NodeT) : NodeT × Bool := cond (!((putIn t path x).2)) (t, false) ((putIn t path x).1, true)
def putPtr (t : NodeT) (path : List ByteArray) (x : NodeT) : NodeT × Bool := cond ((path.length : Int) == (0 : Int)) (x, true) (putAtW t path x)
theorem putPtr_cons (t : NodeT) (p : ByteArray) (r : List ByteArray) (x : NodeT) : putPtr t (p :: r) x = putAtW t (p :: r) x := by
  have : (((p :: r).length : Int) == (0 : Int)) = false := by rw [beq_eq_false_iff_ne, List.length_cons]; omega
  unfold putPtr; rw [this]; rfl
theorem putPtr_one (t : NodeT) (p : ByteArray) (x : NodeT) : putPtr t [p] x = cond ((putLast t p x).2) ((putLast t p x).1, true) (t, false) := by
  rw [putPtr_cons]
  unfold putAtW
  rw [putIn]
  cases (putLast t p x).2 <;> rfl
theorem putPtr_no (t : NodeT) (p q : ByteArray) (r : List ByteArray) (x : NodeT) (h : kidAt t p < 0) : putPtr t (p :: q :: r) x = (t, false) := by
  rw [putPtr_cons]
  unfold putAtW
  rw [putIn, decide_eq_true h]; rfl
theorem putPtr_deep (t : NodeT) (p q : ByteArray) (r : List ByteArray) (x : NodeT) (h : ¬ kidAt t p < 0) :
    putPtr t (p :: q :: r) x = cond ((putPtr (atI (t := .node) t.kids (Int.toNat (kidAt t p))) (q :: r) x).2) (setKid t (kidAt t p) (putPtr (atI (t := .node) t.kids (Int.toNat (kidAt t p))) (q :: r) x).1, true) (t, false) := by
  rw [putPtr_cons, putPtr_cons]
  unfold putAtW
  rw [putIn, decide_eq_false h]
  simp only [cond_false]
  cases (putIn (atI (t := .node) t.kids (Int.toNat (kidAt t p))) (q :: r) x).2 <;> rfl

/-! ### the place of a kid that comes in -/
theorem dig_dash (j : Nat) : sEq (digS (j : Int)) dash = false := by
  rw [Bool.eq_false_iff]
  intro h
  have e := sEq_iff.1 h
  obtain ⟨c, r, e2, hc⟩ := natDig_head j
  have hd : (digS (j : Int)).data.toList = natDig j := by rw [digS_nat]
  rw [e, e2] at hd
  have h45 : (dash.data.toList) = [45] := by rfl
  rw [h45] at hd
  cases hd
  exact absurd hc (by decide)
theorem slot_dash {p : ByteArray} {n : Nat} (h : sEq p dash = true) : firstN (slotP p n) 0 (n + 1) = some n := by
  have e := sEq_iff.1 h
  subst e
  refine firstN_eq (by omega) ?_ fun k hk => ?_
  · unfold slotP; rw [dig_dash, h]; simp
  · unfold slotP; rw [dig_dash, h]
    simp only [cond_true, cond_false]
    rw [beq_eq_false_iff_ne]; omega
theorem slot_num {p : ByteArray} {n : Nat} (h : sEq p dash = false) : firstN (slotP p n) 0 (n + 1) = firstN (fun j => sEq (digS (j : Int)) p) 0 (n + 1) := by
  congr 1
  funext j
  unfold slotP; rw [h]
  cases sEq (digS (j : Int)) p <;> rfl
theorem slot_impl {t : NodeT} {p : ByteArray} (hn : t.kids.length ≤ 1048576) (h : sEq p dash = false) :
    cond (!((natS p).2)) (-1 : Int) (cond (decide ((natS p).1 > (t.kids.length : Int))) (-1 : Int) (natS p).1) = slotAt t p := by
  unfold slotAt
  rw [slot_num h, ← natS_firstW (by omega)]
  have : decide ((natS p).1 > (t.kids.length : Int)) = decide ((natS p).1 ≥ ((t.kids.length + 1 : Nat) : Int)) := by
    rw [Bool.eq_iff_iff]; simp only [decide_eq_true_eq]; omega
  rw [this]
theorem setK_neg {t : NodeT} {s : ByteArray} {x : NodeT} (hm : isMapN t = true) (h : keyAt t s < 0) : setK t s x = putKey t (comesAt t.keys s) s x := by
  unfold setK; rw [hm, decide_eq_true h]; rfl
theorem setK_pos {t : NodeT} {s : ByteArray} {x : NodeT} (hm : isMapN t = true) (h : ¬ keyAt t s < 0) : setK t s x = setKid t (keyAt t s) x := by
  unfold setK; rw [hm, decide_eq_false h]; rfl

/-! ### small -/
theorem szL_ins {α : Type} (f : α → Nat) (xs : List α) (i : Int) (y : α) : szL f (insL xs i [y]) = szL f xs + 1 + f y := by
  unfold insL
  conv => rhs; rw [← List.take_append_drop i.toNat xs]
  rw [szL_append, szL_append, szL_append, szL_cons]
  simp only [szL, List.length_nil, List.map_nil, List.sum_nil]; omega
theorem smL_ins {α : Type} {f : α → Bool} {xs : List α} (h : smL f xs = true) (i : Int) {y : α} (hy : f y = true) (hl : xs.length + 1 ≤ 1048576) : smL f (insL xs i [y]) = true := by
  have h' := h
  simp only [smL, Bool.and_eq_true] at h' ⊢
  refine ⟨?_, List.all_eq_true.2 fun x hx => ?_⟩
  · have hlen : (insL xs i [y]).length = xs.length + 1 := by
      unfold insL
      conv => rhs; rw [← List.take_append_drop i.toNat xs]
      simp only [List.length_append, List.length_cons, List.length_nil]; omega
    rw [hlen]
    first | exact decide_eq_true hl | exact Nat.ble_eq_true_of_le hl
  · unfold insL at hx
    rcases List.mem_append.1 hx with hx | hx
    · rcases List.mem_append.1 hx with hx | hx
      · exact List.all_eq_true.1 h'.2 x (List.mem_of_mem_take hx)
      · have : x = y := by simpa using hx
        rw [this]; exact hy
    · exact List.all_eq_true.1 h'.2 x (List.mem_of_mem_drop hx)
theorem putKey_ok {t x : NodeT} {k : Int} {s : ByteArray} (h : sm_node t = true) (hs : smStr s = true) (hx : sm_node x = true) (hk : t.keys.length + 1 ≤ 1048576) (hd : t.kids.length + 1 ≤ 1048576) :
    sm_node (putKey t k s x) = true ∧ szN_node (putKey t k s x) = szN_node t + 2 + s.size + szN_node x := by
  obtain ⟨h1, h2, h3, h4, h5⟩ := sm_parts h
  constructor
  · rw [sm_node_def]
    simp only [Bool.and_eq_true]
    exact ⟨h1, h2, h3, smL_ins h4 k hs hk, smL_ins h5 k hx hd⟩
  · rw [szN_node_def, szN_node_def t]
    have e1 := szL_ins ByteArray.size t.keys k s
    have e2 := szL_ins szN_node t.kids k x
    show t.s.size + szL ByteArray.size (insL t.keys k [s]) + szL szN_node (insL t.kids k [x]) = _
    omega
theorem putKid_ok {t x : NodeT} {k : Int} (h : sm_node t = true) (hx : sm_node x = true) (hd : t.kids.length + 1 ≤ 1048576) :
    sm_node (putKid t k x) = true ∧ szN_node (putKid t k x) = szN_node t + 1 + szN_node x := by
  obtain ⟨h1, h2, h3, h4, h5⟩ := sm_parts h
  constructor
  · rw [sm_node_def]
    simp only [Bool.and_eq_true]
    exact ⟨h1, h2, h3, h4, smL_ins h5 k hx hd⟩
  · rw [szN_node_def, szN_node_def t]
    have e2 := szL_ins szN_node t.kids k x
    show t.s.size + szL ByteArray.size t.keys + szL szN_node (insL t.kids k [x]) = _
    omega
theorem szL_setE {α : Type} {f : α → Nat} {xs : List α} {i : Nat} {x y : α} (h : xs[i]? = some x) : szL f (xs.set i y) + f x = szL f xs + f y := by
  rw [List.set_eq_take_append_cons_drop, if_pos (lt_of_get h)]
  conv => rhs; rw [split_at h]
  rw [szL_append, szL_append, szL_cons, szL_cons]; omega
theorem setKid_okE {t x y : NodeT} {i : Nat} (h : sm_node t = true) (hx : t.kids[i]? = some x) (hy : sm_node y = true) : sm_node (setKid t (i : Int) y) = true ∧ szN_node (setKid t (i : Int) y) + szN_node x = szN_node t + szN_node y := by
  obtain ⟨h1, h2, h3, h4, h5⟩ := sm_parts h
  constructor
  · rw [sm_node_def]
    simp only [Bool.and_eq_true]
    exact ⟨h1, h2, h3, h4, smL_set h5 _ hy⟩
  · rw [szN_node_def (setKid t (i : Int) y), szN_node_def t]
    have e2 := szL_setE (f := szN_node) (y := y) hx
    show t.s.size + szL ByteArray.size t.keys + szL szN_node (t.kids.set (Int.toNat (i : Int)) y) + _ = _
    rw [Int.toNat_natCast]
    omega
theorem lens_node {t : NodeT} : t.keys.length ≤ szN_node t ∧ t.kids.length ≤ szN_node t := by
  rw [szN_node_def t]
  have e1 : szL ByteArray.size t.keys = t.keys.length + (t.keys.map ByteArray.size).sum := rfl
  have e2 : szL szN_node t.kids = t.kids.length + (t.kids.map szN_node).sum := rfl
  omega
theorem setK_ok {t x : NodeT} {s : ByteArray} (h : sm_node t = true) (hs : smStr s = true) (hx : sm_node x = true) (hz : szN_node t + 1 ≤ 1048576) :
    sm_node (setK t s x) = true ∧ szN_node (setK t s x) ≤ szN_node t + 2 + s.size + szN_node x := by
  have hl := @lens_node t
  cases hm : isMapN t
  · unfold setK; rw [hm]; exact ⟨h, by simp only [cond_false]; omega⟩
  by_cases hk : keyAt t s < 0
  · rw [setK_neg hm hk]
    have := putKey_ok (k := comesAt t.keys s) h hs hx (by omega) (by omega)
    exact ⟨this.1, by omega⟩
  · rw [setK_pos hm hk]
    obtain ⟨i, e, h1, h2⟩ := keyAt_bd t s hk
    rw [e]
    have := setKid_okE h (List.getElem?_eq_getElem h2) hx
    exact ⟨this.1, by omega⟩
theorem putLast_ok {t x : NodeT} {s : ByteArray} (h : sm_node t = true) (hs : smStr s = true) (hx : sm_node x = true) (hz : szN_node t + 1 ≤ 1048576) :
    sm_node (putLast t s x).1 = true ∧ szN_node (putLast t s x).1 ≤ szN_node t + 2 + s.size + szN_node x := by
  have hl := @lens_node t
  have hno : sm_node noNode = true ∧ szN_node noNode ≤ szN_node t + 2 + s.size + szN_node x := ⟨by decide, by have := (noNode_ok t).2; omega⟩
  unfold putLast
  cases isMapN t
  · cases t.kind == (4 : Int)
    · exact hno
    · by_cases hk : slotAt t s < 0
      · rw [decide_eq_true hk]; exact hno
      · rw [decide_eq_false hk]
        have := putKid_ok (k := slotAt t s) h hx (by omega)
        exact ⟨this.1, by simp only [cond_true, cond_false]; omega⟩
  · exact setK_ok h hs hx hz
theorem putIn_ok : ∀ (path : List ByteArray) (t x : NodeT), sm_node t = true → smL smStr path = true → sm_node x = true → szN_node t + 1 ≤ 1048576 → sm_node (putIn t path x).1 = true ∧ szN_node (putIn t path x).1 ≤ szN_node t + 1 + szL ByteArray.size path + szN_node x
  | [], t, x, _, _, _, _ => ⟨(by decide : sm_node noNode = true), by have := (noNode_ok t).2; show szN_node noNode ≤ _; omega⟩
  | [p], t, x, h, hp, hx, hz => by
    rw [putIn]
    have := putLast_ok h (smL_head hp) hx hz
    have e : szL ByteArray.size [p] = 1 + p.size := by rw [szL_cons]; rfl
    exact ⟨this.1, by omega⟩
  | p :: q :: r, t, x, h, hp, hx, hz => by
    rw [putIn]
    have e : szL ByteArray.size (p :: q :: r) = 1 + p.size + szL ByteArray.size (q :: r) := szL_cons _ _ _
    have hno : sm_node noNode = true ∧ szN_node noNode ≤ szN_node t + 1 + szL ByteArray.size (p :: q :: r) + szN_node x := ⟨by decide, by have := (noNode_ok t).2; omega⟩
    by_cases hk : kidAt t p < 0
    · rw [decide_eq_true hk]; exact hno
    · rw [decide_eq_false hk]
      simp only [cond_false]
      obtain ⟨i, e1, hi⟩ := kidAt_bd hk
      rw [e1, Int.toNat_natCast]
      have hx1 := atI_lt (t := .node) hi
      have hm := List.mem_of_getElem? hx1
      have hsz := szN_kid hm
      have ih := putIn_ok (q :: r) (atI (t := .node) t.kids i) x (sm_kid h hm) (smL_tail hp) hx (by omega)
      cases (putIn (atI (t := .node) t.kids i) (q :: r) x).2
      · exact hno
      · have := setKid_okE h hx1 ih.1
        exact ⟨this.1, by simp only [Bool.not_true, cond_false]; omega⟩
theorem putPtr_ok {t x : NodeT} {path : List ByteArray} (h : sm_node t = true) (hp : smL smStr path = true) (hx : sm_node x = true) (hz : szN_node t + szL ByteArray.size path ≤ 1048576) :
    sm_node (putPtr t path x).1 = true ∧ szN_node (putPtr t path x).1 ≤ szN_node t + 1 + szL ByteArray.size path + szN_node x := by
  cases path with
  | nil => exact ⟨hx, by show szN_node x ≤ _; omega⟩
  | cons p r =>
    rw [putPtr_cons]
    unfold putAtW
    have e : szL ByteArray.size (p :: r) = 1 + p.size + szL ByteArray.size r := szL_cons _ _ _
    have := putIn_ok (p :: r) t x h hp hx (by omega)
    cases (putIn t (p :: r) x).2
    · exact ⟨h, by simp only [Bool.not_false, cond_true]; omega⟩
    · exact this
def gP (t : NodeT) (path : List ByteArray) (x : NodeT) : Bool := sm_node t && (smL smStr path && sm_node x)
def gPW (t : NodeT) (path : List ByteArray) (x : NodeT) : Bool := gP t path x && !path.isEmpty
def gS3 (t : NodeT) (s : ByteArray) (x : NodeT) : Bool := sm_node t && (smStr s && sm_node x)
def gInto (t : NodeT) (k : Int) (x : NodeT) : Bool := sm_node t && (sm_node x && (decide (0 ≤ k) && decide (k ≤ (t.kids.length : Int))))
def sLast (t : NodeT) (p : ByteArray) (x : NodeT) : NodeT × Bool := putPtr t [p] x
theorem gIns_one {α : Type} {xs : List α} {k : Int} {i : Nat} {y : α} (e : k = (i : Int)) (hi : i ≤ xs.length) (n : xs.length ≤ 1048576) : gIns xs k [y] = true :=
  gIns_iff.2 ⟨by omega, by omega, by simp, by have : (LIM : Nat) = 4294967296 := rfl; simp only [List.length_cons, List.length_nil]; omega⟩
theorem natS_nonneg {s : ByteArray} (h : (natS s).2 = true) : 0 ≤ (natS s).1 := by
  unfold natS at h ⊢
  cases h2 : (numS s).2
  · rw [h2] at h; cases h
  · rw [h2] at h
    exact of_decide_eq_true h
theorem limT1 {α : Type} {xs : List α} (h : xs.length ≤ 1048576) (i : Nat) : Nat.ble ((xs.take i).length + 1) LIM = true := Nat.ble_eq_true_of_le (by
  have : (LIM : Nat) = 4294967296 := rfl
  rw [List.length_take]; omega)
theorem limT1D {α : Type} {xs : List α} (h : xs.length ≤ 1048576) (i j : Nat) (y : α) : Nat.ble ((xs.take i ++ [y]).length + (xs.drop j).length) LIM = true := Nat.ble_eq_true_of_le (by
  have : (LIM : Nat) = 4294967296 := rfl
  simp only [List.length_append, List.length_take, List.length_drop, List.length_cons, List.length_nil]; omega)
theorem bne4 {n : Int} (h : (n == (5 : Int)) = true) : (n != (4 : Int)) = true ∧ (n == (4 : Int)) = false := by
  have := eq_of_beq h
  subst this; exact ⟨rfl, rfl⟩
end Go.Gm

/- Sizes and sameness of a change at a path. Printed by mkp29.py of this session. -/
namespace Go.Gm
open Go

def ok_pop (x : PopT) : Bool := (okI x.kind && (okL okStr x.path && (okL okStr x.src && ok_node x.x)))
def sm_pop (x : PopT) : Bool := (okI x.kind && (smL smStr x.path && (smL smStr x.src && sm_node x.x)))
def szN_pop (x : PopT) : Nat := szL ByteArray.size x.path + szL ByteArray.size x.src + szN_node x.x
def gz_pop (x : PopT) (n : Int) : Bool := ok_pop x && okN n
def z_pop (x : PopT) (n : Int) : Int := szI (szN_pop x) n
theorem ok_pop_w {x : PopT} (h : ∀ c ∈ enc .pop x, WideC c) : ok_pop x = true := by
  unfold ok_pop
  rw [okI_w (h (.v (.int .i64 x.kind)) (by simp [enc, encPopT])), okStrs_w (h (.l .str x.path) (by simp [enc, encPopT])), okStrs_w (h (.l .str x.src) (by simp [enc, encPopT])), ok_node_w (x := x.x) (fun c hc => by simp only [enc, encNodeT, List.mem_cons, List.not_mem_nil, or_false] at hc; exact h c (by simp only [enc, encPopT, List.mem_cons, List.not_mem_nil, or_false]; rcases hc with rfl | rfl | rfl | rfl | rfl <;> simp))]; rfl
theorem sm_pop_of {x : PopT} (hw : ok_pop x = true) (h : szN_pop x ≤ 1048576) : sm_pop x = true := by
  unfold szN_pop at h
  simp only [ok_pop, Bool.and_eq_true] at hw
  obtain ⟨h0, h1, h2, h3⟩ := hw
  unfold sm_pop
  rw [h0, smL_of (f := smStr) (g := ByteArray.size) (xs := x.path) h1 (by omega) (fun _ hw hx => smStr_of hx), smL_of (f := smStr) (g := ByteArray.size) (xs := x.src) h2 (by omega) (fun _ hw hx => smStr_of hx), sm_node_of (x := x.x) h3 (by omega)]; rfl
theorem eqD_pop (a b : PopT) : eqD a b = ((a.kind == b.kind) && (eqD a.path b.path && (eqD a.src b.src && eqD a.x b.x))) := by
  cases a; cases b
  rw [Bool.eq_iff_iff]; simp [eqD_iff, sEq_iff]
theorem eta_pop (x : PopT) : (⟨x.kind, x.path, x.src, x.x⟩ : PopT) = x := rfl

end Go.Gm

/- Plain functions: a change at a path. -/
namespace Go.Gm
open Go

noncomputable def frontOf (src path : List ByteArray) : Bool := cond (decide ((path.length : Int) > (src.length : Int))) (eqD (path.take src.length) src) false
noncomputable def patchedI (t : NodeT) (p : PopT) : NodeT × Bool :=
  cond (p.kind == (1 : Int)) (putPtr t p.path p.x)
  (cond (p.kind == (2 : Int)) (cutPtr t p.path)
  (cond (p.kind == (3 : Int)) (cond ((p.path.length : Int) == (0 : Int)) (p.x, true) (cond (!((cutPtr t p.path).2)) (noNode, false) (putPtr (cutPtr t p.path).1 p.path p.x)))
  (cond (p.kind == (4 : Int)) (t, cond ((atPtr t p.path).2) (eqD (atPtr t p.path).1 p.x) false)
  (cond (!((atPtr t p.src).2)) (noNode, false)
  (cond (p.kind == (5 : Int)) (cond (frontOf p.src p.path) (noNode, false) (cond (!((cutPtr t p.src).2)) (noNode, false) (putPtr (cutPtr t p.src).1 p.path (atPtr t p.src).1)))
  (cond (p.kind == (6 : Int)) (putPtr t p.path (atPtr t p.src).1) (noNode, false)))))))
noncomputable def patchOne (t : NodeT) (p : PopT) : NodeT × Bool := cond (!((patchedI t p).2)) (t, false) ((patchedI t p).1, true)

theorem putPtr_false {t x : NodeT} {path : List ByteArray} (h : (putPtr t path x).2 = false) : (putPtr t path x).1 = t := by
  cases path with
  | nil => cases h
  | cons p r =>
    rw [putPtr_cons] at h ⊢
    unfold putAtW at h ⊢
    cases hc : (putIn t (p :: r) x).2
    · rfl
    · rw [hc] at h; cases h
theorem cutPtr_false {t : NodeT} {path : List ByteArray} (h : (cutPtr t path).2 = false) : (cutPtr t path).1 = t := by
  cases path with
  | nil => rfl
  | cons p r =>
    rw [cutPtr_cons] at h ⊢
    unfold cutAt at h ⊢
    cases hc : (cutIn t (p :: r)).2
    · rfl
    · rw [hc] at h; cases h
theorem putPtr_eta {t x : NodeT} {path : List ByteArray} : cond (!((putPtr t path x).2)) (t, false) ((putPtr t path x).1, true) = putPtr t path x := by
  cases h : (putPtr t path x).2
  · exact Prod.ext (putPtr_false h).symm h.symm
  · exact Prod.ext rfl h.symm
theorem cutPtr_eta {t : NodeT} {path : List ByteArray} : cond (!((cutPtr t path).2)) (t, false) ((cutPtr t path).1, true) = cutPtr t path := by
  cases h : (cutPtr t path).2
  · exact Prod.ext (cutPtr_false h).symm h.symm
  · exact Prod.ext rfl h.symm
/-- What is cut out was there. -/
theorem cut_at : ∀ {path : List ByteArray} {t : NodeT}, (cutPtr t path).2 = true → (atPtr t path).2 = true
  | [], t, _ => rfl
  | p :: r, t, h => by
    by_cases hk : kidAt t p < 0
    · rw [cutPtr_no t p r hk] at h; cases h
    · have e : atPtr t (p :: r) = atPtr (atI (t := .node) t.kids (Int.toNat (kidAt t p))) r := by
        unfold atPtr
        simp only [foldE]
        rw [show atStep p t = .inr (atI (t := .node) t.kids (Int.toNat (kidAt t p))) by unfold atStep; rw [decide_eq_false hk]; rfl]
        rfl
      rw [e]
      cases r with
      | nil => rfl
      | cons q r =>
        rw [cutPtr_deep t p q r hk] at h
        refine cut_at (path := q :: r) ?_
        cases hc : (cutPtr (atI (t := .node) t.kids (Int.toNat (kidAt t p))) (q :: r)).2
        · rw [hc] at h; cases h
        · rfl
theorem at_cut {path : List ByteArray} {t : NodeT} (h : (atPtr t path).2 = false) : (cutPtr t path).2 = false := by
  cases hc : (cutPtr t path).2
  · rfl
  · rw [cut_at hc] at h; cases h

/-! ### small -/
theorem sm_pop_parts {p : PopT} (h : sm_pop p = true) : smL smStr p.path = true ∧ smL smStr p.src = true ∧ sm_node p.x = true := by
  simp only [sm_pop, Bool.and_eq_true] at h; exact h.2
theorem patchOne_ok {t : NodeT} {p : PopT} (h : sm_node t = true) (hp : sm_pop p = true) (hz : szN_node t + szN_pop p ≤ 1048576) : sm_node (patchOne t p).1 = true ∧ szN_node (patchOne t p).1 ≤ 4194304 := by
  obtain ⟨h1, h2, h3⟩ := sm_pop_parts hp
  have e : szN_pop p = szL ByteArray.size p.path + szL ByteArray.size p.src + szN_node p.x := rfl
  have ht : sm_node t = true ∧ szN_node t ≤ 4194304 := ⟨h, by omega⟩
  have ho : sm_node noNode = true ∧ szN_node noNode ≤ 4194304 := ⟨by decide, by have := (noNode_ok t).2; omega⟩
  have key : sm_node (patchedI t p).1 = true ∧ szN_node (patchedI t p).1 ≤ 4194304 := by
    unfold patchedI
    cases p.kind == (1 : Int)
    rotate_left
    · have := putPtr_ok h h1 h3 (by omega)
      exact ⟨this.1, by simp only [cond_true]; omega⟩
    cases p.kind == (2 : Int)
    rotate_left
    · have := cutPtr_ok (path := p.path) h
      exact ⟨this.1, by simp only [cond_true, cond_false]; omega⟩
    cases p.kind == (3 : Int)
    rotate_left
    · have hx : sm_node p.x = true ∧ szN_node p.x ≤ 4194304 := ⟨h3, by omega⟩
      have hc := cutPtr_ok (path := p.path) h
      have := putPtr_ok hc.1 h1 h3 (by omega)
      cases (p.path.length : Int) == (0 : Int)
      · cases (cutPtr t p.path).2
        · exact ho
        · exact ⟨this.1, by simp only [cond_true, cond_false, Bool.not_true]; omega⟩
      · exact hx
    cases p.kind == (4 : Int)
    rotate_left
    · exact ht
    cases (atPtr t p.src).2
    · exact ho
    have ha := atPtr_sm (path := p.src) h
    have hb := atPtr_sz t p.src
    cases p.kind == (5 : Int)
    · cases p.kind == (6 : Int)
      · exact ho
      · have := putPtr_ok h h1 ha (by omega)
        exact ⟨this.1, by simp only [cond_true, cond_false, Bool.not_true]; omega⟩
    · have hc := cutPtr_ok (path := p.src) h
      have := putPtr_ok hc.1 h1 ha (by omega)
      cases frontOf p.src p.path
      · cases (cutPtr t p.src).2
        · exact ho
        · exact ⟨this.1, by simp only [cond_true, cond_false, Bool.not_true]; omega⟩
      · exact ho
  unfold patchOne
  cases (patchedI t p).2
  · exact ht
  · exact key
noncomputable def putW (t : NodeT) (path : List ByteArray) (x was : NodeT) : NodeT × Bool := cond (!((putPtr t path x).2)) (was, false) ((putPtr t path x).1, true)
def gPutW (t : NodeT) (path : List ByteArray) (x was : NodeT) : Bool := gP t path x && sm_node was
def gFr (a b : List ByteArray) : Bool := gLenW a && gLenW b
theorem eqD_comm {α : Type} (a b : α) : eqD a b = eqD b a := by rw [Bool.eq_iff_iff, eqD_iff, eqD_iff]; exact eq_comm
theorem allN_front {a b : List ByteArray} (h : a.length ≤ b.length) : allN (fun j => sEq (atI (t := .str) a j) (atI (t := .str) b j)) 0 a.length = eqD (b.take a.length) a := by
  rw [eqD_comm]
  refine allN_eq (by rw [List.length_take]; omega) fun j x y hx hy => ?_
  rw [List.getElem?_take] at hy
  split at hy
  · rw [atI_of (t := .str) hx, atI_of (t := .str) hy, ← eqD_str]
  · cases hy
def gP2 (t : NodeT) (p : PopT) : Bool := sm_node t && sm_pop p
end Go.Gm

/- The G-machine, part 4: an evaluator of translated code on typed values, and that it is sound. No conditions. -/
import Derived.Test.YtglijihijmkpaaaGm3
import Derived.Shelf.Strings.OnBuilder
import Derived.Laws.Cover4
import Derived.Laws.CopyRow
import Derived.Deep.RegionLaw
import Derived.Below
/- Plain functions and laws of all structs: sizes, sameness. Printed by mkp3.py of this session. -/
namespace Go.Gm
open Go

def okI (n : Int) : Bool := decide (-9223372036854775808 ≤ n) && decide (n ≤ 9223372036854775807)
theorem okI_iff {n : Int} : okI n = true ↔ -9223372036854775808 ≤ n ∧ n ≤ 9223372036854775807 := by simp [okI]
theorem okI_w {n : Int} (h : WideC (.v (.int .i64 n))) : okI n = true := by
  cases h with
  | int h2 =>
    simp only [Lit.wf, Bool.and_eq_true, decide_eq_true_eq] at h2
    have e1 : IntKind.i64.min = -9223372036854775808 := rfl
    have e2 : IntKind.i64.max = 9223372036854775807 := rfl
    rw [okI_iff]; omega
def smStr (s : ByteArray) : Bool := Nat.ble s.size 1048576
def smL {α : Type} (f : α → Bool) (xs : List α) : Bool := Nat.ble xs.length 1048576 && xs.all f
theorem smStr_of {s : ByteArray} (h : s.size ≤ 1048576) : smStr s = true := Nat.ble_eq_true_of_le h
theorem sum_le {α : Type} (g : α → Nat) : ∀ {xs : List α} {x : α}, x ∈ xs → g x ≤ (xs.map g).sum
  | y :: ys, x, h => by
    simp only [List.map_cons, List.sum_cons]
    rcases List.mem_cons.1 h with rfl | h
    · exact Nat.le_add_right _ _
    · exact Nat.le_trans (sum_le g h) (Nat.le_add_left _ _)
theorem okStr_sm {s : ByteArray} (h : smStr s = true) : okStr s = true := Nat.ble_eq_true_of_le (Nat.le_trans (bleN h) (by decide))
theorem okL_sm {α : Type} {f g : α → Bool} {xs : List α} (h : smL f xs = true) (hf : ∀ x, f x = true → g x = true) : okL g xs = true := by
  simp only [smL, Bool.and_eq_true] at h
  unfold okL
  rw [Nat.ble_eq_true_of_le (Nat.le_trans (bleN h.1) (by decide : 1048576 ≤ WIDE)), Bool.true_and, List.all_eq_true]
  exact fun x hx => hf x (List.all_eq_true.1 h.2 x hx)
theorem smL_len {α : Type} {f : α → Bool} {xs : List α} (h : smL f xs = true) : xs.length ≤ 1048576 := by
  simp only [smL, Bool.and_eq_true] at h; exact bleN h.1
theorem smL_all {α : Type} {f : α → Bool} {xs : List α} (h : smL f xs = true) : xs.all f = true := by
  simp only [smL, Bool.and_eq_true] at h; exact h.2
def same {α : Type} (x : α) : α := x
def sm2 {α : Type} (f : α → Bool) (x y : α) : Bool := f x && f y
theorem smL_at {t : Ty} {f : El t → Bool} {xs : List (El t)} (h : smL f xs = true) {j : Nat} (hj : j < xs.length) : f (atI xs j) = true := by
  obtain ⟨x, hx, _⟩ := drop_get hj
  rw [atI_of hx]; exact List.all_eq_true.1 (smL_all h) x (List.mem_of_getElem? hx)
def gzL_str (x : List ByteArray) (n : Int) : Bool := okL okStr x && okN n
def zL_str (x : List ByteArray) (n : Int) : Int := szI (szL ByteArray.size x) n

end Go.Gm

/- Plain functions: what is to be looked at. -/
namespace Go.Gm
open Go

def firstN (p : Nat → Bool) : Nat → Nat → Option Nat
  | _, 0 => none
  | j, d + 1 => cond (p j) (some j) (firstN p (j + 1) d)
theorem loop_find {R : Type} {F : Nat → Int → Option R} {n : Nat} {p : Nat → Bool} {hit : Int → Option R} {miss : Option R} (hs : ∀ m j, j < n → F (m + 1) (j : Int) = cond (p j) (hit (j : Int)) (F m ((j + 1 : Nat) : Int)))
    (he : ∀ m, F (m + 1) (n : Int) = miss) : ∀ d j m, j + d = n → d < m → F m (j : Int) = (firstN p j d).elim miss (fun i => hit (i : Int)) := by
  intro d
  induction d with
  | zero =>
    intro j m hj hm
    obtain ⟨m, rfl⟩ : ∃ m', m = m' + 1 := ⟨m - 1, by omega⟩
    have : j = n := by omega
    subst this
    rw [he]; rfl
  | succ d ih =>
    intro j m hj hm
    obtain ⟨m, rfl⟩ : ∃ m', m = m' + 1 := ⟨m - 1, by omega⟩
    rw [hs m j (by omega), ih (j + 1) m (by omega) (by omega)]
    simp only [firstN]
    cases p j <;> rfl
theorem firstN_some {p : Nat → Bool} : ∀ {d j i : Nat}, firstN p j d = some i → j ≤ i ∧ i < j + d ∧ p i = true ∧ ∀ k, j ≤ k → k < i → p k = false
  | 0, _, _, h => by cases h
  | d + 1, j, i, h => by
    simp only [firstN] at h
    cases hp : p j with
    | true => rw [hp] at h; cases h; exact ⟨Nat.le_refl _, by omega, hp, fun k h1 h2 => by omega⟩
    | false =>
      rw [hp] at h
      obtain ⟨h1, h2, h3, h4⟩ := firstN_some h
      refine ⟨by omega, by omega, h3, fun k hk hk' => ?_⟩
      by_cases e : k = j
      · subst e; exact hp
      · exact h4 k (by omega) hk'
/-- A place as a number; -1 without one. -/
def plc (o : Option Nat) : Int := o.elim (-1) fun i => (i : Int)

end Go.Gm

/- Contracts of library functions that are not walked by the evaluator: one plain result, what was there stays. -/
namespace Go.Gm
open Go

variable {w w' : World} {Mf ROa : Nat → Prop}

end Go.Gm

/- Contracts of functions that call themselves, by a measure. -/
namespace Go.Gm
open Go

abbrev Q := List Dt → Option (Bool × List Dt)
/-- Only where the measure is below N. -/
def qlt (μ : List Dt → Nat) (N : Nat) (q : Q) : Q := fun ds => match q ds with | some (g, outs) => some (g && Nat.blt (μ ds) N, outs) | none => none
def qeq (μ : List Dt → Nat) (N : Nat) (q : Q) : Q := fun ds => match q ds with | some (g, outs) => some (g && Nat.beq (μ ds) N, outs) | none => none

theorem spec_part {P : Program} {f : Nat} {modes : List Am} {res : List Bool} {own : Bool} {q : Q} (h : ∀ ds outs, q ds = some (true, outs) → ∃ q0 : Q, SpecOk P f (Spec.of modes res own q0) ∧ q0 ds = some (true, outs)) : SpecOk P f (Spec.of modes res own q) := by
  intro R ds k r hr
  obtain ⟨outs, hq, hk⟩ := Spec.of_some hr
  obtain ⟨q0, hs, h0⟩ := h ds outs hq
  have hr0 : (Spec.of modes res own q0).fn ds k = some r := by
    show (match q0 ds with | some (g, outs) => cond g (k outs) none | none => none) = some r
    rw [h0]; exact hk
  intro w us Mf ROa Fs hA hp hFM hRM hRlt hMlt
  exact Calls.mono (hs ds k r hr0 w us Mf ROa Fs hA hp hFM hRM hRlt hMlt) fun e w' ⟨outs, h1, h2⟩ => ⟨outs, h1, ⟨h2.out, h2.kept⟩⟩

theorem qeq_some {μ : List Dt → Nat} {N : Nat} {q : Q} {ds : List Dt} {outs : List Dt} (h : qeq μ N q ds = some (true, outs)) : q ds = some (true, outs) ∧ μ ds = N := by
  unfold qeq at h
  cases hq : q ds with
  | none => rw [hq] at h; cases h
  | some go =>
    obtain ⟨g, o⟩ := go
    rw [hq] at h
    simp only [Option.some.injEq, Prod.mk.injEq, Bool.and_eq_true] at h
    obtain ⟨⟨h1, h2⟩, h3⟩ := h
    exact ⟨by rw [h1, h3], beqN h2⟩
theorem qlt_some {μ : List Dt → Nat} {N : Nat} {q : Q} {ds : List Dt} {outs : List Dt} (h : qlt μ N q ds = some (true, outs)) : q ds = some (true, outs) ∧ μ ds < N := by
  unfold qlt at h
  cases hq : q ds with
  | none => rw [hq] at h; cases h
  | some go =>
    obtain ⟨g, o⟩ := go
    rw [hq] at h
    simp only [Option.some.injEq, Prod.mk.injEq, Bool.and_eq_true] at h
    obtain ⟨⟨h1, h2⟩, h3⟩ := h
    rw [Nat.blt_eq] at h2
    exact ⟨by rw [h1, h3], h2⟩
theorem qeq_self {μ : List Dt → Nat} {q : Q} {ds : List Dt} {outs : List Dt} (h : q ds = some (true, outs)) : qeq μ (μ ds) q ds = some (true, outs) := by
  unfold qeq; rw [h]; simp

theorem spec_rec {P : Program} {f : Nat} {modes : List Am} {res : List Bool} {own : Bool} {q : Q} (μ : List Dt → Nat)
    (h : ∀ N, SpecOk P f (Spec.of modes res own (qlt μ N q)) → SpecOk P f (Spec.of modes res own (qeq μ N q))) : SpecOk P f (Spec.of modes res own q) := by
  have all : ∀ N, SpecOk P f (Spec.of modes res own (qeq μ N q)) := by
    intro N
    induction N using Nat.strongRecOn with
    | _ N ih =>
      refine h N (spec_part fun ds outs hq => ?_)
      obtain ⟨h1, h2⟩ := qlt_some hq
      exact ⟨qeq μ (μ ds) q, ih (μ ds) h2, qeq_self h1⟩
  intro R
  exact spec_part fun ds outs hq => ⟨qeq μ (μ ds) q, all (μ ds), qeq_self hq⟩

end Go.Gm

/- Plain laws: numbers as texts, joined texts. -/
namespace Go.Gm
open Go

/-! ### loops that carry something on -/
theorem loop_acc {α A R : Type} {xs : List α} {F : Nat → Nat → A → Option R} {f : A → α → A} {good : A → Option R} (inv : Nat → A → Prop)
    (hi : ∀ (j : Nat) a x, xs[j]? = some x → inv j a → inv (j + 1) (f a x))
    (hs : ∀ m (j : Nat) a x, xs[j]? = some x → inv j a → F (m + 1) j a = F m (j + 1) (f a x)) (he : ∀ m a, inv xs.length a → F (m + 1) xs.length a = good a) :
    ∀ (d j m : Nat) (a : A), j + d = xs.length → d < m → inv j a → F m j a = good ((xs.drop j).foldl f a) := by
  intro d
  induction d with
  | zero =>
    intro j m a hj hm hia
    obtain ⟨m, rfl⟩ : ∃ m', m = m' + 1 := ⟨m - 1, by omega⟩
    have : j = xs.length := by omega
    subst this
    rw [he m a hia, List.drop_length]; rfl
  | succ d ih =>
    intro j m a hj hm hia
    obtain ⟨m, rfl⟩ : ∃ m', m = m' + 1 := ⟨m - 1, by omega⟩
    obtain ⟨x, hx, hd⟩ := drop_get (show j < xs.length by omega)
    rw [hs m j a x hx hia, hd, List.foldl_cons]
    exact ih (j + 1) m _ (by omega) (by omega) (hi j a x hx hia)

/-! ### numbers -/
def natDig (n : Nat) : List UInt8 := if n < 10 then [UInt8.ofNat (48 + n)] else natDig (n / 10) ++ [UInt8.ofNat (48 + n % 10)]
termination_by n
decreasing_by omega
theorem natDig_lt {n : Nat} (h : n < 10) : natDig n = [UInt8.ofNat (48 + n)] := by rw [natDig, if_pos h]
theorem natDig_ge {n : Nat} (h : ¬ n < 10) : natDig n = natDig (n / 10) ++ [UInt8.ofNat (48 + n % 10)] := by rw [natDig, if_neg h]
theorem natDig_len : ∀ (k n : Nat), n < 10 ^ (k + 1) → (natDig n).length ≤ k + 1
  | 0, n, h => by rw [natDig_lt (by omega)]; simp
  | k + 1, n, h => by
    by_cases h1 : n < 10
    · rw [natDig_lt h1]; simp
    · rw [natDig_ge h1, List.length_append]
      have := natDig_len k (n / 10) (by rw [Nat.pow_succ] at h; omega)
      simp only [List.length_cons, List.length_nil]; omega
def digS (n : Int) : ByteArray := ⟨((if n < 0 then [(45 : UInt8)] else []) ++ natDig n.natAbs).toArray⟩
theorem digS_size {n : Int} (h : okI n = true) : (digS n).size ≤ 20 := by
  rw [okI_iff] at h
  have h1 := natDig_len 18 n.natAbs (by have : (10 : Nat) ^ (18 + 1) = 10000000000000000000 := rfl; omega)
  show ((if n < 0 then [(45 : UInt8)] else []) ++ natDig n.natAbs).toArray.size ≤ 20
  rw [List.size_toArray, List.length_append]
  split <;> simp <;> omega
theorem ba_ext {x y : ByteArray} (h : x.data.toList = y.data.toList) : x = y := by
  cases x; cases y
  congr
  exact Array.toList_inj.1 h
theorem ba_app (x y : ByteArray) : (x ++ y).data.toList = x.data.toList ++ y.data.toList := by simp
theorem tmod_pos {n : Int} (h : 0 ≤ n) : Int.tmod n 10 = ((n.natAbs % 10 : Nat) : Int) := by
  obtain ⟨m, rfl⟩ := Int.eq_ofNat_of_zero_le h
  rfl
theorem tdiv_pos {n : Int} (h : 0 ≤ n) : Int.tdiv n 10 = ((n.natAbs / 10 : Nat) : Int) := by
  obtain ⟨m, rfl⟩ := Int.eq_ofNat_of_zero_le h
  rfl
/-- One byte. -/
theorem byte_dig : ∀ d : Nat, d < 10 → bytesOf [IntKind.wrap .u8 (IntKind.wrap .i64 ((48 : Int) + (d : Int)))] = ⟨#[UInt8.ofNat (48 + d)]⟩
  | 0, _ => rfl | 1, _ => rfl | 2, _ => rfl | 3, _ => rfl | 4, _ => rfl | 5, _ => rfl | 6, _ => rfl | 7, _ => rfl | 8, _ => rfl | 9, _ => rfl
  | d + 10, h => by omega
/-- The digits of what is left, ahead of what there is. -/
def digR (n : Nat) (out : ByteArray) : ByteArray := if n = 0 then out else ⟨(natDig n).toArray⟩ ++ out
theorem digR_step {n : Nat} (h : n ≠ 0) (out : ByteArray) : digR (n / 10) (⟨#[UInt8.ofNat (48 + n % 10)]⟩ ++ out) = digR n out := by
  unfold digR
  rw [if_neg h]
  by_cases h1 : n < 10
  · rw [if_pos (by omega), natDig_lt h1, Nat.mod_eq_of_lt h1]
  · rw [if_neg (by omega), natDig_ge h1]
    apply ba_ext
    simp only [ba_app]; simp

theorem app_le {a b : ByteArray} (h : a.size + b.size ≤ 9223372036854775807) : decide (ByteArray.size a + ByteArray.size b ≤ 9223372036854775807) = true := decide_eq_true h

theorem bs_size (l : List Nat) : (bs l).size = l.length := by
  show (List.toArray (l.map UInt8.ofNat)).size = l.length
  simp
end Go.Gm

/- Plain functions: picks, their texts, what they fit. -/
namespace Go.Gm
open Go

def gLenW {α : Type} (x : List α) : Bool := Nat.ble x.length WIDE
theorem gLenW_le {α : Type} {x : List α} (h : gLenW x = true) : x.length ≤ 9223372036854775807 := bleN h
theorem gLenW_of {α : Type} {x : List α} (h : x.length ≤ 9223372036854775807) : gLenW x = true := Nat.ble_eq_true_of_le h
theorem gLenW_sm {α : Type} {f : α → Bool} {x : List α} (h : smL f x = true) : gLenW x = true := gLenW_of (Nat.le_trans (smL_len h) (by decide))

/-! ### the first one -/
theorem firstN_drop {t : Ty} {q : El t → Bool} {xs : List (El t)} : ∀ (d j : Nat), j + d = xs.length →
    (firstN (fun j => q (atI xs j)) j d).isSome = (xs.drop j).any q ∧ (∀ i, firstN (fun j => q (atI xs j)) j d = some i → (xs.drop j).find? q = some (atI xs i)) ∧ (firstN (fun j => q (atI xs j)) j d = none → (xs.drop j).find? q = none)
  | 0, j, h => by
    have : j = xs.length := by omega
    subst this
    rw [List.drop_length]
    refine ⟨rfl, ?_, fun _ => rfl⟩
    intro i h; cases h
  | d + 1, j, h => by
    obtain ⟨x, hx, hd⟩ := drop_get (show j < xs.length by omega)
    obtain ⟨h1, h2, h3⟩ := firstN_drop (q := q) (xs := xs) d (j + 1) (by omega)
    rw [hd]
    simp only [firstN, atI_of hx, List.any_cons, List.find?_cons]
    cases hq : q x with
    | true => exact ⟨rfl, fun i hi => by cases hi; rw [atI_of hx], fun h => by cases h⟩
    | false => exact ⟨by simpa using h1, h2, h3⟩
theorem firstN_any {t : Ty} (q : El t → Bool) (xs : List (El t)) : (firstN (fun j => q (atI xs j)) 0 xs.length).isSome = xs.any q := by
  have := (firstN_drop (q := q) (xs := xs) xs.length 0 (by omega)).1
  rwa [List.drop_zero] at this
theorem plc_ge (o : Option Nat) : decide (plc o ≥ 0) = o.isSome := by
  cases o with
  | none => rfl
  | some i => simp [plc]
/-- The place of the first that is so; -1 without one. -/
def findI {t : Ty} (q : El t → Bool) (xs : List (El t)) : Int := plc (firstN (fun j => q (atI xs j)) 0 xs.length)
theorem findI_ge {t : Ty} (q : El t → Bool) (xs : List (El t)) : decide (findI q xs ≥ 0) = xs.any q := by
  unfold findI; rw [plc_ge, firstN_any]
/-! ### what picks fit -/
def isIn (xs : List ByteArray) (s : ByteArray) : Bool := xs.any fun x => sEq x s
theorem sEq_comm (x y : ByteArray) : sEq x y = sEq y x := by rw [Bool.eq_iff_iff, sEq_iff, sEq_iff, eq_comm]
def idxS (xs : List ByteArray) (s : ByteArray) : Int := findI (t := .str) (fun x => sEq s x) xs
def noteIs (n : NoteT) (p : PickT) : Bool := sEq n.key p.key
/-- What a pick asks is among the notes. -/
def among (p : PickT) (ns : List NoteT) : Bool := (ns.find? fun n => noteIs n p).elim false fun n => isIn p.vals n.text
noncomputable def fits (p : PickT) (ns : List NoteT) : Bool :=
  pickOk p && cond (p.op == (1 : Int) || p.op == (3 : Int)) (among p ns) (cond (p.op == (2 : Int) || p.op == (4 : Int)) (!(among p ns)) (cond (p.op == (5 : Int)) (ns.any fun n => noteIs n p) (!(ns.any fun n => noteIs n p))))
noncomputable def fitsNot (p : PickT) (i : ItemT) : Bool := !(fits p i.order.notes)
noncomputable def fitsNotAny (ps : List PickT) (i : ItemT) : Bool := ps.any fun p => fitsNot p i
noncomputable def chosenStep (ps : List PickT) (out : List ByteArray) (i : ItemT) : List ByteArray := cond (fitsNotAny ps i) out (out ++ [i.order.name])
noncomputable def chosen (s : StoreT) (ps : List PickT) : List ByteArray := s.items.foldl (chosenStep ps) []
theorem any_not {α : Type} (q : α → Bool) (xs : List α) : (!(xs.any fun x => !(q x))) = xs.all q := by
  induction xs with
  | nil => rfl
  | cons x r ih => rw [List.any_cons, List.all_cons, ← ih]; cases q x <;> simp
end Go.Gm

/- Plain functions and laws: marks that are written into lists one after another, and whether they are held. Printed by mkp7.py of this session. -/
namespace Go.Gm
open Go

noncomputable def mkT (k : Int) : ByteArray := cond (decide (k ≤ 0)) (bs [109,48]) (bs [109] ++ digS k)
def mkL {α : Type} (f : Int → α → α × Int) : Int → List α → List α × Int
  | k, [] => ([], k)
  | k, x :: xs => ((f k x).1 :: (mkL f (f k x).2 xs).1, (mkL f (f k x).2 xs).2)
def ctL {α : Type} (c : α → Nat) (xs : List α) : Nat := (xs.map c).sum
theorem ctL_cons {α : Type} (c : α → Nat) (x : α) (xs : List α) : ctL c (x :: xs) = c x + ctL c xs := by simp [ctL]
theorem mkL_ct {α : Type} {f : Int → α → α × Int} {c : α → Nat} (h : ∀ k x, (f k x).2 = k + (c x : Nat)) : ∀ (k : Int) (xs : List α), (mkL f k xs).2 = k + (ctL c xs : Nat)
  | k, [] => by simp [mkL, ctL]
  | k, x :: xs => by
    simp only [mkL]
    rw [mkL_ct h, h, ctL_cons]; omega
theorem mkL_idem {α : Type} {f : Int → α → α × Int} (h : ∀ k x, f k (f k x).1 = f k x) : ∀ (k : Int) (xs : List α), mkL f k (mkL f k xs).1 = mkL f k xs
  | _, [] => rfl
  | k, x :: xs => by
    simp only [mkL]
    rw [h, mkL_idem h]
theorem ctL_len {α : Type} {c : α → Nat} (h : ∀ x, 1 ≤ c x) : ∀ xs : List α, xs.length ≤ ctL c xs
  | [] => Nat.le_refl _
  | x :: xs => by
    have := ctL_len h xs
    have h1 := h x
    rw [ctL_cons, List.length_cons]; omega
theorem ctL_le {α : Type} {c s : α → Nat} (h : ∀ x, c x ≤ 64 * s x + 64) : ∀ xs : List α, ctL c xs ≤ 64 * szL s xs
  | [] => by simp [ctL]
  | x :: xs => by
    have := ctL_le h xs
    have h1 := h x
    have : szL s (x :: xs) = szL s xs + s x + 1 := by simp only [szL, List.length_cons, List.map_cons, List.sum_cons]; omega
    rw [ctL_cons]; omega
/-- The list as it is marked is held where it is the same. -/
noncomputable def hdL {α : Type} (f : Int → α → α × Int) (k : Int) (xs : List α) : Int := cond (eqD xs (mkL f k xs).1) (mkL f k xs).2 (-1)
theorem hdL_cases {α : Type} (f : Int → α → α × Int) (k : Int) (xs : List α) : (eqD xs (mkL f k xs).1 = true ∧ hdL f k xs = (mkL f k xs).2) ∨ (eqD xs (mkL f k xs).1 = false ∧ hdL f k xs = -1) := by
  unfold hdL
  cases eqD xs (mkL f k xs).1 with
  | true => exact .inl ⟨rfl, rfl⟩
  | false => exact .inr ⟨rfl, rfl⟩
theorem eqD_cons {α : Type} (x y : α) (xs ys : List α) : eqD (x :: xs) (y :: ys) = (eqD x y && eqD xs ys) := by
  rw [Bool.eq_iff_iff, Bool.and_eq_true, eqD_iff, eqD_iff, eqD_iff, List.cons.injEq]
def gmk (k : Int) (c : Nat) : Bool := decide (0 ≤ k) && decide (k + (c : Nat) ≤ 4611686018427387904)
theorem gmk_iff {k : Int} {c : Nat} : gmk k c = true ↔ 0 ≤ k ∧ k + (c : Nat) ≤ 4611686018427387904 := by simp [gmk]
theorem gmk_of {k : Int} {c : Nat} (h0 : 0 ≤ k) (h : k + (c : Nat) ≤ 4611686018427387904) : gmk k c = true := gmk_iff.2 ⟨h0, h⟩
theorem okI_of {n : Int} (h0 : -9223372036854775808 ≤ n) (h : n ≤ 9223372036854775807) : okI n = true := okI_iff.2 ⟨h0, h⟩
theorem cond_and {α : Type} (a b : Bool) (x y : α) : cond (a && b) x y = cond a (cond b x y) y := by cases a <;> rfl
theorem decide_ge0 {n : Int} (h : 0 ≤ n) : decide (n < 0) = false := decide_eq_false (by omega)
theorem decide_m1 : decide ((-1 : Int) < 0) = true := rfl
theorem eqD_bool (x y : Bool) : eqD x y = (x == y) := by rw [Bool.eq_iff_iff]; simp [eqD]
theorem atI_set {t : Ty} {l : List (El t)} {j : Nat} (h : j < l.length) (a : El t) : atI (l.set j a) j = a := by
  apply atI_of; simp [h]
theorem loop_mark {α R : Type} {F : Nat → Int → Int → List α → Option R} {f : Int → α → α × Int} {c : α → Nat} {good : Int → List α → Option R} {n : Nat} (hc : ∀ k x, (f k x).2 = k + (c x : Nat))
    (hs : ∀ (m : Nat) (k : Int) (j : Nat) (l : List α) (x : α), l[j]? = some x → l.length = n → 0 ≤ k → k + (c x : Nat) ≤ 4611686018427387904 → F (m + 1) k (j : Int) l = F m (f k x).2 ((j : Int) + 1) (l.set j (f k x).1))
    (he : ∀ (m : Nat) (k : Int) (l : List α), l.length = n → F (m + 1) k (n : Int) l = good k l) :
    ∀ (rest : List α) (m : Nat) (k : Int) (pre : List α), pre.length + rest.length = n → rest.length < m → 0 ≤ k → k + (ctL c rest : Nat) ≤ 4611686018427387904 → F m k (pre.length : Int) (pre ++ rest) = good (mkL f k rest).2 (pre ++ (mkL f k rest).1)
  | [], m, k, pre, hn, hm, _, _ => by
    obtain ⟨m, rfl⟩ : ∃ m', m = m' + 1 := ⟨m - 1, by omega⟩
    simp only [List.append_nil, mkL]
    have e : pre.length = n := by simpa using hn
    rw [e]; exact he m k pre e
  | x :: xs, m, k, pre, hn, hm, h0, hB => by
    obtain ⟨m, rfl⟩ : ∃ m', m = m' + 1 := ⟨m - 1, by omega⟩
    rw [ctL_cons] at hB
    simp only [List.length_cons] at hn hm
    rw [hs m k pre.length (pre ++ x :: xs) x (by simp) (by simp; omega) h0 (by omega)]
    have e : (pre ++ x :: xs).set pre.length (f k x).1 = (pre ++ [(f k x).1]) ++ xs := by
      rw [List.set_append_right _ _ (Nat.le_refl _), Nat.sub_self]; simp
    have := loop_mark hc hs he xs m (f k x).2 (pre ++ [(f k x).1]) (by simp; omega) (by omega) (by rw [hc]; omega) (by rw [hc]; omega)
    rw [e]
    simp only [List.length_append, List.length_cons, List.length_nil] at this
    rw [show ((pre.length : Int) + 1) = ((pre.length + (0 + 1) : Nat) : Int) by omega, this]
    simp only [mkL, List.append_assoc, List.cons_append, List.nil_append]
theorem loop_held {α R : Type} {xs : List α} {F : Nat → Int → Int → Option R} {f : Int → α → α × Int} {c : α → Nat} {good : Int → Option R} {bad : Option R} (hc : ∀ k x, (f k x).2 = k + (c x : Nat))
    (hs : ∀ (m : Nat) (k : Int) (j : Nat) (x : α), xs[j]? = some x → 0 ≤ k → k + (c x : Nat) ≤ 4611686018427387904 → F (m + 1) k (j : Int) = cond (eqD x (f k x).1) (F m (f k x).2 ((j : Int) + 1)) bad)
    (he : ∀ (m : Nat) (k : Int), F (m + 1) k (xs.length : Int) = good k) :
    ∀ (d j m : Nat) (k : Int), j + d = xs.length → d < m → 0 ≤ k → k + (ctL c (xs.drop j) : Nat) ≤ 4611686018427387904 → F m k (j : Int) = cond (eqD (xs.drop j) (mkL f k (xs.drop j)).1) (good (mkL f k (xs.drop j)).2) bad := by
  intro d
  induction d with
  | zero =>
    intro j m k hj hm _ _
    obtain ⟨m, rfl⟩ : ∃ m', m = m' + 1 := ⟨m - 1, by omega⟩
    have : j = xs.length := by omega
    subst this
    rw [List.drop_length, he]
    simp only [mkL]; rw [eqD_self]; rfl
  | succ d ih =>
    intro j m k hj hm h0 hB
    obtain ⟨m, rfl⟩ : ∃ m', m = m' + 1 := ⟨m - 1, by omega⟩
    obtain ⟨x, hx, hd⟩ := drop_get (show j < xs.length by omega)
    rw [hd, ctL_cons] at hB
    rw [hs m k j x hx h0 (by omega), hd]
    simp only [mkL]
    rw [eqD_cons]
    have := ih (j + 1) m (f k x).2 (by omega) (by omega) (by rw [hc]; omega) (by rw [hc]; omega)
    rw [show ((j : Int) + 1) = ((j + 1 : Nat) : Int) by omega, this]
    cases eqD x (f k x).1 <;> rfl

/-! ### single ones -/
noncomputable def mk_str (k : Int) (_x : ByteArray) : ByteArray × Int := (mkT k, k + 1)
def mk_bool (k : Int) (_x : Bool) : Bool × Int := (Int.tmod k 3 == 0, k + 1)
def ct_str (_x : ByteArray) : Nat := 1
def ct_bool (_x : Bool) : Nat := 1
theorem mk_str_ct (k : Int) (x : ByteArray) : (mk_str k x).2 = k + (ct_str x : Nat) := rfl
theorem mk_bool_ct (k : Int) (x : Bool) : (mk_bool k x).2 = k + (ct_bool x : Nat) := rfl
theorem mk_str_idem (k : Int) (x : ByteArray) : mk_str k (mk_str k x).1 = mk_str k x := rfl
theorem ct_str_pos (x : ByteArray) : 1 ≤ ct_str x := Nat.le_refl _
theorem ct_bool_pos (x : Bool) : 1 ≤ ct_bool x := Nat.le_refl _
theorem mkL_str_ct (k : Int) (xs : List ByteArray) : (mkL mk_str k xs).2 = k + (ctL ct_str xs : Nat) := mkL_ct mk_str_ct k xs
theorem mkL_bool_ct (k : Int) (xs : List Bool) : (mkL mk_bool k xs).2 = k + (ctL ct_bool xs : Nat) := mkL_ct mk_bool_ct k xs
end Go.Gm

/- Plain laws: what is chosen. -/
namespace Go.Gm
open Go

end Go.Gm

/- Plain functions: names, what is to be looked at. -/
namespace Go.Gm
open Go

def nameC (i c : Int) : Bool := (decide (c ≥ (97 : Int)) && decide (c ≤ (122 : Int))) || (!(i == (0 : Int)) && (digit c || (c == (45 : Int))))
def nameOk (s : ByteArray) : Bool := allN (fun j => nameC (j : Int) (byteAt s j)) 0 s.size && inR (s.size : Int) 1 20
def gNames (xs : List ByteArray) : Bool := okL okStr xs
theorem okL_sms {xs : List ByteArray} (h : smL smStr xs = true) : okL okStr xs = true := okL_sm h fun _ h => okStr_sm h

end Go.Gm

/- Plain functions: amounts, orders and worlds as texts. -/
namespace Go.Gm
open Go

end Go.Gm

/- Contracts of two or three functions that call each other, by measures. -/
namespace Go.Gm
open Go

structure Rc where
  f : Nat
  ms : List Am
  rs : List Bool
  ow : Bool
  mu : List Dt → Nat
  q : Q
theorem spec_recs {P : Program} (L : List Rc)
    (h : ∀ N, (∀ x ∈ L, SpecOk P x.f (Spec.of x.ms x.rs x.ow (qlt x.mu N x.q))) → ∀ x ∈ L, SpecOk P x.f (Spec.of x.ms x.rs x.ow (qeq x.mu N x.q))) :
    ∀ x ∈ L, SpecOk P x.f (Spec.of x.ms x.rs x.ow x.q) := by
  have all : ∀ N, ∀ x ∈ L, SpecOk P x.f (Spec.of x.ms x.rs x.ow (qeq x.mu N x.q)) := by
    intro N
    induction N using Nat.strongRecOn with
    | _ N ih =>
      refine h N fun x hx => spec_part fun ds outs hq => ?_
      obtain ⟨h1, h2⟩ := qlt_some hq
      exact ⟨qeq x.mu (x.mu ds) x.q, ih (x.mu ds) h2 x hx, qeq_self h1⟩
  intro x hx R
  exact spec_part fun ds outs hq => ⟨qeq x.mu (x.mu ds) x.q, all (x.mu ds) x hx, qeq_self hq⟩

end Go.Gm

/- Plain functions and laws of trees: nodes and rules. Printed by mkp11.py of this session. -/
namespace Go.Gm
open Go

theorem okL_wm {t : Ty} {xs : List (El t)} {f : El t → Bool} (h : WideC (.l t xs)) (hf : ∀ x ∈ xs, (∀ c ∈ enc t x, WideC c) → f x = true) : okL f xs = true := by
  cases h with
  | lst h hx =>
    unfold okL
    rw [Nat.ble_eq_true_of_le (show xs.length ≤ WIDE from h), Bool.true_and, List.all_eq_true]
    exact fun x hm => hf x hm (hx x hm)
theorem smL_ofm {α : Type} {f e : α → Bool} {g : α → Nat} {xs : List α} (hw : okL e xs = true) (h : szL g xs ≤ 1048576) (hf : ∀ x ∈ xs, e x = true → g x ≤ 1048576 → f x = true) : smL f xs = true := by
  simp only [okL, Bool.and_eq_true] at hw
  unfold smL
  have h1 := szL_ge g xs
  rw [Nat.ble_eq_true_of_le (by omega : xs.length ≤ 1048576), Bool.true_and, List.all_eq_true]
  intro x hx
  refine hf x hx (List.all_eq_true.1 hw.2 x hx) (Nat.le_trans (sum_le g hx) ?_)
  have : szL g xs = xs.length + (xs.map g).sum := rfl
  omega
theorem okB_w {xs : List Bool} (h : WideC (.l .bool xs)) : okL (fun _ => true) xs = true := okL_wm (t := .bool) h fun _ _ _ => rfl
def gzL_bool (x : List Bool) (n : Int) : Bool := okL (fun _ => true) x && okN n
def zL_bool (x : List Bool) (n : Int) : Int := szI (szL (fun _ => 0) x) n
def ndL {α : Type} (f : α → Nat) (xs : List α) : Nat := (xs.map f).sum
theorem ndL_mem {α : Type} {f : α → Nat} {xs : List α} {x : α} (h : x ∈ xs) : f x ≤ ndL f xs := sum_le f h

mutual
def ok_node : NodeT → Bool
  | ⟨kind, n, s, keys, kids⟩ => (okI kind && (okI n && (okStr s && (okL okStr keys && (Nat.ble kids.length WIDE && okA_node kids)))))
def okA_node : List NodeT → Bool
  | [] => true
  | x :: xs => ok_node x && okA_node xs
end
theorem okA_node_eq : ∀ xs : List NodeT, okA_node xs = xs.all ok_node
  | [] => by simp [okA_node]
  | x :: xs => by rw [okA_node, okA_node_eq xs, List.all_cons]
theorem ok_node_def (x : NodeT) : ok_node x = (okI x.kind && (okI x.n && (okStr x.s && (okL okStr x.keys && okL ok_node x.kids)))) := by
  cases x; rw [ok_node, okA_node_eq]; rfl
mutual
def sm_node : NodeT → Bool
  | ⟨kind, n, s, keys, kids⟩ => (okI kind && (okI n && (smStr s && (smL smStr keys && (Nat.ble kids.length 1048576 && smA_node kids)))))
def smA_node : List NodeT → Bool
  | [] => true
  | x :: xs => sm_node x && smA_node xs
end
theorem smA_node_eq : ∀ xs : List NodeT, smA_node xs = xs.all sm_node
  | [] => by simp [smA_node]
  | x :: xs => by rw [smA_node, smA_node_eq xs, List.all_cons]
theorem sm_node_def (x : NodeT) : sm_node x = (okI x.kind && (okI x.n && (smStr x.s && (smL smStr x.keys && smL sm_node x.kids)))) := by
  cases x; rw [sm_node, smA_node_eq]; rfl
mutual
def szN_node : NodeT → Nat
  | ⟨_, _, s, keys, kids⟩ => s.size + szL ByteArray.size keys + (kids.length + szA_node kids)
def szA_node : List NodeT → Nat
  | [] => 0
  | x :: xs => szN_node x + szA_node xs
end
theorem szA_node_eq : ∀ xs : List NodeT, szA_node xs = (xs.map szN_node).sum
  | [] => by simp [szA_node]
  | x :: xs => by rw [szA_node, szA_node_eq xs, List.map_cons, List.sum_cons]
theorem szN_node_def (x : NodeT) : szN_node x = x.s.size + szL ByteArray.size x.keys + szL szN_node x.kids := by
  cases x; rw [szN_node, szA_node_eq]; rfl
mutual
def nd_node : NodeT → Nat
  | ⟨_, _, _, _, kids⟩ => 1 + ndA_node kids
def ndA_node : List NodeT → Nat
  | [] => 0
  | x :: xs => nd_node x + ndA_node xs
end
theorem ndA_node_eq : ∀ xs : List NodeT, ndA_node xs = ndL nd_node xs
  | [] => by simp [ndA_node, ndL]
  | x :: xs => by rw [ndA_node, ndA_node_eq xs]; simp [ndL]
theorem nd_node_def (x : NodeT) : nd_node x = 1 + ndL nd_node x.kids := by
  cases x; rw [nd_node, ndA_node_eq]
theorem nd_node_kid {x y : NodeT} (h : y ∈ x.kids) : nd_node y < nd_node x := by
  have := ndL_mem (f := nd_node) h
  rw [nd_node_def x]; omega
def gz_node (x : NodeT) (n : Int) : Bool := ok_node x && okN n
def z_node (x : NodeT) (n : Int) : Int := szI (szN_node x) n
def gzL_node (x : List NodeT) (n : Int) : Bool := okL ok_node x && okN n
def zL_node (x : List NodeT) (n : Int) : Int := szI (szL szN_node x) n
theorem ok_node_w1 (x : NodeT) (h : ∀ c ∈ enc .node x, WideC c) : ok_node x = true := by
  rw [ok_node_def]
  simp only [Bool.and_eq_true]
  exact ⟨okI_w (h (.v (.int .i64 x.kind)) (by simp [enc, encNodeT])), okI_w (h (.v (.int .i64 x.n)) (by simp [enc, encNodeT])), okStr_w (h (.v (.string x.s)) (by simp [enc, encNodeT])), okStrs_w (h (.l .str x.keys) (by simp [enc, encNodeT])), okL_wm (h (.l .node x.kids) (by simp [enc, encNodeT])) fun y _hy h2 => ok_node_w1 y h2⟩
termination_by nd_node x
decreasing_by exact nd_node_kid _hy
theorem sm_node_of1 (x : NodeT) (hw : ok_node x = true) (h : szN_node x ≤ 1048576) : sm_node x = true := by
  rw [ok_node_def] at hw
  simp only [Bool.and_eq_true] at hw
  obtain ⟨hw_kind, hw_n, hw_s, hw_keys, hw_kids⟩ := hw
  rw [szN_node_def] at h
  rw [sm_node_def]
  simp only [Bool.and_eq_true]
  exact ⟨hw_kind, hw_n, smStr_of (by omega), smL_ofm hw_keys (show szL ByteArray.size x.keys ≤ 1048576 by omega) fun y _ _ h2 => smStr_of h2, smL_ofm hw_kids (by omega) fun y _hy h1 h2 => sm_node_of1 y h1 h2⟩
termination_by nd_node x
decreasing_by exact nd_node_kid _hy
theorem ok_node_w {x : NodeT} (h : ∀ c ∈ enc .node x, WideC c) : ok_node x = true := ok_node_w1 x h
theorem sm_node_of {x : NodeT} (hw : ok_node x = true) (h : szN_node x ≤ 1048576) : sm_node x = true := sm_node_of1 x hw h
theorem eqD_node (a b : NodeT) : eqD a b = ((a.kind == b.kind) && ((a.n == b.n) && (sEq a.s b.s && (eqD a.keys b.keys && eqD a.kids b.kids)))) := by
  cases a; cases b
  rw [Bool.eq_iff_iff]; simp [eqD_iff, sEq_iff]
theorem eta_node (x : NodeT) : (⟨x.kind, x.n, x.s, x.keys, x.kids⟩ : NodeT) = x := by cases x; rfl
def mz_node (x : NodeT) (_ : Int) : Nat := 2 * nd_node x
def mzL_node (x : List NodeT) (_ : Int) : Nat := 2 * ndL nd_node x + 1
def mt_node (x : NodeT) : Nat := 2 * nd_node x
def mtL_node (x : List NodeT) : Nat := 2 * ndL nd_node x + 1
def me_node (x : NodeT) (_ : NodeT) : Nat := 2 * nd_node x
def meL_node (x : List NodeT) (_ : List NodeT) : Nat := 2 * ndL nd_node x + 1
mutual
def ok_rule : RuleT → Bool
  | ⟨kind, keys, kids, need, low, high⟩ => (okI kind && (okL okStr keys && ((Nat.ble kids.length WIDE && okA_rule kids) && (okL (fun _ => true) need && (okI low && okI high)))))
def okA_rule : List RuleT → Bool
  | [] => true
  | x :: xs => ok_rule x && okA_rule xs
end
theorem okA_rule_eq : ∀ xs : List RuleT, okA_rule xs = xs.all ok_rule
  | [] => by simp [okA_rule]
  | x :: xs => by rw [okA_rule, okA_rule_eq xs, List.all_cons]
theorem ok_rule_def (x : RuleT) : ok_rule x = (okI x.kind && (okL okStr x.keys && (okL ok_rule x.kids && (okL (fun _ => true) x.need && (okI x.low && okI x.high))))) := by
  cases x; rw [ok_rule, okA_rule_eq]; rfl
mutual
def sm_rule : RuleT → Bool
  | ⟨kind, keys, kids, need, low, high⟩ => (okI kind && (smL smStr keys && ((Nat.ble kids.length 1048576 && smA_rule kids) && (smL (fun _ => true) need && (okI low && okI high)))))
def smA_rule : List RuleT → Bool
  | [] => true
  | x :: xs => sm_rule x && smA_rule xs
end
theorem smA_rule_eq : ∀ xs : List RuleT, smA_rule xs = xs.all sm_rule
  | [] => by simp [smA_rule]
  | x :: xs => by rw [smA_rule, smA_rule_eq xs, List.all_cons]
theorem sm_rule_def (x : RuleT) : sm_rule x = (okI x.kind && (smL smStr x.keys && (smL sm_rule x.kids && (smL (fun _ => true) x.need && (okI x.low && okI x.high))))) := by
  cases x; rw [sm_rule, smA_rule_eq]; rfl
mutual
def szN_rule : RuleT → Nat
  | ⟨_, keys, kids, need, _, _⟩ => szL ByteArray.size keys + (kids.length + szA_rule kids) + szL (fun _ => 0) need
def szA_rule : List RuleT → Nat
  | [] => 0
  | x :: xs => szN_rule x + szA_rule xs
end
theorem szA_rule_eq : ∀ xs : List RuleT, szA_rule xs = (xs.map szN_rule).sum
  | [] => by simp [szA_rule]
  | x :: xs => by rw [szA_rule, szA_rule_eq xs, List.map_cons, List.sum_cons]
theorem szN_rule_def (x : RuleT) : szN_rule x = szL ByteArray.size x.keys + szL szN_rule x.kids + szL (fun _ => 0) x.need := by
  cases x; rw [szN_rule, szA_rule_eq]; rfl
mutual
def nd_rule : RuleT → Nat
  | ⟨_, _, kids, _, _, _⟩ => 1 + ndA_rule kids
def ndA_rule : List RuleT → Nat
  | [] => 0
  | x :: xs => nd_rule x + ndA_rule xs
end
theorem ndA_rule_eq : ∀ xs : List RuleT, ndA_rule xs = ndL nd_rule xs
  | [] => by simp [ndA_rule, ndL]
  | x :: xs => by rw [ndA_rule, ndA_rule_eq xs]; simp [ndL]
theorem nd_rule_def (x : RuleT) : nd_rule x = 1 + ndL nd_rule x.kids := by
  cases x; rw [nd_rule, ndA_rule_eq]
theorem nd_rule_kid {x y : RuleT} (h : y ∈ x.kids) : nd_rule y < nd_rule x := by
  have := ndL_mem (f := nd_rule) h
  rw [nd_rule_def x]; omega
def gz_rule (x : RuleT) (n : Int) : Bool := ok_rule x && okN n
def z_rule (x : RuleT) (n : Int) : Int := szI (szN_rule x) n
def gzL_rule (x : List RuleT) (n : Int) : Bool := okL ok_rule x && okN n
def zL_rule (x : List RuleT) (n : Int) : Int := szI (szL szN_rule x) n
theorem ok_rule_w1 (x : RuleT) (h : ∀ c ∈ enc .rule x, WideC c) : ok_rule x = true := by
  rw [ok_rule_def]
  simp only [Bool.and_eq_true]
  exact ⟨okI_w (h (.v (.int .i64 x.kind)) (by simp [enc, encRuleT])), okStrs_w (h (.l .str x.keys) (by simp [enc, encRuleT])), okL_wm (h (.l .rule x.kids) (by simp [enc, encRuleT])) fun y _hy h2 => ok_rule_w1 y h2, okB_w (h (.l .bool x.need) (by simp [enc, encRuleT])), okI_w (h (.v (.int .i64 x.low)) (by simp [enc, encRuleT])), okI_w (h (.v (.int .i64 x.high)) (by simp [enc, encRuleT]))⟩
termination_by nd_rule x
decreasing_by exact nd_rule_kid _hy
theorem sm_rule_of1 (x : RuleT) (hw : ok_rule x = true) (h : szN_rule x ≤ 1048576) : sm_rule x = true := by
  rw [ok_rule_def] at hw
  simp only [Bool.and_eq_true] at hw
  obtain ⟨hw_kind, hw_keys, hw_kids, hw_need, hw_low, hw_high⟩ := hw
  rw [szN_rule_def] at h
  rw [sm_rule_def]
  simp only [Bool.and_eq_true]
  exact ⟨hw_kind, smL_ofm hw_keys (show szL ByteArray.size x.keys ≤ 1048576 by omega) fun y _ _ h2 => smStr_of h2, smL_ofm hw_kids (by omega) fun y _hy h1 h2 => sm_rule_of1 y h1 h2, smL_ofm hw_need (show szL (fun _ => 0) x.need ≤ 1048576 by omega) fun _ _ _ _ => rfl, hw_low, hw_high⟩
termination_by nd_rule x
decreasing_by exact nd_rule_kid _hy
theorem ok_rule_w {x : RuleT} (h : ∀ c ∈ enc .rule x, WideC c) : ok_rule x = true := ok_rule_w1 x h
theorem sm_rule_of {x : RuleT} (hw : ok_rule x = true) (h : szN_rule x ≤ 1048576) : sm_rule x = true := sm_rule_of1 x hw h
theorem eqD_rule (a b : RuleT) : eqD a b = ((a.kind == b.kind) && (eqD a.keys b.keys && (eqD a.kids b.kids && (eqD a.need b.need && ((a.low == b.low) && (a.high == b.high)))))) := by
  cases a; cases b
  rw [Bool.eq_iff_iff]; simp [eqD_iff, sEq_iff]
theorem eta_rule (x : RuleT) : (⟨x.kind, x.keys, x.kids, x.need, x.low, x.high⟩ : RuleT) = x := by cases x; rfl
def mz_rule (x : RuleT) (_ : Int) : Nat := 2 * nd_rule x
def mzL_rule (x : List RuleT) (_ : Int) : Nat := 2 * ndL nd_rule x + 1
def mt_rule (x : RuleT) : Nat := 2 * nd_rule x
def mtL_rule (x : List RuleT) : Nat := 2 * ndL nd_rule x + 1
def me_rule (x : RuleT) (_ : RuleT) : Nat := 2 * nd_rule x
def meL_rule (x : List RuleT) (_ : List RuleT) : Nat := 2 * ndL nd_rule x + 1

end Go.Gm

/- Plain functions: texts, keys, rules. -/
namespace Go.Gm
open Go

def textOk (s : ByteArray) : Bool := allN (fun j => inR (byteAt s j) 32 126) 0 s.size && decide ((s.size : Int) ≤ 400)
def keyC (xs : List ByteArray) (j : Nat) : Bool := textOk (atI (t := .str) xs j) && (!(decide ((j : Int) > (0 : Int))) || sLt (atI (t := .str) xs (j - 1)) (atI (t := .str) xs j))
def keysOk (xs : List ByteArray) : Bool := allN (keyC xs) 0 xs.length
def bitI (b : Bool) : Int := cond b 1 0
/-- A rule by itself, without its kids. -/
def ruleShape (r : RuleT) : Bool :=
  ((r.kind == (2 : Int)) || ((r.kind == (3 : Int)) || ((r.kind == (4 : Int)) || ((r.low == (0 : Int)) && (r.high == (0 : Int)))))) &&
    cond (r.kind == (5 : Int)) (((r.keys.length : Int) == (r.kids.length : Int)) && (((r.need.length : Int) == (r.kids.length : Int)) && keysOk r.keys))
      (((r.keys.length : Int) == (0 : Int)) && (((r.need.length : Int) == (0 : Int)) && ((r.kids.length : Int) == bitI (r.kind == (4 : Int)))))
def ruleHead (r : RuleT) (d : Int) : Bool := inR r.kind (-1) 5 && (!(decide (r.low > r.high)) && !(decide (d ≤ 0)))
mutual
def ruleRight : RuleT → Int → Bool
  | ⟨kind, keys, kids, need, low, high⟩, d => ruleHead ⟨kind, keys, kids, need, low, high⟩ d && (rulesRight kids (d - 1) && ruleShape ⟨kind, keys, kids, need, low, high⟩)
def rulesRight : List RuleT → Int → Bool
  | [], _ => true
  | x :: xs, d => ruleRight x d && rulesRight xs d
end
theorem rulesRight_eq (d : Int) : ∀ xs : List RuleT, rulesRight xs d = xs.all fun x => ruleRight x d
  | [] => by simp [rulesRight]
  | x :: xs => by rw [rulesRight, rulesRight_eq d xs, List.all_cons]
theorem ruleRight_def (r : RuleT) (d : Int) : ruleRight r d = (ruleHead r d && ((r.kids.all fun x => ruleRight x (d - 1)) && ruleShape r)) := by
  cases r; rw [ruleRight, rulesRight_eq]
def gRule (r : RuleT) (d : Int) : Bool := sm_rule r && (decide (0 ≤ d) && decide (d ≤ 100))
def gRule1 (r : RuleT) (d : Int) : Bool := sm_rule r && (decide (1 ≤ d) && decide (d ≤ 100))
def gRules (r : List RuleT) (d : Int) : Bool := smL sm_rule r && (decide (1 ≤ d) && decide (d ≤ 100))
def ruleNot (r : RuleT) (d : Int) : Bool := !(ruleRight r (d - 1))
def ruleNotAt (rs : List RuleT) (d : Int) : Int := findI (t := .rule) (fun r => ruleNot r d) rs
def ruleNotAny (rs : List RuleT) (d : Int) : Bool := rs.any fun r => ruleNot r d
def mr0 (r : RuleT) (_ : Int) : Nat := 4 * nd_rule r
def mr1 (r : RuleT) (_ : Int) : Nat := 4 * nd_rule r + 1
def mr2 (r : List RuleT) (_ : Int) : Nat := 4 * ndL nd_rule r + 2
def mr3 (r : List RuleT) (_ : Int) : Nat := 4 * ndL nd_rule r + 3
def ruleOk (r : RuleT) : Bool := ruleRight r 8
theorem ruleNotAny_eq (rs : List RuleT) (d : Int) : (!(ruleNotAny rs d)) = rs.all fun x => ruleRight x (d - 1) := by
  unfold ruleNotAny
  rw [← any_not]; rfl
theorem beq_comm' (a b : Int) : (a == b) = (b == a) := by rw [Bool.eq_iff_iff]; simp; exact eq_comm
theorem keysOk_nil {xs : List ByteArray} (h : (xs.length : Int) = 0) : keysOk xs = true := by
  have : xs = [] := List.length_eq_zero_iff.1 (by omega)
  subst this; rfl

end Go.Gm

/- Contracts of functions of which one argument, the first, comes in cell by cell: its lists are lent, each by itself. -/
namespace Go.Gm
open Go

section ev
variable {R : Type}
/-- The cells of an argument, one by one. -/
def cellsIn : Nat → List Am → List Dt → St → (List Sc → St → Option R) → Option R
  | _, [], [], st, k => k [] st
  | id, .mut :: ms, .d (.sl t) x :: ds, st, k => impL true st id [.l t x] fun cs _ st _ => match cs with
      | [c] => cellsIn (id + 1) ms ds st fun cs st => k (c :: cs) st
      | _ => none
  | id, .skp :: ms, _ :: ds, st, k => cellsIn (id + 1) ms ds st fun cs st => k (.dead :: cs) st
  | _, _, _, _, _ => none
def cellsOf : List Am → List Sc → Option (List (Am × Nat × Sv))
  | [], [] => some []
  | .mut :: ms, c :: cs => (cellsOf ms cs).bind fun l => some ((.mut, 0, .c (.one c)) :: l)
  | .skp :: ms, _ :: cs => cellsOf ms cs
  | _, _ => none
def evExitS (E : Env) (ms1 ms2 : List Am) (res : List Bool) (rvs : List ResultVar) (Ts : List Nat) (ds1 ds2 : List Dt) (st : St) (k : List Dt → Option R) : Option R :=
  exitRes E st true rvs res Ts fun l1 => match aget st.slots 0 with
    | some (.c (.agg cs)) => (cellsOf ms1 cs).bind fun la => backsOf st 1 ms2 fun lb =>
        passArgs E (l1 ++ (la ++ lb)) st fun outs _ _ _ => cond (backsChk (ms1 ++ ms2) (ds1 ++ ds2) (outs.drop l1.length)) (k outs) none
    | _ => none
def evFnS (E : Env) (keep : Nat → Kp) (rounds : Nat) (body : Code) (ms1 ms2 : List Am) (res : List Bool) (rvs : List ResultVar) (Ts : List Nat) (ds1 ds2 : List Dt) (k : List Dt → Option R) : Option R :=
  cellsIn 0 ms1 ds1 ⟨[], [], []⟩ fun cs st => entry 1 ms2 ds2 { st with slots := aset st.slots 0 (.c (.agg cs)) } fun st => ev E keep rounds body st fun e st => match e with
    | .exit _ => none
    | _ => evExitS E ms1 ms2 res rvs Ts ds1 ds2 st k
end ev

variable {R : Type} {P : Program} {E : Env} {w0 w w' : World} {Mf : Nat → Prop} {g : Gh} {st : St} {a : Act}

theorem cellsIn_sound {ROa : Nat → Prop} : ∀ {ms1 ms2 : List Am} {ds1 ds2 : List Dt} {us : List Value} {Fs : List (Nat → Prop)} {id : Nat} {g : Gh} {st : St} {k : List Sc → St → Option R} {r : R}, Inv w0 Mf g st a w →
    ArgsOk w ROa (ms1 ++ ms2) (ds1 ++ ds2) us Fs → PairApart Fs → (∀ n, Given (ms1 ++ ms2) Fs n → Free w0 Mf g st n ∧ n < w.heap.size) → g.ro = ROa → cellsIn id ms1 ds1 st k = some r →
    ∃ cs g' st' Fs', k cs st' = some r ∧ g'.n = g.n ∧ Inv w0 Mf g' st' a w ∧ (∀ c u, ScRel w g st c u → ScRel w g' st' c u) ∧ CsL w g' st' cs (us.take ms1.length) ∧ ArgsOk w ROa ms2 ds2 (us.drop ms1.length) Fs' ∧ PairApart Fs' ∧
      (∀ n, Given ms2 Fs' n → Free w0 Mf g' st' n ∧ n < w.heap.size) ∧ g'.ro = ROa
  | [], ms2, ds1, ds2, us, Fs, id, g, st, k, r, I, hA, hp, hf, hro, h => by
    cases ds1 with
    | cons _ _ => cases h
    | nil => exact ⟨[], g, st, Fs, h, rfl, I, fun _ _ h => h, trivial, hA, hp, hf, hro⟩
  | m :: ms1, ms2, ds0, ds2, us0, Fs0, id, g, st, k, r, I, hA, hp, hf, hro, h => by
    cases ds0 with
    | nil => cases m <;> cases h
    | cons d ds1 =>
    rw [List.cons_append, List.cons_append] at hA
    cases hA with
    | cons hA1 hA2 =>
    rename_i u us F Fs
    obtain ⟨hp1, hp2⟩ := List.pairwise_cons.1 hp
    cases m with
    | «mut» =>
      cases d with
      | clo _ _ => cases h
      | d t x =>
      obtain ⟨e, xs, heq, hO⟩ := hA1
      cases heq
      simp only [cellsIn] at h
      obtain ⟨ss, mm, g1, st1, v, h1, I1, G1, hc⟩ := Inv.impOwn (cs := [.l e xs]) (Fs := [F]) (us := [u]) I ⟨hO, trivial⟩ (fun x hx => by simp at hx) (List.pairwise_singleton _ _) (fun G hG n hn => by
        have : G = F := by simpa using hG
        subst this
        exact hf n (.here rfl hn)) h
      cases ss with
      | nil => exact hc.elim
      | cons c ss =>
      cases ss with
      | cons _ _ => exact hc.2.elim
      | nil =>
      obtain ⟨cs, g', st', Fs', h2, h3, I2, hm, hcs, hA3, hp3, hf3, hro3⟩ := cellsIn_sound I1 hA2 hp2 (fun n hn => by
        obtain ⟨hfr, hlt⟩ := hf n (.there hn)
        refine ⟨⟨fun id' hi h5 => ?_, by rw [G1.ro]; exact hfr.ro, fun b hb => by rw [G1.bx]; rw [G1.eq] at hb; exact hfr.b b hb, hfr.mine⟩, hlt⟩
        rcases G1.own id' hi with ⟨h6, h7⟩ | h6
        · rw [h7] at h5; exact hfr.r id' h6 h5
        · obtain ⟨F', hF', hk⟩ := h6 n h5
          have : F' = F := by simpa using hF'
          subst this
          obtain ⟨G, hG, hg⟩ := hn.any
          exact hp1 G hG n hk hg) (by rw [G1.ro]; exact hro) h1
      exact ⟨c :: cs, g', st', Fs', h2, h3.trans G1.n, I2, fun c u h => hm c u (G1.map c u h), ⟨hm _ _ hc.1, hcs⟩, hA3, hp3, hf3, hro3⟩
    | skp =>
      simp only [cellsIn] at h
      obtain ⟨cs, g', st', Fs', h2, h3, I2, hm, hcs, hA3, hp3, hf3, hro3⟩ := cellsIn_sound I hA2 hp2 (fun n hn => hf n (.there hn)) hro h
      exact ⟨.dead :: cs, g', st', Fs', h2, h3, I2, hm, ⟨⟨hA1, trivial⟩, hcs⟩, hA3, hp3, hf3, hro3⟩
    | _ => cases h

theorem cellsOf_sound : ∀ {ms : List Am} {cs : List Sc} {us : List Value} {la : List (Am × Nat × Sv)}, CsL w g st cs us → cellsOf ms cs = some la → SvL w g st (la.map (·.2)) (backUs ms us) ∧ la.map (·.1) = ms.filter isBack
  | [], [], us, la, hc, h => by
    cases h
    cases us with
    | nil => exact ⟨trivial, rfl⟩
    | cons _ _ => exact hc.elim
  | [], _ :: _, _, _, _, h => by cases h
  | m :: ms, [], _, _, _, h => by cases m <;> cases h
  | m :: ms, c :: cs, us, la, hc, h => by
    cases us with
    | nil => exact hc.elim
    | cons u us =>
    cases m with
    | «mut» =>
      simp only [cellsOf] at h
      obtain ⟨l, hl, h⟩ := Option.bind_eq_some_iff.1 h
      cases h
      obtain ⟨h1, h2⟩ := cellsOf_sound hc.2 hl
      exact ⟨⟨hc.1, h1⟩, by rw [List.map_cons, h2]; rfl⟩
    | skp =>
      obtain ⟨h1, h2⟩ := cellsOf_sound (ms := ms) hc.2 h
      exact ⟨h1, by simpa [isBack] using h2⟩
    | _ => cases h

theorem backUs_append : ∀ {ms1 ms2 : List Am} {us1 us2 : List Value}, ms1.length = us1.length → backUs (ms1 ++ ms2) (us1 ++ us2) = backUs ms1 us1 ++ backUs ms2 us2
  | [], _, [], _, _ => rfl
  | [], _, _ :: _, _, h => by simp at h
  | _ :: _, _, [], _, h => by simp at h
  | m :: ms, ms2, u :: us, us2, h => by
    have := backUs_append (ms1 := ms) (ms2 := ms2) (us1 := us) (us2 := us2) (by simpa using h)
    simp only [List.cons_append, backUs, this]
    split <;> rfl

/-- A contract of which the first argument comes in cell by cell. -/
def Spec.ofS (ms1 ms2 : List Am) (res : List Bool) (q : List Dt → Option (Bool × List Dt)) : Spec := { Spec.of (ms1 ++ ms2) res true q with shape := [ms1.length] }
theorem Spec.ofS_natl (ms1 ms2 : List Am) (res : List Bool) (q : List Dt → Option (Bool × List Dt)) : (Spec.ofS ms1 ms2 res q).Natl := Spec.of_natl (ms1 ++ ms2) res true q

theorem spec_okS (hE : E.Ok P) (hN : E.Natl) {f : Nat} {fn : Func} {c : Code} (hf : P.funcs[f]? = some fn) (hb : fn.body = some c) {m : Am} {ms1 ms2 : List Am} {res : List Bool} {q : List Dt → Option (Bool × List Dt)} (Ts : List Nat)
    (hok : codeOk fn.ntmps (0 :: stays 1 ms2) c = true)
    (hrun : ∀ ds outs, q ds = some (true, outs) → ds.length = (m :: ms1).length + ms2.length → ∃ keep rounds, ∀ {R : Type} (k : List Dt → Option R), evFnS E keep rounds c (m :: ms1) ms2 res fn.results.toList Ts (ds.take (m :: ms1).length) (ds.drop (m :: ms1).length) k = k outs) :
    SpecOk P f (Spec.ofS (m :: ms1) ms2 res q) := by
  intro R ds k r h w us Mf ROa Fs hA hp hFM hRM hRlt hMlt
  have hA : ArgsOk w ROa ((m :: ms1) ++ ms2) ds us Fs := hA
  obtain ⟨hl1, hl2, _⟩ := hA.len
  have hlm : ((m :: ms1) ++ ms2).length = (m :: ms1).length + ms2.length := List.length_append
  obtain ⟨outs, hq, hk⟩ := Spec.of_some (modes := (m :: ms1) ++ ms2) (res := res) (own := true) h
  obtain ⟨keep, rounds, hev⟩ := hrun ds outs hq (by omega)
  replace h := (hev k).trans hk
  have hds : ds.take (m :: ms1).length ++ ds.drop (m :: ms1).length = ds := List.take_append_drop _ _
  have hus : us.take (m :: ms1).length ++ us.drop (m :: ms1).length = us := List.take_append_drop _ _
  generalize hd1 : ds.take (m :: ms1).length = ds1 at h hds
  generalize hd2 : ds.drop (m :: ms1).length = ds2 at h hds
  have hzl : (us.take (m :: ms1).length).length = (m :: ms1).length := by rw [List.length_take]; omega
  have hpk : packA [(m :: ms1).length] us = .agg (us.take (m :: ms1).length).toArray :: us.drop (m :: ms1).length := rfl
  show Calls P f (packA [(m :: ms1).length] us).toArray w _
  rw [hpk]
  generalize hz1 : us.take (m :: ms1).length = zs at hus hzl
  generalize hz2 : us.drop (m :: ms1).length = us2 at hus
  refine calls_of_wp hf hb ?_
  let vs0 : List Value := .agg zs.toArray :: us2
  let a0 : Act := { tmps := vs0.toArray ++ Array.replicate (fn.ntmps - vs0.toArray.size) undef, defers := [] }
  let F0 : Fx := ⟨a0.tmps.size, ROa⟩
  let g0 : Gh := { rv := fun _ _ => undef, rf := fun _ _ => False, bx := fun _ => 0, ro := ROa, n := F0 }
  have hsz : fn.ntmps ≤ F0.sz := by
    show fn.ntmps ≤ (vs0.toArray ++ Array.replicate (fn.ntmps - vs0.toArray.size) undef).size
    simp; omega
  have hgive : ∀ n, Given ((m :: ms1) ++ ms2) Fs n → Mf n := fun n hg => by obtain ⟨F, hF, h⟩ := hg.any; exact hFM F hF n h
  have noO : ∀ id, ¬ OwnAt ⟨[], [], []⟩ id := fun id ⟨r, h, _⟩ => by simp [aget] at h
  have noB : ∀ b, ¬ BoxAt ⟨[], [], []⟩ b := fun b h => by simp [BoxAt, aget] at h
  have I0 : Inv w (Given ((m :: ms1) ++ ms2) Fs) g0 ⟨[], [], []⟩ a0 w :=
    { slots := fun s sv h => by simp [aget] at h
      boxes := fun b x h => by simp [aget] at h
      roots := fun id r h => by simp [aget] at h
      apart := {
        rr := fun id id' k h => (noO id h).elim
        rb := fun id b h => (noO id h).elim
        bb := fun b b' h => (noB b h).elim
        ro_r := fun id k h => (noO id h).elim
        ro_b := fun b h => (noB b h).elim
        mine_r := fun id k h => (noO id h).elim
        mine_b := fun b h => (noB b h).elim
        lt_r := fun id k h => (noO id h).elim
        lt_ro := hRlt
        mine_ro := fun k h => .inl h }
      kept := ⟨rfl, rfl, rfl, Nat.le_refl _, fun _ _ _ => rfl⟩
      defers := rfl
      size := rfl }
  have htm : ∀ (i : Nat) u, vs0[i]? = some u → a0.tmps[i]? = some u := fun i u hu => by
    have hi : i < vs0.length := by
      rcases Nat.lt_or_ge i vs0.length with h' | h'
      · exact h'
      · simp [List.getElem?_eq_none h'] at hu
    show (vs0.toArray ++ Array.replicate (fn.ntmps - vs0.toArray.size) undef)[i]? = some u
    rw [Array.getElem?_append_left (by simpa using hi)]
    simpa using hu
  unfold evFnS at h
  obtain ⟨cs, g1, st1, Fs1, h, hg1, I1, _, hcs, hA1, hp1, hf1, hro1⟩ := cellsIn_sound (ROa := ROa) (ms1 := m :: ms1) (ms2 := ms2) (ds1 := ds1) (ds2 := ds2) I0 (by rw [hds]; exact hA) hp
    (fun n hg => ⟨⟨fun id h => (noO id h).elim, fun h => hRM n h (hgive n hg), fun b h => (noB b h).elim, .inr hg⟩, hMlt n (hgive n hg)⟩) rfl h
  rw [hz1] at hcs
  rw [hz2] at hA1
  have I1' := I1.note (j := 0) (sv := .c (.agg cs)) (htm 0 _ rfl) ⟨zs.toArray, rfl, CsL.arr hcs⟩
  obtain ⟨g2, st2, h, hg2, I2⟩ := entry_sound (ROa := ROa) (j := 1) I1' (us := us2) (fun i u hu => by
      have := htm (i + 1) u (by simpa [vs0] using hu)
      rw [Nat.add_comm]; exact this) hA1 hp1 (fun n hn => let ⟨h1, h2⟩ := hf1 n hn; ⟨⟨h1.r, h1.ro, h1.b, h1.mine⟩, h2⟩) hro1 h
  have hmem : ∀ {ms : List Am} {j : Nat} {x : Nat}, x ∈ stays j ms → j ≤ x ∧ x < j + ms.length := by
    intro ms
    induction ms with
    | nil => intro j x h; simp [stays] at h
    | cons m ms ih =>
      intro j x h
      cases m <;> simp only [stays, List.mem_cons] at h <;> first
        | (have := ih h; simp only [List.length_cons]; omega)
        | (rcases h with rfl | h
           · simp
           · have := ih h; simp only [List.length_cons]; omega)
  obtain ⟨hla, _, _⟩ := hA1.len
  have hstay0 : Stay (0 :: stays 1 ms2) (fun j => vs0[j]?) a0.tmps := by
    intro j hj
    have hlt : j < vs0.length := by
      rcases List.mem_cons.1 hj with rfl | hj
      · simp [vs0]
      · have := hmem hj
        simp only [vs0, List.length_cons]; omega
    have := htm j vs0[j] (by simp [hlt])
    rw [this]; simp [hlt]
  refine ev_sound hE hN (F := F0) c (codeOk_mono hsz hok) h (hg2.trans hg1) I2 hstay0 fun e g' st' a' w' hk' hg' I' hJ' => ?_
  have fin : evExitS E (m :: ms1) ms2 res fn.results.toList Ts ds1 ds2 st' k = some r → a'.defers = [] ∧ ∃ v, (results fn a'.tmps).run P w' = .ok v w' ∧ ∃ outs, k outs = some r ∧ After w w' Mf ROa (Spec.ofS (m :: ms1) ms2 res q) ds us outs (.returned v) := by
    unfold evExitS
    intro h
    obtain ⟨l1, vs, h, hrn, hS1, hm1⟩ := exitRes_sound hE I' h
    split at h
    case h_2 => cases h
    rename_i cs' hslot
    obtain ⟨la, hla', h⟩ := Option.bind_eq_some_iff.1 h
    obtain ⟨lb, h, hSb, hmb⟩ := backsOf_sound I' (us := us2) hla (fun i hi n hin => by
      have := hJ' i (List.mem_cons_of_mem _ hi)
      rw [this]
      have : i = n + 1 := by omega
      subst this
      simp [vs0]) h
    obtain ⟨u, hu, hr⟩ := I'.slots 0 _ hslot
    have hu0 := hJ' 0 (by simp)
    rw [hu] at hu0
    have hu0 : u = .agg zs.toArray := by simpa [vs0] using hu0
    subst hu0
    obtain ⟨ys, hy, hcy⟩ := hr
    have hy : ys = zs.toArray := by simpa using hy.symm
    subst hy
    obtain ⟨hSa, hma⟩ := cellsOf_sound (us := zs) (by simpa using hcy.l) hla'
    have hbu : backUs ((m :: ms1) ++ ms2) us = backUs (m :: ms1) zs ++ backUs ms2 us2 := by rw [← hus]; exact backUs_append hzl.symm
    refine ⟨I'.defers, exit_core (s := Spec.ofS (m :: ms1) ms2 res q) hE I' (by rw [hg']) hl1 hgive (fun hall n hn => Given.none hall hn) hrn hS1 hm1 (l2 := la ++ lb) ?_ ?_ ?_⟩
    · show SvL w' g' st' ((la ++ lb).map (·.2)) (backUs ((m :: ms1) ++ ms2) us)
      rw [hbu, List.map_append]; exact hSa.append' hSb
    · show (la ++ lb).map (·.1) = ((m :: ms1) ++ ms2).filter isBack
      rw [List.map_append, List.filter_append, hma, hmb]
    · rw [← hds]; exact h
  cases e with
  | normal => exact fin hk'
  | ret => exact fin hk'
  | exit id => cases hk'

end Go.Gm

/- Contracts of library functions that are not walked by the evaluator: one result, the caller's own. -/
namespace Go.Gm
open Go

variable {P : Program} {w w' : World} {Mf ROa : Nat → Prop}

theorem backs_skip : ∀ {ms : List Am} {ds : List Dt} {us : List Value}, ms.all (fun m => !(isBack m)) = true → ms.length = us.length → ds.length = us.length → BacksOk w ms ds us [] []
  | [], [], [], _, _, _ => .nil
  | m :: ms, d :: ds, u :: us, h, h1, h2 => by
    simp only [List.all_cons, Bool.and_eq_true] at h
    refine .skip ?_ (backs_skip h.2 (by simpa using h1) (by simpa using h2))
    cases m <;> first | trivial | exact absurd h.1 (by simp [isBack])
  | [], _ :: _, [], _, _, h => by simp at h
  | [], _, _ :: _, _, h, _ => by simp at h
  | _ :: _, _, [], _, h, _ => by simp at h
  | _ :: _, [], _ :: _, _, _, h => by simp at h

theorem After.own1 {s : Spec} (hown : s.own = true) (hres : s.res = [false]) (hm : s.modes.all (fun m => !(isBack m)) = true) {ds : List Dt} {us : List Value} (h1 : s.modes.length = us.length) (h2 : ds.length = us.length) {t : Ty} {x : El t} {v : Value}
    {G : Nat → Prop} (hv : ValOwn w' G t x v) (hG : ∀ k, G k → (Mf k ∨ w.heap.size ≤ k) ∧ k < w'.heap.size) (hk : Kept w w' Mf) : After w w' Mf ROa s ds us [.d t x] (.returned v) := by
  refine ⟨⟨[v], [G], [], rfl, ?_, ?_, List.Pairwise.nil, fun B hB => by simp at hB, fun _ => ⟨List.pairwise_singleton _ _, fun G' hG' k hk => ?_⟩, fun e => absurd (hown.symm.trans e) (by simp), fun G hG B hB => by simp at hB, fun G' hG' k hk => ?_, fun B hB => by simp at hB⟩, hk⟩
  · rw [hown, hres]; exact .val (by simpa using hv) .nil
  · rw [hres]; exact backs_skip hm h1 h2
  · have : G' = G := by simpa using hG'
    subst this; exact (hG k hk).1
  · have : G' = G := by simpa using hG'
    subst this; exact (hG k hk).2

/-- A contract of one result of the caller's own, from what the function does with these values. -/
theorem spec_own1 {f : Nat} {modes : List Am} {q : List Dt → Option (Bool × List Dt)} (hm : modes.all (fun m => !(isBack m)) = true)
    (h : ∀ ds outs, q ds = some (true, outs) → ∃ t x, outs = [.d t x] ∧ ∀ (w : World) (us : List Value) (Mf ROa : Nat → Prop) (Fs : List (Nat → Prop)), ArgsOk w ROa modes ds us Fs → PairApart Fs → (∀ F ∈ Fs, ∀ k, F k → Mf k) →
      (∀ k, ROa k → ¬ Mf k) → (∀ k, ROa k → k < w.heap.size) → (∀ k, Mf k → k < w.heap.size) →
      Calls P f us.toArray w fun e w' => ∃ v G, e = .returned v ∧ Kept w w' Mf ∧ ValOwn w' G t x v ∧ ∀ k, G k → (Mf k ∨ w.heap.size ≤ k) ∧ k < w'.heap.size) : SpecOk P f (Spec.of modes [false] true q) := by
  intro R ds k r hr w us Mf ROa Fs hA hp hFM hRM hRlt hMlt
  obtain ⟨outs, hq, hk⟩ := Spec.of_some hr
  obtain ⟨t, x, rfl, hc⟩ := h ds outs hq
  refine Calls.mono (hc w us Mf ROa Fs hA hp hFM hRM hRlt hMlt) ?_
  rintro e w' ⟨v, G, rfl, h1, h2, h3⟩
  obtain ⟨hl1, hl2, _⟩ := hA.len
  exact ⟨_, hk, After.own1 rfl rfl hm hl1 hl2 h2 h3 h1⟩

theorem valOwn_sl {G : Nat → Prop} {t : Ty} {xs : List (El t)} {v : Value} (h : OwnSl w G t xs v) : ValOwn w G (.sl t) xs v := by
  refine ⟨#[v], by simp [Form, isSt, h.flat], fun j => if j = 0 then G else fun _ => False, fun j k hk => ?_, fun j j' k hk hk' => ?_, by simp [enc], fun j c hc => ?_⟩
  · dsimp only at hk
    split at hk
    · exact hk
    · exact hk.elim
  · dsimp only at hk hk'
    by_cases e1 : j = 0
    · by_cases e2 : j' = 0
      · omega
      · simp [e2] at hk'
    · simp [e1] at hk
  · cases j with
    | zero =>
      simp only [enc, List.getElem?_cons_zero, Option.some.injEq] at hc
      subst hc
      exact ⟨v, rfl, by simpa [COwn] using h⟩
    | succ j => simp [enc] at hc
theorem valRd_sl {Pr : Nat → Prop} {t : Ty} {xs : List (El t)} {u : Value} (h : ValRd w Pr (.sl t) xs u) : RdSl w Pr t xs u := by
  obtain ⟨us, hf, hr⟩ := h
  obtain ⟨e, _⟩ := hf.size rfl
  subst e
  obtain ⟨z, hz, hc⟩ := hr.2 0 (.l t xs) rfl
  have hz : u = z := by simpa using hz
  subst hz; exact hc
/-! ### a copy of an empty list -/
/-- What slices.Clone does with an empty list: nil, or a new empty list. -/
def CloneE (P : Program) (f : Nat) : Prop := ∀ (a : Option Addr) (c : Nat) (w : World), Calls P f #[.slice a 0 c] w fun e w' =>
  (e = .returned (.slice none 0 0) ∧ w' = w) ∨ ∃ el, e = .returned (.slice (some ⟨w.heap.size, 0, none⟩) 0 0) ∧ w' = w.alloc (.cells #[] el)
theorem ownSl_nil (w : World) (F : Nat → Prop) (t : Ty) {v : Value} (h : NodeOwn w F t [] v fun _ _ => v) : OwnSl w F t [] v := by
  refine ⟨fun _ => v, rfl, fun p s hs => ?_, fun p q s s' b hp hq _ _ => ?_⟩
  · cases p with
    | nil => simp only [subR, Option.some.injEq] at hs; subst hs; exact h
    | cons ij p => simp [subR] at hs
  · cases p with
    | nil => cases q with
      | nil => rfl
      | cons ij q => simp [subR] at hq
    | cons ij p => simp [subR] at hp
theorem spec_cloneE {f : Nat} {t : Ty} (h : CloneE P f) {q : List Dt → Option (Bool × List Dt)} (hq : ∀ ds outs, q ds = some (true, outs) → ds = [.d (.sl t) []] ∧ outs = [.d (.sl t) []]) : SpecOk P f (Spec.of [.ro] [false] true q) := by
  refine spec_own1 rfl fun ds outs hqs => ?_
  obtain ⟨rfl, rfl⟩ := hq ds outs hqs
  refine ⟨_, _, rfl, fun w us Mf ROa Fs hA _ _ _ _ _ => ?_⟩
  cases hA with
  | cons h1 hA =>
    cases hA
    obtain ⟨av, h0, hav⟩ := valRd_sl h1
    obtain ⟨a, cap, e1, _, _⟩ := hav [] ⟨t, []⟩ rfl
    rw [h0] at e1
    subst e1
    refine Calls.mono (h a cap w) ?_
    rintro e w' (⟨rfl, rfl⟩ | ⟨el, rfl, rfl⟩)
    · exact ⟨_, fun _ => False, rfl, ⟨rfl, rfl, rfl, Nat.le_refl _, fun _ _ _ => rfl⟩, valOwn_sl (nilOwn _ _ _), fun _ h => h.elim⟩
    · refine ⟨_, fun k => k = w.heap.size, rfl, ⟨rfl, rfl, rfl, by simp, fun b hb _ => heap_alloc_old w _ hb⟩, valOwn_sl (ownSl_nil _ _ _ ?_), fun k hk => ?_⟩
      · exact .inr ⟨w.heap.size, 0, 0, #[], el, rfl, rfl, heap_alloc_new w _, Nat.le_refl _, by simp, fun i y j c h => by simp at h⟩
      · subst hk; exact ⟨.inr (Nat.le_refl _), by simp⟩
/-- A copy: of a list that is not empty as the evaluator has it, of an empty one as above. -/
theorem spec_clone {f : Nat} {q qa qb : List Dt → Option (Bool × List Dt)} (ha : SpecOk P f (Spec.of [.ro] [false] true qa)) (hb : SpecOk P f (Spec.of [.ro] [false] true qb)) (h : ∀ ds outs, q ds = some (true, outs) → qa ds = some (true, outs) ∨ qb ds = some (true, outs)) :
    SpecOk P f (Spec.of [.ro] [false] true q) :=
  spec_part fun ds outs hq => (h ds outs hq).elim (fun h => ⟨qa, ha, h⟩) fun h => ⟨qb, hb, h⟩
end Go.Gm

/- Plain functions: what is to be looked at, taken and added. -/
namespace Go.Gm
open Go

theorem limLe {α : Type} {xs : List α} (h : xs.length ≤ 1048576) : Nat.ble xs.length LIM = true := Nat.ble_eq_true_of_le (by have : (LIM : Nat) = 4294967296 := rfl; omega)
theorem limLe1 {α : Type} {xs : List α} (h : xs.length ≤ 1048576) : Nat.ble (xs.length + 1) LIM = true := Nat.ble_eq_true_of_le (by have : (LIM : Nat) = 4294967296 := rfl; omega)
end Go.Gm

/- Plain laws: marks of structs, list by list; how many there are. Printed by mkp14.py of this session. -/
namespace Go.Gm
open Go

theorem ct_of {α : Type} {f : Int → α → α × Int} {c : α → Nat} (hc : ∀ k x, (f k x).2 = k + (c x : Nat)) (hi : ∀ k x, f k (f k x).1 = f k x) (k : Int) (x : α) : c (f k x).1 = c x := by
  have h1 := hc k (f k x).1
  rw [hi, hc] at h1; omega
end Go.Gm

/- Plain functions and laws: marks of trees. Printed by mkp17.py of this session. -/
namespace Go.Gm
open Go

theorem mkL_ctm {α : Type} {f : Int → α → α × Int} {c : α → Nat} : ∀ (k : Int) (xs : List α), (∀ x ∈ xs, ∀ k, (f k x).2 = k + (c x : Nat)) → (mkL f k xs).2 = k + (ctL c xs : Nat)
  | k, [], _ => by simp [mkL, ctL]
  | k, x :: xs, h => by
    simp only [mkL]
    rw [mkL_ctm _ xs fun y hy => h y (by simp [hy]), h x (by simp), ctL_cons]; omega
theorem mkL_idemm {α : Type} {f : Int → α → α × Int} : ∀ (k : Int) (xs : List α), (∀ x ∈ xs, ∀ k, f k (f k x).1 = f k x) → mkL f k (mkL f k xs).1 = mkL f k xs
  | _, [], _ => rfl
  | k, x :: xs, h => by
    simp only [mkL]
    rw [h x (by simp), mkL_idemm _ xs fun y hy => h y (by simp [hy])]
theorem loop_markM {α R : Type} {F : Nat → Int → Int → List α → Option R} {f : Int → α → α × Int} {c : α → Nat} {good : Int → List α → Option R} {n : Nat} (Pm : α → Prop) (hc : ∀ k x, (f k x).2 = k + (c x : Nat))
    (hs : ∀ (m : Nat) (k : Int) (j : Nat) (l : List α) (x : α), l[j]? = some x → Pm x → l.length = n → 0 ≤ k → k + (c x : Nat) ≤ 4611686018427387904 → F (m + 1) k (j : Int) l = F m (f k x).2 ((j : Int) + 1) (l.set j (f k x).1))
    (he : ∀ (m : Nat) (k : Int) (l : List α), l.length = n → F (m + 1) k (n : Int) l = good k l) :
    ∀ (rest : List α) (m : Nat) (k : Int) (pre : List α), (∀ x ∈ rest, Pm x) → pre.length + rest.length = n → rest.length < m → 0 ≤ k → k + (ctL c rest : Nat) ≤ 4611686018427387904 → F m k (pre.length : Int) (pre ++ rest) = good (mkL f k rest).2 (pre ++ (mkL f k rest).1)
  | [], m, k, pre, _, hn, hm, _, _ => by
    obtain ⟨m, rfl⟩ : ∃ m', m = m' + 1 := ⟨m - 1, by omega⟩
    simp only [List.append_nil, mkL]
    have e : pre.length = n := by simpa using hn
    rw [e]; exact he m k pre e
  | x :: xs, m, k, pre, hP, hn, hm, h0, hB => by
    obtain ⟨m, rfl⟩ : ∃ m', m = m' + 1 := ⟨m - 1, by omega⟩
    rw [ctL_cons] at hB
    simp only [List.length_cons] at hn hm
    rw [hs m k pre.length (pre ++ x :: xs) x (by simp) (hP x (by simp)) (by simp; omega) h0 (by omega)]
    have e : (pre ++ x :: xs).set pre.length (f k x).1 = (pre ++ [(f k x).1]) ++ xs := by
      rw [List.set_append_right _ _ (Nat.le_refl _), Nat.sub_self]; simp
    have := loop_markM Pm hc hs he xs m (f k x).2 (pre ++ [(f k x).1]) (fun y hy => hP y (by simp [hy])) (by simp; omega) (by omega) (by rw [hc]; omega) (by rw [hc]; omega)
    rw [e]
    simp only [List.length_append, List.length_cons, List.length_nil] at this
    rw [show ((pre.length : Int) + 1) = ((pre.length + (0 + 1) : Nat) : Int) by omega, this]
    simp only [mkL, List.append_assoc, List.cons_append, List.nil_append]

theorem ctL_lem {α : Type} {c s : α → Nat} : ∀ xs : List α, (∀ x ∈ xs, c x ≤ 64 * s x + 64) → ctL c xs ≤ 64 * szL s xs
  | [], _ => by simp [ctL]
  | x :: xs, h => by
    have := ctL_lem xs fun y hy => h y (by simp [hy])
    have h1 := h x (by simp)
    have : szL s (x :: xs) = szL s xs + s x + 1 := by simp only [szL, List.length_cons, List.map_cons, List.sum_cons]; omega
    rw [ctL_cons]; omega
mutual
noncomputable def mkN_node : NodeT → Int → NodeT × Int
  | ⟨kind, n, s, keys, kids⟩, k => (⟨k, k + 1, mkT (k + 1 + 1), (mkL mk_str (k + 1 + 1 + 1) keys).1, (mkA_node kids ((mkL mk_str (k + 1 + 1 + 1) keys).2)).1⟩, (mkA_node kids ((mkL mk_str (k + 1 + 1 + 1) keys).2)).2)
noncomputable def mkA_node : List NodeT → Int → List NodeT × Int
  | [], k => ([], k)
  | x :: xs, k => ((mkN_node x k).1 :: (mkA_node xs (mkN_node x k).2).1, (mkA_node xs (mkN_node x k).2).2)
end
noncomputable def mk_node (k : Int) (x : NodeT) : NodeT × Int := mkN_node x k
theorem mkA_node_eq : ∀ (xs : List NodeT) (k : Int), mkA_node xs k = mkL mk_node k xs
  | [], k => by simp [mkA_node, mkL]
  | x :: xs, k => by rw [mkA_node, mkA_node_eq xs]; rfl
theorem mk_node_def (k : Int) (x : NodeT) : mk_node k x = (⟨k, k + 1, mkT (k + 1 + 1), (mkL mk_str (k + 1 + 1 + 1) x.keys).1, (mkL mk_node ((mkL mk_str (k + 1 + 1 + 1) x.keys).2) x.kids).1⟩, (mkL mk_node ((mkL mk_str (k + 1 + 1 + 1) x.keys).2) x.kids).2) := by
  cases x; refine Eq.trans (b := mkN_node _ k) rfl ?_; rw [mkN_node]; simp only [mkA_node_eq]
mutual
def ct_node : NodeT → Nat
  | ⟨_, _, _, keys, kids⟩ => 3 + ctL ct_str keys + ctA_node kids
def ctA_node : List NodeT → Nat
  | [] => 0
  | x :: xs => ct_node x + ctA_node xs
end
theorem ctA_node_eq : ∀ xs : List NodeT, ctA_node xs = ctL ct_node xs
  | [] => by simp [ctA_node, ctL]
  | x :: xs => by rw [ctA_node, ctA_node_eq xs, ctL_cons]
theorem ct_node_def (x : NodeT) : ct_node x = 3 + ctL ct_str x.keys + ctL ct_node x.kids := by
  cases x; rw [ct_node]; simp only [ctA_node_eq]
theorem mk_node_ct1 (x : NodeT) (k : Int) : (mk_node k x).2 = k + (ct_node x : Nat) := by
  rw [mk_node_def, ct_node_def]
  simp only [mkL_str_ct, mkL_ctm _ x.kids fun y _hy k => mk_node_ct1 y k]
  omega
termination_by nd_node x
decreasing_by exact nd_node_kid _hy
theorem mk_node_ct (k : Int) (x : NodeT) : (mk_node k x).2 = k + (ct_node x : Nat) := mk_node_ct1 x k
theorem mk_node_idem1 (x : NodeT) (k : Int) : mk_node k (mk_node k x).1 = mk_node k x := by
  rw [mk_node_def k x, mk_node_def]
  simp only [mkL_idem mk_str_idem, mkL_idemm _ x.kids fun y _hy k => mk_node_idem1 y k]
termination_by nd_node x
decreasing_by exact nd_node_kid _hy
theorem mk_node_idem (k : Int) (x : NodeT) : mk_node k (mk_node k x).1 = mk_node k x := mk_node_idem1 x k
theorem mkL_node_ct (k : Int) (xs : List NodeT) : (mkL mk_node k xs).2 = k + (ctL ct_node xs : Nat) := mkL_ct mk_node_ct k xs
theorem ct_node_pos (x : NodeT) : 1 ≤ ct_node x := by rw [ct_node_def]; omega
noncomputable def mks_node (k : Int) (x : NodeT) : NodeT × Int := (⟨x.kind, x.n, x.s, (mkL mk_str k x.keys).1, (mkL mk_node ((mkL mk_str k x.keys).2) x.kids).1⟩, (mkL mk_node ((mkL mk_str k x.keys).2) x.kids).2)
def cts_node (x : NodeT) : Nat := ctL ct_str x.keys + ctL ct_node x.kids
theorem mks_node_ct (k : Int) (x : NodeT) : (mks_node k x).2 = k + (cts_node x : Nat) := by
  simp only [mks_node, cts_node, mkL_node_ct, mkL_str_ct]; omega
theorem mks_node_idem (k : Int) (x : NodeT) : mks_node k (mks_node k x).1 = mks_node k x := by
  simp only [mks_node, mkL_idem mk_node_idem, mkL_idem mk_str_idem]
noncomputable def hds_node (k : Int) (x : NodeT) : Int := cond (eqD x (mks_node k x).1) (mks_node k x).2 (-1)
theorem hds_node_marked (k : Int) (x : NodeT) : hds_node k (mks_node k x).1 = (mks_node k x).2 := by
  unfold hds_node; rw [mks_node_idem, eqD_self]; rfl
theorem hds_node_mk (k : Int) (kind : Int) (n : Int) (s : ByteArray) (keys : List ByteArray) (kids : List NodeT) : hds_node k (⟨kind, n, s, (mkL mk_str k keys).1, (mkL mk_node ((mkL mk_str k keys).2) kids).1⟩ : NodeT) = (mkL mk_node ((mkL mk_str k keys).2) kids).2 := hds_node_marked k (⟨kind, n, s, keys, kids⟩ : NodeT)
theorem cts_node_mk (k : Int) (kind : Int) (n : Int) (s : ByteArray) (keys : List ByteArray) (kids : List NodeT) : cts_node (⟨kind, n, s, (mkL mk_str k keys).1, (mkL mk_node ((mkL mk_str k keys).2) kids).1⟩ : NodeT) = cts_node (⟨kind, n, s, keys, kids⟩ : NodeT) := ct_of mks_node_ct mks_node_idem k (⟨kind, n, s, keys, kids⟩ : NodeT)
theorem ct_node_sz (x : NodeT) : ct_node x ≤ 64 * szN_node x + 64 := by
  rw [ct_node_def, szN_node_def]
  have hk : ctL ct_node x.kids ≤ 64 * szL szN_node x.kids := ctL_lem x.kids fun y _hy => ct_node_sz y
  have h_keys := ctL_le (c := ct_str) (s := ByteArray.size) (fun _ => by unfold ct_str; omega) x.keys
  omega
termination_by nd_node x
decreasing_by exact nd_node_kid _hy
theorem cts_node_sz (x : NodeT) : cts_node x ≤ 64 * szN_node x + 64 := by
  have := ct_node_sz x
  rw [ct_node_def] at this
  unfold cts_node; omega
def mmL_node (xs : List NodeT) (_ : Int) : Nat := ndL nd_node xs
mutual
noncomputable def mkN_rule : RuleT → Int → RuleT × Int
  | ⟨kind, keys, kids, need, low, high⟩, k => (⟨k, (mkL mk_str (k + 1) keys).1, (mkA_rule kids ((mkL mk_str (k + 1) keys).2)).1, (mkL mk_bool ((mkA_rule kids ((mkL mk_str (k + 1) keys).2)).2) need).1, (mkL mk_bool ((mkA_rule kids ((mkL mk_str (k + 1) keys).2)).2) need).2, (mkL mk_bool ((mkA_rule kids ((mkL mk_str (k + 1) keys).2)).2) need).2 + 1⟩, (mkL mk_bool ((mkA_rule kids ((mkL mk_str (k + 1) keys).2)).2) need).2 + 1 + 1)
noncomputable def mkA_rule : List RuleT → Int → List RuleT × Int
  | [], k => ([], k)
  | x :: xs, k => ((mkN_rule x k).1 :: (mkA_rule xs (mkN_rule x k).2).1, (mkA_rule xs (mkN_rule x k).2).2)
end
noncomputable def mk_rule (k : Int) (x : RuleT) : RuleT × Int := mkN_rule x k
theorem mkA_rule_eq : ∀ (xs : List RuleT) (k : Int), mkA_rule xs k = mkL mk_rule k xs
  | [], k => by simp [mkA_rule, mkL]
  | x :: xs, k => by rw [mkA_rule, mkA_rule_eq xs]; rfl
theorem mk_rule_def (k : Int) (x : RuleT) : mk_rule k x = (⟨k, (mkL mk_str (k + 1) x.keys).1, (mkL mk_rule ((mkL mk_str (k + 1) x.keys).2) x.kids).1, (mkL mk_bool ((mkL mk_rule ((mkL mk_str (k + 1) x.keys).2) x.kids).2) x.need).1, (mkL mk_bool ((mkL mk_rule ((mkL mk_str (k + 1) x.keys).2) x.kids).2) x.need).2, (mkL mk_bool ((mkL mk_rule ((mkL mk_str (k + 1) x.keys).2) x.kids).2) x.need).2 + 1⟩, (mkL mk_bool ((mkL mk_rule ((mkL mk_str (k + 1) x.keys).2) x.kids).2) x.need).2 + 1 + 1) := by
  cases x; refine Eq.trans (b := mkN_rule _ k) rfl ?_; rw [mkN_rule]; simp only [mkA_rule_eq]
mutual
def ct_rule : RuleT → Nat
  | ⟨_, keys, kids, need, _, _⟩ => 3 + ctL ct_str keys + ctA_rule kids + ctL ct_bool need
def ctA_rule : List RuleT → Nat
  | [] => 0
  | x :: xs => ct_rule x + ctA_rule xs
end
theorem ctA_rule_eq : ∀ xs : List RuleT, ctA_rule xs = ctL ct_rule xs
  | [] => by simp [ctA_rule, ctL]
  | x :: xs => by rw [ctA_rule, ctA_rule_eq xs, ctL_cons]
theorem ct_rule_def (x : RuleT) : ct_rule x = 3 + ctL ct_str x.keys + ctL ct_rule x.kids + ctL ct_bool x.need := by
  cases x; rw [ct_rule]; simp only [ctA_rule_eq]
theorem mk_rule_ct1 (x : RuleT) (k : Int) : (mk_rule k x).2 = k + (ct_rule x : Nat) := by
  rw [mk_rule_def, ct_rule_def]
  simp only [mkL_bool_ct, mkL_str_ct, mkL_ctm _ x.kids fun y _hy k => mk_rule_ct1 y k]
  omega
termination_by nd_rule x
decreasing_by exact nd_rule_kid _hy
theorem mk_rule_ct (k : Int) (x : RuleT) : (mk_rule k x).2 = k + (ct_rule x : Nat) := mk_rule_ct1 x k
theorem mkL_rule_ct (k : Int) (xs : List RuleT) : (mkL mk_rule k xs).2 = k + (ctL ct_rule xs : Nat) := mkL_ct mk_rule_ct k xs
theorem ct_rule_pos (x : RuleT) : 1 ≤ ct_rule x := by rw [ct_rule_def]; omega
def cts_rule (x : RuleT) : Nat := ctL ct_str x.keys + ctL ct_rule x.kids + ctL ct_bool x.need
theorem ct_rule_sz (x : RuleT) : ct_rule x ≤ 64 * szN_rule x + 64 := by
  rw [ct_rule_def, szN_rule_def]
  have hk : ctL ct_rule x.kids ≤ 64 * szL szN_rule x.kids := ctL_lem x.kids fun y _hy => ct_rule_sz y
  have h_keys := ctL_le (c := ct_str) (s := ByteArray.size) (fun _ => by unfold ct_str; omega) x.keys
  have h_need := ctL_le (c := ct_bool) (s := (fun _ => 0)) (fun _ => by unfold ct_bool; omega) x.need
  omega
termination_by nd_rule x
decreasing_by exact nd_rule_kid _hy
theorem cts_rule_sz (x : RuleT) : cts_rule x ≤ 64 * szN_rule x + 64 := by
  have := ct_rule_sz x
  rw [ct_rule_def] at this
  unfold cts_rule; omega
def mmL_rule (xs : List RuleT) (_ : Int) : Nat := ndL nd_rule xs
end Go.Gm

/- slices.Delete: from what it does with cells to a contract. -/
namespace Go.Gm
open Go

variable {P : Program} {E : Env} {w w' : World}

/-- Of an own list some elements, each once, in whatever order. -/
theorem TreeOwn.pick {F : Nat → Prop} {t : Ty} {xs ys : List (El t)} {av : Path → Value} (h : TreeOwn w F t xs av) (σ : Nat → Nat) (hσ : ∀ i y, ys[i]? = some y → xs[σ i]? = some y) (hinj : ∀ i i', σ i = σ i' → i = i')
    (hsame : SameBut (fun k => blk (av []) = some k) w w') {v : Value} (hblk : ∀ k, blk v = some k → blk (av []) = some k) (hn : NodeOwn w' F t ys v fun i j => av [(σ i, j)]) : OwnSl w' F t ys v := by
  have hsub : ∀ i j p s, subR t ys ((i, j) :: p) = some s → subR t xs ((σ i, j) :: p) = some s := by
    intro i j p s hs
    simp only [subR] at hs ⊢
    split at hs
    · rename_i y hy
      rw [hσ i y hy]; exact hs
    · cases hs
  refine ⟨fun p => match p with | [] => v | (i, j) :: p => av ((σ i, j) :: p), rfl, fun p s hs => ?_, fun p q s s' k hp hq hk hk' => ?_⟩
  · cases p with
    | nil => simp only [subR, Option.some.injEq] at hs; subst hs; exact hn
    | cons x p =>
      obtain ⟨i, j⟩ := x
      have hs' := hsub i j p s hs
      exact (h.1 _ s hs').here hsame fun k hk e => by have := h.2 _ [] s ⟨t, xs⟩ k hs' rfl hk e; cases this
  · cases p with
    | nil => cases q with
      | nil => rfl
      | cons y q =>
        obtain ⟨i, j⟩ := y
        have := h.2 [] _ ⟨t, xs⟩ s' k rfl (hsub i j q s' hq) (hblk k hk) hk'
        cases this
    | cons x p =>
      obtain ⟨i, j⟩ := x
      cases q with
      | nil =>
        have := h.2 _ [] s ⟨t, xs⟩ k (hsub i j p s hp) rfl hk (hblk k hk')
        cases this
      | cons y q =>
        obtain ⟨i', j'⟩ := y
        have := h.2 _ _ s s' k (hsub i j p s hp) (hsub i' j' q s' hq) hk hk'
        simp only [List.cons.injEq, Prod.mk.injEq] at this
        obtain ⟨⟨h1, rfl⟩, rfl⟩ := this
        rw [hinj _ _ h1]

end Go.Gm

/- Lists with some elements taken out. -/
namespace Go.Gm
open Go
end Go.Gm

/- Plain functions: orders. -/
namespace Go.Gm
open Go

def hasPre (a b : ByteArray) : Bool := decide ((a.size : Int) ≥ (b.size : Int)) && sEq (a.extract 0 b.size) b
def ours (a : ByteArray) : Bool := hasPre a (bs [113,117,97,121,47])
def paceOk (p : PaceT) : Bool := inR p.up 0 1000 && (inR p.down 0 1000 && (inR p.upSpan 0 3600 && inR p.downSpan 0 3600))
def metricOk (m : MetricT) : Bool := nameOk m.name && (inR m.kind 1 3 && inR m.goal 1 1000000)
noncomputable def noteC (xs : List NoteT) (j : Nat) : Bool :=
  plainOk (atI (t := .note) xs j).key && (!(hasPre (atI (t := .note) xs j).key (bs [113,117,97,121,47])) && (textOk (atI (t := .note) xs j).text && (!(decide (((atI (t := .note) xs j).text.size : Int) > 40)) &&
    (!(decide ((j : Int) > 0)) || sLt (atI (t := .note) xs (j - 1)).key (atI (t := .note) xs j).key))))
noncomputable def notesOk (xs : List NoteT) : Bool := allN (noteC xs) 0 xs.length && decide ((xs.length : Int) ≤ 4)
def metC (xs : List MetricT) (j : Nat) : Bool := metricOk (atI (t := .metric) xs j) && (!(decide ((j : Int) > 0)) || sLt (atI (t := .metric) xs (j - 1)).name (atI (t := .metric) xs j).name)
def metsOk (xs : List MetricT) : Bool := allN (metC xs) 0 xs.length && decide ((xs.length : Int) ≤ 4)
noncomputable def orderOk (o : OrderT) : Bool :=
  nameOk o.name && (nameOk o.target && (inR o.low 1 o.high && (decide (o.high ≤ 1000) && (metsOk o.metrics && (paceOk o.pace && notesOk o.notes)))))
end Go.Gm

/- Plain functions: what has happened. -/
namespace Go.Gm
open Go

noncomputable def eventC (h : HistT) (j : Nat) : Bool :=
  ((atI (t := .event) h.list j).seq == h.base + 1 + (j : Int)) && (inR (atI (t := .event) h.list j).kind 1 2 && (orderOk (atI (t := .event) h.list j).item.order && inR (atI (t := .event) h.list j).item.ver 1 100000))
noncomputable def histOk (h : HistT) : Bool := inR h.base 0 100000 && (!(decide ((h.list.length : Int) > 60)) && allN (eventC h) 0 h.list.length)
noncomputable def since (h : HistT) (n : Int) : List EventT × Bool := cond (histOk h && inR n h.base (h.base + (h.list.length : Int))) (h.list.drop (n - h.base).toNat, true) ([], false)
theorem foldl_snoc {α : Type} (xs out : List α) : xs.foldl (fun o x => o ++ [x]) out = out ++ xs := by
  induction xs generalizing out with
  | nil => simp
  | cons x r ih => rw [List.foldl_cons, ih]; simp
end Go.Gm

/- Plain functions: names taken out of lists; what was looked at. -/
namespace Go.Gm
open Go

end Go.Gm

/- Plain functions: numbers that are read, ways into trees. -/
namespace Go.Gm
open Go

theorem plc_bd {p : Nat → Bool} {n : Nat} : -1 ≤ plc (firstN p 0 n) ∧ plc (firstN p 0 n) < (n : Int) ∨ plc (firstN p 0 n) = -1 := by
  cases h : firstN p 0 n with
  | none => exact .inr rfl
  | some i =>
    obtain ⟨_, h2, _⟩ := firstN_some h
    exact .inl (by show -1 ≤ (i : Int) ∧ (i : Int) < n; omega)
theorem sm_kid {t x : NodeT} (hs : sm_node t = true) (h : x ∈ t.kids) : sm_node x = true := by
  rw [sm_node_def] at hs
  simp only [Bool.and_eq_true] at hs
  exact List.all_eq_true.1 (smL_all hs.2.2.2.2) x h
end Go.Gm

/- Plain functions: all ways into a tree. -/
namespace Go.Gm
open Go

end Go.Gm

/- Plain functions: cut out of a tree. -/
namespace Go.Gm
open Go

theorem szL_cons {α : Type} (f : α → Nat) (x : α) (ys : List α) : szL f (x :: ys) = 1 + f x + szL f ys := by
  simp only [szL, List.length_cons, List.map_cons, List.sum_cons]; omega
def isMapN (t : NodeT) : Bool := cond (t.kind == (5 : Int)) ((t.keys.length : Int) == (t.kids.length : Int)) false
theorem isMapN_eq {t : NodeT} (h : isMapN t = true) : (t.kind == (5 : Int)) = true ∧ t.keys.length = t.kids.length := by
  unfold isMapN at h
  cases h5 : t.kind == (5 : Int)
  · rw [h5] at h; cases h
  · rw [h5] at h
    have := eq_of_beq (show ((t.keys.length : Int) == (t.kids.length : Int)) = true from h)
    exact ⟨rfl, by omega⟩
/-! ### small -/
theorem sm_parts {t : NodeT} (h : sm_node t = true) : okI t.kind = true ∧ okI t.n = true ∧ smStr t.s = true ∧ smL smStr t.keys = true ∧ smL sm_node t.kids = true := by
  rw [sm_node_def] at h
  simpa only [Bool.and_eq_true] using h
end Go.Gm
namespace Go.Gm
open Go
end Go.Gm

/- Plain functions: pruned by a rule. -/
namespace Go.Gm
open Go

def ruleAt (r : RuleT) (s : ByteArray) : Int := idxS r.keys s
def noRule : RuleT := ⟨(0 : Int), ([] : List ByteArray), ([] : List RuleT), ([] : List Bool), (0 : Int), (0 : Int)⟩
def keyRule (r : RuleT) (s : ByteArray) : RuleT × Bool := cond (decide (ruleAt r s < (0 : Int))) (noRule, false) (atI (t := .rule) r.kids (Int.toNat (ruleAt r s)), true)
theorem ruleAt_first (r : RuleT) (s : ByteArray) : ruleAt r s = plc (firstN (fun j => sEq (atI (t := .str) r.keys j) s) 0 r.keys.length) := by
  unfold ruleAt idxS findI
  congr 2
  funext j
  exact sEq_comm _ _
theorem ruleAt_bd {r : RuleT} {s : ByteArray} (h : ¬ ruleAt r s < 0) : ∃ i : Nat, ruleAt r s = (i : Int) ∧ i < r.keys.length := by
  rw [ruleAt_first] at h ⊢
  rcases plc_bd (p := fun j => sEq (atI (t := .str) r.keys j) s) (n := r.keys.length) with h1 | h1
  · exact ⟨Int.toNat (plc (firstN (fun j => sEq (atI (t := .str) r.keys j) s) 0 r.keys.length)), by omega, by omega⟩
  · omega
/-- A rule whose lists are as long as pruning wants them. -/
def rHead (r : RuleT) : Bool := cond (r.kind == (5 : Int)) ((r.keys.length : Int) == (r.kids.length : Int)) (cond (r.kind == (4 : Int)) (decide ((1 : Int) ≤ (r.kids.length : Int))) true)
mutual
def rFit : RuleT → Bool
  | ⟨kind, keys, kids, need, low, high⟩ => rHead ⟨kind, keys, kids, need, low, high⟩ && rFits kids
def rFits : List RuleT → Bool
  | [] => true
  | x :: xs => rFit x && rFits xs
end
theorem rFits_eq : ∀ xs : List RuleT, rFits xs = xs.all rFit
  | [] => by simp [rFits]
  | x :: xs => by rw [rFits, rFits_eq xs, List.all_cons]
theorem rFit_def (r : RuleT) : rFit r = (rHead r && r.kids.all rFit) := by cases r; rw [rFit, rFits_eq]
theorem ruleRight_fit (r : RuleT) (d : Int) (h : ruleRight r d = true) : rFit r = true := by
  rw [ruleRight_def] at h
  simp only [Bool.and_eq_true] at h
  obtain ⟨_, hk, hs⟩ := h
  rw [rFit_def, Bool.and_eq_true, List.all_eq_true]
  refine ⟨?_, fun x _hy => ruleRight_fit x (d - 1) (List.all_eq_true.1 hk x _hy)⟩
  unfold ruleShape at hs
  rw [Bool.and_eq_true] at hs
  have hs := hs.2
  unfold rHead
  cases h5 : r.kind == (5 : Int)
  · rw [h5] at hs
    simp only [cond_false, Bool.and_eq_true] at hs ⊢
    cases h4 : r.kind == (4 : Int)
    · rfl
    · rw [h4] at hs
      have := eq_of_beq hs.2.2
      have hb : bitI true = 1 := rfl
      rw [hb] at this
      simp only [cond_true]
      exact decide_eq_true (by omega)
  · rw [h5] at hs
    simp only [cond_true, Bool.and_eq_true] at hs ⊢
    exact hs.1
termination_by nd_rule r
decreasing_by exact nd_rule_kid _hy

mutual
def prune : NodeT → RuleT → NodeT
  | ⟨kind, n, s, keys, kids⟩, r => cond (isMapN ⟨kind, n, s, keys, kids⟩ && (r.kind == (5 : Int))) ⟨kind, n, s, (pruneM r keys kids).1, (pruneM r keys kids).2⟩
      (cond ((kind == (4 : Int)) && (r.kind == (4 : Int))) ⟨kind, n, s, keys, pruneL (atI (t := .rule) r.kids 0) kids⟩ ⟨kind, n, s, keys, kids⟩)
def pruneL (r : RuleT) : List NodeT → List NodeT
  | [] => []
  | x :: xs => prune x r :: pruneL r xs
def pruneM (r : RuleT) (keys : List ByteArray) : List NodeT → List ByteArray × List NodeT
  | [] => ([], [])
  | x :: xs => cond (decide (ruleAt r (atI (t := .str) keys 0) < (0 : Int))) (pruneM r (keys.drop 1) xs)
      (atI (t := .str) keys 0 :: (pruneM r (keys.drop 1) xs).1, prune x (atI (t := .rule) r.kids (Int.toNat (ruleAt r (atI (t := .str) keys 0)))) :: (pruneM r (keys.drop 1) xs).2)
end
theorem prune_def (t : NodeT) (r : RuleT) : prune t r = cond (isMapN t && (r.kind == (5 : Int))) ⟨t.kind, t.n, t.s, (pruneM r t.keys t.kids).1, (pruneM r t.keys t.kids).2⟩
    (cond ((t.kind == (4 : Int)) && (r.kind == (4 : Int))) ⟨t.kind, t.n, t.s, t.keys, pruneL (atI (t := .rule) r.kids 0) t.kids⟩ t) := by
  cases t; rw [prune]
theorem pruneL_eq (r : RuleT) : ∀ xs : List NodeT, pruneL r xs = xs.map fun x => prune x r
  | [] => by rw [pruneL]; rfl
  | x :: xs => by rw [pruneL, pruneL_eq r xs, List.map_cons]
theorem isMapN_not4 {t : NodeT} (h : isMapN t = true) : (t.kind == (4 : Int)) = false := by
  have := eq_of_beq (isMapN_eq h).1
  rw [this]; rfl

/-! ### loops -/
theorem loop_setmap {α R : Type} {xs : List α} {f : α → α} {F : Nat → Nat → List α → Option R} {good : List α → Option R}
    (hs : ∀ m (j : Nat) vr x, xs[j]? = some x → vr.length = xs.length → vr[j]? = some x → F (m + 1) j vr = F m (j + 1) (vr.set j (f x))) (he : ∀ m vr, vr.length = xs.length → F (m + 1) xs.length vr = good vr) :
    ∀ (d j m : Nat), j + d = xs.length → d < m → F m j ((xs.take j).map f ++ xs.drop j) = good (xs.map f) := by
  intro d
  induction d with
  | zero =>
    intro j m hj hm
    obtain ⟨m, rfl⟩ : ∃ m', m = m' + 1 := ⟨m - 1, by omega⟩
    have : j = xs.length := by omega
    subst this
    rw [List.drop_length, List.append_nil, List.take_length]
    exact he m _ (by simp)
  | succ d ih =>
    intro j m hj hm
    obtain ⟨m, rfl⟩ : ∃ m', m = m' + 1 := ⟨m - 1, by omega⟩
    obtain ⟨x, hx, hd⟩ := drop_get (show j < xs.length by omega)
    have hlen : ((xs.take j).map f).length = j := by simp; omega
    rw [hs m j _ x hx (by simp; omega) (by rw [List.getElem?_append_right (by omega), hlen, Nat.sub_self, hd]; rfl)]
    rw [← ih (j + 1) m (by omega) (by omega)]
    congr 1
    rw [hd, List.set_append_right _ _ (by omega), hlen, Nat.sub_self, List.set_cons_zero, List.take_add_one, hx]
    simp
theorem loop_prune {R : Type} {r : RuleT} {keys : List ByteArray} {kids : List NodeT} (hl : keys.length = kids.length) {F : Nat → Nat → List ByteArray → List NodeT → Option R} {good : List ByteArray → List NodeT → Option R}
    (hs : ∀ m (j : Nat) a b key x, keys[j]? = some key → kids[j]? = some x → a.length ≤ j → b.length ≤ j → F (m + 1) j a b = cond (decide (ruleAt r key < (0 : Int))) (F m (j + 1) a b) (F m (j + 1) (a ++ [key]) (b ++ [prune x (atI (t := .rule) r.kids (Int.toNat (ruleAt r key)))])))
    (he : ∀ m a b, F (m + 1) keys.length a b = good a b) :
    ∀ (d j m : Nat) (a : List ByteArray) (b : List NodeT), j + d = keys.length → d < m → a.length ≤ j → b.length ≤ j → F m j a b = good (a ++ (pruneM r (keys.drop j) (kids.drop j)).1) (b ++ (pruneM r (keys.drop j) (kids.drop j)).2) := by
  intro d
  induction d with
  | zero =>
    intro j m a b hj hm _ _
    obtain ⟨m, rfl⟩ : ∃ m', m = m' + 1 := ⟨m - 1, by omega⟩
    have : j = keys.length := by omega
    subst this
    rw [he, hl, List.drop_length, pruneM, List.append_nil, List.append_nil]
  | succ d ih =>
    intro j m a b hj hm ha hb
    obtain ⟨m, rfl⟩ : ∃ m', m = m' + 1 := ⟨m - 1, by omega⟩
    obtain ⟨key, hk, hkd⟩ := drop_get (show j < keys.length by omega)
    obtain ⟨x, hx, hd⟩ := drop_get (show j < kids.length by omega)
    have e0 : atI (t := .str) (key :: keys.drop (j + 1)) 0 = key := rfl
    rw [hs m j a b key x hk hx ha hb, hd, hkd, pruneM, e0]
    cases decide (ruleAt r key < (0 : Int))
    · simp only [cond_false]
      rw [ih (j + 1) m _ _ (by omega) (by omega) (by simp; omega) (by simp; omega)]
      simp
    · simp only [cond_true]
      rw [ih (j + 1) m _ _ (by omega) (by omega) (by omega) (by omega)]
      rfl

/-! ### small -/
theorem pruneM_ok (r : RuleT) : ∀ (kids : List NodeT) (keys : List ByteArray), (∀ x ∈ kids, ∀ q, sm_node (prune x q) = true ∧ szN_node (prune x q) ≤ szN_node x) → keys.length = kids.length → keys.all smStr = true →
    (pruneM r keys kids).1.length ≤ keys.length ∧ (pruneM r keys kids).2.length ≤ kids.length ∧ (pruneM r keys kids).1.all smStr = true ∧ (pruneM r keys kids).2.all sm_node = true ∧
      szL ByteArray.size (pruneM r keys kids).1 ≤ szL ByteArray.size keys ∧ szL szN_node (pruneM r keys kids).2 ≤ szL szN_node kids
  | [], keys, _, _, _ => by simp [pruneM, szL]
  | x :: xs, keys, h, hl, ha => by
    obtain ⟨key, keys, rfl⟩ : ∃ k r, keys = k :: r := by
      cases keys with
      | nil => simp at hl
      | cons k r => exact ⟨k, r, rfl⟩
    have e0 : atI (t := .str) (key :: keys) 0 = key := rfl
    rw [List.all_cons, Bool.and_eq_true] at ha
    obtain ⟨i1, i2, i3, i4, i5, i6⟩ := pruneM_ok r xs keys (fun y hy => h y (by simp [hy])) (by simpa using hl) ha.2
    rw [pruneM, e0, List.drop_one, List.tail_cons]
    cases decide (ruleAt r key < (0 : Int))
    · obtain ⟨h1, h2⟩ := h x (by simp) (atI (t := .rule) r.kids (Int.toNat (ruleAt r key)))
      simp only [cond_false, List.length_cons, List.all_cons, Bool.and_eq_true, szL_cons]
      exact ⟨by omega, by omega, ⟨ha.1, i3⟩, ⟨h1, i4⟩, by omega, by omega⟩
    · simp only [cond_true, List.length_cons, szL_cons]
      exact ⟨by omega, by omega, i3, i4, by omega, by omega⟩
theorem prune_ok (t : NodeT) (r : RuleT) (h : sm_node t = true) : sm_node (prune t r) = true ∧ szN_node (prune t r) ≤ szN_node t := by
  have ih : ∀ x ∈ t.kids, ∀ q, sm_node (prune x q) = true ∧ szN_node (prune x q) ≤ szN_node x := fun x _hy q => prune_ok x q (sm_kid h _hy)
  obtain ⟨h1, h2, h3, h4, h5⟩ := sm_parts h
  rw [prune_def]
  cases hm : isMapN t && (r.kind == (5 : Int))
  · simp only [cond_false]
    cases (t.kind == (4 : Int)) && (r.kind == (4 : Int))
    · exact ⟨h, Nat.le_refl _⟩
    · simp only [cond_true]
      have hl := smL_len h5
      have e : ∀ l : List NodeT, (∀ x ∈ l, ∀ q, sm_node (prune x q) = true ∧ szN_node (prune x q) ≤ szN_node x) → (pruneL (atI (t := .rule) r.kids 0) l).all sm_node = true ∧ szL szN_node (pruneL (atI (t := .rule) r.kids 0) l) ≤ szL szN_node l := by
        intro l
        induction l with
        | nil => intro _; rw [pruneL]; exact ⟨rfl, Nat.le_refl _⟩
        | cons x xs ihl =>
          intro hx
          obtain ⟨a1, a2⟩ := hx x (by simp) (atI (t := .rule) r.kids 0)
          obtain ⟨b1, b2⟩ := ihl fun y hy => hx y (by simp [hy])
          rw [pruneL, List.all_cons, a1, b1, szL_cons, szL_cons]
          exact ⟨rfl, by omega⟩
      obtain ⟨e1, e2⟩ := e t.kids ih
      constructor
      · rw [sm_node_def]
        simp only [Bool.and_eq_true, smL]
        exact ⟨h1, h2, h3, by simpa only [smL, Bool.and_eq_true] using h4, Nat.ble_eq_true_of_le (by rw [pruneL_eq, List.length_map]; exact hl), e1⟩
      · rw [szN_node_def, szN_node_def t]; simp only; omega
  · rw [Bool.and_eq_true] at hm
    have hlen := (isMapN_eq hm.1).2
    obtain ⟨i1, i2, i3, i4, i5, i6⟩ := pruneM_ok r t.kids t.keys ih hlen (smL_all h4)
    have l1 := smL_len h4
    have l2 := smL_len h5
    simp only [cond_true]
    constructor
    · rw [sm_node_def]
      simp only [Bool.and_eq_true, smL]
      exact ⟨h1, h2, h3, ⟨Nat.ble_eq_true_of_le (by omega), i3⟩, Nat.ble_eq_true_of_le (by omega), i4⟩
    · rw [szN_node_def, szN_node_def t]; simp only; omega
termination_by nd_node t
decreasing_by exact nd_node_kid _hy
def pruneR (t : NodeT) (r : RuleT) : NodeT := cond (ruleOk r) (prune t r) t
theorem pruneR_ok {t : NodeT} {r : RuleT} (h : sm_node t = true) : sm_node (pruneR t r) = true ∧ szN_node (pruneR t r) ≤ szN_node t := by
  unfold pruneR
  cases ruleOk r
  · exact ⟨h, Nat.le_refl _⟩
  · exact prune_ok t r h
def gKR (r : RuleT) (_ : ByteArray) : Bool := sm_rule r && decide ((r.keys.length : Int) ≤ (r.kids.length : Int))
def gPr (t : NodeT) (r : RuleT) : Bool := sm_node t && (sm_rule r && rFit r)
theorem sm_rkid {r x : RuleT} (hs : sm_rule r = true) (h : x ∈ r.kids) : sm_rule x = true := by
  rw [sm_rule_def] at hs
  simp only [Bool.and_eq_true] at hs
  exact List.all_eq_true.1 (smL_all hs.2.2.1) x h
theorem rFit_kid {r x : RuleT} (hs : rFit r = true) (h : x ∈ r.kids) : rFit x = true := by
  rw [rFit_def, Bool.and_eq_true] at hs
  exact List.all_eq_true.1 hs.2 x h
end Go.Gm

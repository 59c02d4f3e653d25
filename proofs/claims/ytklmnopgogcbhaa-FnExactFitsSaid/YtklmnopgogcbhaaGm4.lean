/- The G-machine, part 4: an evaluator of translated code on typed values, and that it is sound. No conditions. -/
import Derived.Test.YtklmnopgogcbhaaGm3
import Derived.Shelf.Strings.OnBuilder
import Derived.Laws.Cover4
/- Plain functions: what is to be looked at. -/
namespace Go.Gm
open Go

def firstN (p : Nat → Bool) : Nat → Nat → Option Nat
  | _, 0 => none
  | j, d + 1 => cond (p j) (some j) (firstN p (j + 1) d)
theorem loop_find {R : Type} {F : Nat → Int → Option R} {n : Nat} {p : Nat → Bool} {hit : Int → Option R} {miss : Option R} (hs : ∀ m j, j < n → F (m + 1) (j : Int) = cond (p j) (hit (j : Int)) (F m ((j + 1 : Nat) : Int)))
    (he : ∀ m, F (m + 1) (n : Int) = miss) : ∀ d j m, j + d = n → d < m → F m (j : Int) = (firstN p j d).elim miss (fun i => hit (i : Int)) := by
  intro d
  induction d with
  | zero =>
    intro j m hj hm
    obtain ⟨m, rfl⟩ : ∃ m', m = m' + 1 := ⟨m - 1, by omega⟩
    have : j = n := by omega
    subst this
    rw [he]; rfl
  | succ d ih =>
    intro j m hj hm
    obtain ⟨m, rfl⟩ : ∃ m', m = m' + 1 := ⟨m - 1, by omega⟩
    rw [hs m j (by omega), ih (j + 1) m (by omega) (by omega)]
    simp only [firstN]
    cases p j <;> rfl
theorem firstN_some {p : Nat → Bool} : ∀ {d j i : Nat}, firstN p j d = some i → j ≤ i ∧ i < j + d ∧ p i = true ∧ ∀ k, j ≤ k → k < i → p k = false
  | 0, _, _, h => by cases h
  | d + 1, j, i, h => by
    simp only [firstN] at h
    cases hp : p j with
    | true => rw [hp] at h; cases h; exact ⟨Nat.le_refl _, by omega, hp, fun k h1 h2 => by omega⟩
    | false =>
      rw [hp] at h
      obtain ⟨h1, h2, h3, h4⟩ := firstN_some h
      refine ⟨by omega, by omega, h3, fun k hk hk' => ?_⟩
      by_cases e : k = j
      · subst e; exact hp
      · exact h4 k (by omega) hk'
theorem firstN_none {p : Nat → Bool} : ∀ {d j : Nat}, firstN p j d = none → ∀ k, j ≤ k → k < j + d → p k = false
  | 0, _, _, k, h1, h2 => by omega
  | d + 1, j, h, k, h1, h2 => by
    simp only [firstN] at h
    cases hp : p j with
    | true => rw [hp] at h; cases h
    | false =>
      rw [hp] at h
      by_cases e : k = j
      · subst e; exact hp
      · exact firstN_none h k (by omega) (by omega)
/-- A place as a number; -1 without one. -/
def plc (o : Option Nat) : Int := o.elim (-1) fun i => (i : Int)

def failEq (f : FailT) (s : ByteArray) : Bool := sEq f.name s
def failO (xs : List FailT) (s : ByteArray) : Option Nat := firstN (fun j => failEq (atI (t := .fail) xs j) s) 0 xs.length
def failAt (xs : List FailT) (s : ByteArray) : Int := plc (failO xs s)
theorem failO_lt {xs : List FailT} {s : ByteArray} {i : Nat} (h : failO xs s = some i) : i < xs.length := by
  obtain ⟨_, h2, _⟩ := firstN_some h; omega

def minI (a b : Int) : Int := if a < b then a else b
def capN (N : Int) : Int := if 20 < N then 20 else N
def lowN (M : Int) : Int := if M > 1 then M else 1
/-- How long is waited behind so many failures. -/
def waitN (N : Int) : Int := minI (2 ^ Int.toNat (lowN (capN N) - 1)) 300
def waitOf (w : WorkT) (s : ByteArray) : Int := (failO w.fails s).elim 0 fun i => waitN (atI (t := .fail) w.fails i).n
theorem pow_le {e : Nat} (h : e ≤ 19) : (0 : Int) < 2 ^ e ∧ (2 : Int) ^ e ≤ 524288 := by
  have h1 : (2 : Nat) ^ e ≤ 2 ^ 19 := Nat.pow_le_pow_right (by omega) h
  have h2 : 0 < (2 : Nat) ^ e := Nat.two_pow_pos e
  have e1 : ((2 ^ e : Nat) : Int) = (2 : Int) ^ e := by push_cast; rfl
  omega

end Go.Gm

/- Contracts of library functions that are not walked by the evaluator: one plain result, what was there stays. -/
namespace Go.Gm
open Go

variable {w w' : World} {Mf ROa : Nat → Prop}

theorem spec_grow {P : Program} {f : Nat} {modes : List Am} {q : List Dt → Option (Bool × List Dt)} (hm : modes.all Am.reads = true)
    (h : ∀ ds outs, q ds = some (true, outs) → ∃ t x v, outs = [.d t x] ∧ enc t x = [.v v] ∧ isSt t = false ∧ flatB v = true ∧
      ∀ w us ROa Fs, ArgsOk w ROa modes ds us Fs → (∀ k, ROa k → k < w.heap.size) → Calls P f us.toArray w fun e w' => e = .returned v ∧ RowKit.Below w.heap.size w w') : SpecOk P f (Spec.of modes [false] true q) := by
  intro R ds k r hr w us Mf ROa Fs hA hp hFM hRM hRlt hMlt
  obtain ⟨outs, hq, hk⟩ := Spec.of_some hr
  obtain ⟨t, x, v, rfl, he, hs, hf, hc⟩ := h ds outs hq
  refine Calls.mono (hc w us ROa Fs hA hRlt) ?_
  rintro e w' ⟨rfl, hB⟩
  obtain ⟨h1, h2, _⟩ := hA.len
  have hA' : After w' w' Mf ROa (Spec.of modes [false] true q) ds us [.d t x] (.returned v) := After.one rfl rfl hm h1 h2 he hs hf
  obtain ⟨⟨rs, Gs, Bs, e1, hR, hBk, a1, a2, a3, a4, a5, a6, a7⟩, _⟩ := hA'
  refine ⟨_, hk, ⟨⟨rs, Gs, Bs, e1, hR, hBk, a1, fun B hB' k hk => ?_, fun ho => ⟨(a3 ho).1, fun G hG k hk => ?_⟩, fun ho => absurd ho (by simp [Spec.of]), a5, a6, a7⟩, ?_⟩⟩
  · rcases a2 B hB' k hk with h | h
    · exact .inl h
    · exact .inr (Nat.le_trans hB.size h)
  · rcases (a3 ho).2 G hG k hk with h | h
    · exact .inl h
    · exact .inr (Nat.le_trans hB.size h)
  · exact ⟨hB.os, hB.tape, hB.output, hB.size, fun b hb _ => hB.block b hb⟩

theorem rdStrs {xs : List ByteArray} {u : Value} (h : ValRd w ROa (.sl .str) xs u) (hlt : ∀ k, ROa k → k < w.heap.size) :
    (xs = [] ∧ ∃ a c, u = .slice a 0 c) ∨ ∃ b o c, u = .slice (some ⟨b, o, none⟩) xs.length c ∧ xs.length ≤ c ∧ b < w.heap.size ∧ ∀ (j : Nat) x, xs[j]? = some x → w.cell? ⟨b, o + j, none⟩ = some (.string x) := by
  obtain ⟨us, hf, hr⟩ := h
  obtain ⟨e, _⟩ := hf.size rfl
  subst e
  obtain ⟨z, hz, hc⟩ := hr.2 0 (.l .str xs) rfl
  have hz : u = z := by simpa using hz
  subst hz
  obtain ⟨av, h0, h1⟩ := hc
  obtain ⟨a, cap, e1, hle, hrow⟩ := h1 [] ⟨.str, xs⟩ rfl
  rw [h0] at e1
  by_cases hn : xs = []
  · subst hn; exact .inl ⟨rfl, a, cap, e1⟩
  · obtain ⟨b, o, cs, el, fz, h2, h3, h4, h5⟩ := hrow hn
    refine .inr ⟨b, o, cap, by rw [← h2]; exact e1, hle, hlt b h3, fun j x hx => ?_⟩
    obtain ⟨v, hv, hcv⟩ := h5 j x 0 (.v (.string x)) hx rfl
    have e2 : esz .str = 1 := rfl
    rw [cellIn h4]
    have hcv : v = .string x := hcv
    simp only [e2, Nat.mul_one, Nat.add_zero] at hv
    rw [hv, hcv]

def joinS (xs : List ByteArray) (sep : ByteArray) : ByteArray := ⟨(Lib.join (xs.map (·.data.toList)) sep.data.toList).toArray⟩
def gJoin (xs : List ByteArray) (sep : ByteArray) : Bool := smL smStr xs && smStr sep
theorem join_len (s : List UInt8) : ∀ (l : List (List UInt8)) (B : Nat), (∀ x ∈ l, x.length ≤ B) → (Lib.join l s).length ≤ l.length * (B + s.length)
  | [], B, _ => by simp [Lib.join]
  | [x], B, h => by
    rw [Lib.join_one]
    have := h x (by simp)
    simp; omega
  | x :: y :: r, B, h => by
    have h1 := h x (by simp)
    have h2 := join_len s (y :: r) B (fun z hz => h z (by simp [hz]))
    have e : Lib.join (x :: y :: r) s = x ++ s ++ Lib.join (y :: r) s := by
      first | rfl | simp [Lib.join]
    rw [e]
    simp only [List.length_append, List.length_cons] at h2 ⊢
    have : (r.length + 1 + 1) * (B + s.length) = (r.length + 1) * (B + s.length) + (B + s.length) := by rw [Nat.add_mul]; simp
    omega
theorem gJoin_len {xs : List ByteArray} {sep : ByteArray} (h : gJoin xs sep = true) : (Lib.join (xs.map (·.data.toList)) sep.data.toList).length ≤ 140737488355328 := by
  simp only [gJoin, Bool.and_eq_true] at h
  have h1 := smL_len h.1
  have h2 : sep.size ≤ 1048576 := bleN h.2
  have h3 := join_len sep.data.toList (xs.map (·.data.toList)) 1048576 (fun x hx => by
    obtain ⟨s, hs, rfl⟩ := List.mem_map.1 hx
    have : s.size ≤ 1048576 := bleN (List.all_eq_true.1 (smL_all h.1) s hs)
    simpa using this)
  have h4 : sep.data.toList.length = sep.size := by simp
  rw [List.length_map, h4] at h3
  have h5 : xs.length * (1048576 + sep.size) ≤ 1048576 * (1048576 + 1048576) := Nat.mul_le_mul h1 (by omega)
  omega

end Go.Gm

/- Contracts of functions that call themselves, by a measure. -/
namespace Go.Gm
open Go

abbrev Q := List Dt → Option (Bool × List Dt)
/-- Only where the measure is below N. -/
def qlt (μ : List Dt → Nat) (N : Nat) (q : Q) : Q := fun ds => match q ds with | some (g, outs) => some (g && Nat.blt (μ ds) N, outs) | none => none
def qeq (μ : List Dt → Nat) (N : Nat) (q : Q) : Q := fun ds => match q ds with | some (g, outs) => some (g && Nat.beq (μ ds) N, outs) | none => none

theorem spec_part {P : Program} {f : Nat} {modes : List Am} {res : List Bool} {own : Bool} {q : Q} (h : ∀ ds outs, q ds = some (true, outs) → ∃ q0 : Q, SpecOk P f (Spec.of modes res own q0) ∧ q0 ds = some (true, outs)) : SpecOk P f (Spec.of modes res own q) := by
  intro R ds k r hr
  obtain ⟨outs, hq, hk⟩ := Spec.of_some hr
  obtain ⟨q0, hs, h0⟩ := h ds outs hq
  have hr0 : (Spec.of modes res own q0).fn ds k = some r := by
    show (match q0 ds with | some (g, outs) => cond g (k outs) none | none => none) = some r
    rw [h0]; exact hk
  intro w us Mf ROa Fs hA hp hFM hRM hRlt hMlt
  exact Calls.mono (hs ds k r hr0 w us Mf ROa Fs hA hp hFM hRM hRlt hMlt) fun e w' ⟨outs, h1, h2⟩ => ⟨outs, h1, ⟨h2.out, h2.kept⟩⟩

theorem qeq_some {μ : List Dt → Nat} {N : Nat} {q : Q} {ds : List Dt} {outs : List Dt} (h : qeq μ N q ds = some (true, outs)) : q ds = some (true, outs) ∧ μ ds = N := by
  unfold qeq at h
  cases hq : q ds with
  | none => rw [hq] at h; cases h
  | some go =>
    obtain ⟨g, o⟩ := go
    rw [hq] at h
    simp only [Option.some.injEq, Prod.mk.injEq, Bool.and_eq_true] at h
    obtain ⟨⟨h1, h2⟩, h3⟩ := h
    exact ⟨by rw [h1, h3], beqN h2⟩
theorem qlt_some {μ : List Dt → Nat} {N : Nat} {q : Q} {ds : List Dt} {outs : List Dt} (h : qlt μ N q ds = some (true, outs)) : q ds = some (true, outs) ∧ μ ds < N := by
  unfold qlt at h
  cases hq : q ds with
  | none => rw [hq] at h; cases h
  | some go =>
    obtain ⟨g, o⟩ := go
    rw [hq] at h
    simp only [Option.some.injEq, Prod.mk.injEq, Bool.and_eq_true] at h
    obtain ⟨⟨h1, h2⟩, h3⟩ := h
    rw [Nat.blt_eq] at h2
    exact ⟨by rw [h1, h3], h2⟩
theorem qeq_self {μ : List Dt → Nat} {q : Q} {ds : List Dt} {outs : List Dt} (h : q ds = some (true, outs)) : qeq μ (μ ds) q ds = some (true, outs) := by
  unfold qeq; rw [h]; simp

theorem spec_rec {P : Program} {f : Nat} {modes : List Am} {res : List Bool} {own : Bool} {q : Q} (μ : List Dt → Nat)
    (h : ∀ N, SpecOk P f (Spec.of modes res own (qlt μ N q)) → SpecOk P f (Spec.of modes res own (qeq μ N q))) : SpecOk P f (Spec.of modes res own q) := by
  have all : ∀ N, SpecOk P f (Spec.of modes res own (qeq μ N q)) := by
    intro N
    induction N using Nat.strongRecOn with
    | _ N ih =>
      refine h N (spec_part fun ds outs hq => ?_)
      obtain ⟨h1, h2⟩ := qlt_some hq
      exact ⟨qeq μ (μ ds) q, ih (μ ds) h2, qeq_self h1⟩
  intro R
  exact spec_part fun ds outs hq => ⟨qeq μ (μ ds) q, all (μ ds), qeq_self hq⟩

end Go.Gm

/- Plain laws: numbers as texts, joined texts. -/
namespace Go.Gm
open Go

/-! ### loops that carry something on -/
theorem loop_acc {α A R : Type} {xs : List α} {F : Nat → Nat → A → Option R} {f : A → α → A} {good : A → Option R} (inv : Nat → A → Prop)
    (hi : ∀ (j : Nat) a x, xs[j]? = some x → inv j a → inv (j + 1) (f a x))
    (hs : ∀ m (j : Nat) a x, xs[j]? = some x → inv j a → F (m + 1) j a = F m (j + 1) (f a x)) (he : ∀ m a, inv xs.length a → F (m + 1) xs.length a = good a) :
    ∀ (d j m : Nat) (a : A), j + d = xs.length → d < m → inv j a → F m j a = good ((xs.drop j).foldl f a) := by
  intro d
  induction d with
  | zero =>
    intro j m a hj hm hia
    obtain ⟨m, rfl⟩ : ∃ m', m = m' + 1 := ⟨m - 1, by omega⟩
    have : j = xs.length := by omega
    subst this
    rw [he m a hia, List.drop_length]; rfl
  | succ d ih =>
    intro j m a hj hm hia
    obtain ⟨m, rfl⟩ : ∃ m', m = m' + 1 := ⟨m - 1, by omega⟩
    obtain ⟨x, hx, hd⟩ := drop_get (show j < xs.length by omega)
    rw [hs m j a x hx hia, hd, List.foldl_cons]
    exact ih (j + 1) m _ (by omega) (by omega) (hi j a x hx hia)

/-! ### numbers -/
def natDig (n : Nat) : List UInt8 := if n < 10 then [UInt8.ofNat (48 + n)] else natDig (n / 10) ++ [UInt8.ofNat (48 + n % 10)]
termination_by n
decreasing_by omega
theorem natDig_lt {n : Nat} (h : n < 10) : natDig n = [UInt8.ofNat (48 + n)] := by rw [natDig, if_pos h]
theorem natDig_ge {n : Nat} (h : ¬ n < 10) : natDig n = natDig (n / 10) ++ [UInt8.ofNat (48 + n % 10)] := by rw [natDig, if_neg h]
theorem natDig_len : ∀ (k n : Nat), n < 10 ^ (k + 1) → (natDig n).length ≤ k + 1
  | 0, n, h => by rw [natDig_lt (by omega)]; simp
  | k + 1, n, h => by
    by_cases h1 : n < 10
    · rw [natDig_lt h1]; simp
    · rw [natDig_ge h1, List.length_append]
      have := natDig_len k (n / 10) (by rw [Nat.pow_succ] at h; omega)
      simp only [List.length_cons, List.length_nil]; omega
def digS (n : Int) : ByteArray := ⟨((if n < 0 then [(45 : UInt8)] else []) ++ natDig n.natAbs).toArray⟩
theorem digS_size {n : Int} (h : okI n = true) : (digS n).size ≤ 20 := by
  rw [okI_iff] at h
  have h1 := natDig_len 18 n.natAbs (by have : (10 : Nat) ^ (18 + 1) = 10000000000000000000 := rfl; omega)
  show ((if n < 0 then [(45 : UInt8)] else []) ++ natDig n.natAbs).toArray.size ≤ 20
  rw [List.size_toArray, List.length_append]
  split <;> simp <;> omega
theorem ba_ext {x y : ByteArray} (h : x.data.toList = y.data.toList) : x = y := by
  cases x; cases y
  congr
  exact Array.toList_inj.1 h
theorem ba_app (x y : ByteArray) : (x ++ y).data.toList = x.data.toList ++ y.data.toList := by simp
theorem enc_dig : ∀ d : Nat, d < 10 → Utf8.encode (IntKind.wrap .i32 (IntKind.wrap .i64 ((48 : Int) + (d : Int)))) = ⟨#[UInt8.ofNat (48 + d)]⟩
  | 0, _ => rfl | 1, _ => rfl | 2, _ => rfl | 3, _ => rfl | 4, _ => rfl | 5, _ => rfl | 6, _ => rfl | 7, _ => rfl | 8, _ => rfl | 9, _ => rfl
  | d + 10, h => by omega
theorem tmod_pos {n : Int} (h : 0 ≤ n) : Int.tmod n 10 = ((n.natAbs % 10 : Nat) : Int) := by
  obtain ⟨m, rfl⟩ := Int.eq_ofNat_of_zero_le h
  rfl
theorem tdiv_pos {n : Int} (h : 0 ≤ n) : Int.tdiv n 10 = ((n.natAbs / 10 : Nat) : Int) := by
  obtain ⟨m, rfl⟩ := Int.eq_ofNat_of_zero_le h
  rfl
theorem tmod_neg {n : Int} (h : n < 0) : Int.tmod n 10 = -((n.natAbs % 10 : Nat) : Int) := by
  obtain ⟨m, rfl⟩ : ∃ m : Nat, n = -(m : Int) := ⟨n.natAbs, by omega⟩
  rw [Int.neg_tmod]
  have : (-(m : Int)).natAbs = m := by omega
  rw [this]; rfl
theorem tdiv_neg {n : Int} (h : n < 0) : Int.tdiv n 10 = -((n.natAbs / 10 : Nat) : Int) := by
  obtain ⟨m, rfl⟩ : ∃ m : Nat, n = -(m : Int) := ⟨n.natAbs, by omega⟩
  rw [Int.neg_tdiv]
  have : (-(m : Int)).natAbs = m := by omega
  rw [this]; rfl
theorem digS_nat (m : Nat) : digS (m : Int) = ⟨(natDig m).toArray⟩ := by
  unfold digS
  rw [if_neg (by omega)]; simp
theorem digS_one {n : Int} (h0 : 0 ≤ n) (h : n < 10) : digS n = Utf8.encode (IntKind.wrap .i32 (IntKind.wrap .i64 ((48 : Int) + n))) := by
  obtain ⟨m, rfl⟩ := Int.eq_ofNat_of_zero_le h0
  rw [enc_dig m (by omega), digS_nat, natDig_lt (by omega)]
theorem digS_negone {n : Int} (h0 : n < 0) (h : n > -10) : bs [45] ++ digS (IntKind.wrap .i64 (0 - n)) = digS n := by
  obtain ⟨m, rfl⟩ : ∃ m : Nat, n = -(m : Int) := ⟨n.natAbs, by omega⟩
  rw [wrap_id (by omega) (by omega), show (0 : Int) - -(m : Int) = (m : Int) by omega, digS_nat]
  unfold digS
  rw [if_pos h0]
  apply ba_ext
  rw [ba_app]; simp [bs]
theorem digS_ge {n : Int} (h : ¬ n < 10) : digS (Int.tdiv n 10) ++ Utf8.encode (IntKind.wrap .i32 (IntKind.wrap .i64 ((48 : Int) + (Int.tmod n 10)))) = digS n := by
  rw [tdiv_pos (by omega), tmod_pos (by omega), enc_dig _ (by omega), digS_nat]
  obtain ⟨m, rfl⟩ : ∃ m : Nat, n = (m : Int) := ⟨n.natAbs, by omega⟩
  rw [digS_nat]
  apply ba_ext
  rw [ba_app]
  simp only [Int.natAbs_natCast]
  rw [natDig_ge (n := m) (by omega)]
theorem digS_le {n : Int} (h : ¬ n > -10) : digS (Int.tdiv n 10) ++ digS (IntKind.wrap .i64 (0 - (Int.tmod n 10))) = digS n := by
  rw [tdiv_neg (by omega), tmod_neg (by omega)]
  rw [show (0 : Int) - -((n.natAbs % 10 : Nat) : Int) = ((n.natAbs % 10 : Nat) : Int) by omega, wrap_id (by omega) (by omega), digS_nat]
  obtain ⟨m, rfl⟩ : ∃ m : Nat, n = -(m : Int) := ⟨n.natAbs, by omega⟩
  have e : (-(m : Int)).natAbs = m := by omega
  rw [e]
  unfold digS
  rw [if_pos (by omega), if_pos (by omega)]
  apply ba_ext
  rw [ba_app]
  have e2 : (-((m / 10 : Nat) : Int)).natAbs = m / 10 := by omega
  rw [e, e2, natDig_ge (n := m) (by omega), natDig_lt (n := m % 10) (by omega)]
  simp
def muDig (n : Int) : Nat := 2 * n.natAbs + if n < 0 then 1 else 0
/-- One byte. -/
theorem byte_dig : ∀ d : Nat, d < 10 → bytesOf [IntKind.wrap .u8 (IntKind.wrap .i64 ((48 : Int) + (d : Int)))] = ⟨#[UInt8.ofNat (48 + d)]⟩
  | 0, _ => rfl | 1, _ => rfl | 2, _ => rfl | 3, _ => rfl | 4, _ => rfl | 5, _ => rfl | 6, _ => rfl | 7, _ => rfl | 8, _ => rfl | 9, _ => rfl
  | d + 10, h => by omega
/-- The digits of what is left, ahead of what there is. -/
def digR (n : Nat) (out : ByteArray) : ByteArray := if n = 0 then out else ⟨(natDig n).toArray⟩ ++ out
theorem digR_step {n : Nat} (h : n ≠ 0) (out : ByteArray) : digR (n / 10) (⟨#[UInt8.ofNat (48 + n % 10)]⟩ ++ out) = digR n out := by
  unfold digR
  rw [if_neg h]
  by_cases h1 : n < 10
  · rw [if_pos (by omega), natDig_lt h1, Nat.mod_eq_of_lt h1]
  · rw [if_neg (by omega), natDig_ge h1]
    apply ba_ext
    simp only [ba_app]; simp

/-! ### joined texts -/
def gJoinW (xs : List ByteArray) (sep : ByteArray) : Bool := Nat.ble (szL ByteArray.size xs) 17592186044416 && Nat.ble sep.size 4
theorem join_le (s : List UInt8) : ∀ (l : List ByteArray), (Lib.join (l.map (·.data.toList)) s).length ≤ (l.map ByteArray.size).sum + l.length * s.length
  | [] => by simp [Lib.join]
  | [x] => by
    rw [List.map_cons, List.map_nil, Lib.join_one]; simp
  | x :: y :: r => by
    have h1 := join_le s (y :: r)
    have e : Lib.join ((x :: y :: r).map (·.data.toList)) s = x.data.toList ++ s ++ Lib.join ((y :: r).map (·.data.toList)) s := by
      simp [Lib.join]
    rw [e]
    simp only [List.length_append, List.length_cons, List.map_cons, List.sum_cons] at h1 ⊢
    have h2 : x.data.toList.length = x.size := by simp
    have : (r.length + 1 + 1) * s.length = (r.length + 1) * s.length + s.length := by rw [Nat.add_mul]; simp
    rw [h2]
    omega
theorem gJoinW_len {xs : List ByteArray} {sep : ByteArray} (h : gJoinW xs sep = true) : (Lib.join (xs.map (·.data.toList)) sep.data.toList).length ≤ 140737488355328 := by
  simp only [gJoinW, Bool.and_eq_true] at h
  have h1 := bleN h.1
  have h2 := bleN h.2
  have h3 := join_le sep.data.toList xs
  have h4 : sep.data.toList.length = sep.size := by simp
  rw [h4] at h3
  unfold szL at h1
  have h5 : xs.length * sep.size ≤ 17592186044416 * 4 := Nat.mul_le_mul (by omega) h2
  omega
def spaced (xs : List ByteArray) : ByteArray := joinS xs (bs [32])
def gSpaced (xs : List ByteArray) : Bool := Nat.ble (szL ByteArray.size xs) 17592186044416
theorem gSpaced_j {xs : List ByteArray} (h : gSpaced xs = true) : gJoinW xs (bs [32]) = true := by
  unfold gJoinW; rw [show Nat.ble (szL ByteArray.size xs) 17592186044416 = true from h]; rfl
theorem joinS2 (a b s : ByteArray) : joinS [a, b] s = a ++ s ++ b := by
  apply ba_ext; simp [joinS, Lib.join]
theorem joinS3 (a b c s : ByteArray) : joinS [a, b, c] s = a ++ s ++ b ++ s ++ c := by
  apply ba_ext; simp [joinS, Lib.join]
theorem joinS4 (a b c d s : ByteArray) : joinS [a, b, c, d] s = a ++ s ++ b ++ s ++ c ++ s ++ d := by
  apply ba_ext; simp [joinS, Lib.join]
theorem gSpaced2 {a b : ByteArray} (h : a.size + b.size ≤ 17592186044400) : gSpaced [a, b] = true := by
  unfold gSpaced szL; rw [Nat.ble_eq]; simp; omega
theorem gSpaced3 {a b c : ByteArray} (h : a.size + b.size + c.size ≤ 17592186044400) : gSpaced [a, b, c] = true := by
  unfold gSpaced szL; rw [Nat.ble_eq]; simp; omega
theorem gSpaced4 {a b c d : ByteArray} (h : a.size + b.size + c.size + d.size ≤ 17592186044400) : gSpaced [a, b, c, d] = true := by
  unfold gSpaced szL; rw [Nat.ble_eq]; simp; omega
theorem app_le {a b : ByteArray} (h : a.size + b.size ≤ 9223372036854775807) : decide (ByteArray.size a + ByteArray.size b ≤ 9223372036854775807) = true := decide_eq_true h

theorem bs_size (l : List Nat) : (bs l).size = l.length := by
  show (List.toArray (l.map UInt8.ofNat)).size = l.length
  simp
theorem sEq_empty {s : ByteArray} : sEq s ByteArray.empty = true ↔ s = ByteArray.empty := sEq_iff
/-! ### shown -/
def ansWord (c : Int) : ByteArray :=
  cond (inR c 0 7) (atI (t := .str) ([(bs [100,111,110,101]), (bs [116,101,120,116]), (bs [98,97,100]), (bs [116,104,101,114,101]), (bs [110,111,110,101]), (bs [111,108,100]), (bs [102,117,108,108]), (bs [102,105,120,101,100])] : List ByteArray) c.toNat) (bs [119,104,97,116])
theorem ansWord_size (c : Int) : (ansWord c).size ≤ 8 := by
  unfold ansWord
  cases h : inR c 0 7 with
  | false => rw [cond_false, bs_size]; simp
  | true =>
    rw [cond_true]
    unfold inR at h
    simp only [Bool.and_eq_true, decide_eq_true_eq] at h
    have : c = 0 ∨ c = 1 ∨ c = 2 ∨ c = 3 ∨ c = 4 ∨ c = 5 ∨ c = 6 ∨ c = 7 := by omega
    rcases this with rfl | rfl | rfl | rfl | rfl | rfl | rfl | rfl <;> exact Nat.le_of_ble_eq_true rfl
def ansText (a : AnswerT) : ByteArray :=
  cond (sEq a.text ByteArray.empty) (ansWord a.code ++ bs [32] ++ digS a.ver) (ansWord a.code ++ bs [32] ++ digS a.ver ++ bs [32] ++ a.text)
/-- The word, as the nine of the reference's. -/
theorem ansWord_9 {c : Int} (h : inR c 0 8 = true) : ansWord c = atI (t := .str) ([(bs [100,111,110,101]), (bs [116,101,120,116]), (bs [98,97,100]), (bs [116,104,101,114,101]), (bs [110,111,110,101]), (bs [111,108,100]), (bs [102,117,108,108]), (bs [102,105,120,101,100]), (bs [119,104,97,116])] : List ByteArray) c.toNat := by
  unfold inR at h
  simp only [Bool.and_eq_true, decide_eq_true_eq] at h
  have : c = 0 ∨ c = 1 ∨ c = 2 ∨ c = 3 ∨ c = 4 ∨ c = 5 ∨ c = 6 ∨ c = 7 ∨ c = 8 := by omega
  rcases this with rfl | rfl | rfl | rfl | rfl | rfl | rfl | rfl | rfl <;> rfl
theorem ansWord_no {c : Int} (h : inR c 0 8 = false) : ansWord c = bs [119,104,97,116] := by
  have : inR c 0 7 = false := by
    unfold inR at *
    simp only [Bool.and_eq_false_iff, decide_eq_false_iff_not] at *
    omega
  unfold ansWord; rw [this]; rfl
theorem inR_iff {c l h : Int} : inR c l h = true ↔ l ≤ c ∧ c ≤ h := by unfold inR; simp
theorem ansText_e {a : AnswerT} (h : a.text = ByteArray.empty) : ansText a = ansWord a.code ++ bs [32] ++ digS a.ver := by
  unfold ansText; rw [h, sEq_self]; rfl
def recText (out : ByteArray) (r : RcdT) : ByteArray := out ++ bs [32] ++ digS r.time ++ bs [58] ++ digS r.n
def scaleText (s : ScaleT) : ByteArray := s.recs.foldl recText (s.name ++ bs [32] ++ digS s.now)

end Go.Gm

/- Plain functions: picks, their texts, what they fit. -/
namespace Go.Gm
open Go

def gLenW {α : Type} (x : List α) : Bool := Nat.ble x.length WIDE
theorem gLenW_le {α : Type} {x : List α} (h : gLenW x = true) : x.length ≤ 9223372036854775807 := bleN h
theorem gLenW_of {α : Type} {x : List α} (h : x.length ≤ 9223372036854775807) : gLenW x = true := Nat.ble_eq_true_of_le h
theorem gLenW_sm {α : Type} {f : α → Bool} {x : List α} (h : smL f x = true) : gLenW x = true := gLenW_of (Nat.le_trans (smL_len h) (by decide))

/-! ### the first one -/
theorem firstN_drop {t : Ty} {q : El t → Bool} {xs : List (El t)} : ∀ (d j : Nat), j + d = xs.length →
    (firstN (fun j => q (atI xs j)) j d).isSome = (xs.drop j).any q ∧ (∀ i, firstN (fun j => q (atI xs j)) j d = some i → (xs.drop j).find? q = some (atI xs i)) ∧ (firstN (fun j => q (atI xs j)) j d = none → (xs.drop j).find? q = none)
  | 0, j, h => by
    have : j = xs.length := by omega
    subst this
    rw [List.drop_length]
    refine ⟨rfl, ?_, fun _ => rfl⟩
    intro i h; cases h
  | d + 1, j, h => by
    obtain ⟨x, hx, hd⟩ := drop_get (show j < xs.length by omega)
    obtain ⟨h1, h2, h3⟩ := firstN_drop (q := q) (xs := xs) d (j + 1) (by omega)
    rw [hd]
    simp only [firstN, atI_of hx, List.any_cons, List.find?_cons]
    cases hq : q x with
    | true => exact ⟨rfl, fun i hi => by cases hi; rw [atI_of hx], fun h => by cases h⟩
    | false => exact ⟨by simpa using h1, h2, h3⟩
theorem firstN_any {t : Ty} (q : El t → Bool) (xs : List (El t)) : (firstN (fun j => q (atI xs j)) 0 xs.length).isSome = xs.any q := by
  have := (firstN_drop (q := q) (xs := xs) xs.length 0 (by omega)).1
  rwa [List.drop_zero] at this
theorem firstN_find {t : Ty} {q : El t → Bool} {xs : List (El t)} {i : Nat} (h : firstN (fun j => q (atI xs j)) 0 xs.length = some i) : xs.find? q = some (atI xs i) := by
  have := (firstN_drop (q := q) (xs := xs) xs.length 0 (by omega)).2.1 i h
  rwa [List.drop_zero] at this
theorem firstN_find_no {t : Ty} {q : El t → Bool} {xs : List (El t)} (h : firstN (fun j => q (atI xs j)) 0 xs.length = none) : xs.find? q = none := by
  have := (firstN_drop (q := q) (xs := xs) xs.length 0 (by omega)).2.2 h
  rwa [List.drop_zero] at this
theorem plc_ge (o : Option Nat) : decide (plc o ≥ 0) = o.isSome := by
  cases o with
  | none => rfl
  | some i => simp [plc]
theorem plc_lt (o : Option Nat) : decide (plc o < 0) = !o.isSome := by
  cases o with
  | none => rfl
  | some i =>
    show decide ((i : Int) < 0) = false
    exact decide_eq_false (by omega)
/-- The place of the first that is so; -1 without one. -/
def findI {t : Ty} (q : El t → Bool) (xs : List (El t)) : Int := plc (firstN (fun j => q (atI xs j)) 0 xs.length)
theorem findI_ge {t : Ty} (q : El t → Bool) (xs : List (El t)) : decide (findI q xs ≥ 0) = xs.any q := by
  unfold findI; rw [plc_ge, firstN_any]
theorem findI_neg {t : Ty} (q : El t → Bool) (xs : List (El t)) : decide (findI q xs < 0) = !(xs.any q) := by
  unfold findI; rw [plc_lt, firstN_any]
theorem findI_cases {t : Ty} (q : El t → Bool) (xs : List (El t)) : (findI q xs = -1 ∧ xs.find? q = none ∧ xs.any q = false) ∨ ∃ i : Nat, findI q xs = i ∧ i < xs.length ∧ xs.find? q = some (atI xs i) ∧ xs.any q = true ∧ q (atI xs i) = true := by
  unfold findI
  have ha := firstN_any q xs
  cases h : firstN (fun j => q (atI xs j)) 0 xs.length with
  | none => rw [h] at ha; exact .inl ⟨rfl, firstN_find_no h, ha.symm⟩
  | some i =>
    rw [h] at ha
    obtain ⟨_, h2, h3, _⟩ := firstN_some h
    exact .inr ⟨i, rfl, by omega, firstN_find h, ha.symm, h3⟩

/-- A loop from the last one down. -/
theorem loop_down {α A R : Type} {xs : List α} {F : Nat → Int → A → Option R} {f : A → α → A} {good : A → Option R}
    (hs : ∀ m (j : Nat) a x, xs[j]? = some x → F (m + 1) (j : Int) a = F m ((j : Int) - 1) (f a x)) (he : ∀ m a, F (m + 1) (-1) a = good a) :
    ∀ (d m : Nat) (a : A), d ≤ xs.length → d < m → F m ((d : Int) - 1) a = good ((xs.take d).foldr (fun x a => f a x) a) := by
  intro d
  induction d with
  | zero =>
    intro m a _ hm
    obtain ⟨m, rfl⟩ : ∃ m', m = m' + 1 := ⟨m - 1, by omega⟩
    exact he m a
  | succ d ih =>
    intro m a hd hm
    obtain ⟨m, rfl⟩ : ∃ m', m = m' + 1 := ⟨m - 1, by omega⟩
    obtain ⟨x, hx, _⟩ := drop_get (show d < xs.length by omega)
    rw [show ((d + 1 : Nat) : Int) - 1 = (d : Int) by omega, hs m d a x hx, ih m _ (by omega) (by omega)]
    have : xs.take (d + 1) = xs.take d ++ [x] := by rw [List.take_add_one, hx]; rfl
    rw [this, List.foldr_append]; rfl
theorem foldl_and {α : Type} (q : α → Bool) : ∀ (xs : List α) (b : Bool), xs.foldl (fun b x => b && q x) b = (b && xs.all q)
  | [], b => by simp
  | x :: xs, b => by
    rw [List.foldl_cons, foldl_and q xs, List.all_cons]
    cases b <;> simp

/-! ### joined texts, as a loop -/
theorem joinS_nil (s : ByteArray) : joinS [] s = ByteArray.empty := rfl
theorem joinS_one (x s : ByteArray) : joinS [x] s = x := by apply ba_ext; simp [joinS, Lib.join]
theorem joinS_cons2 (x y s : ByteArray) (r : List ByteArray) : joinS (x :: y :: r) s = joinS ((x ++ s ++ y) :: r) s := by
  apply ba_ext
  cases r <;> simp [joinS, Lib.join]
theorem joinS_fold (s : ByteArray) : ∀ (r : List ByteArray) (x : ByteArray), joinS (x :: r) s = r.foldl (fun o y => o ++ s ++ y) x
  | [], x => joinS_one x s
  | y :: r, x => by rw [joinS_cons2, joinS_fold s r, List.foldl_cons]
theorem fold_pre (s a : ByteArray) : ∀ (r : List ByteArray) (x : ByteArray), r.foldl (fun o y => o ++ s ++ y) (a ++ x) = a ++ r.foldl (fun o y => o ++ s ++ y) x
  | [], x => rfl
  | y :: r, x => by
    rw [List.foldl_cons, List.foldl_cons, ← fold_pre s a r]
    rw [ByteArray.append_assoc, ByteArray.append_assoc, ByteArray.append_assoc]
theorem joinS_size (xs : List ByteArray) (s : ByteArray) : (joinS xs s).size ≤ (xs.map ByteArray.size).sum + xs.length * s.size := by
  have := join_le s.data.toList xs
  have h : (joinS xs s).size = (Lib.join (xs.map (·.data.toList)) s.data.toList).length := by
    show (List.toArray _).size = _
    simp
  rw [h]
  have h4 : s.data.toList.length = s.size := by simp
  rwa [h4] at this
theorem sumSz_le {xs : List ByteArray} {B : Nat} (h : ∀ x ∈ xs, x.size ≤ B) : (xs.map ByteArray.size).sum ≤ xs.length * B := by
  induction xs with
  | nil => simp
  | cons x r ih =>
    have h1 := h x (by simp)
    have h2 := ih fun y hy => h y (by simp [hy])
    simp only [List.map_cons, List.sum_cons, List.length_cons]
    rw [Nat.add_mul]; omega
theorem smStrs_size {xs : List ByteArray} (h : smL smStr xs = true) : (xs.map ByteArray.size).sum ≤ 1099511627776 := by
  have h1 := smL_len h
  have h2 : ∀ x ∈ xs, x.size ≤ 1048576 := fun x hx => bleN (List.all_eq_true.1 (smL_all h) x hx)
  have h3 := sumSz_le h2
  have : xs.length * 1048576 ≤ 1048576 * 1048576 := Nat.mul_le_mul_right _ h1
  omega
theorem gJoinW_sm {xs : List ByteArray} {s : ByteArray} (h : smL smStr xs = true) (hs : s.size ≤ 4) : gJoinW xs s = true := by
  unfold gJoinW szL
  have h1 := smL_len h
  have h2 := smStrs_size h
  rw [Nat.ble_eq_true_of_le (by omega), Nat.ble_eq_true_of_le hs]; rfl
theorem joinS_sm {xs : List ByteArray} {s : ByteArray} (h : smL smStr xs = true) (hs : s.size ≤ 4) : (joinS xs s).size ≤ 1099520000000 := by
  have h1 := smL_len h
  have h2 := smStrs_size h
  have h3 := joinS_size xs s
  have : xs.length * s.size ≤ 1048576 * 4 := Nat.mul_le_mul h1 hs
  omega

/-! ### texts of picks -/
def brack (xs : List ByteArray) : ByteArray := bs [40] ++ joinS xs (bs [44]) ++ bs [41]
theorem brack_fold (x : ByteArray) (r : List ByteArray) : r.foldl (fun o y => o ++ bs [44] ++ y) (bs [40] ++ x) ++ bs [41] = brack (x :: r) := by
  unfold brack
  rw [joinS_fold, fold_pre]
theorem brack_nil : bs [40] ++ bs [41] = brack [] := rfl
theorem okPick_sm {p : PickT} (h : sm_pick p = true) : okPick p = true := by
  have := ok_pick_sm h
  simp only [ok_pick, Bool.and_eq_true] at this
  unfold okPick
  rw [this.2.1, this.2.2]; rfl
noncomputable def pickText (p : PickT) : ByteArray :=
  cond (!(pickOk p)) ByteArray.empty
    (cond (p.op == (1 : Int)) (p.key ++ bs [61] ++ atI (t := .str) p.vals 0)
      (cond (p.op == (2 : Int)) (p.key ++ bs [33,61] ++ atI (t := .str) p.vals 0)
        (cond (p.op == (3 : Int)) (p.key ++ bs [32,105,110,32,40] ++ joinS p.vals (bs [44]) ++ bs [41])
          (cond (p.op == (4 : Int)) (p.key ++ bs [32,110,111,116,105,110,32,40] ++ joinS p.vals (bs [44]) ++ bs [41])
            (cond (p.op == (5 : Int)) p.key (bs [33] ++ p.key))))))
theorem in_brack (a : ByteArray) (xs : List ByteArray) : a ++ bs [32,105,110,32] ++ brack xs = a ++ bs [32,105,110,32,40] ++ joinS xs (bs [44]) ++ bs [41] := by
  unfold brack; apply ba_ext; simp [bs]
theorem out_brack (a : ByteArray) (xs : List ByteArray) : a ++ bs [32,110,111,116,105,110,32] ++ brack xs = a ++ bs [32,110,111,116,105,110,32,40] ++ joinS xs (bs [44]) ++ bs [41] := by
  unfold brack; apply ba_ext; simp [bs]
theorem pickOk_vals {p : PickT} (h : pickOk p = true) (ho : p.op = 1 ∨ p.op = 2 ∨ p.op = 3 ∨ p.op = 4) : 0 < p.vals.length := by
  unfold pickOk at h
  simp only [Bool.and_eq_true, Bool.or_eq_true, inR_iff, beq_iff_eq] at h
  omega

/-! ### what picks fit -/
def isIn (xs : List ByteArray) (s : ByteArray) : Bool := xs.any fun x => sEq x s
theorem sEq_comm (x y : ByteArray) : sEq x y = sEq y x := by rw [Bool.eq_iff_iff, sEq_iff, sEq_iff, eq_comm]
def idxS (xs : List ByteArray) (s : ByteArray) : Int := findI (t := .str) (fun x => sEq s x) xs
theorem idxS_isIn (xs : List ByteArray) (s : ByteArray) : decide (idxS xs s ≥ 0) = isIn xs s := by
  unfold idxS isIn
  rw [findI_ge]
  congr 1; funext x; exact sEq_comm s x
def noteIs (n : NoteT) (p : PickT) : Bool := sEq n.key p.key
def noteAt (ns : List NoteT) (p : PickT) : Int := findI (t := .note) (fun n => noteIs n p) ns
/-- What a pick asks is among the notes. -/
def among (p : PickT) (ns : List NoteT) : Bool := (ns.find? fun n => noteIs n p).elim false fun n => isIn p.vals n.text
noncomputable def fits (p : PickT) (ns : List NoteT) : Bool :=
  pickOk p && cond (p.op == (1 : Int) || p.op == (3 : Int)) (among p ns) (cond (p.op == (2 : Int) || p.op == (4 : Int)) (!(among p ns)) (cond (p.op == (5 : Int)) (ns.any fun n => noteIs n p) (!(ns.any fun n => noteIs n p))))
def gFits (p : PickT) (ns : List NoteT) : Bool := okPick p && gLenW ns
noncomputable def fitsNot (p : PickT) (i : ItemT) : Bool := !(fits p i.order.notes)
def gFitsAll (ps : List PickT) (i : ItemT) : Bool := gLenW ps && (ps.all okPick && gLenW i.order.notes)
noncomputable def fitsNotAt (ps : List PickT) (i : ItemT) : Int := findI (t := .pick) (fun p => fitsNot p i) ps
noncomputable def fitsNotAny (ps : List PickT) (i : ItemT) : Bool := ps.any fun p => fitsNot p i
noncomputable def chosenStep (ps : List PickT) (out : List ByteArray) (i : ItemT) : List ByteArray := cond (fitsNotAny ps i) out (out ++ [i.order.name])
noncomputable def chosen (s : StoreT) (ps : List PickT) : List ByteArray := s.items.foldl (chosenStep ps) []
def gChosen (s : StoreT) (ps : List PickT) : Bool := sm_store s && smL sm_pick ps
theorem all_at {t : Ty} {q : El t → Bool} {xs : List (El t)} (h : xs.all q = true) {j : Nat} (hj : j < xs.length) : q (atI xs j) = true := by
  obtain ⟨x, hx, _⟩ := drop_get hj
  rw [atI_of hx]; exact List.all_eq_true.1 h x (List.mem_of_getElem? hx)
theorem any_not {α : Type} (q : α → Bool) (xs : List α) : (!(xs.any fun x => !(q x))) = xs.all q := by
  induction xs with
  | nil => rfl
  | cons x r ih => rw [List.any_cons, List.all_cons, ← ih]; cases q x <;> simp
theorem find_pair (p : PickT) : ∀ ns : List NoteT, ns.foldr (fun n (a : Bool × ByteArray) => cond (noteIs n p) (true, n.text) a) (false, ByteArray.empty) = ((ns.any fun n => noteIs n p), ((ns.find? fun n => noteIs n p).elim ByteArray.empty fun n => n.text))
  | [] => rfl
  | n :: r => by
    rw [List.foldr_cons, find_pair p r, List.any_cons, List.find?_cons]
    cases noteIs n p <;> rfl
theorem find_any {α : Type} (q : α → Bool) (xs : List α) : (xs.find? q).isSome = xs.any q := by
  induction xs with
  | nil => rfl
  | cons x r ih => rw [List.find?_cons, List.any_cons, ← ih]; cases q x <;> simp

end Go.Gm

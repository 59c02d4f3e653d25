/- The G-machine, part 4: an evaluator of translated code on typed values, and that it is sound. No conditions. -/
import Derived.Test.YtmeeoilfnahihaaGm3
import Derived.Shelf.Strings.OnBuilder
import Derived.Laws.Cover4
import Derived.Laws.CopyRow
import Derived.Deep.RegionLaw
import Derived.Below
/- Plain functions: picks. -/
namespace Go.Gm
open Go

def inR (x lo hi : Int) : Bool := decide (x ≥ lo) && decide (x ≤ hi)
def letter (c : Int) : Bool := (decide (c ≥ (97 : Int)) && decide (c ≤ (122 : Int))) || (decide (c ≥ (65 : Int)) && decide (c ≤ (90 : Int)))
def digit (c : Int) : Bool := decide (c ≥ (48 : Int)) && decide (c ≤ (57 : Int))
def idxB (s : ByteArray) (c : Int) : Int := Lib.indexByte s.data.toList c.toNat.toUInt8
def gStrs (x : List ByteArray) (n : Int) : Bool := okL okStr x && okN n
def okPick (x : PickT) : Bool := okStr x.key && okL okStr x.vals
def gPick (x : PickT) (n : Int) : Bool := okPick x && okN n
def szPickT (x : PickT) : Nat := x.key.size + szL ByteArray.size x.vals
def gLen {α : Type} (x : List α) : Bool := Nat.ble x.length 1048576
def gLen2 {α : Type} (x _y : List α) : Bool := Nat.ble x.length WIDE
theorem eqD_pick (a b : PickT) : eqD a b = (a.op == b.op && (sEq a.key b.key && eqD a.vals b.vals)) := by
  cases a; cases b
  rw [Bool.eq_iff_iff]; simp [eqD_iff, sEq_iff]

def byteAt (s : ByteArray) (j : Nat) : Int := (((ByteArray.data s).getD j 0).toNat : Int)
/-- One sign of a plain text. -/
def plainC (i c : Int) : Bool := letter c || (!(i == (0 : Int)) && (digit c || ((c == (95 : Int)) || ((c == (46 : Int)) || ((c == (47 : Int)) || (c == (45 : Int)))))))
noncomputable def plainOk (s : ByteArray) : Bool :=
  allN (fun j => plainC (j : Int) (byteAt s j)) 0 s.size && (inR (s.size : Int) 1 60 && (!(sEq s (bs [110,117,108,108])) && (!(sEq s (bs [116,114,117,101])) && !(sEq s (bs [102,97,108,115,101])))))
theorem idx4 {n : Nat} (h : n < 256) : decide (idxB (bs [95,46,47,45]) (n : Int) < 0) = !(((n : Int) == (95 : Int)) || (((n : Int) == (46 : Int)) || (((n : Int) == (47 : Int)) || ((n : Int) == (45 : Int))))) := by
  have h1 : (List.range 256).all (fun n => decide (idxB (bs [95,46,47,45]) (n : Int) < 0) == !(((n : Int) == (95 : Int)) || (((n : Int) == (46 : Int)) || (((n : Int) == (47 : Int)) || ((n : Int) == (45 : Int)))))) = true := by kernel_rfl
  exact beq_iff_eq.1 (List.all_eq_true.1 h1 n (List.mem_range.2 h))
theorem idxM {n j : Nat} (h : j < n) (h0 : 0 < j) (hb : n ≤ 9223372036854775807) : IntKind.wrap .i64 ((j : Int) - (1 : Int)) = ((j - 1 : Nat) : Int) := by
  rw [wrap_id (by omega) (by omega)]; omega
/-- One value of a row of them: it is plain and above the one ahead of it. -/
noncomputable def valC (xs : List ByteArray) (j : Nat) : Bool := plainOk (atI (t := .str) xs j) && (!(decide ((j : Int) > (0 : Int))) || sLt (atI (t := .str) xs (j - 1)) (atI (t := .str) xs j))
noncomputable def valsOk (xs : List ByteArray) : Bool := allN (valC xs) 0 xs.length
noncomputable def pickOk (p : PickT) : Bool :=
  valsOk p.vals && (plainOk p.key && (((p.op == (1 : Int) || p.op == (2 : Int)) && inR (p.vals.length : Int) 1 1) || (((p.op == (3 : Int) || p.op == (4 : Int)) && inR (p.vals.length : Int) 1 4) || ((p.op == (5 : Int) || p.op == (6 : Int)) && inR (p.vals.length : Int) 0 0))))
theorem okStr_at {xs : List ByteArray} (h : xs.all okStr = true) {j : Nat} (hj : j < xs.length) : okStr (atI (t := .str) xs j) = true := by
  obtain ⟨x, hx, _⟩ := drop_get hj
  rw [atI_of (t := .str) hx]; exact List.all_eq_true.1 h x (List.mem_of_getElem? hx)

/-! ### what is read is not too long -/
theorem okStr_w {s : ByteArray} (h : WideC (.v (.string s))) : okStr s = true := by
  cases h with
  | str h => exact Nat.ble_eq_true_of_le h
theorem okL_w {t : Ty} {xs : List (El t)} {f : El t → Bool} (h : WideC (.l t xs)) (hf : ∀ x, (∀ c ∈ enc t x, WideC c) → f x = true) : okL f xs = true := by
  cases h with
  | lst h hx =>
    unfold okL
    rw [Nat.ble_eq_true_of_le (show xs.length ≤ WIDE from h), Bool.true_and, List.all_eq_true]
    exact fun x hm => hf x (hx x hm)
theorem okStrs_w {xs : List ByteArray} (h : WideC (.l .str xs)) : okL okStr xs = true := okL_w (t := .str) h fun x hx => okStr_w (hx _ (by simp [enc]))
theorem okPick_w {x : PickT} (h : ∀ c ∈ enc .pick x, WideC c) : okPick x = true := by
  unfold okPick
  rw [okStr_w (h _ (by simp [enc, encPickT])), okStrs_w (h (.l .str x.vals) (by simp [enc, encPickT]))]; rfl

end Go.Gm

/- Plain functions and laws of all structs: sizes, sameness. Printed by mkp3.py of this session. -/
namespace Go.Gm
open Go

def okI (n : Int) : Bool := decide (-9223372036854775808 ≤ n) && decide (n ≤ 9223372036854775807)
theorem okI_iff {n : Int} : okI n = true ↔ -9223372036854775808 ≤ n ∧ n ≤ 9223372036854775807 := by simp [okI]
theorem okI_w {n : Int} (h : WideC (.v (.int .i64 n))) : okI n = true := by
  cases h with
  | int h2 =>
    simp only [Lit.wf, Bool.and_eq_true, decide_eq_true_eq] at h2
    have e1 : IntKind.i64.min = -9223372036854775808 := rfl
    have e2 : IntKind.i64.max = 9223372036854775807 := rfl
    rw [okI_iff]; omega
def smStr (s : ByteArray) : Bool := Nat.ble s.size 1048576
def smL {α : Type} (f : α → Bool) (xs : List α) : Bool := Nat.ble xs.length 1048576 && xs.all f
theorem smStr_of {s : ByteArray} (h : s.size ≤ 1048576) : smStr s = true := Nat.ble_eq_true_of_le h
theorem sum_le {α : Type} (g : α → Nat) : ∀ {xs : List α} {x : α}, x ∈ xs → g x ≤ (xs.map g).sum
  | y :: ys, x, h => by
    simp only [List.map_cons, List.sum_cons]
    rcases List.mem_cons.1 h with rfl | h
    · exact Nat.le_add_right _ _
    · exact Nat.le_trans (sum_le g h) (Nat.le_add_left _ _)
theorem smL_of {α : Type} {f e : α → Bool} {g : α → Nat} {xs : List α} (hw : okL e xs = true) (h : szL g xs ≤ 1048576) (hf : ∀ x, e x = true → g x ≤ 1048576 → f x = true) : smL f xs = true := by
  simp only [okL, Bool.and_eq_true] at hw
  unfold smL
  have h1 := szL_ge g xs
  rw [Nat.ble_eq_true_of_le (by omega : xs.length ≤ 1048576), Bool.true_and, List.all_eq_true]
  intro x hx
  refine hf x (List.all_eq_true.1 hw.2 x hx) (Nat.le_trans (sum_le g hx) ?_)
  have : szL g xs = xs.length + (xs.map g).sum := rfl
  omega
theorem okStr_sm {s : ByteArray} (h : smStr s = true) : okStr s = true := Nat.ble_eq_true_of_le (Nat.le_trans (bleN h) (by decide))
theorem okL_sm {α : Type} {f g : α → Bool} {xs : List α} (h : smL f xs = true) (hf : ∀ x, f x = true → g x = true) : okL g xs = true := by
  simp only [smL, Bool.and_eq_true] at h
  unfold okL
  rw [Nat.ble_eq_true_of_le (Nat.le_trans (bleN h.1) (by decide : 1048576 ≤ WIDE)), Bool.true_and, List.all_eq_true]
  exact fun x hx => hf x (List.all_eq_true.1 h.2 x hx)
theorem smL_len {α : Type} {f : α → Bool} {xs : List α} (h : smL f xs = true) : xs.length ≤ 1048576 := by
  simp only [smL, Bool.and_eq_true] at h; exact bleN h.1
theorem smL_all {α : Type} {f : α → Bool} {xs : List α} (h : smL f xs = true) : xs.all f = true := by
  simp only [smL, Bool.and_eq_true] at h; exact h.2
theorem small_of {m : Nat} (h : ¬ szI m (1048576 : Int) < 0) : m ≤ 1048576 := by
  by_cases h4 : (1048576 : Int) - (m : Nat) < 0
  · rw [szI_neg h4] at h; omega
  · omega
theorem okStr_e {s : ByteArray} (h : ∀ c ∈ enc .str s, WideC c) : okStr s = true := okStr_w (h _ (by simp [enc]))
theorem okStrs_e {s : List ByteArray} (h : ∀ c ∈ enc (.sl .str) s, WideC c) : okL okStr s = true := okStrs_w (h (.l .str s) (by simp [enc]))
theorem okL_e {t : Ty} {s : List (El t)} {f : El t → Bool} (h : ∀ c ∈ enc (.sl t) s, WideC c) (hf : ∀ x, (∀ c ∈ enc t x, WideC c) → f x = true) : okL f s = true := okL_w (h (.l t s) (by simp [enc])) hf
theorem okI_e {n : Int} (h : ∀ c ∈ enc (.i .i64) n, WideC c) : okI n = true := okI_w (h _ (by simp [enc]))
def same {α : Type} (x : α) : α := x
def sm2 {α : Type} (f : α → Bool) (x y : α) : Bool := f x && f y
theorem smL_at {t : Ty} {f : El t → Bool} {xs : List (El t)} (h : smL f xs = true) {j : Nat} (hj : j < xs.length) : f (atI xs j) = true := by
  obtain ⟨x, hx, _⟩ := drop_get hj
  rw [atI_of hx]; exact List.all_eq_true.1 (smL_all h) x (List.mem_of_getElem? hx)
def gzL_str (x : List ByteArray) (n : Int) : Bool := okL okStr x && okN n
def zL_str (x : List ByteArray) (n : Int) : Int := szI (szL ByteArray.size x) n

def ok_metric (x : MetricT) : Bool := (okStr x.name && (okI x.kind && okI x.goal))
def sm_metric (x : MetricT) : Bool := (smStr x.name && (okI x.kind && okI x.goal))
def szN_metric (x : MetricT) : Nat := x.name.size
def gz_metric (x : MetricT) (n : Int) : Bool := ok_metric x && okN n
def z_metric (x : MetricT) (n : Int) : Int := szI (szN_metric x) n
def gzL_metric (x : List MetricT) (n : Int) : Bool := okL ok_metric x && okN n
def zL_metric (x : List MetricT) (n : Int) : Int := szI (szL szN_metric x) n
theorem ok_metric_w {x : MetricT} (h : ∀ c ∈ enc .metric x, WideC c) : ok_metric x = true := by
  unfold ok_metric
  rw [okStr_w (h (.v (.string x.name)) (by simp [enc, encMetricT])), okI_w (h (.v (.int .i64 x.kind)) (by simp [enc, encMetricT])), okI_w (h (.v (.int .i64 x.goal)) (by simp [enc, encMetricT]))]; rfl
theorem sm_metric_of {x : MetricT} (hw : ok_metric x = true) (h : szN_metric x ≤ 1048576) : sm_metric x = true := by
  unfold szN_metric at h
  simp only [ok_metric, Bool.and_eq_true] at hw
  obtain ⟨h0, h1, h2⟩ := hw
  unfold sm_metric
  rw [smStr_of (s := x.name) (by omega), h1, h2]; rfl
theorem ok_metric_sm {x : MetricT} (h : sm_metric x = true) : ok_metric x = true := by
  simp only [sm_metric, Bool.and_eq_true] at h
  obtain ⟨h0, h1, h2⟩ := h
  unfold ok_metric
  rw [okStr_sm h0, h1, h2]; rfl
theorem eqD_metric (a b : MetricT) : eqD a b = (sEq a.name b.name && ((a.kind == b.kind) && (a.goal == b.goal))) := by
  cases a; cases b
  rw [Bool.eq_iff_iff]; simp [eqD_iff, sEq_iff]
def ok_pace (x : PaceT) : Bool := (okI x.up && (okI x.down && (okI x.upSpan && okI x.downSpan)))
def sm_pace (x : PaceT) : Bool := (okI x.up && (okI x.down && (okI x.upSpan && okI x.downSpan)))
def szN_pace (_x : PaceT) : Nat := 0
def gz_pace (x : PaceT) (n : Int) : Bool := ok_pace x && okN n
def z_pace (x : PaceT) (n : Int) : Int := szI (szN_pace x) n
def gzL_pace (x : List PaceT) (n : Int) : Bool := okL ok_pace x && okN n
def zL_pace (x : List PaceT) (n : Int) : Int := szI (szL szN_pace x) n
theorem ok_pace_w {x : PaceT} (h : ∀ c ∈ enc .pace x, WideC c) : ok_pace x = true := by
  unfold ok_pace
  rw [okI_w (h (.v (.int .i64 x.up)) (by simp [enc, encPaceT])), okI_w (h (.v (.int .i64 x.down)) (by simp [enc, encPaceT])), okI_w (h (.v (.int .i64 x.upSpan)) (by simp [enc, encPaceT])), okI_w (h (.v (.int .i64 x.downSpan)) (by simp [enc, encPaceT]))]; rfl
theorem sm_pace_of {x : PaceT} (hw : ok_pace x = true) (h : szN_pace x ≤ 1048576) : sm_pace x = true := by
  unfold szN_pace at h
  simp only [ok_pace, Bool.and_eq_true] at hw
  obtain ⟨h0, h1, h2, h3⟩ := hw
  unfold sm_pace
  rw [h0, h1, h2, h3]; rfl
theorem ok_pace_sm {x : PaceT} (h : sm_pace x = true) : ok_pace x = true := by
  simp only [sm_pace, Bool.and_eq_true] at h
  obtain ⟨h0, h1, h2, h3⟩ := h
  unfold ok_pace
  rw [h0, h1, h2, h3]; rfl
theorem eqD_pace (a b : PaceT) : eqD a b = ((a.up == b.up) && ((a.down == b.down) && ((a.upSpan == b.upSpan) && (a.downSpan == b.downSpan)))) := by
  cases a; cases b
  rw [Bool.eq_iff_iff]; simp [eqD_iff, sEq_iff]
def ok_note (x : NoteT) : Bool := (okStr x.key && okStr x.text)
def sm_note (x : NoteT) : Bool := (smStr x.key && smStr x.text)
def szN_note (x : NoteT) : Nat := x.key.size + x.text.size
def gz_note (x : NoteT) (n : Int) : Bool := ok_note x && okN n
def z_note (x : NoteT) (n : Int) : Int := szI (szN_note x) n
def gzL_note (x : List NoteT) (n : Int) : Bool := okL ok_note x && okN n
def zL_note (x : List NoteT) (n : Int) : Int := szI (szL szN_note x) n
theorem ok_note_w {x : NoteT} (h : ∀ c ∈ enc .note x, WideC c) : ok_note x = true := by
  unfold ok_note
  rw [okStr_w (h (.v (.string x.key)) (by simp [enc, encNoteT])), okStr_w (h (.v (.string x.text)) (by simp [enc, encNoteT]))]; rfl
theorem sm_note_of {x : NoteT} (hw : ok_note x = true) (h : szN_note x ≤ 1048576) : sm_note x = true := by
  unfold szN_note at h
  simp only [ok_note, Bool.and_eq_true] at hw
  obtain ⟨h0, h1⟩ := hw
  unfold sm_note
  rw [smStr_of (s := x.key) (by omega), smStr_of (s := x.text) (by omega)]; rfl
theorem ok_note_sm {x : NoteT} (h : sm_note x = true) : ok_note x = true := by
  simp only [sm_note, Bool.and_eq_true] at h
  obtain ⟨h0, h1⟩ := h
  unfold ok_note
  rw [okStr_sm h0, okStr_sm h1]; rfl
theorem eqD_note (a b : NoteT) : eqD a b = (sEq a.key b.key && sEq a.text b.text) := by
  cases a; cases b
  rw [Bool.eq_iff_iff]; simp [eqD_iff, sEq_iff]
def ok_order (x : OrderT) : Bool := (okStr x.name && (okStr x.target && (okI x.low && (okI x.high && (okL ok_metric x.metrics && (ok_pace x.pace && okL ok_note x.notes))))))
def sm_order (x : OrderT) : Bool := (smStr x.name && (smStr x.target && (okI x.low && (okI x.high && (smL sm_metric x.metrics && (sm_pace x.pace && smL sm_note x.notes))))))
def szN_order (x : OrderT) : Nat := x.name.size + x.target.size + szL szN_metric x.metrics + szN_pace x.pace + szL szN_note x.notes
def gz_order (x : OrderT) (n : Int) : Bool := ok_order x && okN n
def z_order (x : OrderT) (n : Int) : Int := szI (szN_order x) n
def gzL_order (x : List OrderT) (n : Int) : Bool := okL ok_order x && okN n
def zL_order (x : List OrderT) (n : Int) : Int := szI (szL szN_order x) n
theorem ok_order_w {x : OrderT} (h : ∀ c ∈ enc .order x, WideC c) : ok_order x = true := by
  unfold ok_order
  rw [okStr_w (h (.v (.string x.name)) (by simp [enc, encOrderT])), okStr_w (h (.v (.string x.target)) (by simp [enc, encOrderT])), okI_w (h (.v (.int .i64 x.low)) (by simp [enc, encOrderT])), okI_w (h (.v (.int .i64 x.high)) (by simp [enc, encOrderT])), okL_w (t := .metric) (f := ok_metric) (h (.l .metric x.metrics) (by simp [enc, encOrderT])) (fun _ hx => ok_metric_w hx), ok_pace_w (x := x.pace) (fun c hc => by simp only [enc, encPaceT, List.mem_cons, List.not_mem_nil, or_false] at hc; exact h c (by simp only [enc, encOrderT, List.mem_cons, List.not_mem_nil, or_false]; rcases hc with rfl | rfl | rfl | rfl <;> simp)), okL_w (t := .note) (f := ok_note) (h (.l .note x.notes) (by simp [enc, encOrderT])) (fun _ hx => ok_note_w hx)]; rfl
theorem sm_order_of {x : OrderT} (hw : ok_order x = true) (h : szN_order x ≤ 1048576) : sm_order x = true := by
  unfold szN_order at h
  simp only [ok_order, Bool.and_eq_true] at hw
  obtain ⟨h0, h1, h2, h3, h4, h5, h6⟩ := hw
  unfold sm_order
  rw [smStr_of (s := x.name) (by omega), smStr_of (s := x.target) (by omega), h2, h3, smL_of (f := sm_metric) (g := szN_metric) (xs := x.metrics) h4 (by omega) (fun _ hw hx => sm_metric_of hw hx), sm_pace_of (x := x.pace) h5 (by omega), smL_of (f := sm_note) (g := szN_note) (xs := x.notes) h6 (by omega) (fun _ hw hx => sm_note_of hw hx)]; rfl
theorem ok_order_sm {x : OrderT} (h : sm_order x = true) : ok_order x = true := by
  simp only [sm_order, Bool.and_eq_true] at h
  obtain ⟨h0, h1, h2, h3, h4, h5, h6⟩ := h
  unfold ok_order
  rw [okStr_sm h0, okStr_sm h1, h2, h3, okL_sm (g := ok_metric) h4 (fun _ hx => ok_metric_sm hx), ok_pace_sm h5, okL_sm (g := ok_note) h6 (fun _ hx => ok_note_sm hx)]; rfl
theorem eqD_order (a b : OrderT) : eqD a b = (sEq a.name b.name && (sEq a.target b.target && ((a.low == b.low) && ((a.high == b.high) && (eqD a.metrics b.metrics && (eqD a.pace b.pace && eqD a.notes b.notes)))))) := by
  cases a; cases b
  rw [Bool.eq_iff_iff]; simp [eqD_iff, sEq_iff]
def ok_item (x : ItemT) : Bool := (ok_order x.order && okI x.ver)
def sm_item (x : ItemT) : Bool := (sm_order x.order && okI x.ver)
def szN_item (x : ItemT) : Nat := szN_order x.order
def gz_item (x : ItemT) (n : Int) : Bool := ok_item x && okN n
def z_item (x : ItemT) (n : Int) : Int := szI (szN_item x) n
def gzL_item (x : List ItemT) (n : Int) : Bool := okL ok_item x && okN n
def zL_item (x : List ItemT) (n : Int) : Int := szI (szL szN_item x) n
theorem ok_item_w {x : ItemT} (h : ∀ c ∈ enc .item x, WideC c) : ok_item x = true := by
  unfold ok_item
  rw [ok_order_w (x := x.order) (fun c hc => by simp only [enc, encOrderT, List.mem_cons, List.not_mem_nil, or_false] at hc; exact h c (by simp only [enc, encItemT, List.mem_cons, List.not_mem_nil, or_false]; rcases hc with rfl | rfl | rfl | rfl | rfl | rfl | rfl | rfl | rfl | rfl <;> simp)), okI_w (h (.v (.int .i64 x.ver)) (by simp [enc, encItemT]))]; rfl
theorem sm_item_of {x : ItemT} (hw : ok_item x = true) (h : szN_item x ≤ 1048576) : sm_item x = true := by
  unfold szN_item at h
  simp only [ok_item, Bool.and_eq_true] at hw
  obtain ⟨h0, h1⟩ := hw
  unfold sm_item
  rw [sm_order_of (x := x.order) h0 (by omega), h1]; rfl
theorem ok_item_sm {x : ItemT} (h : sm_item x = true) : ok_item x = true := by
  simp only [sm_item, Bool.and_eq_true] at h
  obtain ⟨h0, h1⟩ := h
  unfold ok_item
  rw [ok_order_sm h0, h1]; rfl
theorem eqD_item (a b : ItemT) : eqD a b = (eqD a.order b.order && (a.ver == b.ver)) := by
  cases a; cases b
  rw [Bool.eq_iff_iff]; simp [eqD_iff, sEq_iff]
def ok_store (x : StoreT) : Bool := (okL ok_item x.items && okI x.next)
def sm_store (x : StoreT) : Bool := (smL sm_item x.items && okI x.next)
def szN_store (x : StoreT) : Nat := szL szN_item x.items
def gz_store (x : StoreT) (n : Int) : Bool := ok_store x && okN n
def z_store (x : StoreT) (n : Int) : Int := szI (szN_store x) n
def gzL_store (x : List StoreT) (n : Int) : Bool := okL ok_store x && okN n
def zL_store (x : List StoreT) (n : Int) : Int := szI (szL szN_store x) n
theorem ok_store_w {x : StoreT} (h : ∀ c ∈ enc .store x, WideC c) : ok_store x = true := by
  unfold ok_store
  rw [okL_w (t := .item) (f := ok_item) (h (.l .item x.items) (by simp [enc, encStoreT])) (fun _ hx => ok_item_w hx), okI_w (h (.v (.int .i64 x.next)) (by simp [enc, encStoreT]))]; rfl
theorem sm_store_of {x : StoreT} (hw : ok_store x = true) (h : szN_store x ≤ 1048576) : sm_store x = true := by
  unfold szN_store at h
  simp only [ok_store, Bool.and_eq_true] at hw
  obtain ⟨h0, h1⟩ := hw
  unfold sm_store
  rw [smL_of (f := sm_item) (g := szN_item) (xs := x.items) h0 (by omega) (fun _ hw hx => sm_item_of hw hx), h1]; rfl
theorem ok_store_sm {x : StoreT} (h : sm_store x = true) : ok_store x = true := by
  simp only [sm_store, Bool.and_eq_true] at h
  obtain ⟨h0, h1⟩ := h
  unfold ok_store
  rw [okL_sm (g := ok_item) h0 (fun _ hx => ok_item_sm hx), h1]; rfl
theorem eqD_store (a b : StoreT) : eqD a b = (eqD a.items b.items && (a.next == b.next)) := by
  cases a; cases b
  rw [Bool.eq_iff_iff]; simp [eqD_iff, sEq_iff]
def ok_answer (x : AnswerT) : Bool := (okI x.code && (okI x.ver && okStr x.text))
def sm_answer (x : AnswerT) : Bool := (okI x.code && (okI x.ver && smStr x.text))
def szN_answer (x : AnswerT) : Nat := x.text.size
def gz_answer (x : AnswerT) (n : Int) : Bool := ok_answer x && okN n
def z_answer (x : AnswerT) (n : Int) : Int := szI (szN_answer x) n
def gzL_answer (x : List AnswerT) (n : Int) : Bool := okL ok_answer x && okN n
def zL_answer (x : List AnswerT) (n : Int) : Int := szI (szL szN_answer x) n
theorem ok_answer_w {x : AnswerT} (h : ∀ c ∈ enc .answer x, WideC c) : ok_answer x = true := by
  unfold ok_answer
  rw [okI_w (h (.v (.int .i64 x.code)) (by simp [enc, encAnswerT])), okI_w (h (.v (.int .i64 x.ver)) (by simp [enc, encAnswerT])), okStr_w (h (.v (.string x.text)) (by simp [enc, encAnswerT]))]; rfl
theorem sm_answer_of {x : AnswerT} (hw : ok_answer x = true) (h : szN_answer x ≤ 1048576) : sm_answer x = true := by
  unfold szN_answer at h
  simp only [ok_answer, Bool.and_eq_true] at hw
  obtain ⟨h0, h1, h2⟩ := hw
  unfold sm_answer
  rw [h0, h1, smStr_of (s := x.text) (by omega)]; rfl
theorem ok_answer_sm {x : AnswerT} (h : sm_answer x = true) : ok_answer x = true := by
  simp only [sm_answer, Bool.and_eq_true] at h
  obtain ⟨h0, h1, h2⟩ := h
  unfold ok_answer
  rw [h0, h1, okStr_sm h2]; rfl
theorem eqD_answer (a b : AnswerT) : eqD a b = ((a.code == b.code) && ((a.ver == b.ver) && sEq a.text b.text)) := by
  cases a; cases b
  rw [Bool.eq_iff_iff]; simp [eqD_iff, sEq_iff]
def ok_sample (x : SampleT) : Bool := (okStr x.name && okI x.value)
def sm_sample (x : SampleT) : Bool := (smStr x.name && okI x.value)
def szN_sample (x : SampleT) : Nat := x.name.size
def gz_sample (x : SampleT) (n : Int) : Bool := ok_sample x && okN n
def z_sample (x : SampleT) (n : Int) : Int := szI (szN_sample x) n
def gzL_sample (x : List SampleT) (n : Int) : Bool := okL ok_sample x && okN n
def zL_sample (x : List SampleT) (n : Int) : Int := szI (szL szN_sample x) n
theorem ok_sample_w {x : SampleT} (h : ∀ c ∈ enc .sample x, WideC c) : ok_sample x = true := by
  unfold ok_sample
  rw [okStr_w (h (.v (.string x.name)) (by simp [enc, encSampleT])), okI_w (h (.v (.int .i64 x.value)) (by simp [enc, encSampleT]))]; rfl
theorem sm_sample_of {x : SampleT} (hw : ok_sample x = true) (h : szN_sample x ≤ 1048576) : sm_sample x = true := by
  unfold szN_sample at h
  simp only [ok_sample, Bool.and_eq_true] at hw
  obtain ⟨h0, h1⟩ := hw
  unfold sm_sample
  rw [smStr_of (s := x.name) (by omega), h1]; rfl
theorem ok_sample_sm {x : SampleT} (h : sm_sample x = true) : ok_sample x = true := by
  simp only [sm_sample, Bool.and_eq_true] at h
  obtain ⟨h0, h1⟩ := h
  unfold ok_sample
  rw [okStr_sm h0, h1]; rfl
theorem eqD_sample (a b : SampleT) : eqD a b = (sEq a.name b.name && (a.value == b.value)) := by
  cases a; cases b
  rw [Bool.eq_iff_iff]; simp [eqD_iff, sEq_iff]
def ok_rcd (x : RcdT) : Bool := (okI x.time && okI x.n)
def sm_rcd (x : RcdT) : Bool := (okI x.time && okI x.n)
def szN_rcd (_x : RcdT) : Nat := 0
def gz_rcd (x : RcdT) (n : Int) : Bool := ok_rcd x && okN n
def z_rcd (x : RcdT) (n : Int) : Int := szI (szN_rcd x) n
def gzL_rcd (x : List RcdT) (n : Int) : Bool := okL ok_rcd x && okN n
def zL_rcd (x : List RcdT) (n : Int) : Int := szI (szL szN_rcd x) n
theorem ok_rcd_w {x : RcdT} (h : ∀ c ∈ enc .rcd x, WideC c) : ok_rcd x = true := by
  unfold ok_rcd
  rw [okI_w (h (.v (.int .i64 x.time)) (by simp [enc, encRcdT])), okI_w (h (.v (.int .i64 x.n)) (by simp [enc, encRcdT]))]; rfl
theorem sm_rcd_of {x : RcdT} (hw : ok_rcd x = true) (h : szN_rcd x ≤ 1048576) : sm_rcd x = true := by
  unfold szN_rcd at h
  simp only [ok_rcd, Bool.and_eq_true] at hw
  obtain ⟨h0, h1⟩ := hw
  unfold sm_rcd
  rw [h0, h1]; rfl
theorem ok_rcd_sm {x : RcdT} (h : sm_rcd x = true) : ok_rcd x = true := by
  simp only [sm_rcd, Bool.and_eq_true] at h
  obtain ⟨h0, h1⟩ := h
  unfold ok_rcd
  rw [h0, h1]; rfl
theorem eqD_rcd (a b : RcdT) : eqD a b = ((a.time == b.time) && (a.n == b.n)) := by
  cases a; cases b
  rw [Bool.eq_iff_iff]; simp [eqD_iff, sEq_iff]
def ok_scale (x : ScaleT) : Bool := (okStr x.name && (okI x.now && okL ok_rcd x.recs))
def sm_scale (x : ScaleT) : Bool := (smStr x.name && (okI x.now && smL sm_rcd x.recs))
def szN_scale (x : ScaleT) : Nat := x.name.size + szL szN_rcd x.recs
def gz_scale (x : ScaleT) (n : Int) : Bool := ok_scale x && okN n
def z_scale (x : ScaleT) (n : Int) : Int := szI (szN_scale x) n
def gzL_scale (x : List ScaleT) (n : Int) : Bool := okL ok_scale x && okN n
def zL_scale (x : List ScaleT) (n : Int) : Int := szI (szL szN_scale x) n
theorem ok_scale_w {x : ScaleT} (h : ∀ c ∈ enc .scale x, WideC c) : ok_scale x = true := by
  unfold ok_scale
  rw [okStr_w (h (.v (.string x.name)) (by simp [enc, encScaleT])), okI_w (h (.v (.int .i64 x.now)) (by simp [enc, encScaleT])), okL_w (t := .rcd) (f := ok_rcd) (h (.l .rcd x.recs) (by simp [enc, encScaleT])) (fun _ hx => ok_rcd_w hx)]; rfl
theorem sm_scale_of {x : ScaleT} (hw : ok_scale x = true) (h : szN_scale x ≤ 1048576) : sm_scale x = true := by
  unfold szN_scale at h
  simp only [ok_scale, Bool.and_eq_true] at hw
  obtain ⟨h0, h1, h2⟩ := hw
  unfold sm_scale
  rw [smStr_of (s := x.name) (by omega), h1, smL_of (f := sm_rcd) (g := szN_rcd) (xs := x.recs) h2 (by omega) (fun _ hw hx => sm_rcd_of hw hx)]; rfl
theorem ok_scale_sm {x : ScaleT} (h : sm_scale x = true) : ok_scale x = true := by
  simp only [sm_scale, Bool.and_eq_true] at h
  obtain ⟨h0, h1, h2⟩ := h
  unfold ok_scale
  rw [okStr_sm h0, h1, okL_sm (g := ok_rcd) h2 (fun _ hx => ok_rcd_sm hx)]; rfl
theorem eqD_scale (a b : ScaleT) : eqD a b = (sEq a.name b.name && ((a.now == b.now) && eqD a.recs b.recs)) := by
  cases a; cases b
  rw [Bool.eq_iff_iff]; simp [eqD_iff, sEq_iff]
def ok_feed (x : FeedT) : Bool := (okStr x.name && okL ok_sample x.list)
def sm_feed (x : FeedT) : Bool := (smStr x.name && smL sm_sample x.list)
def szN_feed (x : FeedT) : Nat := x.name.size + szL szN_sample x.list
def gz_feed (x : FeedT) (n : Int) : Bool := ok_feed x && okN n
def z_feed (x : FeedT) (n : Int) : Int := szI (szN_feed x) n
def gzL_feed (x : List FeedT) (n : Int) : Bool := okL ok_feed x && okN n
def zL_feed (x : List FeedT) (n : Int) : Int := szI (szL szN_feed x) n
theorem ok_feed_w {x : FeedT} (h : ∀ c ∈ enc .feed x, WideC c) : ok_feed x = true := by
  unfold ok_feed
  rw [okStr_w (h (.v (.string x.name)) (by simp [enc, encFeedT])), okL_w (t := .sample) (f := ok_sample) (h (.l .sample x.list) (by simp [enc, encFeedT])) (fun _ hx => ok_sample_w hx)]; rfl
theorem sm_feed_of {x : FeedT} (hw : ok_feed x = true) (h : szN_feed x ≤ 1048576) : sm_feed x = true := by
  unfold szN_feed at h
  simp only [ok_feed, Bool.and_eq_true] at hw
  obtain ⟨h0, h1⟩ := hw
  unfold sm_feed
  rw [smStr_of (s := x.name) (by omega), smL_of (f := sm_sample) (g := szN_sample) (xs := x.list) h1 (by omega) (fun _ hw hx => sm_sample_of hw hx)]; rfl
theorem ok_feed_sm {x : FeedT} (h : sm_feed x = true) : ok_feed x = true := by
  simp only [sm_feed, Bool.and_eq_true] at h
  obtain ⟨h0, h1⟩ := h
  unfold ok_feed
  rw [okStr_sm h0, okL_sm (g := ok_sample) h1 (fun _ hx => ok_sample_sm hx)]; rfl
theorem eqD_feed (a b : FeedT) : eqD a b = (sEq a.name b.name && eqD a.list b.list) := by
  cases a; cases b
  rw [Bool.eq_iff_iff]; simp [eqD_iff, sEq_iff]
def ok_told (x : ToldT) : Bool := (okI x.time && (okStr x.name && okI x.n))
def sm_told (x : ToldT) : Bool := (okI x.time && (smStr x.name && okI x.n))
def szN_told (x : ToldT) : Nat := x.name.size
def gz_told (x : ToldT) (n : Int) : Bool := ok_told x && okN n
def z_told (x : ToldT) (n : Int) : Int := szI (szN_told x) n
def gzL_told (x : List ToldT) (n : Int) : Bool := okL ok_told x && okN n
def zL_told (x : List ToldT) (n : Int) : Int := szI (szL szN_told x) n
theorem ok_told_w {x : ToldT} (h : ∀ c ∈ enc .told x, WideC c) : ok_told x = true := by
  unfold ok_told
  rw [okI_w (h (.v (.int .i64 x.time)) (by simp [enc, encToldT])), okStr_w (h (.v (.string x.name)) (by simp [enc, encToldT])), okI_w (h (.v (.int .i64 x.n)) (by simp [enc, encToldT]))]; rfl
theorem sm_told_of {x : ToldT} (hw : ok_told x = true) (h : szN_told x ≤ 1048576) : sm_told x = true := by
  unfold szN_told at h
  simp only [ok_told, Bool.and_eq_true] at hw
  obtain ⟨h0, h1, h2⟩ := hw
  unfold sm_told
  rw [h0, smStr_of (s := x.name) (by omega), h2]; rfl
theorem ok_told_sm {x : ToldT} (h : sm_told x = true) : ok_told x = true := by
  simp only [sm_told, Bool.and_eq_true] at h
  obtain ⟨h0, h1, h2⟩ := h
  unfold ok_told
  rw [h0, okStr_sm h1, h2]; rfl
theorem eqD_told (a b : ToldT) : eqD a b = ((a.time == b.time) && (sEq a.name b.name && (a.n == b.n))) := by
  cases a; cases b
  rw [Bool.eq_iff_iff]; simp [eqD_iff, sEq_iff]
def ok_world (x : WorldT) : Bool := (ok_store x.store && (okL ok_scale x.scales && (okI x.time && okL ok_told x.log)))
def sm_world (x : WorldT) : Bool := (sm_store x.store && (smL sm_scale x.scales && (okI x.time && smL sm_told x.log)))
def szN_world (x : WorldT) : Nat := szN_store x.store + szL szN_scale x.scales + szL szN_told x.log
def gz_world (x : WorldT) (n : Int) : Bool := ok_world x && okN n
def z_world (x : WorldT) (n : Int) : Int := szI (szN_world x) n
def gzL_world (x : List WorldT) (n : Int) : Bool := okL ok_world x && okN n
def zL_world (x : List WorldT) (n : Int) : Int := szI (szL szN_world x) n
theorem ok_world_w {x : WorldT} (h : ∀ c ∈ enc .world x, WideC c) : ok_world x = true := by
  unfold ok_world
  rw [ok_store_w (x := x.store) (fun c hc => by simp only [enc, encStoreT, List.mem_cons, List.not_mem_nil, or_false] at hc; exact h c (by simp only [enc, encWorldT, List.mem_cons, List.not_mem_nil, or_false]; rcases hc with rfl | rfl <;> simp)), okL_w (t := .scale) (f := ok_scale) (h (.l .scale x.scales) (by simp [enc, encWorldT])) (fun _ hx => ok_scale_w hx), okI_w (h (.v (.int .i64 x.time)) (by simp [enc, encWorldT])), okL_w (t := .told) (f := ok_told) (h (.l .told x.log) (by simp [enc, encWorldT])) (fun _ hx => ok_told_w hx)]; rfl
theorem sm_world_of {x : WorldT} (hw : ok_world x = true) (h : szN_world x ≤ 1048576) : sm_world x = true := by
  unfold szN_world at h
  simp only [ok_world, Bool.and_eq_true] at hw
  obtain ⟨h0, h1, h2, h3⟩ := hw
  unfold sm_world
  rw [sm_store_of (x := x.store) h0 (by omega), smL_of (f := sm_scale) (g := szN_scale) (xs := x.scales) h1 (by omega) (fun _ hw hx => sm_scale_of hw hx), h2, smL_of (f := sm_told) (g := szN_told) (xs := x.log) h3 (by omega) (fun _ hw hx => sm_told_of hw hx)]; rfl
theorem ok_world_sm {x : WorldT} (h : sm_world x = true) : ok_world x = true := by
  simp only [sm_world, Bool.and_eq_true] at h
  obtain ⟨h0, h1, h2, h3⟩ := h
  unfold ok_world
  rw [ok_store_sm h0, okL_sm (g := ok_scale) h1 (fun _ hx => ok_scale_sm hx), h2, okL_sm (g := ok_told) h3 (fun _ hx => ok_told_sm hx)]; rfl
theorem eqD_world (a b : WorldT) : eqD a b = (eqD a.store b.store && (eqD a.scales b.scales && ((a.time == b.time) && eqD a.log b.log))) := by
  cases a; cases b
  rw [Bool.eq_iff_iff]; simp [eqD_iff, sEq_iff]
def ok_deed (x : DeedT) : Bool := (okI x.kind && (okI x.form && (okI x.n && (okStr x.name && (okStr x.text && okL ok_feed x.feeds)))))
def sm_deed (x : DeedT) : Bool := (okI x.kind && (okI x.form && (okI x.n && (smStr x.name && (smStr x.text && smL sm_feed x.feeds)))))
def szN_deed (x : DeedT) : Nat := x.name.size + x.text.size + szL szN_feed x.feeds
def gz_deed (x : DeedT) (n : Int) : Bool := ok_deed x && okN n
def z_deed (x : DeedT) (n : Int) : Int := szI (szN_deed x) n
def gzL_deed (x : List DeedT) (n : Int) : Bool := okL ok_deed x && okN n
def zL_deed (x : List DeedT) (n : Int) : Int := szI (szL szN_deed x) n
theorem ok_deed_w {x : DeedT} (h : ∀ c ∈ enc .deed x, WideC c) : ok_deed x = true := by
  unfold ok_deed
  rw [okI_w (h (.v (.int .i64 x.kind)) (by simp [enc, encDeedT])), okI_w (h (.v (.int .i64 x.form)) (by simp [enc, encDeedT])), okI_w (h (.v (.int .i64 x.n)) (by simp [enc, encDeedT])), okStr_w (h (.v (.string x.name)) (by simp [enc, encDeedT])), okStr_w (h (.v (.string x.text)) (by simp [enc, encDeedT])), okL_w (t := .feed) (f := ok_feed) (h (.l .feed x.feeds) (by simp [enc, encDeedT])) (fun _ hx => ok_feed_w hx)]; rfl
theorem sm_deed_of {x : DeedT} (hw : ok_deed x = true) (h : szN_deed x ≤ 1048576) : sm_deed x = true := by
  unfold szN_deed at h
  simp only [ok_deed, Bool.and_eq_true] at hw
  obtain ⟨h0, h1, h2, h3, h4, h5⟩ := hw
  unfold sm_deed
  rw [h0, h1, h2, smStr_of (s := x.name) (by omega), smStr_of (s := x.text) (by omega), smL_of (f := sm_feed) (g := szN_feed) (xs := x.feeds) h5 (by omega) (fun _ hw hx => sm_feed_of hw hx)]; rfl
theorem ok_deed_sm {x : DeedT} (h : sm_deed x = true) : ok_deed x = true := by
  simp only [sm_deed, Bool.and_eq_true] at h
  obtain ⟨h0, h1, h2, h3, h4, h5⟩ := h
  unfold ok_deed
  rw [h0, h1, h2, okStr_sm h3, okStr_sm h4, okL_sm (g := ok_feed) h5 (fun _ hx => ok_feed_sm hx)]; rfl
theorem eqD_deed (a b : DeedT) : eqD a b = ((a.kind == b.kind) && ((a.form == b.form) && ((a.n == b.n) && (sEq a.name b.name && (sEq a.text b.text && eqD a.feeds b.feeds))))) := by
  cases a; cases b
  rw [Bool.eq_iff_iff]; simp [eqD_iff, sEq_iff]
def ok_pick (x : PickT) : Bool := (okI x.op && (okStr x.key && okL okStr x.vals))
def sm_pick (x : PickT) : Bool := (okI x.op && (smStr x.key && smL smStr x.vals))
def szN_pick (x : PickT) : Nat := x.key.size + szL ByteArray.size x.vals
def gz_pick (x : PickT) (n : Int) : Bool := ok_pick x && okN n
def z_pick (x : PickT) (n : Int) : Int := szI (szN_pick x) n
def gzL_pick (x : List PickT) (n : Int) : Bool := okL ok_pick x && okN n
def zL_pick (x : List PickT) (n : Int) : Int := szI (szL szN_pick x) n
theorem ok_pick_w {x : PickT} (h : ∀ c ∈ enc .pick x, WideC c) : ok_pick x = true := by
  unfold ok_pick
  rw [okI_w (h (.v (.int .i64 x.op)) (by simp [enc, encPickT])), okStr_w (h (.v (.string x.key)) (by simp [enc, encPickT])), okStrs_w (h (.l .str x.vals) (by simp [enc, encPickT]))]; rfl
theorem sm_pick_of {x : PickT} (hw : ok_pick x = true) (h : szN_pick x ≤ 1048576) : sm_pick x = true := by
  unfold szN_pick at h
  simp only [ok_pick, Bool.and_eq_true] at hw
  obtain ⟨h0, h1, h2⟩ := hw
  unfold sm_pick
  rw [h0, smStr_of (s := x.key) (by omega), smL_of (f := smStr) (g := ByteArray.size) (xs := x.vals) h2 (by omega) (fun _ hw hx => smStr_of hx)]; rfl
theorem ok_pick_sm {x : PickT} (h : sm_pick x = true) : ok_pick x = true := by
  simp only [sm_pick, Bool.and_eq_true] at h
  obtain ⟨h0, h1, h2⟩ := h
  unfold ok_pick
  rw [h0, okStr_sm h1, okL_sm (g := okStr) h2 (fun _ hx => okStr_sm hx)]; rfl
def ok_event (x : EventT) : Bool := (okI x.seq && (okI x.kind && ok_item x.item))
def sm_event (x : EventT) : Bool := (okI x.seq && (okI x.kind && sm_item x.item))
def szN_event (x : EventT) : Nat := szN_item x.item
def gz_event (x : EventT) (n : Int) : Bool := ok_event x && okN n
def z_event (x : EventT) (n : Int) : Int := szI (szN_event x) n
def gzL_event (x : List EventT) (n : Int) : Bool := okL ok_event x && okN n
def zL_event (x : List EventT) (n : Int) : Int := szI (szL szN_event x) n
theorem ok_event_w {x : EventT} (h : ∀ c ∈ enc .event x, WideC c) : ok_event x = true := by
  unfold ok_event
  rw [okI_w (h (.v (.int .i64 x.seq)) (by simp [enc, encEventT])), okI_w (h (.v (.int .i64 x.kind)) (by simp [enc, encEventT])), ok_item_w (x := x.item) (fun c hc => by simp only [enc, encItemT, List.mem_cons, List.not_mem_nil, or_false] at hc; exact h c (by simp only [enc, encEventT, List.mem_cons, List.not_mem_nil, or_false]; rcases hc with rfl | rfl | rfl | rfl | rfl | rfl | rfl | rfl | rfl | rfl | rfl <;> simp))]; rfl
theorem sm_event_of {x : EventT} (hw : ok_event x = true) (h : szN_event x ≤ 1048576) : sm_event x = true := by
  unfold szN_event at h
  simp only [ok_event, Bool.and_eq_true] at hw
  obtain ⟨h0, h1, h2⟩ := hw
  unfold sm_event
  rw [h0, h1, sm_item_of (x := x.item) h2 (by omega)]; rfl
theorem ok_event_sm {x : EventT} (h : sm_event x = true) : ok_event x = true := by
  simp only [sm_event, Bool.and_eq_true] at h
  obtain ⟨h0, h1, h2⟩ := h
  unfold ok_event
  rw [h0, h1, ok_item_sm h2]; rfl
theorem eqD_event (a b : EventT) : eqD a b = ((a.seq == b.seq) && ((a.kind == b.kind) && eqD a.item b.item)) := by
  cases a; cases b
  rw [Bool.eq_iff_iff]; simp [eqD_iff, sEq_iff]
def ok_hist (x : HistT) : Bool := (okI x.base && okL ok_event x.list)
def sm_hist (x : HistT) : Bool := (okI x.base && smL sm_event x.list)
def szN_hist (x : HistT) : Nat := szL szN_event x.list
def gz_hist (x : HistT) (n : Int) : Bool := ok_hist x && okN n
def z_hist (x : HistT) (n : Int) : Int := szI (szN_hist x) n
def gzL_hist (x : List HistT) (n : Int) : Bool := okL ok_hist x && okN n
def zL_hist (x : List HistT) (n : Int) : Int := szI (szL szN_hist x) n
theorem ok_hist_w {x : HistT} (h : ∀ c ∈ enc .hist x, WideC c) : ok_hist x = true := by
  unfold ok_hist
  rw [okI_w (h (.v (.int .i64 x.base)) (by simp [enc, encHistT])), okL_w (t := .event) (f := ok_event) (h (.l .event x.list) (by simp [enc, encHistT])) (fun _ hx => ok_event_w hx)]; rfl
theorem sm_hist_of {x : HistT} (hw : ok_hist x = true) (h : szN_hist x ≤ 1048576) : sm_hist x = true := by
  unfold szN_hist at h
  simp only [ok_hist, Bool.and_eq_true] at hw
  obtain ⟨h0, h1⟩ := hw
  unfold sm_hist
  rw [h0, smL_of (f := sm_event) (g := szN_event) (xs := x.list) h1 (by omega) (fun _ hw hx => sm_event_of hw hx)]; rfl
theorem ok_hist_sm {x : HistT} (h : sm_hist x = true) : ok_hist x = true := by
  simp only [sm_hist, Bool.and_eq_true] at h
  obtain ⟨h0, h1⟩ := h
  unfold ok_hist
  rw [h0, okL_sm (g := ok_event) h1 (fun _ hx => ok_event_sm hx)]; rfl
theorem eqD_hist (a b : HistT) : eqD a b = ((a.base == b.base) && eqD a.list b.list) := by
  cases a; cases b
  rw [Bool.eq_iff_iff]; simp [eqD_iff, sEq_iff]
def ok_fail (x : FailT) : Bool := (okStr x.name && okI x.n)
def sm_fail (x : FailT) : Bool := (smStr x.name && okI x.n)
def szN_fail (x : FailT) : Nat := x.name.size
def gz_fail (x : FailT) (n : Int) : Bool := ok_fail x && okN n
def z_fail (x : FailT) (n : Int) : Int := szI (szN_fail x) n
def gzL_fail (x : List FailT) (n : Int) : Bool := okL ok_fail x && okN n
def zL_fail (x : List FailT) (n : Int) : Int := szI (szL szN_fail x) n
theorem ok_fail_w {x : FailT} (h : ∀ c ∈ enc .fail x, WideC c) : ok_fail x = true := by
  unfold ok_fail
  rw [okStr_w (h (.v (.string x.name)) (by simp [enc, encFailT])), okI_w (h (.v (.int .i64 x.n)) (by simp [enc, encFailT]))]; rfl
theorem sm_fail_of {x : FailT} (hw : ok_fail x = true) (h : szN_fail x ≤ 1048576) : sm_fail x = true := by
  unfold szN_fail at h
  simp only [ok_fail, Bool.and_eq_true] at hw
  obtain ⟨h0, h1⟩ := hw
  unfold sm_fail
  rw [smStr_of (s := x.name) (by omega), h1]; rfl
theorem ok_fail_sm {x : FailT} (h : sm_fail x = true) : ok_fail x = true := by
  simp only [sm_fail, Bool.and_eq_true] at h
  obtain ⟨h0, h1⟩ := h
  unfold ok_fail
  rw [okStr_sm h0, h1]; rfl
theorem eqD_fail (a b : FailT) : eqD a b = (sEq a.name b.name && (a.n == b.n)) := by
  cases a; cases b
  rw [Bool.eq_iff_iff]; simp [eqD_iff, sEq_iff]
def ok_work (x : WorkT) : Bool := (okL okStr x.list && (okL okStr x.busy && (okL okStr x.again && okL ok_fail x.fails)))
def sm_work (x : WorkT) : Bool := (smL smStr x.list && (smL smStr x.busy && (smL smStr x.again && smL sm_fail x.fails)))
def szN_work (x : WorkT) : Nat := szL ByteArray.size x.list + szL ByteArray.size x.busy + szL ByteArray.size x.again + szL szN_fail x.fails
def gz_work (x : WorkT) (n : Int) : Bool := ok_work x && okN n
def z_work (x : WorkT) (n : Int) : Int := szI (szN_work x) n
def gzL_work (x : List WorkT) (n : Int) : Bool := okL ok_work x && okN n
def zL_work (x : List WorkT) (n : Int) : Int := szI (szL szN_work x) n
theorem ok_work_w {x : WorkT} (h : ∀ c ∈ enc .work x, WideC c) : ok_work x = true := by
  unfold ok_work
  rw [okStrs_w (h (.l .str x.list) (by simp [enc, encWorkT])), okStrs_w (h (.l .str x.busy) (by simp [enc, encWorkT])), okStrs_w (h (.l .str x.again) (by simp [enc, encWorkT])), okL_w (t := .fail) (f := ok_fail) (h (.l .fail x.fails) (by simp [enc, encWorkT])) (fun _ hx => ok_fail_w hx)]; rfl
theorem sm_work_of {x : WorkT} (hw : ok_work x = true) (h : szN_work x ≤ 1048576) : sm_work x = true := by
  unfold szN_work at h
  simp only [ok_work, Bool.and_eq_true] at hw
  obtain ⟨h0, h1, h2, h3⟩ := hw
  unfold sm_work
  rw [smL_of (f := smStr) (g := ByteArray.size) (xs := x.list) h0 (by omega) (fun _ hw hx => smStr_of hx), smL_of (f := smStr) (g := ByteArray.size) (xs := x.busy) h1 (by omega) (fun _ hw hx => smStr_of hx), smL_of (f := smStr) (g := ByteArray.size) (xs := x.again) h2 (by omega) (fun _ hw hx => smStr_of hx), smL_of (f := sm_fail) (g := szN_fail) (xs := x.fails) h3 (by omega) (fun _ hw hx => sm_fail_of hw hx)]; rfl
theorem ok_work_sm {x : WorkT} (h : sm_work x = true) : ok_work x = true := by
  simp only [sm_work, Bool.and_eq_true] at h
  obtain ⟨h0, h1, h2, h3⟩ := h
  unfold ok_work
  rw [okL_sm (g := okStr) h0 (fun _ hx => okStr_sm hx), okL_sm (g := okStr) h1 (fun _ hx => okStr_sm hx), okL_sm (g := okStr) h2 (fun _ hx => okStr_sm hx), okL_sm (g := ok_fail) h3 (fun _ hx => ok_fail_sm hx)]; rfl
theorem eqD_work (a b : WorkT) : eqD a b = (eqD a.list b.list && (eqD a.busy b.busy && (eqD a.again b.again && eqD a.fails b.fails))) := by
  cases a; cases b
  rw [Bool.eq_iff_iff]; simp [eqD_iff, sEq_iff]

end Go.Gm

/- Plain functions: what is to be looked at. -/
namespace Go.Gm
open Go

def firstN (p : Nat → Bool) : Nat → Nat → Option Nat
  | _, 0 => none
  | j, d + 1 => cond (p j) (some j) (firstN p (j + 1) d)
theorem loop_find {R : Type} {F : Nat → Int → Option R} {n : Nat} {p : Nat → Bool} {hit : Int → Option R} {miss : Option R} (hs : ∀ m j, j < n → F (m + 1) (j : Int) = cond (p j) (hit (j : Int)) (F m ((j + 1 : Nat) : Int)))
    (he : ∀ m, F (m + 1) (n : Int) = miss) : ∀ d j m, j + d = n → d < m → F m (j : Int) = (firstN p j d).elim miss (fun i => hit (i : Int)) := by
  intro d
  induction d with
  | zero =>
    intro j m hj hm
    obtain ⟨m, rfl⟩ : ∃ m', m = m' + 1 := ⟨m - 1, by omega⟩
    have : j = n := by omega
    subst this
    rw [he]; rfl
  | succ d ih =>
    intro j m hj hm
    obtain ⟨m, rfl⟩ : ∃ m', m = m' + 1 := ⟨m - 1, by omega⟩
    rw [hs m j (by omega), ih (j + 1) m (by omega) (by omega)]
    simp only [firstN]
    cases p j <;> rfl
theorem firstN_some {p : Nat → Bool} : ∀ {d j i : Nat}, firstN p j d = some i → j ≤ i ∧ i < j + d ∧ p i = true ∧ ∀ k, j ≤ k → k < i → p k = false
  | 0, _, _, h => by cases h
  | d + 1, j, i, h => by
    simp only [firstN] at h
    cases hp : p j with
    | true => rw [hp] at h; cases h; exact ⟨Nat.le_refl _, by omega, hp, fun k h1 h2 => by omega⟩
    | false =>
      rw [hp] at h
      obtain ⟨h1, h2, h3, h4⟩ := firstN_some h
      refine ⟨by omega, by omega, h3, fun k hk hk' => ?_⟩
      by_cases e : k = j
      · subst e; exact hp
      · exact h4 k (by omega) hk'
theorem firstN_none {p : Nat → Bool} : ∀ {d j : Nat}, firstN p j d = none → ∀ k, j ≤ k → k < j + d → p k = false
  | 0, _, _, k, h1, h2 => by omega
  | d + 1, j, h, k, h1, h2 => by
    simp only [firstN] at h
    cases hp : p j with
    | true => rw [hp] at h; cases h
    | false =>
      rw [hp] at h
      by_cases e : k = j
      · subst e; exact hp
      · exact firstN_none h k (by omega) (by omega)
/-- A place as a number; -1 without one. -/
def plc (o : Option Nat) : Int := o.elim (-1) fun i => (i : Int)

def failEq (f : FailT) (s : ByteArray) : Bool := sEq f.name s
def failO (xs : List FailT) (s : ByteArray) : Option Nat := firstN (fun j => failEq (atI (t := .fail) xs j) s) 0 xs.length
def failAt (xs : List FailT) (s : ByteArray) : Int := plc (failO xs s)
theorem failO_lt {xs : List FailT} {s : ByteArray} {i : Nat} (h : failO xs s = some i) : i < xs.length := by
  obtain ⟨_, h2, _⟩ := firstN_some h; omega

def minI (a b : Int) : Int := if a < b then a else b
def capN (N : Int) : Int := if 20 < N then 20 else N
def lowN (M : Int) : Int := if M > 1 then M else 1
/-- How long is waited behind so many failures. -/
def waitN (N : Int) : Int := minI (2 ^ Int.toNat (lowN (capN N) - 1)) 300
def waitOf (w : WorkT) (s : ByteArray) : Int := (failO w.fails s).elim 0 fun i => waitN (atI (t := .fail) w.fails i).n
theorem pow_le {e : Nat} (h : e ≤ 19) : (0 : Int) < 2 ^ e ∧ (2 : Int) ^ e ≤ 524288 := by
  have h1 : (2 : Nat) ^ e ≤ 2 ^ 19 := Nat.pow_le_pow_right (by omega) h
  have h2 : 0 < (2 : Nat) ^ e := Nat.two_pow_pos e
  have e1 : ((2 ^ e : Nat) : Int) = (2 : Int) ^ e := by push_cast; rfl
  omega

end Go.Gm

/- Contracts of library functions that are not walked by the evaluator: one plain result, what was there stays. -/
namespace Go.Gm
open Go

variable {w w' : World} {Mf ROa : Nat → Prop}

theorem spec_grow {P : Program} {f : Nat} {modes : List Am} {q : List Dt → Option (Bool × List Dt)} (hm : modes.all Am.reads = true)
    (h : ∀ ds outs, q ds = some (true, outs) → ∃ t x v, outs = [.d t x] ∧ enc t x = [.v v] ∧ isSt t = false ∧ flatB v = true ∧
      ∀ w us ROa Fs, ArgsOk w ROa modes ds us Fs → (∀ k, ROa k → k < w.heap.size) → Calls P f us.toArray w fun e w' => e = .returned v ∧ RowKit.Below w.heap.size w w') : SpecOk P f (Spec.of modes [false] true q) := by
  intro R ds k r hr w us Mf ROa Fs hA hp hFM hRM hRlt hMlt
  obtain ⟨outs, hq, hk⟩ := Spec.of_some hr
  obtain ⟨t, x, v, rfl, he, hs, hf, hc⟩ := h ds outs hq
  refine Calls.mono (hc w us ROa Fs hA hRlt) ?_
  rintro e w' ⟨rfl, hB⟩
  obtain ⟨h1, h2, _⟩ := hA.len
  have hA' : After w' w' Mf ROa (Spec.of modes [false] true q) ds us [.d t x] (.returned v) := After.one rfl rfl hm h1 h2 he hs hf
  obtain ⟨⟨rs, Gs, Bs, e1, hR, hBk, a1, a2, a3, a4, a5, a6, a7⟩, _⟩ := hA'
  refine ⟨_, hk, ⟨⟨rs, Gs, Bs, e1, hR, hBk, a1, fun B hB' k hk => ?_, fun ho => ⟨(a3 ho).1, fun G hG k hk => ?_⟩, fun ho => absurd ho (by simp [Spec.of]), a5, a6, a7⟩, ?_⟩⟩
  · rcases a2 B hB' k hk with h | h
    · exact .inl h
    · exact .inr (Nat.le_trans hB.size h)
  · rcases (a3 ho).2 G hG k hk with h | h
    · exact .inl h
    · exact .inr (Nat.le_trans hB.size h)
  · exact ⟨hB.os, hB.tape, hB.output, hB.size, fun b hb _ => hB.block b hb⟩

theorem rdStrs {xs : List ByteArray} {u : Value} (h : ValRd w ROa (.sl .str) xs u) (hlt : ∀ k, ROa k → k < w.heap.size) :
    (xs = [] ∧ ∃ a c, u = .slice a 0 c) ∨ ∃ b o c, u = .slice (some ⟨b, o, none⟩) xs.length c ∧ xs.length ≤ c ∧ b < w.heap.size ∧ ∀ (j : Nat) x, xs[j]? = some x → w.cell? ⟨b, o + j, none⟩ = some (.string x) := by
  obtain ⟨us, hf, hr⟩ := h
  obtain ⟨e, _⟩ := hf.size rfl
  subst e
  obtain ⟨z, hz, hc⟩ := hr.2 0 (.l .str xs) rfl
  have hz : u = z := by simpa using hz
  subst hz
  obtain ⟨av, h0, h1⟩ := hc
  obtain ⟨a, cap, e1, hle, hrow⟩ := h1 [] ⟨.str, xs⟩ rfl
  rw [h0] at e1
  by_cases hn : xs = []
  · subst hn; exact .inl ⟨rfl, a, cap, e1⟩
  · obtain ⟨b, o, cs, el, fz, h2, h3, h4, h5⟩ := hrow hn
    refine .inr ⟨b, o, cap, by rw [← h2]; exact e1, hle, hlt b h3, fun j x hx => ?_⟩
    obtain ⟨v, hv, hcv⟩ := h5 j x 0 (.v (.string x)) hx rfl
    have e2 : esz .str = 1 := rfl
    rw [cellIn h4]
    have hcv : v = .string x := hcv
    simp only [e2, Nat.mul_one, Nat.add_zero] at hv
    rw [hv, hcv]

def joinS (xs : List ByteArray) (sep : ByteArray) : ByteArray := ⟨(Lib.join (xs.map (·.data.toList)) sep.data.toList).toArray⟩
def gJoin (xs : List ByteArray) (sep : ByteArray) : Bool := smL smStr xs && smStr sep
theorem join_len (s : List UInt8) : ∀ (l : List (List UInt8)) (B : Nat), (∀ x ∈ l, x.length ≤ B) → (Lib.join l s).length ≤ l.length * (B + s.length)
  | [], B, _ => by simp [Lib.join]
  | [x], B, h => by
    rw [Lib.join_one]
    have := h x (by simp)
    simp; omega
  | x :: y :: r, B, h => by
    have h1 := h x (by simp)
    have h2 := join_len s (y :: r) B (fun z hz => h z (by simp [hz]))
    have e : Lib.join (x :: y :: r) s = x ++ s ++ Lib.join (y :: r) s := by
      first | rfl | simp [Lib.join]
    rw [e]
    simp only [List.length_append, List.length_cons] at h2 ⊢
    have : (r.length + 1 + 1) * (B + s.length) = (r.length + 1) * (B + s.length) + (B + s.length) := by rw [Nat.add_mul]; simp
    omega
theorem gJoin_len {xs : List ByteArray} {sep : ByteArray} (h : gJoin xs sep = true) : (Lib.join (xs.map (·.data.toList)) sep.data.toList).length ≤ 140737488355328 := by
  simp only [gJoin, Bool.and_eq_true] at h
  have h1 := smL_len h.1
  have h2 : sep.size ≤ 1048576 := bleN h.2
  have h3 := join_len sep.data.toList (xs.map (·.data.toList)) 1048576 (fun x hx => by
    obtain ⟨s, hs, rfl⟩ := List.mem_map.1 hx
    have : s.size ≤ 1048576 := bleN (List.all_eq_true.1 (smL_all h.1) s hs)
    simpa using this)
  have h4 : sep.data.toList.length = sep.size := by simp
  rw [List.length_map, h4] at h3
  have h5 : xs.length * (1048576 + sep.size) ≤ 1048576 * (1048576 + 1048576) := Nat.mul_le_mul h1 (by omega)
  omega

end Go.Gm

/- Contracts of functions that call themselves, by a measure. -/
namespace Go.Gm
open Go

abbrev Q := List Dt → Option (Bool × List Dt)
/-- Only where the measure is below N. -/
def qlt (μ : List Dt → Nat) (N : Nat) (q : Q) : Q := fun ds => match q ds with | some (g, outs) => some (g && Nat.blt (μ ds) N, outs) | none => none
def qeq (μ : List Dt → Nat) (N : Nat) (q : Q) : Q := fun ds => match q ds with | some (g, outs) => some (g && Nat.beq (μ ds) N, outs) | none => none

theorem spec_part {P : Program} {f : Nat} {modes : List Am} {res : List Bool} {own : Bool} {q : Q} (h : ∀ ds outs, q ds = some (true, outs) → ∃ q0 : Q, SpecOk P f (Spec.of modes res own q0) ∧ q0 ds = some (true, outs)) : SpecOk P f (Spec.of modes res own q) := by
  intro R ds k r hr
  obtain ⟨outs, hq, hk⟩ := Spec.of_some hr
  obtain ⟨q0, hs, h0⟩ := h ds outs hq
  have hr0 : (Spec.of modes res own q0).fn ds k = some r := by
    show (match q0 ds with | some (g, outs) => cond g (k outs) none | none => none) = some r
    rw [h0]; exact hk
  intro w us Mf ROa Fs hA hp hFM hRM hRlt hMlt
  exact Calls.mono (hs ds k r hr0 w us Mf ROa Fs hA hp hFM hRM hRlt hMlt) fun e w' ⟨outs, h1, h2⟩ => ⟨outs, h1, ⟨h2.out, h2.kept⟩⟩

theorem qeq_some {μ : List Dt → Nat} {N : Nat} {q : Q} {ds : List Dt} {outs : List Dt} (h : qeq μ N q ds = some (true, outs)) : q ds = some (true, outs) ∧ μ ds = N := by
  unfold qeq at h
  cases hq : q ds with
  | none => rw [hq] at h; cases h
  | some go =>
    obtain ⟨g, o⟩ := go
    rw [hq] at h
    simp only [Option.some.injEq, Prod.mk.injEq, Bool.and_eq_true] at h
    obtain ⟨⟨h1, h2⟩, h3⟩ := h
    exact ⟨by rw [h1, h3], beqN h2⟩
theorem qlt_some {μ : List Dt → Nat} {N : Nat} {q : Q} {ds : List Dt} {outs : List Dt} (h : qlt μ N q ds = some (true, outs)) : q ds = some (true, outs) ∧ μ ds < N := by
  unfold qlt at h
  cases hq : q ds with
  | none => rw [hq] at h; cases h
  | some go =>
    obtain ⟨g, o⟩ := go
    rw [hq] at h
    simp only [Option.some.injEq, Prod.mk.injEq, Bool.and_eq_true] at h
    obtain ⟨⟨h1, h2⟩, h3⟩ := h
    rw [Nat.blt_eq] at h2
    exact ⟨by rw [h1, h3], h2⟩
theorem qeq_self {μ : List Dt → Nat} {q : Q} {ds : List Dt} {outs : List Dt} (h : q ds = some (true, outs)) : qeq μ (μ ds) q ds = some (true, outs) := by
  unfold qeq; rw [h]; simp

theorem spec_rec {P : Program} {f : Nat} {modes : List Am} {res : List Bool} {own : Bool} {q : Q} (μ : List Dt → Nat)
    (h : ∀ N, SpecOk P f (Spec.of modes res own (qlt μ N q)) → SpecOk P f (Spec.of modes res own (qeq μ N q))) : SpecOk P f (Spec.of modes res own q) := by
  have all : ∀ N, SpecOk P f (Spec.of modes res own (qeq μ N q)) := by
    intro N
    induction N using Nat.strongRecOn with
    | _ N ih =>
      refine h N (spec_part fun ds outs hq => ?_)
      obtain ⟨h1, h2⟩ := qlt_some hq
      exact ⟨qeq μ (μ ds) q, ih (μ ds) h2, qeq_self h1⟩
  intro R
  exact spec_part fun ds outs hq => ⟨qeq μ (μ ds) q, all (μ ds), qeq_self hq⟩

end Go.Gm

/- Plain laws: numbers as texts, joined texts. -/
namespace Go.Gm
open Go

/-! ### loops that carry something on -/
theorem loop_acc {α A R : Type} {xs : List α} {F : Nat → Nat → A → Option R} {f : A → α → A} {good : A → Option R} (inv : Nat → A → Prop)
    (hi : ∀ (j : Nat) a x, xs[j]? = some x → inv j a → inv (j + 1) (f a x))
    (hs : ∀ m (j : Nat) a x, xs[j]? = some x → inv j a → F (m + 1) j a = F m (j + 1) (f a x)) (he : ∀ m a, inv xs.length a → F (m + 1) xs.length a = good a) :
    ∀ (d j m : Nat) (a : A), j + d = xs.length → d < m → inv j a → F m j a = good ((xs.drop j).foldl f a) := by
  intro d
  induction d with
  | zero =>
    intro j m a hj hm hia
    obtain ⟨m, rfl⟩ : ∃ m', m = m' + 1 := ⟨m - 1, by omega⟩
    have : j = xs.length := by omega
    subst this
    rw [he m a hia, List.drop_length]; rfl
  | succ d ih =>
    intro j m a hj hm hia
    obtain ⟨m, rfl⟩ : ∃ m', m = m' + 1 := ⟨m - 1, by omega⟩
    obtain ⟨x, hx, hd⟩ := drop_get (show j < xs.length by omega)
    rw [hs m j a x hx hia, hd, List.foldl_cons]
    exact ih (j + 1) m _ (by omega) (by omega) (hi j a x hx hia)

/-! ### numbers -/
def natDig (n : Nat) : List UInt8 := if n < 10 then [UInt8.ofNat (48 + n)] else natDig (n / 10) ++ [UInt8.ofNat (48 + n % 10)]
termination_by n
decreasing_by omega
theorem natDig_lt {n : Nat} (h : n < 10) : natDig n = [UInt8.ofNat (48 + n)] := by rw [natDig, if_pos h]
theorem natDig_ge {n : Nat} (h : ¬ n < 10) : natDig n = natDig (n / 10) ++ [UInt8.ofNat (48 + n % 10)] := by rw [natDig, if_neg h]
theorem natDig_len : ∀ (k n : Nat), n < 10 ^ (k + 1) → (natDig n).length ≤ k + 1
  | 0, n, h => by rw [natDig_lt (by omega)]; simp
  | k + 1, n, h => by
    by_cases h1 : n < 10
    · rw [natDig_lt h1]; simp
    · rw [natDig_ge h1, List.length_append]
      have := natDig_len k (n / 10) (by rw [Nat.pow_succ] at h; omega)
      simp only [List.length_cons, List.length_nil]; omega
def digS (n : Int) : ByteArray := ⟨((if n < 0 then [(45 : UInt8)] else []) ++ natDig n.natAbs).toArray⟩
theorem digS_size {n : Int} (h : okI n = true) : (digS n).size ≤ 20 := by
  rw [okI_iff] at h
  have h1 := natDig_len 18 n.natAbs (by have : (10 : Nat) ^ (18 + 1) = 10000000000000000000 := rfl; omega)
  show ((if n < 0 then [(45 : UInt8)] else []) ++ natDig n.natAbs).toArray.size ≤ 20
  rw [List.size_toArray, List.length_append]
  split <;> simp <;> omega
theorem ba_ext {x y : ByteArray} (h : x.data.toList = y.data.toList) : x = y := by
  cases x; cases y
  congr
  exact Array.toList_inj.1 h
theorem ba_app (x y : ByteArray) : (x ++ y).data.toList = x.data.toList ++ y.data.toList := by simp
theorem enc_dig : ∀ d : Nat, d < 10 → Utf8.encode (IntKind.wrap .i32 (IntKind.wrap .i64 ((48 : Int) + (d : Int)))) = ⟨#[UInt8.ofNat (48 + d)]⟩
  | 0, _ => rfl | 1, _ => rfl | 2, _ => rfl | 3, _ => rfl | 4, _ => rfl | 5, _ => rfl | 6, _ => rfl | 7, _ => rfl | 8, _ => rfl | 9, _ => rfl
  | d + 10, h => by omega
theorem tmod_pos {n : Int} (h : 0 ≤ n) : Int.tmod n 10 = ((n.natAbs % 10 : Nat) : Int) := by
  obtain ⟨m, rfl⟩ := Int.eq_ofNat_of_zero_le h
  rfl
theorem tdiv_pos {n : Int} (h : 0 ≤ n) : Int.tdiv n 10 = ((n.natAbs / 10 : Nat) : Int) := by
  obtain ⟨m, rfl⟩ := Int.eq_ofNat_of_zero_le h
  rfl
theorem tmod_neg {n : Int} (h : n < 0) : Int.tmod n 10 = -((n.natAbs % 10 : Nat) : Int) := by
  obtain ⟨m, rfl⟩ : ∃ m : Nat, n = -(m : Int) := ⟨n.natAbs, by omega⟩
  rw [Int.neg_tmod]
  have : (-(m : Int)).natAbs = m := by omega
  rw [this]; rfl
theorem tdiv_neg {n : Int} (h : n < 0) : Int.tdiv n 10 = -((n.natAbs / 10 : Nat) : Int) := by
  obtain ⟨m, rfl⟩ : ∃ m : Nat, n = -(m : Int) := ⟨n.natAbs, by omega⟩
  rw [Int.neg_tdiv]
  have : (-(m : Int)).natAbs = m := by omega
  rw [this]; rfl
theorem digS_nat (m : Nat) : digS (m : Int) = ⟨(natDig m).toArray⟩ := by
  unfold digS
  rw [if_neg (by omega)]; simp
theorem digS_one {n : Int} (h0 : 0 ≤ n) (h : n < 10) : digS n = Utf8.encode (IntKind.wrap .i32 (IntKind.wrap .i64 ((48 : Int) + n))) := by
  obtain ⟨m, rfl⟩ := Int.eq_ofNat_of_zero_le h0
  rw [enc_dig m (by omega), digS_nat, natDig_lt (by omega)]
theorem digS_negone {n : Int} (h0 : n < 0) (h : n > -10) : bs [45] ++ digS (IntKind.wrap .i64 (0 - n)) = digS n := by
  obtain ⟨m, rfl⟩ : ∃ m : Nat, n = -(m : Int) := ⟨n.natAbs, by omega⟩
  rw [wrap_id (by omega) (by omega), show (0 : Int) - -(m : Int) = (m : Int) by omega, digS_nat]
  unfold digS
  rw [if_pos h0]
  apply ba_ext
  rw [ba_app]; simp [bs]
theorem digS_ge {n : Int} (h : ¬ n < 10) : digS (Int.tdiv n 10) ++ Utf8.encode (IntKind.wrap .i32 (IntKind.wrap .i64 ((48 : Int) + (Int.tmod n 10)))) = digS n := by
  rw [tdiv_pos (by omega), tmod_pos (by omega), enc_dig _ (by omega), digS_nat]
  obtain ⟨m, rfl⟩ : ∃ m : Nat, n = (m : Int) := ⟨n.natAbs, by omega⟩
  rw [digS_nat]
  apply ba_ext
  rw [ba_app]
  simp only [Int.natAbs_natCast]
  rw [natDig_ge (n := m) (by omega)]
theorem digS_le {n : Int} (h : ¬ n > -10) : digS (Int.tdiv n 10) ++ digS (IntKind.wrap .i64 (0 - (Int.tmod n 10))) = digS n := by
  rw [tdiv_neg (by omega), tmod_neg (by omega)]
  rw [show (0 : Int) - -((n.natAbs % 10 : Nat) : Int) = ((n.natAbs % 10 : Nat) : Int) by omega, wrap_id (by omega) (by omega), digS_nat]
  obtain ⟨m, rfl⟩ : ∃ m : Nat, n = -(m : Int) := ⟨n.natAbs, by omega⟩
  have e : (-(m : Int)).natAbs = m := by omega
  rw [e]
  unfold digS
  rw [if_pos (by omega), if_pos (by omega)]
  apply ba_ext
  rw [ba_app]
  have e2 : (-((m / 10 : Nat) : Int)).natAbs = m / 10 := by omega
  rw [e, e2, natDig_ge (n := m) (by omega), natDig_lt (n := m % 10) (by omega)]
  simp
def muDig (n : Int) : Nat := 2 * n.natAbs + if n < 0 then 1 else 0
/-- One byte. -/
theorem byte_dig : ∀ d : Nat, d < 10 → bytesOf [IntKind.wrap .u8 (IntKind.wrap .i64 ((48 : Int) + (d : Int)))] = ⟨#[UInt8.ofNat (48 + d)]⟩
  | 0, _ => rfl | 1, _ => rfl | 2, _ => rfl | 3, _ => rfl | 4, _ => rfl | 5, _ => rfl | 6, _ => rfl | 7, _ => rfl | 8, _ => rfl | 9, _ => rfl
  | d + 10, h => by omega
/-- The digits of what is left, ahead of what there is. -/
def digR (n : Nat) (out : ByteArray) : ByteArray := if n = 0 then out else ⟨(natDig n).toArray⟩ ++ out
theorem digR_step {n : Nat} (h : n ≠ 0) (out : ByteArray) : digR (n / 10) (⟨#[UInt8.ofNat (48 + n % 10)]⟩ ++ out) = digR n out := by
  unfold digR
  rw [if_neg h]
  by_cases h1 : n < 10
  · rw [if_pos (by omega), natDig_lt h1, Nat.mod_eq_of_lt h1]
  · rw [if_neg (by omega), natDig_ge h1]
    apply ba_ext
    simp only [ba_app]; simp

/-! ### joined texts -/
def gJoinW (xs : List ByteArray) (sep : ByteArray) : Bool := Nat.ble (szL ByteArray.size xs) 17592186044416 && Nat.ble sep.size 4
theorem join_le (s : List UInt8) : ∀ (l : List ByteArray), (Lib.join (l.map (·.data.toList)) s).length ≤ (l.map ByteArray.size).sum + l.length * s.length
  | [] => by simp [Lib.join]
  | [x] => by
    rw [List.map_cons, List.map_nil, Lib.join_one]; simp
  | x :: y :: r => by
    have h1 := join_le s (y :: r)
    have e : Lib.join ((x :: y :: r).map (·.data.toList)) s = x.data.toList ++ s ++ Lib.join ((y :: r).map (·.data.toList)) s := by
      simp [Lib.join]
    rw [e]
    simp only [List.length_append, List.length_cons, List.map_cons, List.sum_cons] at h1 ⊢
    have h2 : x.data.toList.length = x.size := by simp
    have : (r.length + 1 + 1) * s.length = (r.length + 1) * s.length + s.length := by rw [Nat.add_mul]; simp
    rw [h2]
    omega
theorem gJoinW_len {xs : List ByteArray} {sep : ByteArray} (h : gJoinW xs sep = true) : (Lib.join (xs.map (·.data.toList)) sep.data.toList).length ≤ 140737488355328 := by
  simp only [gJoinW, Bool.and_eq_true] at h
  have h1 := bleN h.1
  have h2 := bleN h.2
  have h3 := join_le sep.data.toList xs
  have h4 : sep.data.toList.length = sep.size := by simp
  rw [h4] at h3
  unfold szL at h1
  have h5 : xs.length * sep.size ≤ 17592186044416 * 4 := Nat.mul_le_mul (by omega) h2
  omega
def spaced (xs : List ByteArray) : ByteArray := joinS xs (bs [32])
def gSpaced (xs : List ByteArray) : Bool := Nat.ble (szL ByteArray.size xs) 17592186044416
theorem gSpaced_j {xs : List ByteArray} (h : gSpaced xs = true) : gJoinW xs (bs [32]) = true := by
  unfold gJoinW; rw [show Nat.ble (szL ByteArray.size xs) 17592186044416 = true from h]; rfl
theorem joinS2 (a b s : ByteArray) : joinS [a, b] s = a ++ s ++ b := by
  apply ba_ext; simp [joinS, Lib.join]
theorem joinS3 (a b c s : ByteArray) : joinS [a, b, c] s = a ++ s ++ b ++ s ++ c := by
  apply ba_ext; simp [joinS, Lib.join]
theorem joinS4 (a b c d s : ByteArray) : joinS [a, b, c, d] s = a ++ s ++ b ++ s ++ c ++ s ++ d := by
  apply ba_ext; simp [joinS, Lib.join]
theorem gSpaced2 {a b : ByteArray} (h : a.size + b.size ≤ 17592186044400) : gSpaced [a, b] = true := by
  unfold gSpaced szL; rw [Nat.ble_eq]; simp; omega
theorem gSpaced3 {a b c : ByteArray} (h : a.size + b.size + c.size ≤ 17592186044400) : gSpaced [a, b, c] = true := by
  unfold gSpaced szL; rw [Nat.ble_eq]; simp; omega
theorem gSpaced4 {a b c d : ByteArray} (h : a.size + b.size + c.size + d.size ≤ 17592186044400) : gSpaced [a, b, c, d] = true := by
  unfold gSpaced szL; rw [Nat.ble_eq]; simp; omega
theorem app_le {a b : ByteArray} (h : a.size + b.size ≤ 9223372036854775807) : decide (ByteArray.size a + ByteArray.size b ≤ 9223372036854775807) = true := decide_eq_true h

theorem bs_size (l : List Nat) : (bs l).size = l.length := by
  show (List.toArray (l.map UInt8.ofNat)).size = l.length
  simp
theorem sEq_empty {s : ByteArray} : sEq s ByteArray.empty = true ↔ s = ByteArray.empty := sEq_iff
/-! ### shown -/
def ansWord (c : Int) : ByteArray :=
  cond (inR c 0 7) (atI (t := .str) ([(bs [100,111,110,101]), (bs [116,101,120,116]), (bs [98,97,100]), (bs [116,104,101,114,101]), (bs [110,111,110,101]), (bs [111,108,100]), (bs [102,117,108,108]), (bs [102,105,120,101,100])] : List ByteArray) c.toNat) (bs [119,104,97,116])
theorem ansWord_size (c : Int) : (ansWord c).size ≤ 8 := by
  unfold ansWord
  cases h : inR c 0 7 with
  | false => rw [cond_false, bs_size]; simp
  | true =>
    rw [cond_true]
    unfold inR at h
    simp only [Bool.and_eq_true, decide_eq_true_eq] at h
    have : c = 0 ∨ c = 1 ∨ c = 2 ∨ c = 3 ∨ c = 4 ∨ c = 5 ∨ c = 6 ∨ c = 7 := by omega
    rcases this with rfl | rfl | rfl | rfl | rfl | rfl | rfl | rfl <;> exact Nat.le_of_ble_eq_true rfl
def ansText (a : AnswerT) : ByteArray :=
  cond (sEq a.text ByteArray.empty) (ansWord a.code ++ bs [32] ++ digS a.ver) (ansWord a.code ++ bs [32] ++ digS a.ver ++ bs [32] ++ a.text)
/-- The word, as the nine of the reference's. -/
theorem ansWord_9 {c : Int} (h : inR c 0 8 = true) : ansWord c = atI (t := .str) ([(bs [100,111,110,101]), (bs [116,101,120,116]), (bs [98,97,100]), (bs [116,104,101,114,101]), (bs [110,111,110,101]), (bs [111,108,100]), (bs [102,117,108,108]), (bs [102,105,120,101,100]), (bs [119,104,97,116])] : List ByteArray) c.toNat := by
  unfold inR at h
  simp only [Bool.and_eq_true, decide_eq_true_eq] at h
  have : c = 0 ∨ c = 1 ∨ c = 2 ∨ c = 3 ∨ c = 4 ∨ c = 5 ∨ c = 6 ∨ c = 7 ∨ c = 8 := by omega
  rcases this with rfl | rfl | rfl | rfl | rfl | rfl | rfl | rfl | rfl <;> rfl
theorem ansWord_no {c : Int} (h : inR c 0 8 = false) : ansWord c = bs [119,104,97,116] := by
  have : inR c 0 7 = false := by
    unfold inR at *
    simp only [Bool.and_eq_false_iff, decide_eq_false_iff_not] at *
    omega
  unfold ansWord; rw [this]; rfl
theorem inR_iff {c l h : Int} : inR c l h = true ↔ l ≤ c ∧ c ≤ h := by unfold inR; simp
theorem ansText_e {a : AnswerT} (h : a.text = ByteArray.empty) : ansText a = ansWord a.code ++ bs [32] ++ digS a.ver := by
  unfold ansText; rw [h, sEq_self]; rfl
def recText (out : ByteArray) (r : RcdT) : ByteArray := out ++ bs [32] ++ digS r.time ++ bs [58] ++ digS r.n
def scaleText (s : ScaleT) : ByteArray := s.recs.foldl recText (s.name ++ bs [32] ++ digS s.now)

end Go.Gm

/- Plain functions: picks, their texts, what they fit. -/
namespace Go.Gm
open Go

def gLenW {α : Type} (x : List α) : Bool := Nat.ble x.length WIDE
theorem gLenW_le {α : Type} {x : List α} (h : gLenW x = true) : x.length ≤ 9223372036854775807 := bleN h
theorem gLenW_of {α : Type} {x : List α} (h : x.length ≤ 9223372036854775807) : gLenW x = true := Nat.ble_eq_true_of_le h
theorem gLenW_sm {α : Type} {f : α → Bool} {x : List α} (h : smL f x = true) : gLenW x = true := gLenW_of (Nat.le_trans (smL_len h) (by decide))

/-! ### the first one -/
theorem firstN_drop {t : Ty} {q : El t → Bool} {xs : List (El t)} : ∀ (d j : Nat), j + d = xs.length →
    (firstN (fun j => q (atI xs j)) j d).isSome = (xs.drop j).any q ∧ (∀ i, firstN (fun j => q (atI xs j)) j d = some i → (xs.drop j).find? q = some (atI xs i)) ∧ (firstN (fun j => q (atI xs j)) j d = none → (xs.drop j).find? q = none)
  | 0, j, h => by
    have : j = xs.length := by omega
    subst this
    rw [List.drop_length]
    refine ⟨rfl, ?_, fun _ => rfl⟩
    intro i h; cases h
  | d + 1, j, h => by
    obtain ⟨x, hx, hd⟩ := drop_get (show j < xs.length by omega)
    obtain ⟨h1, h2, h3⟩ := firstN_drop (q := q) (xs := xs) d (j + 1) (by omega)
    rw [hd]
    simp only [firstN, atI_of hx, List.any_cons, List.find?_cons]
    cases hq : q x with
    | true => exact ⟨rfl, fun i hi => by cases hi; rw [atI_of hx], fun h => by cases h⟩
    | false => exact ⟨by simpa using h1, h2, h3⟩
theorem firstN_any {t : Ty} (q : El t → Bool) (xs : List (El t)) : (firstN (fun j => q (atI xs j)) 0 xs.length).isSome = xs.any q := by
  have := (firstN_drop (q := q) (xs := xs) xs.length 0 (by omega)).1
  rwa [List.drop_zero] at this
theorem firstN_find {t : Ty} {q : El t → Bool} {xs : List (El t)} {i : Nat} (h : firstN (fun j => q (atI xs j)) 0 xs.length = some i) : xs.find? q = some (atI xs i) := by
  have := (firstN_drop (q := q) (xs := xs) xs.length 0 (by omega)).2.1 i h
  rwa [List.drop_zero] at this
theorem firstN_find_no {t : Ty} {q : El t → Bool} {xs : List (El t)} (h : firstN (fun j => q (atI xs j)) 0 xs.length = none) : xs.find? q = none := by
  have := (firstN_drop (q := q) (xs := xs) xs.length 0 (by omega)).2.2 h
  rwa [List.drop_zero] at this
theorem plc_ge (o : Option Nat) : decide (plc o ≥ 0) = o.isSome := by
  cases o with
  | none => rfl
  | some i => simp [plc]
theorem plc_lt (o : Option Nat) : decide (plc o < 0) = !o.isSome := by
  cases o with
  | none => rfl
  | some i =>
    show decide ((i : Int) < 0) = false
    exact decide_eq_false (by omega)
/-- The place of the first that is so; -1 without one. -/
def findI {t : Ty} (q : El t → Bool) (xs : List (El t)) : Int := plc (firstN (fun j => q (atI xs j)) 0 xs.length)
theorem findI_ge {t : Ty} (q : El t → Bool) (xs : List (El t)) : decide (findI q xs ≥ 0) = xs.any q := by
  unfold findI; rw [plc_ge, firstN_any]
theorem findI_neg {t : Ty} (q : El t → Bool) (xs : List (El t)) : decide (findI q xs < 0) = !(xs.any q) := by
  unfold findI; rw [plc_lt, firstN_any]
theorem findI_cases {t : Ty} (q : El t → Bool) (xs : List (El t)) : (findI q xs = -1 ∧ xs.find? q = none ∧ xs.any q = false) ∨ ∃ i : Nat, findI q xs = i ∧ i < xs.length ∧ xs.find? q = some (atI xs i) ∧ xs.any q = true ∧ q (atI xs i) = true := by
  unfold findI
  have ha := firstN_any q xs
  cases h : firstN (fun j => q (atI xs j)) 0 xs.length with
  | none => rw [h] at ha; exact .inl ⟨rfl, firstN_find_no h, ha.symm⟩
  | some i =>
    rw [h] at ha
    obtain ⟨_, h2, h3, _⟩ := firstN_some h
    exact .inr ⟨i, rfl, by omega, firstN_find h, ha.symm, h3⟩

/-- A loop from the last one down. -/
theorem loop_down {α A R : Type} {xs : List α} {F : Nat → Int → A → Option R} {f : A → α → A} {good : A → Option R}
    (hs : ∀ m (j : Nat) a x, xs[j]? = some x → F (m + 1) (j : Int) a = F m ((j : Int) - 1) (f a x)) (he : ∀ m a, F (m + 1) (-1) a = good a) :
    ∀ (d m : Nat) (a : A), d ≤ xs.length → d < m → F m ((d : Int) - 1) a = good ((xs.take d).foldr (fun x a => f a x) a) := by
  intro d
  induction d with
  | zero =>
    intro m a _ hm
    obtain ⟨m, rfl⟩ : ∃ m', m = m' + 1 := ⟨m - 1, by omega⟩
    exact he m a
  | succ d ih =>
    intro m a hd hm
    obtain ⟨m, rfl⟩ : ∃ m', m = m' + 1 := ⟨m - 1, by omega⟩
    obtain ⟨x, hx, _⟩ := drop_get (show d < xs.length by omega)
    rw [show ((d + 1 : Nat) : Int) - 1 = (d : Int) by omega, hs m d a x hx, ih m _ (by omega) (by omega)]
    have : xs.take (d + 1) = xs.take d ++ [x] := by rw [List.take_add_one, hx]; rfl
    rw [this, List.foldr_append]; rfl
theorem foldl_and {α : Type} (q : α → Bool) : ∀ (xs : List α) (b : Bool), xs.foldl (fun b x => b && q x) b = (b && xs.all q)
  | [], b => by simp
  | x :: xs, b => by
    rw [List.foldl_cons, foldl_and q xs, List.all_cons]
    cases b <;> simp

/-! ### joined texts, as a loop -/
theorem joinS_nil (s : ByteArray) : joinS [] s = ByteArray.empty := rfl
theorem joinS_one (x s : ByteArray) : joinS [x] s = x := by apply ba_ext; simp [joinS, Lib.join]
theorem joinS_cons2 (x y s : ByteArray) (r : List ByteArray) : joinS (x :: y :: r) s = joinS ((x ++ s ++ y) :: r) s := by
  apply ba_ext
  cases r <;> simp [joinS, Lib.join]
theorem joinS_fold (s : ByteArray) : ∀ (r : List ByteArray) (x : ByteArray), joinS (x :: r) s = r.foldl (fun o y => o ++ s ++ y) x
  | [], x => joinS_one x s
  | y :: r, x => by rw [joinS_cons2, joinS_fold s r, List.foldl_cons]
theorem fold_pre (s a : ByteArray) : ∀ (r : List ByteArray) (x : ByteArray), r.foldl (fun o y => o ++ s ++ y) (a ++ x) = a ++ r.foldl (fun o y => o ++ s ++ y) x
  | [], x => rfl
  | y :: r, x => by
    rw [List.foldl_cons, List.foldl_cons, ← fold_pre s a r]
    rw [ByteArray.append_assoc, ByteArray.append_assoc, ByteArray.append_assoc]
theorem joinS_size (xs : List ByteArray) (s : ByteArray) : (joinS xs s).size ≤ (xs.map ByteArray.size).sum + xs.length * s.size := by
  have := join_le s.data.toList xs
  have h : (joinS xs s).size = (Lib.join (xs.map (·.data.toList)) s.data.toList).length := by
    show (List.toArray _).size = _
    simp
  rw [h]
  have h4 : s.data.toList.length = s.size := by simp
  rwa [h4] at this
theorem sumSz_le {xs : List ByteArray} {B : Nat} (h : ∀ x ∈ xs, x.size ≤ B) : (xs.map ByteArray.size).sum ≤ xs.length * B := by
  induction xs with
  | nil => simp
  | cons x r ih =>
    have h1 := h x (by simp)
    have h2 := ih fun y hy => h y (by simp [hy])
    simp only [List.map_cons, List.sum_cons, List.length_cons]
    rw [Nat.add_mul]; omega
theorem smStrs_size {xs : List ByteArray} (h : smL smStr xs = true) : (xs.map ByteArray.size).sum ≤ 1099511627776 := by
  have h1 := smL_len h
  have h2 : ∀ x ∈ xs, x.size ≤ 1048576 := fun x hx => bleN (List.all_eq_true.1 (smL_all h) x hx)
  have h3 := sumSz_le h2
  have : xs.length * 1048576 ≤ 1048576 * 1048576 := Nat.mul_le_mul_right _ h1
  omega
theorem gJoinW_sm {xs : List ByteArray} {s : ByteArray} (h : smL smStr xs = true) (hs : s.size ≤ 4) : gJoinW xs s = true := by
  unfold gJoinW szL
  have h1 := smL_len h
  have h2 := smStrs_size h
  rw [Nat.ble_eq_true_of_le (by omega), Nat.ble_eq_true_of_le hs]; rfl
theorem joinS_sm {xs : List ByteArray} {s : ByteArray} (h : smL smStr xs = true) (hs : s.size ≤ 4) : (joinS xs s).size ≤ 1099520000000 := by
  have h1 := smL_len h
  have h2 := smStrs_size h
  have h3 := joinS_size xs s
  have : xs.length * s.size ≤ 1048576 * 4 := Nat.mul_le_mul h1 hs
  omega

/-! ### texts of picks -/
def brack (xs : List ByteArray) : ByteArray := bs [40] ++ joinS xs (bs [44]) ++ bs [41]
theorem brack_fold (x : ByteArray) (r : List ByteArray) : r.foldl (fun o y => o ++ bs [44] ++ y) (bs [40] ++ x) ++ bs [41] = brack (x :: r) := by
  unfold brack
  rw [joinS_fold, fold_pre]
theorem brack_nil : bs [40] ++ bs [41] = brack [] := rfl
theorem okPick_sm {p : PickT} (h : sm_pick p = true) : okPick p = true := by
  have := ok_pick_sm h
  simp only [ok_pick, Bool.and_eq_true] at this
  unfold okPick
  rw [this.2.1, this.2.2]; rfl
noncomputable def pickText (p : PickT) : ByteArray :=
  cond (!(pickOk p)) ByteArray.empty
    (cond (p.op == (1 : Int)) (p.key ++ bs [61] ++ atI (t := .str) p.vals 0)
      (cond (p.op == (2 : Int)) (p.key ++ bs [33,61] ++ atI (t := .str) p.vals 0)
        (cond (p.op == (3 : Int)) (p.key ++ bs [32,105,110,32,40] ++ joinS p.vals (bs [44]) ++ bs [41])
          (cond (p.op == (4 : Int)) (p.key ++ bs [32,110,111,116,105,110,32,40] ++ joinS p.vals (bs [44]) ++ bs [41])
            (cond (p.op == (5 : Int)) p.key (bs [33] ++ p.key))))))
theorem in_brack (a : ByteArray) (xs : List ByteArray) : a ++ bs [32,105,110,32] ++ brack xs = a ++ bs [32,105,110,32,40] ++ joinS xs (bs [44]) ++ bs [41] := by
  unfold brack; apply ba_ext; simp [bs]
theorem out_brack (a : ByteArray) (xs : List ByteArray) : a ++ bs [32,110,111,116,105,110,32] ++ brack xs = a ++ bs [32,110,111,116,105,110,32,40] ++ joinS xs (bs [44]) ++ bs [41] := by
  unfold brack; apply ba_ext; simp [bs]
theorem pickOk_vals {p : PickT} (h : pickOk p = true) (ho : p.op = 1 ∨ p.op = 2 ∨ p.op = 3 ∨ p.op = 4) : 0 < p.vals.length := by
  unfold pickOk at h
  simp only [Bool.and_eq_true, Bool.or_eq_true, inR_iff, beq_iff_eq] at h
  omega

/-! ### what picks fit -/
def isIn (xs : List ByteArray) (s : ByteArray) : Bool := xs.any fun x => sEq x s
theorem sEq_comm (x y : ByteArray) : sEq x y = sEq y x := by rw [Bool.eq_iff_iff, sEq_iff, sEq_iff, eq_comm]
def idxS (xs : List ByteArray) (s : ByteArray) : Int := findI (t := .str) (fun x => sEq s x) xs
theorem idxS_isIn (xs : List ByteArray) (s : ByteArray) : decide (idxS xs s ≥ 0) = isIn xs s := by
  unfold idxS isIn
  rw [findI_ge]
  congr 1; funext x; exact sEq_comm s x
def noteIs (n : NoteT) (p : PickT) : Bool := sEq n.key p.key
def noteAt (ns : List NoteT) (p : PickT) : Int := findI (t := .note) (fun n => noteIs n p) ns
/-- What a pick asks is among the notes. -/
def among (p : PickT) (ns : List NoteT) : Bool := (ns.find? fun n => noteIs n p).elim false fun n => isIn p.vals n.text
noncomputable def fits (p : PickT) (ns : List NoteT) : Bool :=
  pickOk p && cond (p.op == (1 : Int) || p.op == (3 : Int)) (among p ns) (cond (p.op == (2 : Int) || p.op == (4 : Int)) (!(among p ns)) (cond (p.op == (5 : Int)) (ns.any fun n => noteIs n p) (!(ns.any fun n => noteIs n p))))
def gFits (p : PickT) (ns : List NoteT) : Bool := okPick p && gLenW ns
noncomputable def fitsNot (p : PickT) (i : ItemT) : Bool := !(fits p i.order.notes)
def gFitsAll (ps : List PickT) (i : ItemT) : Bool := gLenW ps && (ps.all okPick && gLenW i.order.notes)
noncomputable def fitsNotAt (ps : List PickT) (i : ItemT) : Int := findI (t := .pick) (fun p => fitsNot p i) ps
noncomputable def fitsNotAny (ps : List PickT) (i : ItemT) : Bool := ps.any fun p => fitsNot p i
noncomputable def chosenStep (ps : List PickT) (out : List ByteArray) (i : ItemT) : List ByteArray := cond (fitsNotAny ps i) out (out ++ [i.order.name])
noncomputable def chosen (s : StoreT) (ps : List PickT) : List ByteArray := s.items.foldl (chosenStep ps) []
def gChosen (s : StoreT) (ps : List PickT) : Bool := sm_store s && smL sm_pick ps
theorem all_at {t : Ty} {q : El t → Bool} {xs : List (El t)} (h : xs.all q = true) {j : Nat} (hj : j < xs.length) : q (atI xs j) = true := by
  obtain ⟨x, hx, _⟩ := drop_get hj
  rw [atI_of hx]; exact List.all_eq_true.1 h x (List.mem_of_getElem? hx)
theorem any_not {α : Type} (q : α → Bool) (xs : List α) : (!(xs.any fun x => !(q x))) = xs.all q := by
  induction xs with
  | nil => rfl
  | cons x r ih => rw [List.any_cons, List.all_cons, ← ih]; cases q x <;> simp
theorem find_pair (p : PickT) : ∀ ns : List NoteT, ns.foldr (fun n (a : Bool × ByteArray) => cond (noteIs n p) (true, n.text) a) (false, ByteArray.empty) = ((ns.any fun n => noteIs n p), ((ns.find? fun n => noteIs n p).elim ByteArray.empty fun n => n.text))
  | [] => rfl
  | n :: r => by
    rw [List.foldr_cons, find_pair p r, List.any_cons, List.find?_cons]
    cases noteIs n p <;> rfl
theorem find_any {α : Type} (q : α → Bool) (xs : List α) : (xs.find? q).isSome = xs.any q := by
  induction xs with
  | nil => rfl
  | cons x r ih => rw [List.find?_cons, List.any_cons, ← ih]; cases q x <;> simp

end Go.Gm

/- Plain functions and laws: marks that are written into lists one after another, and whether they are held. Printed by mkp7.py of this session. -/
namespace Go.Gm
open Go

noncomputable def mkT (k : Int) : ByteArray := cond (decide (k ≤ 0)) (bs [109,48]) (bs [109] ++ digS k)
def mkL {α : Type} (f : Int → α → α × Int) : Int → List α → List α × Int
  | k, [] => ([], k)
  | k, x :: xs => ((f k x).1 :: (mkL f (f k x).2 xs).1, (mkL f (f k x).2 xs).2)
def ctL {α : Type} (c : α → Nat) (xs : List α) : Nat := (xs.map c).sum
theorem ctL_cons {α : Type} (c : α → Nat) (x : α) (xs : List α) : ctL c (x :: xs) = c x + ctL c xs := by simp [ctL]
theorem mkL_ct {α : Type} {f : Int → α → α × Int} {c : α → Nat} (h : ∀ k x, (f k x).2 = k + (c x : Nat)) : ∀ (k : Int) (xs : List α), (mkL f k xs).2 = k + (ctL c xs : Nat)
  | k, [] => by simp [mkL, ctL]
  | k, x :: xs => by
    simp only [mkL]
    rw [mkL_ct h, h, ctL_cons]; omega
theorem mkL_len {α : Type} (f : Int → α → α × Int) : ∀ (k : Int) (xs : List α), (mkL f k xs).1.length = xs.length
  | _, [] => rfl
  | k, x :: xs => by simp only [mkL, List.length_cons]; rw [mkL_len f]
theorem mkL_idem {α : Type} {f : Int → α → α × Int} (h : ∀ k x, f k (f k x).1 = f k x) : ∀ (k : Int) (xs : List α), mkL f k (mkL f k xs).1 = mkL f k xs
  | _, [] => rfl
  | k, x :: xs => by
    simp only [mkL]
    rw [h, mkL_idem h]
theorem ctL_len {α : Type} {c : α → Nat} (h : ∀ x, 1 ≤ c x) : ∀ xs : List α, xs.length ≤ ctL c xs
  | [] => Nat.le_refl _
  | x :: xs => by
    have := ctL_len h xs
    have h1 := h x
    rw [ctL_cons, List.length_cons]; omega
theorem ctL_le {α : Type} {c s : α → Nat} (h : ∀ x, c x ≤ 64 * s x + 64) : ∀ xs : List α, ctL c xs ≤ 64 * szL s xs
  | [] => by simp [ctL]
  | x :: xs => by
    have := ctL_le h xs
    have h1 := h x
    have : szL s (x :: xs) = szL s xs + s x + 1 := by simp only [szL, List.length_cons, List.map_cons, List.sum_cons]; omega
    rw [ctL_cons]; omega
/-- The list as it is marked is held where it is the same. -/
noncomputable def hdL {α : Type} (f : Int → α → α × Int) (k : Int) (xs : List α) : Int := cond (eqD xs (mkL f k xs).1) (mkL f k xs).2 (-1)
theorem hdL_marked {α : Type} {f : Int → α → α × Int} (h : ∀ k x, f k (f k x).1 = f k x) (k : Int) (xs : List α) : hdL f k (mkL f k xs).1 = (mkL f k xs).2 := by
  unfold hdL; rw [mkL_idem h, eqD_self]; rfl
theorem hdL_cases {α : Type} (f : Int → α → α × Int) (k : Int) (xs : List α) : (eqD xs (mkL f k xs).1 = true ∧ hdL f k xs = (mkL f k xs).2) ∨ (eqD xs (mkL f k xs).1 = false ∧ hdL f k xs = -1) := by
  unfold hdL
  cases eqD xs (mkL f k xs).1 with
  | true => exact .inl ⟨rfl, rfl⟩
  | false => exact .inr ⟨rfl, rfl⟩
theorem eqD_cons {α : Type} (x y : α) (xs ys : List α) : eqD (x :: xs) (y :: ys) = (eqD x y && eqD xs ys) := by
  rw [Bool.eq_iff_iff, Bool.and_eq_true, eqD_iff, eqD_iff, eqD_iff, List.cons.injEq]
def gmk (k : Int) (c : Nat) : Bool := decide (0 ≤ k) && decide (k + (c : Nat) ≤ 4611686018427387904)
theorem gmk_iff {k : Int} {c : Nat} : gmk k c = true ↔ 0 ≤ k ∧ k + (c : Nat) ≤ 4611686018427387904 := by simp [gmk]
theorem gmk_of {k : Int} {c : Nat} (h0 : 0 ≤ k) (h : k + (c : Nat) ≤ 4611686018427387904) : gmk k c = true := gmk_iff.2 ⟨h0, h⟩
theorem okI_of {n : Int} (h0 : -9223372036854775808 ≤ n) (h : n ≤ 9223372036854775807) : okI n = true := okI_iff.2 ⟨h0, h⟩
theorem cond_and {α : Type} (a b : Bool) (x y : α) : cond (a && b) x y = cond a (cond b x y) y := by cases a <;> rfl
theorem decide_ge0 {n : Int} (h : 0 ≤ n) : decide (n < 0) = false := decide_eq_false (by omega)
theorem decide_m1 : decide ((-1 : Int) < 0) = true := rfl
theorem eqD_bool (x y : Bool) : eqD x y = (x == y) := by rw [Bool.eq_iff_iff]; simp [eqD]
theorem atI_set {t : Ty} {l : List (El t)} {j : Nat} (h : j < l.length) (a : El t) : atI (l.set j a) j = a := by
  apply atI_of; simp [h]
theorem loop_mark {α R : Type} {F : Nat → Int → Int → List α → Option R} {f : Int → α → α × Int} {c : α → Nat} {good : Int → List α → Option R} {n : Nat} (hc : ∀ k x, (f k x).2 = k + (c x : Nat))
    (hs : ∀ (m : Nat) (k : Int) (j : Nat) (l : List α) (x : α), l[j]? = some x → l.length = n → 0 ≤ k → k + (c x : Nat) ≤ 4611686018427387904 → F (m + 1) k (j : Int) l = F m (f k x).2 ((j : Int) + 1) (l.set j (f k x).1))
    (he : ∀ (m : Nat) (k : Int) (l : List α), l.length = n → F (m + 1) k (n : Int) l = good k l) :
    ∀ (rest : List α) (m : Nat) (k : Int) (pre : List α), pre.length + rest.length = n → rest.length < m → 0 ≤ k → k + (ctL c rest : Nat) ≤ 4611686018427387904 → F m k (pre.length : Int) (pre ++ rest) = good (mkL f k rest).2 (pre ++ (mkL f k rest).1)
  | [], m, k, pre, hn, hm, _, _ => by
    obtain ⟨m, rfl⟩ : ∃ m', m = m' + 1 := ⟨m - 1, by omega⟩
    simp only [List.append_nil, mkL]
    have e : pre.length = n := by simpa using hn
    rw [e]; exact he m k pre e
  | x :: xs, m, k, pre, hn, hm, h0, hB => by
    obtain ⟨m, rfl⟩ : ∃ m', m = m' + 1 := ⟨m - 1, by omega⟩
    rw [ctL_cons] at hB
    simp only [List.length_cons] at hn hm
    rw [hs m k pre.length (pre ++ x :: xs) x (by simp) (by simp; omega) h0 (by omega)]
    have e : (pre ++ x :: xs).set pre.length (f k x).1 = (pre ++ [(f k x).1]) ++ xs := by
      rw [List.set_append_right _ _ (Nat.le_refl _), Nat.sub_self]; simp
    have := loop_mark hc hs he xs m (f k x).2 (pre ++ [(f k x).1]) (by simp; omega) (by omega) (by rw [hc]; omega) (by rw [hc]; omega)
    rw [e]
    simp only [List.length_append, List.length_cons, List.length_nil] at this
    rw [show ((pre.length : Int) + 1) = ((pre.length + (0 + 1) : Nat) : Int) by omega, this]
    simp only [mkL, List.append_assoc, List.cons_append, List.nil_append]
theorem loop_held {α R : Type} {xs : List α} {F : Nat → Int → Int → Option R} {f : Int → α → α × Int} {c : α → Nat} {good : Int → Option R} {bad : Option R} (hc : ∀ k x, (f k x).2 = k + (c x : Nat))
    (hs : ∀ (m : Nat) (k : Int) (j : Nat) (x : α), xs[j]? = some x → 0 ≤ k → k + (c x : Nat) ≤ 4611686018427387904 → F (m + 1) k (j : Int) = cond (eqD x (f k x).1) (F m (f k x).2 ((j : Int) + 1)) bad)
    (he : ∀ (m : Nat) (k : Int), F (m + 1) k (xs.length : Int) = good k) :
    ∀ (d j m : Nat) (k : Int), j + d = xs.length → d < m → 0 ≤ k → k + (ctL c (xs.drop j) : Nat) ≤ 4611686018427387904 → F m k (j : Int) = cond (eqD (xs.drop j) (mkL f k (xs.drop j)).1) (good (mkL f k (xs.drop j)).2) bad := by
  intro d
  induction d with
  | zero =>
    intro j m k hj hm _ _
    obtain ⟨m, rfl⟩ : ∃ m', m = m' + 1 := ⟨m - 1, by omega⟩
    have : j = xs.length := by omega
    subst this
    rw [List.drop_length, he]
    simp only [mkL]; rw [eqD_self]; rfl
  | succ d ih =>
    intro j m k hj hm h0 hB
    obtain ⟨m, rfl⟩ : ∃ m', m = m' + 1 := ⟨m - 1, by omega⟩
    obtain ⟨x, hx, hd⟩ := drop_get (show j < xs.length by omega)
    rw [hd, ctL_cons] at hB
    rw [hs m k j x hx h0 (by omega), hd]
    simp only [mkL]
    rw [eqD_cons]
    have := ih (j + 1) m (f k x).2 (by omega) (by omega) (by rw [hc]; omega) (by rw [hc]; omega)
    rw [show ((j : Int) + 1) = ((j + 1 : Nat) : Int) by omega, this]
    cases eqD x (f k x).1 <;> rfl

/-! ### single ones -/
noncomputable def mk_str (k : Int) (_x : ByteArray) : ByteArray × Int := (mkT k, k + 1)
def mk_int (k : Int) (_x : Int) : Int × Int := (k, k + 1)
def mk_bool (k : Int) (_x : Bool) : Bool × Int := (Int.tmod k 3 == 0, k + 1)
def ct_str (_x : ByteArray) : Nat := 1
def ct_int (_x : Int) : Nat := 1
def ct_bool (_x : Bool) : Nat := 1
theorem mk_str_ct (k : Int) (x : ByteArray) : (mk_str k x).2 = k + (ct_str x : Nat) := rfl
theorem mk_int_ct (k : Int) (x : Int) : (mk_int k x).2 = k + (ct_int x : Nat) := rfl
theorem mk_bool_ct (k : Int) (x : Bool) : (mk_bool k x).2 = k + (ct_bool x : Nat) := rfl
theorem mk_str_idem (k : Int) (x : ByteArray) : mk_str k (mk_str k x).1 = mk_str k x := rfl
theorem mk_int_idem (k : Int) (x : Int) : mk_int k (mk_int k x).1 = mk_int k x := rfl
theorem mk_bool_idem (k : Int) (x : Bool) : mk_bool k (mk_bool k x).1 = mk_bool k x := rfl
theorem ct_str_pos (x : ByteArray) : 1 ≤ ct_str x := Nat.le_refl _
theorem ct_int_pos (x : Int) : 1 ≤ ct_int x := Nat.le_refl _
theorem ct_bool_pos (x : Bool) : 1 ≤ ct_bool x := Nat.le_refl _
theorem ct_str_le (x : ByteArray) : ct_str x ≤ 64 * x.size + 64 := by unfold ct_str; omega
theorem mkL_str_ct (k : Int) (xs : List ByteArray) : (mkL mk_str k xs).2 = k + (ctL ct_str xs : Nat) := mkL_ct mk_str_ct k xs
theorem mkL_int_ct (k : Int) (xs : List Int) : (mkL mk_int k xs).2 = k + (ctL ct_int xs : Nat) := mkL_ct mk_int_ct k xs
theorem mkL_bool_ct (k : Int) (xs : List Bool) : (mkL mk_bool k xs).2 = k + (ctL ct_bool xs : Nat) := mkL_ct mk_bool_ct k xs
theorem ctL_str (xs : List ByteArray) : ctL ct_str xs = xs.length := by
  induction xs with
  | nil => rfl
  | cons x r ih => rw [ctL_cons, ih, List.length_cons]; unfold ct_str; omega

noncomputable def mk_metric (k : Int) (_x : MetricT) : MetricT × Int := (⟨mkT (k), k + 1, k + 1 + 1⟩, k + 1 + 1 + 1)
def ct_metric (_x : MetricT) : Nat := 1 + 1 + 1
theorem mk_metric_ct (k : Int) (x : MetricT) : (mk_metric k x).2 = k + (ct_metric x : Nat) := by
  simp only [mk_metric, ct_metric] <;> omega
theorem mk_metric_idem (k : Int) (x : MetricT) : mk_metric k (mk_metric k x).1 = mk_metric k x := by
  rfl
theorem ct_metric_le (x : MetricT) : ct_metric x ≤ 64 * szN_metric x + 64 := by
  simp only [ct_metric, szN_metric]; omega
noncomputable def mks_metric (k : Int) (x : MetricT) : MetricT × Int := (⟨(x.name), (x.kind), (x.goal)⟩, k)
def cts_metric (_x : MetricT) : Nat := 0
theorem mks_metric_ct (k : Int) (x : MetricT) : (mks_metric k x).2 = k + (cts_metric x : Nat) := by
  simp only [mks_metric, cts_metric]; simp
theorem mks_metric_idem (k : Int) (x : MetricT) : mks_metric k (mks_metric k x).1 = mks_metric k x := by
  rfl
noncomputable def hds_metric (k : Int) (x : MetricT) : Int := cond (eqD x (mks_metric k x).1) (mks_metric k x).2 (-1)
theorem hds_metric_marked (k : Int) (x : MetricT) : hds_metric k (mks_metric k x).1 = (mks_metric k x).2 := by
  unfold hds_metric; rw [mks_metric_idem, eqD_self]; rfl
theorem cts_metric_le (x : MetricT) : cts_metric x ≤ 64 * szN_metric x + 64 := by
  simp only [cts_metric, szN_metric]; omega
theorem ct_metric_pos (x : MetricT) : 1 ≤ ct_metric x := by unfold ct_metric; omega
theorem mkL_metric_ct (k : Int) (xs : List MetricT) : (mkL mk_metric k xs).2 = k + (ctL ct_metric xs : Nat) := mkL_ct mk_metric_ct k xs
noncomputable def mk_pace (k : Int) (_x : PaceT) : PaceT × Int := (⟨k, k + 1, k + 1 + 1, k + 1 + 1 + 1⟩, k + 1 + 1 + 1 + 1)
def ct_pace (_x : PaceT) : Nat := 1 + 1 + 1 + 1
theorem mk_pace_ct (k : Int) (x : PaceT) : (mk_pace k x).2 = k + (ct_pace x : Nat) := by
  simp only [mk_pace, ct_pace] <;> omega
theorem mk_pace_idem (k : Int) (x : PaceT) : mk_pace k (mk_pace k x).1 = mk_pace k x := by
  rfl
theorem ct_pace_le (x : PaceT) : ct_pace x ≤ 64 * szN_pace x + 64 := by
  simp only [ct_pace, szN_pace]; omega
noncomputable def mks_pace (k : Int) (x : PaceT) : PaceT × Int := (⟨(x.up), (x.down), (x.upSpan), (x.downSpan)⟩, k)
def cts_pace (_x : PaceT) : Nat := 0
theorem mks_pace_ct (k : Int) (x : PaceT) : (mks_pace k x).2 = k + (cts_pace x : Nat) := by
  simp only [mks_pace, cts_pace]; simp
theorem mks_pace_idem (k : Int) (x : PaceT) : mks_pace k (mks_pace k x).1 = mks_pace k x := by
  rfl
noncomputable def hds_pace (k : Int) (x : PaceT) : Int := cond (eqD x (mks_pace k x).1) (mks_pace k x).2 (-1)
theorem hds_pace_marked (k : Int) (x : PaceT) : hds_pace k (mks_pace k x).1 = (mks_pace k x).2 := by
  unfold hds_pace; rw [mks_pace_idem, eqD_self]; rfl
theorem cts_pace_le (x : PaceT) : cts_pace x ≤ 64 * szN_pace x + 64 := by
  simp only [cts_pace, szN_pace]; omega
theorem ct_pace_pos (x : PaceT) : 1 ≤ ct_pace x := by unfold ct_pace; omega
theorem mkL_pace_ct (k : Int) (xs : List PaceT) : (mkL mk_pace k xs).2 = k + (ctL ct_pace xs : Nat) := mkL_ct mk_pace_ct k xs
noncomputable def mk_note (k : Int) (_x : NoteT) : NoteT × Int := (⟨mkT (k), mkT (k + 1)⟩, k + 1 + 1)
def ct_note (_x : NoteT) : Nat := 1 + 1
theorem mk_note_ct (k : Int) (x : NoteT) : (mk_note k x).2 = k + (ct_note x : Nat) := by
  simp only [mk_note, ct_note] <;> omega
theorem mk_note_idem (k : Int) (x : NoteT) : mk_note k (mk_note k x).1 = mk_note k x := by
  rfl
theorem ct_note_le (x : NoteT) : ct_note x ≤ 64 * szN_note x + 64 := by
  simp only [ct_note, szN_note]; omega
noncomputable def mks_note (k : Int) (x : NoteT) : NoteT × Int := (⟨(x.key), (x.text)⟩, k)
def cts_note (_x : NoteT) : Nat := 0
theorem mks_note_ct (k : Int) (x : NoteT) : (mks_note k x).2 = k + (cts_note x : Nat) := by
  simp only [mks_note, cts_note]; simp
theorem mks_note_idem (k : Int) (x : NoteT) : mks_note k (mks_note k x).1 = mks_note k x := by
  rfl
noncomputable def hds_note (k : Int) (x : NoteT) : Int := cond (eqD x (mks_note k x).1) (mks_note k x).2 (-1)
theorem hds_note_marked (k : Int) (x : NoteT) : hds_note k (mks_note k x).1 = (mks_note k x).2 := by
  unfold hds_note; rw [mks_note_idem, eqD_self]; rfl
theorem cts_note_le (x : NoteT) : cts_note x ≤ 64 * szN_note x + 64 := by
  simp only [cts_note, szN_note]; omega
theorem ct_note_pos (x : NoteT) : 1 ≤ ct_note x := by unfold ct_note; omega
theorem mkL_note_ct (k : Int) (xs : List NoteT) : (mkL mk_note k xs).2 = k + (ctL ct_note xs : Nat) := mkL_ct mk_note_ct k xs
noncomputable def mk_order (k : Int) (x : OrderT) : OrderT × Int := (⟨mkT (k), mkT (k + 1), k + 1 + 1, k + 1 + 1 + 1, (mkL mk_metric (k + 1 + 1 + 1 + 1) (x.metrics)).1, ⟨(mkL mk_metric (k + 1 + 1 + 1 + 1) (x.metrics)).2, (mkL mk_metric (k + 1 + 1 + 1 + 1) (x.metrics)).2 + 1, (mkL mk_metric (k + 1 + 1 + 1 + 1) (x.metrics)).2 + 1 + 1, (mkL mk_metric (k + 1 + 1 + 1 + 1) (x.metrics)).2 + 1 + 1 + 1⟩, (mkL mk_note ((mkL mk_metric (k + 1 + 1 + 1 + 1) (x.metrics)).2 + 1 + 1 + 1 + 1) (x.notes)).1⟩, (mkL mk_note ((mkL mk_metric (k + 1 + 1 + 1 + 1) (x.metrics)).2 + 1 + 1 + 1 + 1) (x.notes)).2)
def ct_order (x : OrderT) : Nat := 1 + 1 + 1 + 1 + ctL ct_metric (x.metrics) + 1 + 1 + 1 + 1 + ctL ct_note (x.notes)
theorem mk_order_ct (k : Int) (x : OrderT) : (mk_order k x).2 = k + (ct_order x : Nat) := by
  simp only [mk_order, ct_order, mkL_metric_ct, mkL_note_ct] <;> omega
theorem mk_order_idem (k : Int) (x : OrderT) : mk_order k (mk_order k x).1 = mk_order k x := by
  simp only [mk_order, mkL_idem mk_metric_idem, mkL_idem mk_note_idem]
theorem ct_order_le (x : OrderT) : ct_order x ≤ 64 * szN_order x + 64 := by
  have := ctL_le ct_metric_le (x.metrics)
  have := ctL_le ct_note_le (x.notes)
  simp only [ct_order, szN_order, szN_pace]; omega
noncomputable def mks_order (k : Int) (x : OrderT) : OrderT × Int := (⟨(x.name), (x.target), (x.low), (x.high), (mkL mk_metric (k) (x.metrics)).1, ⟨((x.pace).up), ((x.pace).down), ((x.pace).upSpan), ((x.pace).downSpan)⟩, (mkL mk_note ((mkL mk_metric (k) (x.metrics)).2) (x.notes)).1⟩, (mkL mk_note ((mkL mk_metric (k) (x.metrics)).2) (x.notes)).2)
def cts_order (x : OrderT) : Nat := ctL ct_metric (x.metrics) + ctL ct_note (x.notes)
theorem mks_order_ct (k : Int) (x : OrderT) : (mks_order k x).2 = k + (cts_order x : Nat) := by
  simp only [mks_order, cts_order, mkL_metric_ct, mkL_note_ct] <;> omega
theorem mks_order_idem (k : Int) (x : OrderT) : mks_order k (mks_order k x).1 = mks_order k x := by
  simp only [mks_order, mkL_idem mk_metric_idem, mkL_idem mk_note_idem]
noncomputable def hds_order (k : Int) (x : OrderT) : Int := cond (eqD x (mks_order k x).1) (mks_order k x).2 (-1)
theorem hds_order_marked (k : Int) (x : OrderT) : hds_order k (mks_order k x).1 = (mks_order k x).2 := by
  unfold hds_order; rw [mks_order_idem, eqD_self]; rfl
theorem cts_order_le (x : OrderT) : cts_order x ≤ 64 * szN_order x + 64 := by
  have := ctL_le ct_metric_le (x.metrics)
  have := ctL_le ct_note_le (x.notes)
  simp only [cts_order, szN_order, szN_pace]; omega
theorem ct_order_pos (x : OrderT) : 1 ≤ ct_order x := by unfold ct_order; omega
theorem mkL_order_ct (k : Int) (xs : List OrderT) : (mkL mk_order k xs).2 = k + (ctL ct_order xs : Nat) := mkL_ct mk_order_ct k xs
noncomputable def mk_item (k : Int) (x : ItemT) : ItemT × Int := (⟨⟨mkT (k), mkT (k + 1), k + 1 + 1, k + 1 + 1 + 1, (mkL mk_metric (k + 1 + 1 + 1 + 1) ((x.order).metrics)).1, ⟨(mkL mk_metric (k + 1 + 1 + 1 + 1) ((x.order).metrics)).2, (mkL mk_metric (k + 1 + 1 + 1 + 1) ((x.order).metrics)).2 + 1, (mkL mk_metric (k + 1 + 1 + 1 + 1) ((x.order).metrics)).2 + 1 + 1, (mkL mk_metric (k + 1 + 1 + 1 + 1) ((x.order).metrics)).2 + 1 + 1 + 1⟩, (mkL mk_note ((mkL mk_metric (k + 1 + 1 + 1 + 1) ((x.order).metrics)).2 + 1 + 1 + 1 + 1) ((x.order).notes)).1⟩, (mkL mk_note ((mkL mk_metric (k + 1 + 1 + 1 + 1) ((x.order).metrics)).2 + 1 + 1 + 1 + 1) ((x.order).notes)).2⟩, (mkL mk_note ((mkL mk_metric (k + 1 + 1 + 1 + 1) ((x.order).metrics)).2 + 1 + 1 + 1 + 1) ((x.order).notes)).2 + 1)
def ct_item (x : ItemT) : Nat := 1 + 1 + 1 + 1 + ctL ct_metric ((x.order).metrics) + 1 + 1 + 1 + 1 + ctL ct_note ((x.order).notes) + 1
theorem mk_item_ct (k : Int) (x : ItemT) : (mk_item k x).2 = k + (ct_item x : Nat) := by
  simp only [mk_item, ct_item, mkL_metric_ct, mkL_note_ct] <;> omega
theorem mk_item_idem (k : Int) (x : ItemT) : mk_item k (mk_item k x).1 = mk_item k x := by
  simp only [mk_item, mkL_idem mk_metric_idem, mkL_idem mk_note_idem]
theorem ct_item_le (x : ItemT) : ct_item x ≤ 64 * szN_item x + 64 := by
  have := ctL_le ct_metric_le (x.order.metrics)
  have := ctL_le ct_note_le (x.order.notes)
  simp only [ct_item, szN_item, szN_order, szN_pace]; omega
noncomputable def mks_item (k : Int) (x : ItemT) : ItemT × Int := (⟨⟨((x.order).name), ((x.order).target), ((x.order).low), ((x.order).high), (mkL mk_metric (k) ((x.order).metrics)).1, ⟨(((x.order).pace).up), (((x.order).pace).down), (((x.order).pace).upSpan), (((x.order).pace).downSpan)⟩, (mkL mk_note ((mkL mk_metric (k) ((x.order).metrics)).2) ((x.order).notes)).1⟩, (x.ver)⟩, (mkL mk_note ((mkL mk_metric (k) ((x.order).metrics)).2) ((x.order).notes)).2)
def cts_item (x : ItemT) : Nat := ctL ct_metric ((x.order).metrics) + ctL ct_note ((x.order).notes)
theorem mks_item_ct (k : Int) (x : ItemT) : (mks_item k x).2 = k + (cts_item x : Nat) := by
  simp only [mks_item, cts_item, mkL_metric_ct, mkL_note_ct] <;> omega
theorem mks_item_idem (k : Int) (x : ItemT) : mks_item k (mks_item k x).1 = mks_item k x := by
  simp only [mks_item, mkL_idem mk_metric_idem, mkL_idem mk_note_idem]
noncomputable def hds_item (k : Int) (x : ItemT) : Int := cond (eqD x (mks_item k x).1) (mks_item k x).2 (-1)
theorem hds_item_marked (k : Int) (x : ItemT) : hds_item k (mks_item k x).1 = (mks_item k x).2 := by
  unfold hds_item; rw [mks_item_idem, eqD_self]; rfl
theorem cts_item_le (x : ItemT) : cts_item x ≤ 64 * szN_item x + 64 := by
  have := ctL_le ct_metric_le (x.order.metrics)
  have := ctL_le ct_note_le (x.order.notes)
  simp only [cts_item, szN_item, szN_order, szN_pace]; omega
theorem ct_item_pos (x : ItemT) : 1 ≤ ct_item x := by unfold ct_item; omega
theorem mkL_item_ct (k : Int) (xs : List ItemT) : (mkL mk_item k xs).2 = k + (ctL ct_item xs : Nat) := mkL_ct mk_item_ct k xs
noncomputable def mk_store (k : Int) (x : StoreT) : StoreT × Int := (⟨(mkL mk_item (k) (x.items)).1, (mkL mk_item (k) (x.items)).2⟩, (mkL mk_item (k) (x.items)).2 + 1)
def ct_store (x : StoreT) : Nat := ctL ct_item (x.items) + 1
theorem mk_store_ct (k : Int) (x : StoreT) : (mk_store k x).2 = k + (ct_store x : Nat) := by
  simp only [mk_store, ct_store, mkL_item_ct] <;> omega
theorem mk_store_idem (k : Int) (x : StoreT) : mk_store k (mk_store k x).1 = mk_store k x := by
  simp only [mk_store, mkL_idem mk_item_idem]
theorem ct_store_le (x : StoreT) : ct_store x ≤ 64 * szN_store x + 64 := by
  have := ctL_le ct_item_le (x.items)
  simp only [ct_store, szN_store]; omega
noncomputable def mks_store (k : Int) (x : StoreT) : StoreT × Int := (⟨(mkL mk_item (k) (x.items)).1, (x.next)⟩, (mkL mk_item (k) (x.items)).2)
def cts_store (x : StoreT) : Nat := ctL ct_item (x.items)
theorem mks_store_ct (k : Int) (x : StoreT) : (mks_store k x).2 = k + (cts_store x : Nat) := by
  simp only [mks_store, cts_store, mkL_item_ct] <;> omega
theorem mks_store_idem (k : Int) (x : StoreT) : mks_store k (mks_store k x).1 = mks_store k x := by
  simp only [mks_store, mkL_idem mk_item_idem]
noncomputable def hds_store (k : Int) (x : StoreT) : Int := cond (eqD x (mks_store k x).1) (mks_store k x).2 (-1)
theorem hds_store_marked (k : Int) (x : StoreT) : hds_store k (mks_store k x).1 = (mks_store k x).2 := by
  unfold hds_store; rw [mks_store_idem, eqD_self]; rfl
theorem cts_store_le (x : StoreT) : cts_store x ≤ 64 * szN_store x + 64 := by
  have := ctL_le ct_item_le (x.items)
  simp only [cts_store, szN_store]; omega
theorem ct_store_pos (x : StoreT) : 1 ≤ ct_store x := by unfold ct_store; omega
theorem mkL_store_ct (k : Int) (xs : List StoreT) : (mkL mk_store k xs).2 = k + (ctL ct_store xs : Nat) := mkL_ct mk_store_ct k xs
noncomputable def mk_answer (k : Int) (_x : AnswerT) : AnswerT × Int := (⟨k, k + 1, mkT (k + 1 + 1)⟩, k + 1 + 1 + 1)
def ct_answer (_x : AnswerT) : Nat := 1 + 1 + 1
theorem mk_answer_ct (k : Int) (x : AnswerT) : (mk_answer k x).2 = k + (ct_answer x : Nat) := by
  simp only [mk_answer, ct_answer] <;> omega
theorem mk_answer_idem (k : Int) (x : AnswerT) : mk_answer k (mk_answer k x).1 = mk_answer k x := by
  rfl
theorem ct_answer_le (x : AnswerT) : ct_answer x ≤ 64 * szN_answer x + 64 := by
  simp only [ct_answer, szN_answer]; omega
noncomputable def mks_answer (k : Int) (x : AnswerT) : AnswerT × Int := (⟨(x.code), (x.ver), (x.text)⟩, k)
def cts_answer (_x : AnswerT) : Nat := 0
theorem mks_answer_ct (k : Int) (x : AnswerT) : (mks_answer k x).2 = k + (cts_answer x : Nat) := by
  simp only [mks_answer, cts_answer]; simp
theorem mks_answer_idem (k : Int) (x : AnswerT) : mks_answer k (mks_answer k x).1 = mks_answer k x := by
  rfl
noncomputable def hds_answer (k : Int) (x : AnswerT) : Int := cond (eqD x (mks_answer k x).1) (mks_answer k x).2 (-1)
theorem hds_answer_marked (k : Int) (x : AnswerT) : hds_answer k (mks_answer k x).1 = (mks_answer k x).2 := by
  unfold hds_answer; rw [mks_answer_idem, eqD_self]; rfl
theorem cts_answer_le (x : AnswerT) : cts_answer x ≤ 64 * szN_answer x + 64 := by
  simp only [cts_answer, szN_answer]; omega
theorem ct_answer_pos (x : AnswerT) : 1 ≤ ct_answer x := by unfold ct_answer; omega
theorem mkL_answer_ct (k : Int) (xs : List AnswerT) : (mkL mk_answer k xs).2 = k + (ctL ct_answer xs : Nat) := mkL_ct mk_answer_ct k xs
noncomputable def mk_sample (k : Int) (_x : SampleT) : SampleT × Int := (⟨mkT (k), k + 1⟩, k + 1 + 1)
def ct_sample (_x : SampleT) : Nat := 1 + 1
theorem mk_sample_ct (k : Int) (x : SampleT) : (mk_sample k x).2 = k + (ct_sample x : Nat) := by
  simp only [mk_sample, ct_sample] <;> omega
theorem mk_sample_idem (k : Int) (x : SampleT) : mk_sample k (mk_sample k x).1 = mk_sample k x := by
  rfl
theorem ct_sample_le (x : SampleT) : ct_sample x ≤ 64 * szN_sample x + 64 := by
  simp only [ct_sample, szN_sample]; omega
noncomputable def mks_sample (k : Int) (x : SampleT) : SampleT × Int := (⟨(x.name), (x.value)⟩, k)
def cts_sample (_x : SampleT) : Nat := 0
theorem mks_sample_ct (k : Int) (x : SampleT) : (mks_sample k x).2 = k + (cts_sample x : Nat) := by
  simp only [mks_sample, cts_sample]; simp
theorem mks_sample_idem (k : Int) (x : SampleT) : mks_sample k (mks_sample k x).1 = mks_sample k x := by
  rfl
noncomputable def hds_sample (k : Int) (x : SampleT) : Int := cond (eqD x (mks_sample k x).1) (mks_sample k x).2 (-1)
theorem hds_sample_marked (k : Int) (x : SampleT) : hds_sample k (mks_sample k x).1 = (mks_sample k x).2 := by
  unfold hds_sample; rw [mks_sample_idem, eqD_self]; rfl
theorem cts_sample_le (x : SampleT) : cts_sample x ≤ 64 * szN_sample x + 64 := by
  simp only [cts_sample, szN_sample]; omega
theorem ct_sample_pos (x : SampleT) : 1 ≤ ct_sample x := by unfold ct_sample; omega
theorem mkL_sample_ct (k : Int) (xs : List SampleT) : (mkL mk_sample k xs).2 = k + (ctL ct_sample xs : Nat) := mkL_ct mk_sample_ct k xs
noncomputable def mk_rcd (k : Int) (_x : RcdT) : RcdT × Int := (⟨k, k + 1⟩, k + 1 + 1)
def ct_rcd (_x : RcdT) : Nat := 1 + 1
theorem mk_rcd_ct (k : Int) (x : RcdT) : (mk_rcd k x).2 = k + (ct_rcd x : Nat) := by
  simp only [mk_rcd, ct_rcd] <;> omega
theorem mk_rcd_idem (k : Int) (x : RcdT) : mk_rcd k (mk_rcd k x).1 = mk_rcd k x := by
  rfl
theorem ct_rcd_le (x : RcdT) : ct_rcd x ≤ 64 * szN_rcd x + 64 := by
  simp only [ct_rcd, szN_rcd]; omega
noncomputable def mks_rcd (k : Int) (x : RcdT) : RcdT × Int := (⟨(x.time), (x.n)⟩, k)
def cts_rcd (_x : RcdT) : Nat := 0
theorem mks_rcd_ct (k : Int) (x : RcdT) : (mks_rcd k x).2 = k + (cts_rcd x : Nat) := by
  simp only [mks_rcd, cts_rcd]; simp
theorem mks_rcd_idem (k : Int) (x : RcdT) : mks_rcd k (mks_rcd k x).1 = mks_rcd k x := by
  rfl
noncomputable def hds_rcd (k : Int) (x : RcdT) : Int := cond (eqD x (mks_rcd k x).1) (mks_rcd k x).2 (-1)
theorem hds_rcd_marked (k : Int) (x : RcdT) : hds_rcd k (mks_rcd k x).1 = (mks_rcd k x).2 := by
  unfold hds_rcd; rw [mks_rcd_idem, eqD_self]; rfl
theorem cts_rcd_le (x : RcdT) : cts_rcd x ≤ 64 * szN_rcd x + 64 := by
  simp only [cts_rcd, szN_rcd]; omega
theorem ct_rcd_pos (x : RcdT) : 1 ≤ ct_rcd x := by unfold ct_rcd; omega
theorem mkL_rcd_ct (k : Int) (xs : List RcdT) : (mkL mk_rcd k xs).2 = k + (ctL ct_rcd xs : Nat) := mkL_ct mk_rcd_ct k xs
noncomputable def mk_scale (k : Int) (x : ScaleT) : ScaleT × Int := (⟨mkT (k), k + 1, (mkL mk_rcd (k + 1 + 1) (x.recs)).1⟩, (mkL mk_rcd (k + 1 + 1) (x.recs)).2)
def ct_scale (x : ScaleT) : Nat := 1 + 1 + ctL ct_rcd (x.recs)
theorem mk_scale_ct (k : Int) (x : ScaleT) : (mk_scale k x).2 = k + (ct_scale x : Nat) := by
  simp only [mk_scale, ct_scale, mkL_rcd_ct] <;> omega
theorem mk_scale_idem (k : Int) (x : ScaleT) : mk_scale k (mk_scale k x).1 = mk_scale k x := by
  simp only [mk_scale, mkL_idem mk_rcd_idem]
theorem ct_scale_le (x : ScaleT) : ct_scale x ≤ 64 * szN_scale x + 64 := by
  have := ctL_le ct_rcd_le (x.recs)
  simp only [ct_scale, szN_scale]; omega
noncomputable def mks_scale (k : Int) (x : ScaleT) : ScaleT × Int := (⟨(x.name), (x.now), (mkL mk_rcd (k) (x.recs)).1⟩, (mkL mk_rcd (k) (x.recs)).2)
def cts_scale (x : ScaleT) : Nat := ctL ct_rcd (x.recs)
theorem mks_scale_ct (k : Int) (x : ScaleT) : (mks_scale k x).2 = k + (cts_scale x : Nat) := by
  simp only [mks_scale, cts_scale, mkL_rcd_ct] <;> omega
theorem mks_scale_idem (k : Int) (x : ScaleT) : mks_scale k (mks_scale k x).1 = mks_scale k x := by
  simp only [mks_scale, mkL_idem mk_rcd_idem]
noncomputable def hds_scale (k : Int) (x : ScaleT) : Int := cond (eqD x (mks_scale k x).1) (mks_scale k x).2 (-1)
theorem hds_scale_marked (k : Int) (x : ScaleT) : hds_scale k (mks_scale k x).1 = (mks_scale k x).2 := by
  unfold hds_scale; rw [mks_scale_idem, eqD_self]; rfl
theorem cts_scale_le (x : ScaleT) : cts_scale x ≤ 64 * szN_scale x + 64 := by
  have := ctL_le ct_rcd_le (x.recs)
  simp only [cts_scale, szN_scale]; omega
theorem ct_scale_pos (x : ScaleT) : 1 ≤ ct_scale x := by unfold ct_scale; omega
theorem mkL_scale_ct (k : Int) (xs : List ScaleT) : (mkL mk_scale k xs).2 = k + (ctL ct_scale xs : Nat) := mkL_ct mk_scale_ct k xs
noncomputable def mk_feed (k : Int) (x : FeedT) : FeedT × Int := (⟨mkT (k), (mkL mk_sample (k + 1) (x.list)).1⟩, (mkL mk_sample (k + 1) (x.list)).2)
def ct_feed (x : FeedT) : Nat := 1 + ctL ct_sample (x.list)
theorem mk_feed_ct (k : Int) (x : FeedT) : (mk_feed k x).2 = k + (ct_feed x : Nat) := by
  simp only [mk_feed, ct_feed, mkL_sample_ct] <;> omega
theorem mk_feed_idem (k : Int) (x : FeedT) : mk_feed k (mk_feed k x).1 = mk_feed k x := by
  simp only [mk_feed, mkL_idem mk_sample_idem]
theorem ct_feed_le (x : FeedT) : ct_feed x ≤ 64 * szN_feed x + 64 := by
  have := ctL_le ct_sample_le (x.list)
  simp only [ct_feed, szN_feed]; omega
noncomputable def mks_feed (k : Int) (x : FeedT) : FeedT × Int := (⟨(x.name), (mkL mk_sample (k) (x.list)).1⟩, (mkL mk_sample (k) (x.list)).2)
def cts_feed (x : FeedT) : Nat := ctL ct_sample (x.list)
theorem mks_feed_ct (k : Int) (x : FeedT) : (mks_feed k x).2 = k + (cts_feed x : Nat) := by
  simp only [mks_feed, cts_feed, mkL_sample_ct] <;> omega
theorem mks_feed_idem (k : Int) (x : FeedT) : mks_feed k (mks_feed k x).1 = mks_feed k x := by
  simp only [mks_feed, mkL_idem mk_sample_idem]
noncomputable def hds_feed (k : Int) (x : FeedT) : Int := cond (eqD x (mks_feed k x).1) (mks_feed k x).2 (-1)
theorem hds_feed_marked (k : Int) (x : FeedT) : hds_feed k (mks_feed k x).1 = (mks_feed k x).2 := by
  unfold hds_feed; rw [mks_feed_idem, eqD_self]; rfl
theorem cts_feed_le (x : FeedT) : cts_feed x ≤ 64 * szN_feed x + 64 := by
  have := ctL_le ct_sample_le (x.list)
  simp only [cts_feed, szN_feed]; omega
theorem ct_feed_pos (x : FeedT) : 1 ≤ ct_feed x := by unfold ct_feed; omega
theorem mkL_feed_ct (k : Int) (xs : List FeedT) : (mkL mk_feed k xs).2 = k + (ctL ct_feed xs : Nat) := mkL_ct mk_feed_ct k xs
noncomputable def mk_told (k : Int) (_x : ToldT) : ToldT × Int := (⟨k, mkT (k + 1), k + 1 + 1⟩, k + 1 + 1 + 1)
def ct_told (_x : ToldT) : Nat := 1 + 1 + 1
theorem mk_told_ct (k : Int) (x : ToldT) : (mk_told k x).2 = k + (ct_told x : Nat) := by
  simp only [mk_told, ct_told] <;> omega
theorem mk_told_idem (k : Int) (x : ToldT) : mk_told k (mk_told k x).1 = mk_told k x := by
  rfl
theorem ct_told_le (x : ToldT) : ct_told x ≤ 64 * szN_told x + 64 := by
  simp only [ct_told, szN_told]; omega
noncomputable def mks_told (k : Int) (x : ToldT) : ToldT × Int := (⟨(x.time), (x.name), (x.n)⟩, k)
def cts_told (_x : ToldT) : Nat := 0
theorem mks_told_ct (k : Int) (x : ToldT) : (mks_told k x).2 = k + (cts_told x : Nat) := by
  simp only [mks_told, cts_told]; simp
theorem mks_told_idem (k : Int) (x : ToldT) : mks_told k (mks_told k x).1 = mks_told k x := by
  rfl
noncomputable def hds_told (k : Int) (x : ToldT) : Int := cond (eqD x (mks_told k x).1) (mks_told k x).2 (-1)
theorem hds_told_marked (k : Int) (x : ToldT) : hds_told k (mks_told k x).1 = (mks_told k x).2 := by
  unfold hds_told; rw [mks_told_idem, eqD_self]; rfl
theorem cts_told_le (x : ToldT) : cts_told x ≤ 64 * szN_told x + 64 := by
  simp only [cts_told, szN_told]; omega
theorem ct_told_pos (x : ToldT) : 1 ≤ ct_told x := by unfold ct_told; omega
theorem mkL_told_ct (k : Int) (xs : List ToldT) : (mkL mk_told k xs).2 = k + (ctL ct_told xs : Nat) := mkL_ct mk_told_ct k xs
noncomputable def mk_world (k : Int) (x : WorldT) : WorldT × Int := (⟨⟨(mkL mk_item (k) ((x.store).items)).1, (mkL mk_item (k) ((x.store).items)).2⟩, (mkL mk_scale ((mkL mk_item (k) ((x.store).items)).2 + 1) (x.scales)).1, (mkL mk_scale ((mkL mk_item (k) ((x.store).items)).2 + 1) (x.scales)).2, (mkL mk_told ((mkL mk_scale ((mkL mk_item (k) ((x.store).items)).2 + 1) (x.scales)).2 + 1) (x.log)).1⟩, (mkL mk_told ((mkL mk_scale ((mkL mk_item (k) ((x.store).items)).2 + 1) (x.scales)).2 + 1) (x.log)).2)
def ct_world (x : WorldT) : Nat := ctL ct_item ((x.store).items) + 1 + ctL ct_scale (x.scales) + 1 + ctL ct_told (x.log)
theorem mk_world_ct (k : Int) (x : WorldT) : (mk_world k x).2 = k + (ct_world x : Nat) := by
  simp only [mk_world, ct_world, mkL_item_ct, mkL_scale_ct, mkL_told_ct] <;> omega
theorem mk_world_idem (k : Int) (x : WorldT) : mk_world k (mk_world k x).1 = mk_world k x := by
  simp only [mk_world, mkL_idem mk_item_idem, mkL_idem mk_scale_idem, mkL_idem mk_told_idem]
theorem ct_world_le (x : WorldT) : ct_world x ≤ 64 * szN_world x + 64 := by
  have := ctL_le ct_item_le (x.store.items)
  have := ctL_le ct_scale_le (x.scales)
  have := ctL_le ct_told_le (x.log)
  simp only [ct_world, szN_world, szN_store]; omega
noncomputable def mks_world (k : Int) (x : WorldT) : WorldT × Int := (⟨⟨(mkL mk_item (k) ((x.store).items)).1, ((x.store).next)⟩, (mkL mk_scale ((mkL mk_item (k) ((x.store).items)).2) (x.scales)).1, (x.time), (mkL mk_told ((mkL mk_scale ((mkL mk_item (k) ((x.store).items)).2) (x.scales)).2) (x.log)).1⟩, (mkL mk_told ((mkL mk_scale ((mkL mk_item (k) ((x.store).items)).2) (x.scales)).2) (x.log)).2)
def cts_world (x : WorldT) : Nat := ctL ct_item ((x.store).items) + ctL ct_scale (x.scales) + ctL ct_told (x.log)
theorem mks_world_ct (k : Int) (x : WorldT) : (mks_world k x).2 = k + (cts_world x : Nat) := by
  simp only [mks_world, cts_world, mkL_item_ct, mkL_scale_ct, mkL_told_ct] <;> omega
theorem mks_world_idem (k : Int) (x : WorldT) : mks_world k (mks_world k x).1 = mks_world k x := by
  simp only [mks_world, mkL_idem mk_item_idem, mkL_idem mk_scale_idem, mkL_idem mk_told_idem]
noncomputable def hds_world (k : Int) (x : WorldT) : Int := cond (eqD x (mks_world k x).1) (mks_world k x).2 (-1)
theorem hds_world_marked (k : Int) (x : WorldT) : hds_world k (mks_world k x).1 = (mks_world k x).2 := by
  unfold hds_world; rw [mks_world_idem, eqD_self]; rfl
theorem cts_world_le (x : WorldT) : cts_world x ≤ 64 * szN_world x + 64 := by
  have := ctL_le ct_item_le (x.store.items)
  have := ctL_le ct_scale_le (x.scales)
  have := ctL_le ct_told_le (x.log)
  simp only [cts_world, szN_world, szN_store]; omega
theorem ct_world_pos (x : WorldT) : 1 ≤ ct_world x := by unfold ct_world; omega
theorem mkL_world_ct (k : Int) (xs : List WorldT) : (mkL mk_world k xs).2 = k + (ctL ct_world xs : Nat) := mkL_ct mk_world_ct k xs
noncomputable def mk_deed (k : Int) (x : DeedT) : DeedT × Int := (⟨k, k + 1, k + 1 + 1, mkT (k + 1 + 1 + 1), mkT (k + 1 + 1 + 1 + 1), (mkL mk_feed (k + 1 + 1 + 1 + 1 + 1) (x.feeds)).1⟩, (mkL mk_feed (k + 1 + 1 + 1 + 1 + 1) (x.feeds)).2)
def ct_deed (x : DeedT) : Nat := 1 + 1 + 1 + 1 + 1 + ctL ct_feed (x.feeds)
theorem mk_deed_ct (k : Int) (x : DeedT) : (mk_deed k x).2 = k + (ct_deed x : Nat) := by
  simp only [mk_deed, ct_deed, mkL_feed_ct] <;> omega
theorem mk_deed_idem (k : Int) (x : DeedT) : mk_deed k (mk_deed k x).1 = mk_deed k x := by
  simp only [mk_deed, mkL_idem mk_feed_idem]
theorem ct_deed_le (x : DeedT) : ct_deed x ≤ 64 * szN_deed x + 64 := by
  have := ctL_le ct_feed_le (x.feeds)
  simp only [ct_deed, szN_deed]; omega
noncomputable def mks_deed (k : Int) (x : DeedT) : DeedT × Int := (⟨(x.kind), (x.form), (x.n), (x.name), (x.text), (mkL mk_feed (k) (x.feeds)).1⟩, (mkL mk_feed (k) (x.feeds)).2)
def cts_deed (x : DeedT) : Nat := ctL ct_feed (x.feeds)
theorem mks_deed_ct (k : Int) (x : DeedT) : (mks_deed k x).2 = k + (cts_deed x : Nat) := by
  simp only [mks_deed, cts_deed, mkL_feed_ct] <;> omega
theorem mks_deed_idem (k : Int) (x : DeedT) : mks_deed k (mks_deed k x).1 = mks_deed k x := by
  simp only [mks_deed, mkL_idem mk_feed_idem]
noncomputable def hds_deed (k : Int) (x : DeedT) : Int := cond (eqD x (mks_deed k x).1) (mks_deed k x).2 (-1)
theorem hds_deed_marked (k : Int) (x : DeedT) : hds_deed k (mks_deed k x).1 = (mks_deed k x).2 := by
  unfold hds_deed; rw [mks_deed_idem, eqD_self]; rfl
theorem cts_deed_le (x : DeedT) : cts_deed x ≤ 64 * szN_deed x + 64 := by
  have := ctL_le ct_feed_le (x.feeds)
  simp only [cts_deed, szN_deed]; omega
theorem ct_deed_pos (x : DeedT) : 1 ≤ ct_deed x := by unfold ct_deed; omega
theorem mkL_deed_ct (k : Int) (xs : List DeedT) : (mkL mk_deed k xs).2 = k + (ctL ct_deed xs : Nat) := mkL_ct mk_deed_ct k xs
noncomputable def mk_pick (k : Int) (x : PickT) : PickT × Int := (⟨k, mkT (k + 1), (mkL mk_str (k + 1 + 1) (x.vals)).1⟩, (mkL mk_str (k + 1 + 1) (x.vals)).2)
def ct_pick (x : PickT) : Nat := 1 + 1 + ctL ct_str (x.vals)
theorem mk_pick_ct (k : Int) (x : PickT) : (mk_pick k x).2 = k + (ct_pick x : Nat) := by
  simp only [mk_pick, ct_pick, mkL_str_ct] <;> omega
theorem mk_pick_idem (k : Int) (x : PickT) : mk_pick k (mk_pick k x).1 = mk_pick k x := by
  simp only [mk_pick, mkL_idem mk_str_idem]
theorem ct_pick_le (x : PickT) : ct_pick x ≤ 64 * szN_pick x + 64 := by
  have := ctL_le ct_str_le (x.vals)
  simp only [ct_pick, szN_pick]; omega
noncomputable def mks_pick (k : Int) (x : PickT) : PickT × Int := (⟨(x.op), (x.key), (mkL mk_str (k) (x.vals)).1⟩, (mkL mk_str (k) (x.vals)).2)
def cts_pick (x : PickT) : Nat := ctL ct_str (x.vals)
theorem mks_pick_ct (k : Int) (x : PickT) : (mks_pick k x).2 = k + (cts_pick x : Nat) := by
  simp only [mks_pick, cts_pick, mkL_str_ct] <;> omega
theorem mks_pick_idem (k : Int) (x : PickT) : mks_pick k (mks_pick k x).1 = mks_pick k x := by
  simp only [mks_pick, mkL_idem mk_str_idem]
noncomputable def hds_pick (k : Int) (x : PickT) : Int := cond (eqD x (mks_pick k x).1) (mks_pick k x).2 (-1)
theorem hds_pick_marked (k : Int) (x : PickT) : hds_pick k (mks_pick k x).1 = (mks_pick k x).2 := by
  unfold hds_pick; rw [mks_pick_idem, eqD_self]; rfl
theorem cts_pick_le (x : PickT) : cts_pick x ≤ 64 * szN_pick x + 64 := by
  have := ctL_le ct_str_le (x.vals)
  simp only [cts_pick, szN_pick]; omega
theorem ct_pick_pos (x : PickT) : 1 ≤ ct_pick x := by unfold ct_pick; omega
theorem mkL_pick_ct (k : Int) (xs : List PickT) : (mkL mk_pick k xs).2 = k + (ctL ct_pick xs : Nat) := mkL_ct mk_pick_ct k xs
noncomputable def mk_event (k : Int) (x : EventT) : EventT × Int := (⟨k, k + 1, ⟨⟨mkT (k + 1 + 1), mkT (k + 1 + 1 + 1), k + 1 + 1 + 1 + 1, k + 1 + 1 + 1 + 1 + 1, (mkL mk_metric (k + 1 + 1 + 1 + 1 + 1 + 1) (((x.item).order).metrics)).1, ⟨(mkL mk_metric (k + 1 + 1 + 1 + 1 + 1 + 1) (((x.item).order).metrics)).2, (mkL mk_metric (k + 1 + 1 + 1 + 1 + 1 + 1) (((x.item).order).metrics)).2 + 1, (mkL mk_metric (k + 1 + 1 + 1 + 1 + 1 + 1) (((x.item).order).metrics)).2 + 1 + 1, (mkL mk_metric (k + 1 + 1 + 1 + 1 + 1 + 1) (((x.item).order).metrics)).2 + 1 + 1 + 1⟩, (mkL mk_note ((mkL mk_metric (k + 1 + 1 + 1 + 1 + 1 + 1) (((x.item).order).metrics)).2 + 1 + 1 + 1 + 1) (((x.item).order).notes)).1⟩, (mkL mk_note ((mkL mk_metric (k + 1 + 1 + 1 + 1 + 1 + 1) (((x.item).order).metrics)).2 + 1 + 1 + 1 + 1) (((x.item).order).notes)).2⟩⟩, (mkL mk_note ((mkL mk_metric (k + 1 + 1 + 1 + 1 + 1 + 1) (((x.item).order).metrics)).2 + 1 + 1 + 1 + 1) (((x.item).order).notes)).2 + 1)
def ct_event (x : EventT) : Nat := 1 + 1 + 1 + 1 + 1 + 1 + ctL ct_metric (((x.item).order).metrics) + 1 + 1 + 1 + 1 + ctL ct_note (((x.item).order).notes) + 1
theorem mk_event_ct (k : Int) (x : EventT) : (mk_event k x).2 = k + (ct_event x : Nat) := by
  simp only [mk_event, ct_event, mkL_metric_ct, mkL_note_ct] <;> omega
theorem mk_event_idem (k : Int) (x : EventT) : mk_event k (mk_event k x).1 = mk_event k x := by
  simp only [mk_event, mkL_idem mk_metric_idem, mkL_idem mk_note_idem]
theorem ct_event_le (x : EventT) : ct_event x ≤ 64 * szN_event x + 64 := by
  have := ctL_le ct_metric_le (x.item.order.metrics)
  have := ctL_le ct_note_le (x.item.order.notes)
  simp only [ct_event, szN_event, szN_item, szN_order, szN_pace]; omega
noncomputable def mks_event (k : Int) (x : EventT) : EventT × Int := (⟨(x.seq), (x.kind), ⟨⟨(((x.item).order).name), (((x.item).order).target), (((x.item).order).low), (((x.item).order).high), (mkL mk_metric (k) (((x.item).order).metrics)).1, ⟨((((x.item).order).pace).up), ((((x.item).order).pace).down), ((((x.item).order).pace).upSpan), ((((x.item).order).pace).downSpan)⟩, (mkL mk_note ((mkL mk_metric (k) (((x.item).order).metrics)).2) (((x.item).order).notes)).1⟩, ((x.item).ver)⟩⟩, (mkL mk_note ((mkL mk_metric (k) (((x.item).order).metrics)).2) (((x.item).order).notes)).2)
def cts_event (x : EventT) : Nat := ctL ct_metric (((x.item).order).metrics) + ctL ct_note (((x.item).order).notes)
theorem mks_event_ct (k : Int) (x : EventT) : (mks_event k x).2 = k + (cts_event x : Nat) := by
  simp only [mks_event, cts_event, mkL_metric_ct, mkL_note_ct] <;> omega
theorem mks_event_idem (k : Int) (x : EventT) : mks_event k (mks_event k x).1 = mks_event k x := by
  simp only [mks_event, mkL_idem mk_metric_idem, mkL_idem mk_note_idem]
noncomputable def hds_event (k : Int) (x : EventT) : Int := cond (eqD x (mks_event k x).1) (mks_event k x).2 (-1)
theorem hds_event_marked (k : Int) (x : EventT) : hds_event k (mks_event k x).1 = (mks_event k x).2 := by
  unfold hds_event; rw [mks_event_idem, eqD_self]; rfl
theorem cts_event_le (x : EventT) : cts_event x ≤ 64 * szN_event x + 64 := by
  have := ctL_le ct_metric_le (x.item.order.metrics)
  have := ctL_le ct_note_le (x.item.order.notes)
  simp only [cts_event, szN_event, szN_item, szN_order, szN_pace]; omega
theorem ct_event_pos (x : EventT) : 1 ≤ ct_event x := by unfold ct_event; omega
theorem mkL_event_ct (k : Int) (xs : List EventT) : (mkL mk_event k xs).2 = k + (ctL ct_event xs : Nat) := mkL_ct mk_event_ct k xs
noncomputable def mk_hist (k : Int) (x : HistT) : HistT × Int := (⟨k, (mkL mk_event (k + 1) (x.list)).1⟩, (mkL mk_event (k + 1) (x.list)).2)
def ct_hist (x : HistT) : Nat := 1 + ctL ct_event (x.list)
theorem mk_hist_ct (k : Int) (x : HistT) : (mk_hist k x).2 = k + (ct_hist x : Nat) := by
  simp only [mk_hist, ct_hist, mkL_event_ct] <;> omega
theorem mk_hist_idem (k : Int) (x : HistT) : mk_hist k (mk_hist k x).1 = mk_hist k x := by
  simp only [mk_hist, mkL_idem mk_event_idem]
theorem ct_hist_le (x : HistT) : ct_hist x ≤ 64 * szN_hist x + 64 := by
  have := ctL_le ct_event_le (x.list)
  simp only [ct_hist, szN_hist]; omega
noncomputable def mks_hist (k : Int) (x : HistT) : HistT × Int := (⟨(x.base), (mkL mk_event (k) (x.list)).1⟩, (mkL mk_event (k) (x.list)).2)
def cts_hist (x : HistT) : Nat := ctL ct_event (x.list)
theorem mks_hist_ct (k : Int) (x : HistT) : (mks_hist k x).2 = k + (cts_hist x : Nat) := by
  simp only [mks_hist, cts_hist, mkL_event_ct] <;> omega
theorem mks_hist_idem (k : Int) (x : HistT) : mks_hist k (mks_hist k x).1 = mks_hist k x := by
  simp only [mks_hist, mkL_idem mk_event_idem]
noncomputable def hds_hist (k : Int) (x : HistT) : Int := cond (eqD x (mks_hist k x).1) (mks_hist k x).2 (-1)
theorem hds_hist_marked (k : Int) (x : HistT) : hds_hist k (mks_hist k x).1 = (mks_hist k x).2 := by
  unfold hds_hist; rw [mks_hist_idem, eqD_self]; rfl
theorem cts_hist_le (x : HistT) : cts_hist x ≤ 64 * szN_hist x + 64 := by
  have := ctL_le ct_event_le (x.list)
  simp only [cts_hist, szN_hist]; omega
theorem ct_hist_pos (x : HistT) : 1 ≤ ct_hist x := by unfold ct_hist; omega
theorem mkL_hist_ct (k : Int) (xs : List HistT) : (mkL mk_hist k xs).2 = k + (ctL ct_hist xs : Nat) := mkL_ct mk_hist_ct k xs
noncomputable def mk_fail (k : Int) (_x : FailT) : FailT × Int := (⟨mkT (k), k + 1⟩, k + 1 + 1)
def ct_fail (_x : FailT) : Nat := 1 + 1
theorem mk_fail_ct (k : Int) (x : FailT) : (mk_fail k x).2 = k + (ct_fail x : Nat) := by
  simp only [mk_fail, ct_fail] <;> omega
theorem mk_fail_idem (k : Int) (x : FailT) : mk_fail k (mk_fail k x).1 = mk_fail k x := by
  rfl
theorem ct_fail_le (x : FailT) : ct_fail x ≤ 64 * szN_fail x + 64 := by
  simp only [ct_fail, szN_fail]; omega
noncomputable def mks_fail (k : Int) (x : FailT) : FailT × Int := (⟨(x.name), (x.n)⟩, k)
def cts_fail (_x : FailT) : Nat := 0
theorem mks_fail_ct (k : Int) (x : FailT) : (mks_fail k x).2 = k + (cts_fail x : Nat) := by
  simp only [mks_fail, cts_fail]; simp
theorem mks_fail_idem (k : Int) (x : FailT) : mks_fail k (mks_fail k x).1 = mks_fail k x := by
  rfl
noncomputable def hds_fail (k : Int) (x : FailT) : Int := cond (eqD x (mks_fail k x).1) (mks_fail k x).2 (-1)
theorem hds_fail_marked (k : Int) (x : FailT) : hds_fail k (mks_fail k x).1 = (mks_fail k x).2 := by
  unfold hds_fail; rw [mks_fail_idem, eqD_self]; rfl
theorem cts_fail_le (x : FailT) : cts_fail x ≤ 64 * szN_fail x + 64 := by
  simp only [cts_fail, szN_fail]; omega
theorem ct_fail_pos (x : FailT) : 1 ≤ ct_fail x := by unfold ct_fail; omega
theorem mkL_fail_ct (k : Int) (xs : List FailT) : (mkL mk_fail k xs).2 = k + (ctL ct_fail xs : Nat) := mkL_ct mk_fail_ct k xs
noncomputable def mk_work (k : Int) (x : WorkT) : WorkT × Int := (⟨(mkL mk_str (k) (x.list)).1, (mkL mk_str ((mkL mk_str (k) (x.list)).2) (x.busy)).1, (mkL mk_str ((mkL mk_str ((mkL mk_str (k) (x.list)).2) (x.busy)).2) (x.again)).1, (mkL mk_fail ((mkL mk_str ((mkL mk_str ((mkL mk_str (k) (x.list)).2) (x.busy)).2) (x.again)).2) (x.fails)).1⟩, (mkL mk_fail ((mkL mk_str ((mkL mk_str ((mkL mk_str (k) (x.list)).2) (x.busy)).2) (x.again)).2) (x.fails)).2)
def ct_work (x : WorkT) : Nat := ctL ct_str (x.list) + ctL ct_str (x.busy) + ctL ct_str (x.again) + ctL ct_fail (x.fails)
theorem mk_work_ct (k : Int) (x : WorkT) : (mk_work k x).2 = k + (ct_work x : Nat) := by
  simp only [mk_work, ct_work, mkL_str_ct, mkL_fail_ct] <;> omega
theorem mk_work_idem (k : Int) (x : WorkT) : mk_work k (mk_work k x).1 = mk_work k x := by
  simp only [mk_work, mkL_idem mk_str_idem, mkL_idem mk_fail_idem]
theorem ct_work_le (x : WorkT) : ct_work x ≤ 64 * szN_work x + 64 := by
  have := ctL_le ct_str_le (x.list)
  have := ctL_le ct_str_le (x.busy)
  have := ctL_le ct_str_le (x.again)
  have := ctL_le ct_fail_le (x.fails)
  simp only [ct_work, szN_work]; omega
noncomputable def mks_work (k : Int) (x : WorkT) : WorkT × Int := (⟨(mkL mk_str (k) (x.list)).1, (mkL mk_str ((mkL mk_str (k) (x.list)).2) (x.busy)).1, (mkL mk_str ((mkL mk_str ((mkL mk_str (k) (x.list)).2) (x.busy)).2) (x.again)).1, (mkL mk_fail ((mkL mk_str ((mkL mk_str ((mkL mk_str (k) (x.list)).2) (x.busy)).2) (x.again)).2) (x.fails)).1⟩, (mkL mk_fail ((mkL mk_str ((mkL mk_str ((mkL mk_str (k) (x.list)).2) (x.busy)).2) (x.again)).2) (x.fails)).2)
def cts_work (x : WorkT) : Nat := ctL ct_str (x.list) + ctL ct_str (x.busy) + ctL ct_str (x.again) + ctL ct_fail (x.fails)
theorem mks_work_ct (k : Int) (x : WorkT) : (mks_work k x).2 = k + (cts_work x : Nat) := by
  simp only [mks_work, cts_work, mkL_str_ct, mkL_fail_ct] <;> omega
theorem mks_work_idem (k : Int) (x : WorkT) : mks_work k (mks_work k x).1 = mks_work k x := by
  simp only [mks_work, mkL_idem mk_str_idem, mkL_idem mk_fail_idem]
noncomputable def hds_work (k : Int) (x : WorkT) : Int := cond (eqD x (mks_work k x).1) (mks_work k x).2 (-1)
theorem hds_work_marked (k : Int) (x : WorkT) : hds_work k (mks_work k x).1 = (mks_work k x).2 := by
  unfold hds_work; rw [mks_work_idem, eqD_self]; rfl
theorem cts_work_le (x : WorkT) : cts_work x ≤ 64 * szN_work x + 64 := by
  have := ctL_le ct_str_le (x.list)
  have := ctL_le ct_str_le (x.busy)
  have := ctL_le ct_str_le (x.again)
  have := ctL_le ct_fail_le (x.fails)
  simp only [cts_work, szN_work]; omega
theorem mkL_work_ct (k : Int) (xs : List WorkT) : (mkL mk_work k xs).2 = k + (ctL ct_work xs : Nat) := mkL_ct mk_work_ct k xs

end Go.Gm

/- Plain laws: what is chosen. -/
namespace Go.Gm
open Go

theorem chosen_fold (ps : List PickT) : ∀ (xs : List ItemT) (out : List ByteArray), xs.foldl (chosenStep ps) out = out ++ (xs.filter fun i => !(fitsNotAny ps i)).map (·.order.name)
  | [], out => by simp
  | x :: xs, out => by
    rw [List.foldl_cons, chosen_fold ps xs, List.filter_cons]
    unfold chosenStep
    cases fitsNotAny ps x <;> simp
theorem chosen_eq (s : StoreT) (ps : List PickT) : chosen s ps = (s.items.filter fun i => !(fitsNotAny ps i)).map (·.order.name) := by
  unfold chosen; rw [chosen_fold]; simp
theorem chosen_sm {s : StoreT} {ps : List PickT} (h : sm_store s = true) : smL smStr (chosen s ps) = true := by
  simp only [sm_store, Bool.and_eq_true] at h
  have hl := smL_len h.1
  rw [chosen_eq]
  unfold smL
  have h1 := List.length_filter_le (fun i => !(fitsNotAny ps i)) s.items
  rw [Nat.ble_eq_true_of_le (by rw [List.length_map]; omega), Bool.true_and, List.all_eq_true]
  intro x hx
  obtain ⟨i, hi, rfl⟩ := List.mem_map.1 hx
  have := List.all_eq_true.1 (smL_all h.1) i (List.mem_filter.1 hi).1
  simp only [sm_item, sm_order, Bool.and_eq_true] at this
  exact this.1.1

end Go.Gm

/- Plain functions: names, what is to be looked at. -/
namespace Go.Gm
open Go

def nameC (i c : Int) : Bool := (decide (c ≥ (97 : Int)) && decide (c ≤ (122 : Int))) || (!(i == (0 : Int)) && (digit c || (c == (45 : Int))))
def nameOk (s : ByteArray) : Bool := allN (fun j => nameC (j : Int) (byteAt s j)) 0 s.size && inR (s.size : Int) 1 20
def gNames (xs : List ByteArray) : Bool := okL okStr xs
def nameAt (xs : List ByteArray) (j : Nat) : Bool := nameOk (atI (t := .str) xs j) && !(isIn (xs.take j) (atI (t := .str) xs j))
def namesOk (xs : List ByteArray) : Bool := allN (nameAt xs) 0 xs.length && decide ((xs.length : Int) ≤ 6)
def inBusy (s : ByteArray) (w : WorkT) : Bool := isIn w.busy s
def notBusy (s : ByteArray) (w : WorkT) : Bool := !(isIn w.busy s)
def gBusy (xs : List ByteArray) (w : WorkT) : Bool := gLenW xs && gLenW w.busy
def inBusyAt (xs : List ByteArray) (w : WorkT) : Int := findI (t := .str) (fun s => inBusy s w) xs
def notBusyAt (xs : List ByteArray) (w : WorkT) : Int := findI (t := .str) (fun s => notBusy s w) xs
def inBusyAny (xs : List ByteArray) (w : WorkT) : Bool := xs.any fun s => inBusy s w
def notBusyAny (xs : List ByteArray) (w : WorkT) : Bool := xs.any fun s => notBusy s w
def failC (xs : List FailT) (j : Nat) : Bool := nameOk (atI (t := .fail) xs j).name && (!(failAt xs (atI (t := .fail) xs j).name != (j : Int)) && inR (atI (t := .fail) xs j).n 1 20)
def workQOk (w : WorkT) : Bool :=
  namesOk w.list && (namesOk w.busy && (namesOk w.again && (!(decide ((w.fails.length : Int) > 12)) && (!(inBusyAny w.list w) && (!(notBusyAny w.again w) && allN (failC w.fails) 0 w.fails.length)))))
theorem all_not {α : Type} (q : α → Bool) (xs : List α) : (xs.all fun x => !(q x)) = !(xs.any q) := by
  induction xs with
  | nil => rfl
  | cons x r ih => rw [List.any_cons, List.all_cons, ih]; cases q x <;> simp
theorem okL_sms {xs : List ByteArray} (h : smL smStr xs = true) : okL okStr xs = true := okL_sm h fun _ h => okStr_sm h

end Go.Gm

/- Contracts of two or three functions that call each other, by measures. -/
namespace Go.Gm
open Go

theorem spec_rec2 {P : Program} {f f' : Nat} {ms ms' : List Am} {rs rs' : List Bool} {ow ow' : Bool} {q q' : Q} (μ μ' : List Dt → Nat)
    (h : ∀ N, SpecOk P f (Spec.of ms rs ow (qlt μ N q)) → SpecOk P f' (Spec.of ms' rs' ow' (qlt μ' N q')) → SpecOk P f (Spec.of ms rs ow (qeq μ N q)) ∧ SpecOk P f' (Spec.of ms' rs' ow' (qeq μ' N q'))) :
    SpecOk P f (Spec.of ms rs ow q) ∧ SpecOk P f' (Spec.of ms' rs' ow' q') := by
  have all : ∀ N, SpecOk P f (Spec.of ms rs ow (qeq μ N q)) ∧ SpecOk P f' (Spec.of ms' rs' ow' (qeq μ' N q')) := by
    intro N
    induction N using Nat.strongRecOn with
    | _ N ih =>
      refine h N (spec_part fun ds outs hq => ?_) (spec_part fun ds outs hq => ?_)
      · obtain ⟨h1, h2⟩ := qlt_some hq
        exact ⟨qeq μ (μ ds) q, (ih (μ ds) h2).1, qeq_self h1⟩
      · obtain ⟨h1, h2⟩ := qlt_some hq
        exact ⟨qeq μ' (μ' ds) q', (ih (μ' ds) h2).2, qeq_self h1⟩
  refine ⟨?_, ?_⟩
  · intro R
    exact spec_part fun ds outs hq => ⟨qeq μ (μ ds) q, (all (μ ds)).1, qeq_self hq⟩
  · intro R
    exact spec_part fun ds outs hq => ⟨qeq μ' (μ' ds) q', (all (μ' ds)).2, qeq_self hq⟩

structure Rc where
  f : Nat
  ms : List Am
  rs : List Bool
  ow : Bool
  mu : List Dt → Nat
  q : Q
theorem spec_recs {P : Program} (L : List Rc)
    (h : ∀ N, (∀ x ∈ L, SpecOk P x.f (Spec.of x.ms x.rs x.ow (qlt x.mu N x.q))) → ∀ x ∈ L, SpecOk P x.f (Spec.of x.ms x.rs x.ow (qeq x.mu N x.q))) :
    ∀ x ∈ L, SpecOk P x.f (Spec.of x.ms x.rs x.ow x.q) := by
  have all : ∀ N, ∀ x ∈ L, SpecOk P x.f (Spec.of x.ms x.rs x.ow (qeq x.mu N x.q)) := by
    intro N
    induction N using Nat.strongRecOn with
    | _ N ih =>
      refine h N fun x hx => spec_part fun ds outs hq => ?_
      obtain ⟨h1, h2⟩ := qlt_some hq
      exact ⟨qeq x.mu (x.mu ds) x.q, ih (x.mu ds) h2 x hx, qeq_self h1⟩
  intro x hx R
  exact spec_part fun ds outs hq => ⟨qeq x.mu (x.mu ds) x.q, all (x.mu ds) x hx, qeq_self hq⟩

end Go.Gm

/- Contracts of functions of which one argument, the first, comes in cell by cell: its lists are lent, each by itself. -/
namespace Go.Gm
open Go

section ev
variable {R : Type}
/-- The cells of an argument, one by one. -/
def cellsIn : Nat → List Am → List Dt → St → (List Sc → St → Option R) → Option R
  | _, [], [], st, k => k [] st
  | id, .mut :: ms, .d (.sl t) x :: ds, st, k => impL true st id [.l t x] fun cs _ st _ => match cs with
      | [c] => cellsIn (id + 1) ms ds st fun cs st => k (c :: cs) st
      | _ => none
  | id, .skp :: ms, _ :: ds, st, k => cellsIn (id + 1) ms ds st fun cs st => k (.dead :: cs) st
  | _, _, _, _, _ => none
def cellsOf : List Am → List Sc → Option (List (Am × Nat × Sv))
  | [], [] => some []
  | .mut :: ms, c :: cs => (cellsOf ms cs).bind fun l => some ((.mut, 0, .c (.one c)) :: l)
  | .skp :: ms, _ :: cs => cellsOf ms cs
  | _, _ => none
def evExitS (E : Env) (ms1 ms2 : List Am) (res : List Bool) (rvs : List ResultVar) (Ts : List Nat) (ds1 ds2 : List Dt) (st : St) (k : List Dt → Option R) : Option R :=
  exitRes E st true rvs res Ts fun l1 => match aget st.slots 0 with
    | some (.c (.agg cs)) => (cellsOf ms1 cs).bind fun la => backsOf st 1 ms2 fun lb =>
        passArgs E (l1 ++ (la ++ lb)) st fun outs _ _ _ => cond (backsChk (ms1 ++ ms2) (ds1 ++ ds2) (outs.drop l1.length)) (k outs) none
    | _ => none
def evFnS (E : Env) (keep : Nat → Kp) (rounds : Nat) (body : Code) (ms1 ms2 : List Am) (res : List Bool) (rvs : List ResultVar) (Ts : List Nat) (ds1 ds2 : List Dt) (k : List Dt → Option R) : Option R :=
  cellsIn 0 ms1 ds1 ⟨[], [], []⟩ fun cs st => entry 1 ms2 ds2 { st with slots := aset st.slots 0 (.c (.agg cs)) } fun st => ev E keep rounds body st fun e st => match e with
    | .exit _ => none
    | _ => evExitS E ms1 ms2 res rvs Ts ds1 ds2 st k
def exitKS (E : Env) (ms1 ms2 : List Am) (res : List Bool) (rvs : List ResultVar) (Ts : List Nat) (ds1 ds2 : List Dt) (k : List Dt → Option R) : Ex → St → Option R := fun e st => match e with
  | .exit _ => none
  | _ => evExitS E ms1 ms2 res rvs Ts ds1 ds2 st k
end ev

variable {R : Type} {P : Program} {E : Env} {w0 w w' : World} {Mf : Nat → Prop} {g : Gh} {st : St} {a : Act}

theorem cellsIn_sound {ROa : Nat → Prop} : ∀ {ms1 ms2 : List Am} {ds1 ds2 : List Dt} {us : List Value} {Fs : List (Nat → Prop)} {id : Nat} {g : Gh} {st : St} {k : List Sc → St → Option R} {r : R}, Inv w0 Mf g st a w →
    ArgsOk w ROa (ms1 ++ ms2) (ds1 ++ ds2) us Fs → PairApart Fs → (∀ n, Given (ms1 ++ ms2) Fs n → Free w0 Mf g st n ∧ n < w.heap.size) → g.ro = ROa → cellsIn id ms1 ds1 st k = some r →
    ∃ cs g' st' Fs', k cs st' = some r ∧ g'.n = g.n ∧ Inv w0 Mf g' st' a w ∧ (∀ c u, ScRel w g st c u → ScRel w g' st' c u) ∧ CsL w g' st' cs (us.take ms1.length) ∧ ArgsOk w ROa ms2 ds2 (us.drop ms1.length) Fs' ∧ PairApart Fs' ∧
      (∀ n, Given ms2 Fs' n → Free w0 Mf g' st' n ∧ n < w.heap.size) ∧ g'.ro = ROa
  | [], ms2, ds1, ds2, us, Fs, id, g, st, k, r, I, hA, hp, hf, hro, h => by
    cases ds1 with
    | cons _ _ => cases h
    | nil => exact ⟨[], g, st, Fs, h, rfl, I, fun _ _ h => h, trivial, hA, hp, hf, hro⟩
  | m :: ms1, ms2, ds0, ds2, us0, Fs0, id, g, st, k, r, I, hA, hp, hf, hro, h => by
    cases ds0 with
    | nil => cases m <;> cases h
    | cons d ds1 =>
    rw [List.cons_append, List.cons_append] at hA
    cases hA with
    | cons hA1 hA2 =>
    rename_i u us F Fs
    obtain ⟨hp1, hp2⟩ := List.pairwise_cons.1 hp
    cases m with
    | «mut» =>
      cases d with
      | clo _ _ => cases h
      | d t x =>
      obtain ⟨e, xs, heq, hO⟩ := hA1
      cases heq
      simp only [cellsIn] at h
      obtain ⟨ss, mm, g1, st1, v, h1, I1, G1, hc⟩ := Inv.impOwn (cs := [.l e xs]) (Fs := [F]) (us := [u]) I ⟨hO, trivial⟩ (fun x hx => by simp at hx) (List.pairwise_singleton _ _) (fun G hG n hn => by
        have : G = F := by simpa using hG
        subst this
        exact hf n (.here rfl hn)) h
      cases ss with
      | nil => exact hc.elim
      | cons c ss =>
      cases ss with
      | cons _ _ => exact hc.2.elim
      | nil =>
      obtain ⟨cs, g', st', Fs', h2, h3, I2, hm, hcs, hA3, hp3, hf3, hro3⟩ := cellsIn_sound I1 hA2 hp2 (fun n hn => by
        obtain ⟨hfr, hlt⟩ := hf n (.there hn)
        refine ⟨⟨fun id' hi h5 => ?_, by rw [G1.ro]; exact hfr.ro, fun b hb => by rw [G1.bx]; rw [G1.eq] at hb; exact hfr.b b hb, hfr.mine⟩, hlt⟩
        rcases G1.own id' hi with ⟨h6, h7⟩ | h6
        · rw [h7] at h5; exact hfr.r id' h6 h5
        · obtain ⟨F', hF', hk⟩ := h6 n h5
          have : F' = F := by simpa using hF'
          subst this
          obtain ⟨G, hG, hg⟩ := hn.any
          exact hp1 G hG n hk hg) (by rw [G1.ro]; exact hro) h1
      exact ⟨c :: cs, g', st', Fs', h2, h3.trans G1.n, I2, fun c u h => hm c u (G1.map c u h), ⟨hm _ _ hc.1, hcs⟩, hA3, hp3, hf3, hro3⟩
    | skp =>
      simp only [cellsIn] at h
      obtain ⟨cs, g', st', Fs', h2, h3, I2, hm, hcs, hA3, hp3, hf3, hro3⟩ := cellsIn_sound I hA2 hp2 (fun n hn => hf n (.there hn)) hro h
      exact ⟨.dead :: cs, g', st', Fs', h2, h3, I2, hm, ⟨⟨hA1, trivial⟩, hcs⟩, hA3, hp3, hf3, hro3⟩
    | _ => cases h

theorem cellsOf_sound : ∀ {ms : List Am} {cs : List Sc} {us : List Value} {la : List (Am × Nat × Sv)}, CsL w g st cs us → cellsOf ms cs = some la → SvL w g st (la.map (·.2)) (backUs ms us) ∧ la.map (·.1) = ms.filter isBack
  | [], [], us, la, hc, h => by
    cases h
    cases us with
    | nil => exact ⟨trivial, rfl⟩
    | cons _ _ => exact hc.elim
  | [], _ :: _, _, _, _, h => by cases h
  | m :: ms, [], _, _, _, h => by cases m <;> cases h
  | m :: ms, c :: cs, us, la, hc, h => by
    cases us with
    | nil => exact hc.elim
    | cons u us =>
    cases m with
    | «mut» =>
      simp only [cellsOf] at h
      obtain ⟨l, hl, h⟩ := Option.bind_eq_some_iff.1 h
      cases h
      obtain ⟨h1, h2⟩ := cellsOf_sound hc.2 hl
      exact ⟨⟨hc.1, h1⟩, by rw [List.map_cons, h2]; rfl⟩
    | skp =>
      obtain ⟨h1, h2⟩ := cellsOf_sound (ms := ms) hc.2 h
      exact ⟨h1, by simpa [isBack] using h2⟩
    | _ => cases h

theorem backUs_append : ∀ {ms1 ms2 : List Am} {us1 us2 : List Value}, ms1.length = us1.length → backUs (ms1 ++ ms2) (us1 ++ us2) = backUs ms1 us1 ++ backUs ms2 us2
  | [], _, [], _, _ => rfl
  | [], _, _ :: _, _, h => by simp at h
  | _ :: _, _, [], _, h => by simp at h
  | m :: ms, ms2, u :: us, us2, h => by
    have := backUs_append (ms1 := ms) (ms2 := ms2) (us1 := us) (us2 := us2) (by simpa using h)
    simp only [List.cons_append, backUs, this]
    split <;> rfl

/-- A contract of which the first argument comes in cell by cell. -/
def Spec.ofS (ms1 ms2 : List Am) (res : List Bool) (q : List Dt → Option (Bool × List Dt)) : Spec := { Spec.of (ms1 ++ ms2) res true q with shape := [ms1.length] }
theorem Spec.ofS_natl (ms1 ms2 : List Am) (res : List Bool) (q : List Dt → Option (Bool × List Dt)) : (Spec.ofS ms1 ms2 res q).Natl := Spec.of_natl (ms1 ++ ms2) res true q

theorem spec_okS (hE : E.Ok P) (hN : E.Natl) {f : Nat} {fn : Func} {c : Code} (hf : P.funcs[f]? = some fn) (hb : fn.body = some c) {m : Am} {ms1 ms2 : List Am} {res : List Bool} {q : List Dt → Option (Bool × List Dt)} (Ts : List Nat)
    (hok : codeOk fn.ntmps (0 :: stays 1 ms2) c = true)
    (hrun : ∀ ds outs, q ds = some (true, outs) → ds.length = (m :: ms1).length + ms2.length → ∃ keep rounds, ∀ {R : Type} (k : List Dt → Option R), evFnS E keep rounds c (m :: ms1) ms2 res fn.results.toList Ts (ds.take (m :: ms1).length) (ds.drop (m :: ms1).length) k = k outs) :
    SpecOk P f (Spec.ofS (m :: ms1) ms2 res q) := by
  intro R ds k r h w us Mf ROa Fs hA hp hFM hRM hRlt hMlt
  have hA : ArgsOk w ROa ((m :: ms1) ++ ms2) ds us Fs := hA
  obtain ⟨hl1, hl2, _⟩ := hA.len
  have hlm : ((m :: ms1) ++ ms2).length = (m :: ms1).length + ms2.length := List.length_append
  obtain ⟨outs, hq, hk⟩ := Spec.of_some (modes := (m :: ms1) ++ ms2) (res := res) (own := true) h
  obtain ⟨keep, rounds, hev⟩ := hrun ds outs hq (by omega)
  replace h := (hev k).trans hk
  have hds : ds.take (m :: ms1).length ++ ds.drop (m :: ms1).length = ds := List.take_append_drop _ _
  have hus : us.take (m :: ms1).length ++ us.drop (m :: ms1).length = us := List.take_append_drop _ _
  generalize hd1 : ds.take (m :: ms1).length = ds1 at h hds
  generalize hd2 : ds.drop (m :: ms1).length = ds2 at h hds
  have hzl : (us.take (m :: ms1).length).length = (m :: ms1).length := by rw [List.length_take]; omega
  have hpk : packA [(m :: ms1).length] us = .agg (us.take (m :: ms1).length).toArray :: us.drop (m :: ms1).length := rfl
  show Calls P f (packA [(m :: ms1).length] us).toArray w _
  rw [hpk]
  generalize hz1 : us.take (m :: ms1).length = zs at hus hzl
  generalize hz2 : us.drop (m :: ms1).length = us2 at hus
  refine calls_of_wp hf hb ?_
  let vs0 : List Value := .agg zs.toArray :: us2
  let a0 : Act := { tmps := vs0.toArray ++ Array.replicate (fn.ntmps - vs0.toArray.size) undef, defers := [] }
  let F0 : Fx := ⟨a0.tmps.size, ROa⟩
  let g0 : Gh := { rv := fun _ _ => undef, rf := fun _ _ => False, bx := fun _ => 0, ro := ROa, n := F0 }
  have hsz : fn.ntmps ≤ F0.sz := by
    show fn.ntmps ≤ (vs0.toArray ++ Array.replicate (fn.ntmps - vs0.toArray.size) undef).size
    simp; omega
  have hgive : ∀ n, Given ((m :: ms1) ++ ms2) Fs n → Mf n := fun n hg => by obtain ⟨F, hF, h⟩ := hg.any; exact hFM F hF n h
  have noO : ∀ id, ¬ OwnAt ⟨[], [], []⟩ id := fun id ⟨r, h, _⟩ => by simp [aget] at h
  have noB : ∀ b, ¬ BoxAt ⟨[], [], []⟩ b := fun b h => by simp [BoxAt, aget] at h
  have I0 : Inv w (Given ((m :: ms1) ++ ms2) Fs) g0 ⟨[], [], []⟩ a0 w :=
    { slots := fun s sv h => by simp [aget] at h
      boxes := fun b x h => by simp [aget] at h
      roots := fun id r h => by simp [aget] at h
      apart := {
        rr := fun id id' k h => (noO id h).elim
        rb := fun id b h => (noO id h).elim
        bb := fun b b' h => (noB b h).elim
        ro_r := fun id k h => (noO id h).elim
        ro_b := fun b h => (noB b h).elim
        mine_r := fun id k h => (noO id h).elim
        mine_b := fun b h => (noB b h).elim
        lt_r := fun id k h => (noO id h).elim
        lt_ro := hRlt
        mine_ro := fun k h => .inl h }
      kept := ⟨rfl, rfl, rfl, Nat.le_refl _, fun _ _ _ => rfl⟩
      defers := rfl
      size := rfl }
  have htm : ∀ (i : Nat) u, vs0[i]? = some u → a0.tmps[i]? = some u := fun i u hu => by
    have hi : i < vs0.length := by
      rcases Nat.lt_or_ge i vs0.length with h' | h'
      · exact h'
      · simp [List.getElem?_eq_none h'] at hu
    show (vs0.toArray ++ Array.replicate (fn.ntmps - vs0.toArray.size) undef)[i]? = some u
    rw [Array.getElem?_append_left (by simpa using hi)]
    simpa using hu
  unfold evFnS at h
  obtain ⟨cs, g1, st1, Fs1, h, hg1, I1, _, hcs, hA1, hp1, hf1, hro1⟩ := cellsIn_sound (ROa := ROa) (ms1 := m :: ms1) (ms2 := ms2) (ds1 := ds1) (ds2 := ds2) I0 (by rw [hds]; exact hA) hp
    (fun n hg => ⟨⟨fun id h => (noO id h).elim, fun h => hRM n h (hgive n hg), fun b h => (noB b h).elim, .inr hg⟩, hMlt n (hgive n hg)⟩) rfl h
  rw [hz1] at hcs
  rw [hz2] at hA1
  have I1' := I1.note (j := 0) (sv := .c (.agg cs)) (htm 0 _ rfl) ⟨zs.toArray, rfl, CsL.arr hcs⟩
  obtain ⟨g2, st2, h, hg2, I2⟩ := entry_sound (ROa := ROa) (j := 1) I1' (us := us2) (fun i u hu => by
      have := htm (i + 1) u (by simpa [vs0] using hu)
      rw [Nat.add_comm]; exact this) hA1 hp1 (fun n hn => let ⟨h1, h2⟩ := hf1 n hn; ⟨⟨h1.r, h1.ro, h1.b, h1.mine⟩, h2⟩) hro1 h
  have hmem : ∀ {ms : List Am} {j : Nat} {x : Nat}, x ∈ stays j ms → j ≤ x ∧ x < j + ms.length := by
    intro ms
    induction ms with
    | nil => intro j x h; simp [stays] at h
    | cons m ms ih =>
      intro j x h
      cases m <;> simp only [stays, List.mem_cons] at h <;> first
        | (have := ih h; simp only [List.length_cons]; omega)
        | (rcases h with rfl | h
           · simp
           · have := ih h; simp only [List.length_cons]; omega)
  obtain ⟨hla, _, _⟩ := hA1.len
  have hstay0 : Stay (0 :: stays 1 ms2) (fun j => vs0[j]?) a0.tmps := by
    intro j hj
    have hlt : j < vs0.length := by
      rcases List.mem_cons.1 hj with rfl | hj
      · simp [vs0]
      · have := hmem hj
        simp only [vs0, List.length_cons]; omega
    have := htm j vs0[j] (by simp [hlt])
    rw [this]; simp [hlt]
  refine ev_sound hE hN (F := F0) c (codeOk_mono hsz hok) h (hg2.trans hg1) I2 hstay0 fun e g' st' a' w' hk' hg' I' hJ' => ?_
  have fin : evExitS E (m :: ms1) ms2 res fn.results.toList Ts ds1 ds2 st' k = some r → a'.defers = [] ∧ ∃ v, (results fn a'.tmps).run P w' = .ok v w' ∧ ∃ outs, k outs = some r ∧ After w w' Mf ROa (Spec.ofS (m :: ms1) ms2 res q) ds us outs (.returned v) := by
    unfold evExitS
    intro h
    obtain ⟨l1, vs, h, hrn, hS1, hm1⟩ := exitRes_sound hE I' h
    split at h
    case h_2 => cases h
    rename_i cs' hslot
    obtain ⟨la, hla', h⟩ := Option.bind_eq_some_iff.1 h
    obtain ⟨lb, h, hSb, hmb⟩ := backsOf_sound I' (us := us2) hla (fun i hi n hin => by
      have := hJ' i (List.mem_cons_of_mem _ hi)
      rw [this]
      have : i = n + 1 := by omega
      subst this
      simp [vs0]) h
    obtain ⟨u, hu, hr⟩ := I'.slots 0 _ hslot
    have hu0 := hJ' 0 (by simp)
    rw [hu] at hu0
    have hu0 : u = .agg zs.toArray := by simpa [vs0] using hu0
    subst hu0
    obtain ⟨ys, hy, hcy⟩ := hr
    have hy : ys = zs.toArray := by simpa using hy.symm
    subst hy
    obtain ⟨hSa, hma⟩ := cellsOf_sound (us := zs) (by simpa using hcy.l) hla'
    have hbu : backUs ((m :: ms1) ++ ms2) us = backUs (m :: ms1) zs ++ backUs ms2 us2 := by rw [← hus]; exact backUs_append hzl.symm
    refine ⟨I'.defers, exit_core (s := Spec.ofS (m :: ms1) ms2 res q) hE I' (by rw [hg']) hl1 hgive (fun hall n hn => Given.none hall hn) hrn hS1 hm1 (l2 := la ++ lb) ?_ ?_ ?_⟩
    · show SvL w' g' st' ((la ++ lb).map (·.2)) (backUs ((m :: ms1) ++ ms2) us)
      rw [hbu, List.map_append]; exact hSa.append' hSb
    · show (la ++ lb).map (·.1) = ((m :: ms1) ++ ms2).filter isBack
      rw [List.map_append, List.filter_append, hma, hmb]
    · rw [← hds]; exact h
  cases e with
  | normal => exact fin hk'
  | ret => exact fin hk'
  | exit id => cases hk'

end Go.Gm

/- Contracts of library functions that are not walked by the evaluator: one result, the caller's own. -/
namespace Go.Gm
open Go

variable {P : Program} {w w' : World} {Mf ROa : Nat → Prop}

theorem backs_skip : ∀ {ms : List Am} {ds : List Dt} {us : List Value}, ms.all (fun m => !(isBack m)) = true → ms.length = us.length → ds.length = us.length → BacksOk w ms ds us [] []
  | [], [], [], _, _, _ => .nil
  | m :: ms, d :: ds, u :: us, h, h1, h2 => by
    simp only [List.all_cons, Bool.and_eq_true] at h
    refine .skip ?_ (backs_skip h.2 (by simpa using h1) (by simpa using h2))
    cases m <;> first | trivial | exact absurd h.1 (by simp [isBack])
  | [], _ :: _, [], _, _, h => by simp at h
  | [], _, _ :: _, _, h, _ => by simp at h
  | _ :: _, _, [], _, h, _ => by simp at h
  | _ :: _, [], _ :: _, _, _, h => by simp at h

theorem After.own1 {s : Spec} (hown : s.own = true) (hres : s.res = [false]) (hm : s.modes.all (fun m => !(isBack m)) = true) {ds : List Dt} {us : List Value} (h1 : s.modes.length = us.length) (h2 : ds.length = us.length) {t : Ty} {x : El t} {v : Value}
    {G : Nat → Prop} (hv : ValOwn w' G t x v) (hG : ∀ k, G k → (Mf k ∨ w.heap.size ≤ k) ∧ k < w'.heap.size) (hk : Kept w w' Mf) : After w w' Mf ROa s ds us [.d t x] (.returned v) := by
  refine ⟨⟨[v], [G], [], rfl, ?_, ?_, List.Pairwise.nil, fun B hB => by simp at hB, fun _ => ⟨List.pairwise_singleton _ _, fun G' hG' k hk => ?_⟩, fun e => absurd (hown.symm.trans e) (by simp), fun G hG B hB => by simp at hB, fun G' hG' k hk => ?_, fun B hB => by simp at hB⟩, hk⟩
  · rw [hown, hres]; exact .val (by simpa using hv) .nil
  · rw [hres]; exact backs_skip hm h1 h2
  · have : G' = G := by simpa using hG'
    subst this; exact (hG k hk).1
  · have : G' = G := by simpa using hG'
    subst this; exact (hG k hk).2

/-- A contract of one result of the caller's own, from what the function does with these values. -/
theorem spec_own1 {f : Nat} {modes : List Am} {q : List Dt → Option (Bool × List Dt)} (hm : modes.all (fun m => !(isBack m)) = true)
    (h : ∀ ds outs, q ds = some (true, outs) → ∃ t x, outs = [.d t x] ∧ ∀ (w : World) (us : List Value) (Mf ROa : Nat → Prop) (Fs : List (Nat → Prop)), ArgsOk w ROa modes ds us Fs → PairApart Fs → (∀ F ∈ Fs, ∀ k, F k → Mf k) →
      (∀ k, ROa k → ¬ Mf k) → (∀ k, ROa k → k < w.heap.size) → (∀ k, Mf k → k < w.heap.size) →
      Calls P f us.toArray w fun e w' => ∃ v G, e = .returned v ∧ Kept w w' Mf ∧ ValOwn w' G t x v ∧ ∀ k, G k → (Mf k ∨ w.heap.size ≤ k) ∧ k < w'.heap.size) : SpecOk P f (Spec.of modes [false] true q) := by
  intro R ds k r hr w us Mf ROa Fs hA hp hFM hRM hRlt hMlt
  obtain ⟨outs, hq, hk⟩ := Spec.of_some hr
  obtain ⟨t, x, rfl, hc⟩ := h ds outs hq
  refine Calls.mono (hc w us Mf ROa Fs hA hp hFM hRM hRlt hMlt) ?_
  rintro e w' ⟨v, G, rfl, h1, h2, h3⟩
  obtain ⟨hl1, hl2, _⟩ := hA.len
  exact ⟨_, hk, After.own1 rfl rfl hm hl1 hl2 h2 h3 h1⟩

theorem valOwn_sl {G : Nat → Prop} {t : Ty} {xs : List (El t)} {v : Value} (h : OwnSl w G t xs v) : ValOwn w G (.sl t) xs v := by
  refine ⟨#[v], by simp [Form, isSt, h.flat], fun j => if j = 0 then G else fun _ => False, fun j k hk => ?_, fun j j' k hk hk' => ?_, by simp [enc], fun j c hc => ?_⟩
  · dsimp only at hk
    split at hk
    · exact hk
    · exact hk.elim
  · dsimp only at hk hk'
    by_cases e1 : j = 0
    · by_cases e2 : j' = 0
      · omega
      · simp [e2] at hk'
    · simp [e1] at hk
  · cases j with
    | zero =>
      simp only [enc, List.getElem?_cons_zero, Option.some.injEq] at hc
      subst hc
      exact ⟨v, rfl, by simpa [COwn] using h⟩
    | succ j => simp [enc] at hc
theorem valRd_sl {Pr : Nat → Prop} {t : Ty} {xs : List (El t)} {u : Value} (h : ValRd w Pr (.sl t) xs u) : RdSl w Pr t xs u := by
  obtain ⟨us, hf, hr⟩ := h
  obtain ⟨e, _⟩ := hf.size rfl
  subst e
  obtain ⟨z, hz, hc⟩ := hr.2 0 (.l t xs) rfl
  have hz : u = z := by simpa using hz
  subst hz; exact hc
theorem valOwn_sl' {F : Nat → Prop} {t : Ty} {xs : List (El t)} {u : Value} (h : ValOwn w F (.sl t) xs u) : ∃ G, (∀ k, G k → F k) ∧ OwnSl w G t xs u := by
  obtain ⟨us, hf, Fs, h1, h2, h3, h4⟩ := h
  obtain ⟨e, _⟩ := hf.size rfl
  subst e
  obtain ⟨z, hz, hc⟩ := h4 0 (.l t xs) rfl
  have hz : u = z := by simpa using hz
  subst hz
  exact ⟨Fs 0, h1 0, hc⟩

/-! ### a copy of an empty list -/
/-- What slices.Clone does with an empty list: nil, or a new empty list. -/
def CloneE (P : Program) (f : Nat) : Prop := ∀ (a : Option Addr) (c : Nat) (w : World), Calls P f #[.slice a 0 c] w fun e w' =>
  (e = .returned (.slice none 0 0) ∧ w' = w) ∨ ∃ el, e = .returned (.slice (some ⟨w.heap.size, 0, none⟩) 0 0) ∧ w' = w.alloc (.cells #[] el)
theorem ownSl_nil (w : World) (F : Nat → Prop) (t : Ty) {v : Value} (h : NodeOwn w F t [] v fun _ _ => v) : OwnSl w F t [] v := by
  refine ⟨fun _ => v, rfl, fun p s hs => ?_, fun p q s s' b hp hq _ _ => ?_⟩
  · cases p with
    | nil => simp only [subR, Option.some.injEq] at hs; subst hs; exact h
    | cons ij p => simp [subR] at hs
  · cases p with
    | nil => cases q with
      | nil => rfl
      | cons ij q => simp [subR] at hq
    | cons ij p => simp [subR] at hp
theorem spec_cloneE {f : Nat} {t : Ty} (h : CloneE P f) {q : List Dt → Option (Bool × List Dt)} (hq : ∀ ds outs, q ds = some (true, outs) → ds = [.d (.sl t) []] ∧ outs = [.d (.sl t) []]) : SpecOk P f (Spec.of [.ro] [false] true q) := by
  refine spec_own1 rfl fun ds outs hqs => ?_
  obtain ⟨rfl, rfl⟩ := hq ds outs hqs
  refine ⟨_, _, rfl, fun w us Mf ROa Fs hA _ _ _ _ _ => ?_⟩
  cases hA with
  | cons h1 hA =>
    cases hA
    obtain ⟨av, h0, hav⟩ := valRd_sl h1
    obtain ⟨a, cap, e1, _, _⟩ := hav [] ⟨t, []⟩ rfl
    rw [h0] at e1
    subst e1
    refine Calls.mono (h a cap w) ?_
    rintro e w' (⟨rfl, rfl⟩ | ⟨el, rfl, rfl⟩)
    · exact ⟨_, fun _ => False, rfl, ⟨rfl, rfl, rfl, Nat.le_refl _, fun _ _ _ => rfl⟩, valOwn_sl (nilOwn _ _ _), fun _ h => h.elim⟩
    · refine ⟨_, fun k => k = w.heap.size, rfl, ⟨rfl, rfl, rfl, by simp, fun b hb _ => heap_alloc_old w _ hb⟩, valOwn_sl (ownSl_nil _ _ _ ?_), fun k hk => ?_⟩
      · exact .inr ⟨w.heap.size, 0, 0, #[], el, rfl, rfl, heap_alloc_new w _, Nat.le_refl _, by simp, fun i y j c h => by simp at h⟩
      · subst hk; exact ⟨.inr (Nat.le_refl _), by simp⟩
/-- A copy: of a list that is not empty as the evaluator has it, of an empty one as above. -/
theorem spec_clone {f : Nat} {q qa qb : List Dt → Option (Bool × List Dt)} (ha : SpecOk P f (Spec.of [.ro] [false] true qa)) (hb : SpecOk P f (Spec.of [.ro] [false] true qb)) (h : ∀ ds outs, q ds = some (true, outs) → qa ds = some (true, outs) ∨ qb ds = some (true, outs)) :
    SpecOk P f (Spec.of [.ro] [false] true q) :=
  spec_part fun ds outs hq => (h ds outs hq).elim (fun h => ⟨qa, ha, h⟩) fun h => ⟨qb, hb, h⟩
end Go.Gm

/- slices.Delete: from what it does with cells to a contract. -/
namespace Go.Gm
open Go

variable {P : Program} {E : Env} {w w' : World}

theorem run_append_at (t ty e : TypeId) (i : TypeInfo) (ht : P.underlying t = some (.slice e)) (hi : P.info? e = some i) (b off n cap : Nat) (a : Addr) (m c : Nat) (news : List Value) (hl : news.length = m * i.size)
    (hnews : ∀ j u, news[j]? = some u → w.cell? (a.add j) = some u) (h1 : ∀ u ∈ news, u.oneCell' = true) (hroom : n + m ≤ cap) (cs : Array Value) (el : TypeId) (hb : w.heap[b]? = some (.cells cs el (0, 0))) (hfit : off + n * i.size + news.length ≤ cs.size) :
    (Builtin.append_ #[t, t] ty #[.slice (some ⟨b, off, none⟩) n cap, .slice (some a) m c]).run P w = .ok (.slice (some ⟨b, off, none⟩) (n + m) cap) (w.setRow b (putAt cs (off + n * i.size) news.toArray)) := by
  have hfc := run_firstCells_some (P := P) w i.size m a m c news hl hnews
  have hst := run_storeCells_at P b (off + n * i.size) el news 0 cs w hb (by simpa using hfit) h1
  simp only [Nat.add_zero] at hst
  rw [← row_putAt (by simpa using hfit)]
  simp [Builtin.append_, run_underlying ht, sizeOf, typeInfo, hi, Builtin.lenOf, hroom, hfc, addrAdd, hst]

theorem step_append_at {ops : Array Oper} {o : Oper} {a : Act} {K : Act → World → Prop} {Q : Exit → Act → World → Prop} {R : Prop}
    (hg : o.guard = none) (s x : Operand) (t : TypeId) (hop : o.op = Op.call { callee := Callee.builtin Builtin.append, args := #[s, x], argTypes := #[t, t] })
    (e : TypeId) (i : TypeInfo) (size : Nat) (h1 : P.underlying t = some (.slice e)) (h2 : P.info? e = some i) (h4 : i.size = size)
    (b off n cap : Nat) (hs : a.eval s = .slice (some ⟨b, off, none⟩) n cap)
    (ad : Addr) (m c : Nat) (news : List Value) (hx : a.eval x = .slice (some ad) m c) (hn : news.length = m * size) (hc : ∀ j u, news[j]? = some u → w.cell? (ad.add j) = some u) (h1c : ∀ u ∈ news, u.oneCell' = true)
    (hroom : n + m ≤ cap) (cs : Array Value) (el : TypeId) (hb : w.heap[b]? = some (.cells cs el (0, 0))) (hfit : off + n * size + news.length ≤ cs.size)
    (hK : K (a.put o.dst (.slice (some ⟨b, off, none⟩) (n + m) cap)) (w.setRow b (putAt cs (off + n * size) news.toArray))) :
    if Region.wanted o (yielded ops a.tmps) = true then Oper.wp P o a w K Q else R := by
  have hw : Region.wanted o (yielded ops a.tmps) = true := by simp [Region.wanted, hg]
  rw [if_pos hw]
  subst h4
  have hrun := run_append_at (P := P) (w := w) t o.type e i h1 h2 b off n cap ad m c news hn hc h1c hroom cs el hb hfit
  unfold Oper.wp
  simp [execOp, hop, resolve, invoke, builtin, hs, hx, hrun, Result.andThen]
  exact hK

/-- What is left behind a Delete of the elements from i on to j. -/
def DelEnd (w w' : World) (b o n i j sz : Nat) (cs : Array Value) (el : TypeId) : Prop :=
  Kept w w' (fun k => k = b) ∧ ∃ cs', w'.heap[b]? = some (.cells cs' el (0, 0)) ∧ cs'.size = cs.size ∧ ∀ k, k < (n - (j - i)) * sz → cs'[o + k]? = cs[o + if k < i * sz then k else k + (j - i) * sz]?
/-- slices.Delete, as the cells have it. -/
def DelE (P : Program) (f sz : Nat) : Prop :=
  (∀ (a : Option Addr) (n cap i : Nat) (w : World), i ≤ n → n ≤ cap → Calls P f #[.slice a n cap, .int .i64 i, .int .i64 i] w fun e w' => e = .returned (.slice a n cap) ∧ w' = w) ∧
  ∀ (b o n cap i j : Nat) (cs : Array Value) (el : TypeId) (w : World), i < j → j ≤ n → n ≤ cap → w.heap[b]? = some (.cells cs el (0, 0)) → o + cap * sz ≤ cs.size → (∀ k u, k < n * sz → cs[o + k]? = some u → u.oneCell' = true) →
    Calls P f #[.slice (some ⟨b, o, none⟩) n cap, .int .i64 i, .int .i64 j] w fun e w' => e = .returned (.slice (some ⟨b, o, none⟩) (n - (j - i)) cap) ∧ DelEnd w w' b o n i j sz cs el

theorem del_pack (hE : E.Ok P) {T : TypeId} {e : Ty} (hT : E.code T = some (.sl e)) {sz : Nat} (hsz : esz e = sz) {b o n cap i j : Nat} {cs : Array Value} {el : TypeId} (hij : i < j) (hj : j ≤ n) (hn : n ≤ cap)
    (hb : w.heap[b]? = some (.cells cs el (0, 0))) (hs : o + cap * sz ≤ cs.size) (h1 : ∀ k u, k < n * sz → cs[o + k]? = some u → u.oneCell' = true) :
    ∃ (eT : TypeId) (ii : TypeInfo) (news : List Value) (W1 W2 : World), P.underlying T = some (.slice eT) ∧ P.info? eT = some ii ∧ ii.size = sz ∧ news.length = (n - j) * sz ∧ (∀ u ∈ news, u.oneCell' = true) ∧
      (∀ A : Addr, A = ⟨b, o + j * sz, none⟩ ∨ n = j → ∀ t u, news[t]? = some u → w.drew.cell? (A.add t) = some u) ∧ o + i * sz + news.length ≤ cs.size ∧ W1 = w.drew.setRow b (putAt cs (o + i * sz) news.toArray) ∧
      (∀ ty, (Builtin.clear_ #[T] ty #[.slice (some ⟨b, o + (i + (n - j)) * sz, none⟩) (n - (i + (n - j))) (cap - (i + (n - j)))]).run P W1 = .ok (.tuple #[]) W2) ∧ DelEnd w W2 b o n i j sz cs el := by
  subst hsz
  obtain ⟨eT, hu, hel⟩ := hE.slice hT
  obtain ⟨ii, zv, hi, hsz, hby, hz, hzc⟩ := hE.info eT e hel
  have hpos := esz_pos e
  have hzs : zv.cells.size = esz e := by rw [hzc]; simp [zvals, enc_length]
  have hzf : ∀ v ∈ zv.cells.toList, v.oneCell' = true := by
    rw [hzc]
    intro v hv
    simp only [zvals] at hv
    obtain ⟨c, hc, rfl⟩ := List.mem_map.1 (by simpa using hv)
    obtain ⟨m, hm⟩ := List.getElem?_of_mem hc
    cases c with
    | v x => exact flat_one (flat_of_cell (P' := fun _ => True) (w := w) hm rfl)
    | l t ys => rfl
  have hm1 : j * esz e ≤ n * esz e := Nat.mul_le_mul_right _ hj
  have hm2 : n * esz e ≤ cap * esz e := Nat.mul_le_mul_right _ hn
  have hm3 : i * esz e ≤ j * esz e := Nat.mul_le_mul_right _ (Nat.le_of_lt hij)
  have hm4 : (n - j) * esz e = n * esz e - j * esz e := Nat.sub_mul _ _ _
  have hm5 : (j - i) * esz e = j * esz e - i * esz e := Nat.sub_mul _ _ _
  have hm6 : (i + (n - j)) * esz e = i * esz e + (n * esz e - j * esz e) := by rw [Nat.add_mul, hm4]
  have hm7 : (n - (i + (n - j))) * esz e = j * esz e - i * esz e := by rw [show n - (i + (n - j)) = j - i by omega, hm5]
  have hm8 : (n - (j - i)) * esz e = i * esz e + (n * esz e - j * esz e) := by rw [show n - (j - i) = i + (n - j) by omega, hm6]
  have hlen : ((cs.toList.drop (o + j * esz e)).take ((n - j) * esz e)).length = (n - j) * esz e := by simp; omega
  have hget : ∀ t, t < (n - j) * esz e → ((cs.toList.drop (o + j * esz e)).take ((n - j) * esz e))[t]? = cs[o + j * esz e + t]? := by
    intro t ht
    rw [List.getElem?_take, if_pos ht, List.getElem?_drop, Array.getElem?_toList]
  generalize (cs.toList.drop (o + j * esz e)).take ((n - j) * esz e) = news at hlen hget
  have hnl : ∀ t u, news[t]? = some u → t < (n - j) * esz e := fun t u hu => by
    have := (List.getElem?_eq_some_iff.1 hu).1
    omega
  have hfit : o + i * esz e + news.length ≤ cs.size := by omega
  have hb1 : (w.drew.setRow b (putAt cs (o + i * esz e) news.toArray)).heap[b]? = some (.cells (putAt cs (o + i * esz e) news.toArray) el (0, 0)) := setRow_heap w.drew b cs _ el (0, 0) hb
  have hsize1 : (putAt cs (o + i * esz e) news.toArray).size = cs.size := putAt_size (by simpa using hfit)
  have hcl := fun ty => run_clear_at (P := P) T eT ty zv hu (fun w => by simp [zeroValue, typeInfo, hi, hz]) hzf (by omega) b (o + (i + (n - j)) * esz e) (n - (i + (n - j))) (cap - (i + (n - j))) (by omega) _ el hb1 (by rw [hsize1, hzs, hm7]; omega)
  have hzl : (Builtin.zeroCells zv.cells (n - (i + (n - j)))).size = j * esz e - i * esz e := by rw [size_zeroCells, hzs, hm7]
  have hsize2 : (putAt (putAt cs (o + i * esz e) news.toArray) (o + (i + (n - j)) * esz e) (Builtin.zeroCells zv.cells (n - (i + (n - j))))).size = cs.size := by rw [putAt_size (by rw [hsize1, hzl]; omega), hsize1]
  refine ⟨eT, ii, news, _, _, hu, hi, hsz, hlen, fun u hu => ?_, fun A hA t u hu => ?_, hfit, rfl, hcl, ⟨rfl, rfl, rfl, ?_⟩, _, setRow_heap _ b _ _ el (0, 0) hb1, hsize2, fun k hk => ?_⟩
  · obtain ⟨t, ht⟩ := List.getElem?_of_mem hu
    have hlt := hnl t u ht
    rw [hget t hlt] at ht
    exact h1 (j * esz e + t) u (by omega) (by rw [← Nat.add_assoc]; exact ht)
  · have hlt := hnl t u hu
    rcases hA with rfl | h
    · rw [hget t hlt] at hu
      rw [addrAdd, cellIn (w := w.drew) hb]
      exact hu
    · subst h; simp at hlt
  · exact SameBut.trans (Y := fun k => k = b) (Z := fun k => k = b) (setRow_same w.drew b _) (setRow_same _ b _) (fun _ h => h) (fun _ _ h => h)
  · rw [hm8] at hk
    rw [putAt_get (by rw [hsize1, hzl]; omega), if_neg (by omega), putAt_get (by simpa using hfit)]
    have hna : news.toArray.size = news.length := by simp
    by_cases h : k < i * esz e
    · rw [if_neg (by omega), if_pos h]
    · rw [if_pos (by omega), if_neg h, List.getElem?_toArray, show o + k - (o + i * esz e) = k - i * esz e by omega, hget _ (by omega), hm5]
      congr 1
      omega

/-- Of an own list some elements, each once, in whatever order. -/
theorem TreeOwn.pick {F : Nat → Prop} {t : Ty} {xs ys : List (El t)} {av : Path → Value} (h : TreeOwn w F t xs av) (σ : Nat → Nat) (hσ : ∀ i y, ys[i]? = some y → xs[σ i]? = some y) (hinj : ∀ i i', σ i = σ i' → i = i')
    (hsame : SameBut (fun k => blk (av []) = some k) w w') {v : Value} (hblk : ∀ k, blk v = some k → blk (av []) = some k) (hn : NodeOwn w' F t ys v fun i j => av [(σ i, j)]) : OwnSl w' F t ys v := by
  have hsub : ∀ i j p s, subR t ys ((i, j) :: p) = some s → subR t xs ((σ i, j) :: p) = some s := by
    intro i j p s hs
    simp only [subR] at hs ⊢
    split at hs
    · rename_i y hy
      rw [hσ i y hy]; exact hs
    · cases hs
  refine ⟨fun p => match p with | [] => v | (i, j) :: p => av ((σ i, j) :: p), rfl, fun p s hs => ?_, fun p q s s' k hp hq hk hk' => ?_⟩
  · cases p with
    | nil => simp only [subR, Option.some.injEq] at hs; subst hs; exact hn
    | cons x p =>
      obtain ⟨i, j⟩ := x
      have hs' := hsub i j p s hs
      exact (h.1 _ s hs').here hsame fun k hk e => by have := h.2 _ [] s ⟨t, xs⟩ k hs' rfl hk e; cases this
  · cases p with
    | nil => cases q with
      | nil => rfl
      | cons y q =>
        obtain ⟨i, j⟩ := y
        have := h.2 [] _ ⟨t, xs⟩ s' k rfl (hsub i j q s' hq) (hblk k hk) hk'
        cases this
    | cons x p =>
      obtain ⟨i, j⟩ := x
      cases q with
      | nil =>
        have := h.2 _ [] s ⟨t, xs⟩ k (hsub i j p s hp) rfl hk (hblk k hk')
        cases this
      | cons y q =>
        obtain ⟨i', j'⟩ := y
        have := h.2 _ _ s s' k (hsub i j p s hp) (hsub i' j' q s' hq) hk hk'
        simp only [List.cons.injEq, Prod.mk.injEq] at this
        obtain ⟨⟨h1, rfl⟩, rfl⟩ := this
        rw [hinj _ _ h1]

theorem TreeOwn.oneCell {F : Nat → Prop} {t : Ty} {xs : List (El t)} {av : Path → Value} (h : TreeOwn w F t xs av) {cs : Array Value} {o : Nat} (hr : RowsIn t xs cs o fun i j => av [(i, j)]) : ∀ k u, k < xs.length * esz t → cs[o + k]? = some u → u.oneCell' = true := by
  intro k u hk hu
  have hpos := esz_pos t
  have hi : k / esz t < xs.length := Nat.div_lt_of_lt_mul (by rw [Nat.mul_comm]; exact hk)
  have hj : k % esz t < esz t := Nat.mod_lt _ hpos
  have hc := List.getElem?_eq_getElem (l := enc t xs[k / esz t]) (i := k % esz t) (by rw [enc_length]; exact hj)
  obtain ⟨z, hz, hcz⟩ := hr (k / esz t) xs[k / esz t] (k % esz t) _ (List.getElem?_eq_getElem hi) hc
  have : k / esz t * esz t + k % esz t = k := by rw [Nat.mul_comm]; exact Nat.div_add_mod k (esz t)
  rw [Nat.add_assoc, this, hu] at hz; cases hz
  generalize (enc t xs[k / esz t])[k % esz t]'(by rw [enc_length]; exact hj) = c at hc hcz
  cases c with
  | v x => exact flat_one (flat_of_cell (P' := fun _ => True) (w := w) hc hcz)
  | l t' ys =>
    have hs := h.1 [(k / esz t, k % esz t)] ⟨t', ys⟩ (subR_one (List.getElem?_eq_getElem hi) hc)
    simp only [CellIs] at hcz
    subst hcz
    rcases hs with ⟨_, e⟩ | ⟨b, o, cap, cs, el, e, _⟩ <;> rw [e] <;> rfl

theorem spec_del {f : Nat} {t : Ty} {sz : Nat} (hsz : esz t = sz) (h : DelE P f sz) {q : List Dt → Option (Bool × List Dt)}
    (hq : ∀ ds outs, q ds = some (true, outs) → ∃ (xs : List (El t)) (i j : Nat), ds = [.d (.sl t) xs, .d (.i .i64) (i : Int), .d (.i .i64) (j : Int)] ∧ i ≤ j ∧ j ≤ xs.length ∧ outs = [.d (.sl t) (xs.take i ++ xs.drop j)]) :
    SpecOk P f (Spec.of [.mov, .ro, .ro] [false] true q) := by
  subst hsz
  refine spec_own1 rfl fun ds outs hqs => ?_
  obtain ⟨xs, i, j, rfl, hij, hj, rfl⟩ := hq ds outs hqs
  refine ⟨_, _, rfl, fun w us Mf ROa Fs hA _ hFM _ _ hMlt => ?_⟩
  cases hA with
  | @cons _ _ _ _ u1 us F Fs h1 hA =>
    cases hA with
    | cons h2 hA =>
      cases hA with
      | cons h3 hA =>
        cases hA
        have e2 := valRd_v (t := .i .i64) (v := .int .i64 i) rfl rfl h2
        have e3 := valRd_v (t := .i .i64) (v := .int .i64 j) rfl rfl h3
        subst e2; subst e3
        obtain ⟨G, hG, hown⟩ := valOwn_sl' h1
        have hGM : ∀ k, G k → Mf k := fun k hk => hFM F (by simp) k (hG k hk)
        have same : i = j → ∀ (a : Option Addr) (cap : Nat), u1 = .slice a xs.length cap → xs.length ≤ cap → Calls P f #[u1, .int .i64 i, .int .i64 j] w fun e w' => ∃ v G, e = .returned v ∧ Kept w w' Mf ∧ ValOwn w' G (.sl t) (xs.take i ++ xs.drop j) v ∧ ∀ k, G k → (Mf k ∨ w.heap.size ≤ k) ∧ k < w'.heap.size := by
          rintro rfl a cap rfl hcap
          refine Calls.mono (h.1 a xs.length cap i w hj hcap) ?_
          rintro e w' ⟨rfl, rfl⟩
          rw [List.take_append_drop]
          exact ⟨_, G, rfl, ⟨rfl, rfl, rfl, Nat.le_refl _, fun _ _ _ => rfl⟩, valOwn_sl hown, fun k hk => ⟨.inl (hGM k hk), hMlt k (hGM k hk)⟩⟩
        obtain ⟨av, h0, hT⟩ := hown
        have hnode := hT.1 [] ⟨t, xs⟩ rfl
        rw [h0] at hnode
        rcases hnode with ⟨e, rfl⟩ | ⟨b, o, cap, cs, el, rfl, hF, hb, hcap, hsize, hrows⟩
        · have e : xs = [] := e
          subst e
          exact same (by simp at hj; omega) none 0 rfl (Nat.le_refl _)
        · have hcap : xs.length ≤ cap := hcap
          have hsize : o + cap * esz t ≤ cs.size := hsize
          have hrows : RowsIn t xs cs o fun i j => av [(i, j)] := hrows
          by_cases hne : i = j
          · exact same hne _ cap rfl hcap
          · have hlt : i < j := by omega
            refine Calls.mono (h.2 b o xs.length cap i j cs el w hlt hj hcap hb hsize (hT.oneCell hrows)) ?_
            rintro e w' ⟨rfl, hk, cs', hb', hcs, hget⟩
            have hlen : (xs.take i ++ xs.drop j).length = xs.length - (j - i) := by simp; omega
            refine ⟨_, G, rfl, ⟨hk.os, hk.tape, hk.output, hk.same.1, fun k hk1 hk2 => hk.same.2 k hk1 fun e => by subst e; exact hk2 (hGM _ hF)⟩, ?_, fun k hk' => ⟨.inl (hGM k hk'), Nat.lt_of_lt_of_le (hMlt k (hGM k hk')) hk.same.1⟩⟩
            have hσ : ∀ m y, (xs.take i ++ xs.drop j)[m]? = some y → xs[if m < i then m else m + (j - i)]? = some y := by
              intro m y hy
              by_cases hm : m < i
              · rw [List.getElem?_append_left (by simp; omega), List.getElem?_take, if_pos hm] at hy
                rw [if_pos hm]; exact hy
              · rw [List.getElem?_append_right (by simp; omega), List.getElem?_drop] at hy
                rw [if_neg hm, ← hy]
                congr 1
                simp; omega
            refine valOwn_sl (hT.pick (fun m => if m < i then m else m + (j - i)) hσ (fun m m' e => by split at e <;> split at e <;> omega) ⟨hk.same.1, fun k hk1 hk2 => hk.same.2 k hk1 fun e => by subst e; exact hk2 (by rw [h0]; rfl)⟩ (fun k hk => by rw [h0]; exact hk) (.inr ⟨b, o, cap, cs', el, ?_, hF, hb', ?_, by omega, ?_⟩))
            · rw [hlen]
            · rw [hlen]; omega
            · intro m y c z hy hc
              obtain ⟨u, hu, hcu⟩ := hrows _ y c z (hσ m y hy) hc
              refine ⟨u, ?_, hcu⟩
              have hml := el_lt hy
              have hcl := enc_lt hc
              have h1 : m * esz t + esz t ≤ (xs.length - (j - i)) * esz t := by
                have : (m + 1) * esz t ≤ (xs.length - (j - i)) * esz t := Nat.mul_le_mul_right _ (by omega)
                rw [Nat.add_mul] at this; omega
              rw [Nat.add_assoc, hget (m * esz t + c) (by omega), ← hu]
              congr 1
              by_cases hm : m < i
              · have : m * esz t + esz t ≤ i * esz t := by
                  have : (m + 1) * esz t ≤ i * esz t := Nat.mul_le_mul_right _ (by omega)
                  rw [Nat.add_mul] at this; omega
                rw [if_pos (by omega), if_pos hm]; omega
              · have : i * esz t ≤ m * esz t := Nat.mul_le_mul_right _ (by omega)
                rw [if_neg (by omega), if_neg hm, Nat.add_mul (m) (j - i)]; omega
end Go.Gm

/- Lists with some elements taken out. -/
namespace Go.Gm
open Go
def delL {α : Type} (xs : List α) (i j : Int) : List α := xs.take i.toNat ++ xs.drop j.toNat
def gDel {α : Type} (xs : List α) (i j : Int) : Bool := decide (0 ≤ i) && decide (i ≤ j) && decide (j ≤ (xs.length : Int))
end Go.Gm

/- Plain functions: amounts, orders and worlds as texts. -/
namespace Go.Gm
open Go

def isAmt (n : Int) : Bool := inR n 0 1000000000000
def amtText (n : Int) : ByteArray :=
  cond (!(isAmt n)) ByteArray.empty (cond (n != (0 : Int) && Int.tmod n 1000000 == (0 : Int)) (digS (Int.tdiv n 1000000) ++ bs [107]) (cond (Int.tmod n 1000 == (0 : Int)) (digS (Int.tdiv n 1000)) (digS n ++ bs [109])))
theorem tdiv_bd {n d : Int} (h : isAmt n = true) (hd : 0 ≤ d) : 0 ≤ Int.tdiv n d ∧ Int.tdiv n d ≤ 1000000000000 := by
  unfold isAmt at h
  rw [inR_iff] at h
  obtain ⟨m, rfl⟩ := Int.eq_ofNat_of_zero_le h.1
  obtain ⟨e, rfl⟩ := Int.eq_ofNat_of_zero_le hd
  have : Int.tdiv (m : Int) (e : Int) = ((m / e : Nat) : Int) := rfl
  rw [this]
  have h2 := Nat.div_le_self m e
  generalize m / e = q at *
  omega
theorem isAmt_okI {n : Int} (h : isAmt n = true) : okI n = true := by
  unfold isAmt at h
  rw [inR_iff] at h
  rw [okI_iff]; omega
theorem amtText_size (n : Int) : (amtText n).size ≤ 21 := by
  unfold amtText
  cases h : isAmt n with
  | false => exact Nat.zero_le _
  | true =>
    have h1 := tdiv_bd (d := 1000000) h (by omega)
    have h2 := tdiv_bd (d := 1000) h (by omega)
    have s1 := digS_size (n := Int.tdiv n 1000000) (okI_iff.2 (by omega))
    have s2 := digS_size (n := Int.tdiv n 1000) (okI_iff.2 (by omega))
    have s3 := digS_size (isAmt_okI h)
    simp only [Bool.not_true, cond_false]
    cases (n != (0 : Int) && Int.tmod n 1000000 == (0 : Int)) <;> cases Int.tmod n 1000 == (0 : Int) <;> simp only [cond_true, cond_false, ByteArray.size_append, bs_size, List.length_cons, List.length_nil] <;> omega
def kindW (c : Int) : ByteArray := cond (c == (1 : Int)) (bs [115,104,97,114,101]) (cond (c == (2 : Int)) (bs [109,101,97,110]) (cond (c == (3 : Int)) (bs [119,104,111,108,101]) (bs [110,111,110,101])))
theorem kindW_size (c : Int) : (kindW c).size ≤ 5 := by
  unfold kindW
  cases c == (1 : Int) <;> cases c == (2 : Int) <;> cases c == (3 : Int) <;> simp only [cond_true, cond_false, bs_size, List.length_cons, List.length_nil] <;> omega
def metText (out : ByteArray) (m : MetricT) : ByteArray := out ++ bs [32] ++ m.name ++ bs [58] ++ kindW m.kind ++ bs [61] ++ amtText m.goal
def orderText (o : OrderT) : ByteArray := o.metrics.foldl metText (o.name ++ bs [62] ++ o.target ++ bs [32] ++ digS o.low ++ bs [32] ++ digS o.high)
theorem fold_size {α : Type} {f : ByteArray → α → ByteArray} {C : Nat} : ∀ (xs : List α) (out : ByteArray), (∀ out x, x ∈ xs → (f out x).size ≤ out.size + C) → (xs.foldl f out).size ≤ out.size + xs.length * C
  | [], out, _ => by simp
  | x :: xs, out, h => by
    rw [List.foldl_cons]
    have h1 := fold_size xs (f out x) fun o y hy => h o y (by simp [hy])
    have h2 := h out x (by simp)
    rw [List.length_cons, Nat.add_mul]; omega
theorem metText_size {out : ByteArray} {m : MetricT} (h : sm_metric m = true) : (metText out m).size ≤ out.size + 1048606 := by
  simp only [sm_metric, Bool.and_eq_true] at h
  have h1 : m.name.size ≤ 1048576 := bleN h.1
  have h2 := kindW_size m.kind
  have h3 := amtText_size m.goal
  unfold metText
  simp only [ByteArray.size_append, bs_size, List.length_cons, List.length_nil]; omega
theorem orderText_size {o : OrderT} (h : sm_order o = true) : (orderText o).size ≤ 1099600000000 := by
  simp only [sm_order, Bool.and_eq_true] at h
  obtain ⟨hn, ht, hlo, hhi, hm, _⟩ := h
  have hn : o.name.size ≤ 1048576 := bleN hn
  have ht : o.target.size ≤ 1048576 := bleN ht
  have h1 := digS_size hlo
  have h2 := digS_size hhi
  have hl := smL_len hm
  have := fold_size (f := metText) (C := 1048606) o.metrics (o.name ++ bs [62] ++ o.target ++ bs [32] ++ digS o.low ++ bs [32] ++ digS o.high) fun out x hx => metText_size (List.all_eq_true.1 (smL_all hm) x hx)
  have h3 : o.metrics.length * 1048606 ≤ 1048576 * 1048606 := Nat.mul_le_mul_right _ hl
  have h4 : (o.name ++ bs [62] ++ o.target ++ bs [32] ++ digS o.low ++ bs [32] ++ digS o.high).size ≤ 2097200 := by simp only [ByteArray.size_append, bs_size, List.length_cons, List.length_nil]; omega
  unfold orderText
  omega
theorem scaleText_size {s : ScaleT} (h : sm_scale s = true) : (scaleText s).size ≤ 60000000 := by
  simp only [sm_scale, Bool.and_eq_true] at h
  obtain ⟨hn, hv, hr⟩ := h
  have hn : s.name.size ≤ 1048576 := bleN hn
  have h1 := digS_size hv
  have hl := smL_len hr
  have := fold_size (f := recText) (C := 42) s.recs (s.name ++ bs [32] ++ digS s.now) fun out x hx => by
    have hx := List.all_eq_true.1 (smL_all hr) x hx
    simp only [sm_rcd, Bool.and_eq_true] at hx
    have d1 := digS_size hx.1
    have d2 := digS_size hx.2
    unfold recText
    simp only [ByteArray.size_append, bs_size, List.length_cons, List.length_nil]; omega
  have h3 : s.recs.length * 42 ≤ 1048576 * 42 := Nat.mul_le_mul_right _ hl
  have h4 : (s.name ++ bs [32] ++ digS s.now).size ≤ 1048600 := by simp only [ByteArray.size_append, bs_size, List.length_cons, List.length_nil]; omega
  unfold scaleText
  omega
def itemText (out : ByteArray) (i : ItemT) : ByteArray := out ++ orderText i.order ++ bs [10]
def scText (out : ByteArray) (s : ScaleT) : ByteArray := out ++ scaleText s ++ bs [10]
def worldText (w : WorldT) : ByteArray :=
  w.scales.foldl scText (w.store.items.foldl itemText (bs [116,105,109,101,32] ++ digS w.time ++ bs [32,110,101,120,116,32] ++ digS w.store.next ++ bs [10]))
theorem time_next (a b : ByteArray) : bs [116,105,109,101] ++ bs [32] ++ a ++ bs [32] ++ bs [110,101,120,116] ++ bs [32] ++ b = bs [116,105,109,101,32] ++ a ++ bs [32,110,101,120,116,32] ++ b := by
  apply ba_ext; simp [bs]

end Go.Gm

/- Plain functions and laws of trees: nodes and rules. Printed by mkp11.py of this session. -/
namespace Go.Gm
open Go

theorem okL_wm {t : Ty} {xs : List (El t)} {f : El t → Bool} (h : WideC (.l t xs)) (hf : ∀ x ∈ xs, (∀ c ∈ enc t x, WideC c) → f x = true) : okL f xs = true := by
  cases h with
  | lst h hx =>
    unfold okL
    rw [Nat.ble_eq_true_of_le (show xs.length ≤ WIDE from h), Bool.true_and, List.all_eq_true]
    exact fun x hm => hf x hm (hx x hm)
theorem smL_ofm {α : Type} {f e : α → Bool} {g : α → Nat} {xs : List α} (hw : okL e xs = true) (h : szL g xs ≤ 1048576) (hf : ∀ x ∈ xs, e x = true → g x ≤ 1048576 → f x = true) : smL f xs = true := by
  simp only [okL, Bool.and_eq_true] at hw
  unfold smL
  have h1 := szL_ge g xs
  rw [Nat.ble_eq_true_of_le (by omega : xs.length ≤ 1048576), Bool.true_and, List.all_eq_true]
  intro x hx
  refine hf x hx (List.all_eq_true.1 hw.2 x hx) (Nat.le_trans (sum_le g hx) ?_)
  have : szL g xs = xs.length + (xs.map g).sum := rfl
  omega
theorem okL_smm {α : Type} {f g : α → Bool} {xs : List α} (h : smL f xs = true) (hf : ∀ x ∈ xs, f x = true → g x = true) : okL g xs = true := by
  simp only [smL, Bool.and_eq_true] at h
  unfold okL
  rw [Nat.ble_eq_true_of_le (Nat.le_trans (bleN h.1) (by decide : 1048576 ≤ WIDE)), Bool.true_and, List.all_eq_true]
  exact fun x hx => hf x hx (List.all_eq_true.1 h.2 x hx)
theorem okB_w {xs : List Bool} (h : WideC (.l .bool xs)) : okL (fun _ => true) xs = true := okL_wm (t := .bool) h fun _ _ _ => rfl
def gzL_bool (x : List Bool) (n : Int) : Bool := okL (fun _ => true) x && okN n
def zL_bool (x : List Bool) (n : Int) : Int := szI (szL (fun _ => 0) x) n
def ndL {α : Type} (f : α → Nat) (xs : List α) : Nat := (xs.map f).sum
theorem ndL_mem {α : Type} {f : α → Nat} {xs : List α} {x : α} (h : x ∈ xs) : f x ≤ ndL f xs := sum_le f h

mutual
def ok_node : NodeT → Bool
  | ⟨kind, n, s, keys, kids⟩ => (okI kind && (okI n && (okStr s && (okL okStr keys && (Nat.ble kids.length WIDE && okA_node kids)))))
def okA_node : List NodeT → Bool
  | [] => true
  | x :: xs => ok_node x && okA_node xs
end
theorem okA_node_eq : ∀ xs : List NodeT, okA_node xs = xs.all ok_node
  | [] => by simp [okA_node]
  | x :: xs => by rw [okA_node, okA_node_eq xs, List.all_cons]
theorem ok_node_def (x : NodeT) : ok_node x = (okI x.kind && (okI x.n && (okStr x.s && (okL okStr x.keys && okL ok_node x.kids)))) := by
  cases x; rw [ok_node, okA_node_eq]; rfl
mutual
def sm_node : NodeT → Bool
  | ⟨kind, n, s, keys, kids⟩ => (okI kind && (okI n && (smStr s && (smL smStr keys && (Nat.ble kids.length 1048576 && smA_node kids)))))
def smA_node : List NodeT → Bool
  | [] => true
  | x :: xs => sm_node x && smA_node xs
end
theorem smA_node_eq : ∀ xs : List NodeT, smA_node xs = xs.all sm_node
  | [] => by simp [smA_node]
  | x :: xs => by rw [smA_node, smA_node_eq xs, List.all_cons]
theorem sm_node_def (x : NodeT) : sm_node x = (okI x.kind && (okI x.n && (smStr x.s && (smL smStr x.keys && smL sm_node x.kids)))) := by
  cases x; rw [sm_node, smA_node_eq]; rfl
mutual
def szN_node : NodeT → Nat
  | ⟨_, _, s, keys, kids⟩ => s.size + szL ByteArray.size keys + (kids.length + szA_node kids)
def szA_node : List NodeT → Nat
  | [] => 0
  | x :: xs => szN_node x + szA_node xs
end
theorem szA_node_eq : ∀ xs : List NodeT, szA_node xs = (xs.map szN_node).sum
  | [] => by simp [szA_node]
  | x :: xs => by rw [szA_node, szA_node_eq xs, List.map_cons, List.sum_cons]
theorem szN_node_def (x : NodeT) : szN_node x = x.s.size + szL ByteArray.size x.keys + szL szN_node x.kids := by
  cases x; rw [szN_node, szA_node_eq]; rfl
mutual
def nd_node : NodeT → Nat
  | ⟨_, _, _, _, kids⟩ => 1 + ndA_node kids
def ndA_node : List NodeT → Nat
  | [] => 0
  | x :: xs => nd_node x + ndA_node xs
end
theorem ndA_node_eq : ∀ xs : List NodeT, ndA_node xs = ndL nd_node xs
  | [] => by simp [ndA_node, ndL]
  | x :: xs => by rw [ndA_node, ndA_node_eq xs]; simp [ndL]
theorem nd_node_def (x : NodeT) : nd_node x = 1 + ndL nd_node x.kids := by
  cases x; rw [nd_node, ndA_node_eq]
theorem nd_node_kid {x y : NodeT} (h : y ∈ x.kids) : nd_node y < nd_node x := by
  have := ndL_mem (f := nd_node) h
  rw [nd_node_def x]; omega
def gz_node (x : NodeT) (n : Int) : Bool := ok_node x && okN n
def z_node (x : NodeT) (n : Int) : Int := szI (szN_node x) n
def gzL_node (x : List NodeT) (n : Int) : Bool := okL ok_node x && okN n
def zL_node (x : List NodeT) (n : Int) : Int := szI (szL szN_node x) n
theorem ok_node_w1 (x : NodeT) (h : ∀ c ∈ enc .node x, WideC c) : ok_node x = true := by
  rw [ok_node_def]
  simp only [Bool.and_eq_true]
  exact ⟨okI_w (h (.v (.int .i64 x.kind)) (by simp [enc, encNodeT])), okI_w (h (.v (.int .i64 x.n)) (by simp [enc, encNodeT])), okStr_w (h (.v (.string x.s)) (by simp [enc, encNodeT])), okStrs_w (h (.l .str x.keys) (by simp [enc, encNodeT])), okL_wm (h (.l .node x.kids) (by simp [enc, encNodeT])) fun y _hy h2 => ok_node_w1 y h2⟩
termination_by nd_node x
decreasing_by exact nd_node_kid _hy
theorem sm_node_of1 (x : NodeT) (hw : ok_node x = true) (h : szN_node x ≤ 1048576) : sm_node x = true := by
  rw [ok_node_def] at hw
  simp only [Bool.and_eq_true] at hw
  obtain ⟨hw_kind, hw_n, hw_s, hw_keys, hw_kids⟩ := hw
  rw [szN_node_def] at h
  rw [sm_node_def]
  simp only [Bool.and_eq_true]
  exact ⟨hw_kind, hw_n, smStr_of (by omega), smL_ofm hw_keys (show szL ByteArray.size x.keys ≤ 1048576 by omega) fun y _ _ h2 => smStr_of h2, smL_ofm hw_kids (by omega) fun y _hy h1 h2 => sm_node_of1 y h1 h2⟩
termination_by nd_node x
decreasing_by exact nd_node_kid _hy
theorem ok_node_sm1 (x : NodeT) (hw : sm_node x = true) : ok_node x = true := by
  rw [sm_node_def] at hw
  simp only [Bool.and_eq_true] at hw
  obtain ⟨hw_kind, hw_n, hw_s, hw_keys, hw_kids⟩ := hw
  rw [ok_node_def]
  simp only [Bool.and_eq_true]
  exact ⟨hw_kind, hw_n, okStr_sm hw_s, okL_smm hw_keys fun y _ h2 => okStr_sm h2, okL_smm hw_kids fun y _hy h1 => ok_node_sm1 y h1⟩
termination_by nd_node x
decreasing_by exact nd_node_kid _hy
theorem ok_node_w {x : NodeT} (h : ∀ c ∈ enc .node x, WideC c) : ok_node x = true := ok_node_w1 x h
theorem sm_node_of {x : NodeT} (hw : ok_node x = true) (h : szN_node x ≤ 1048576) : sm_node x = true := sm_node_of1 x hw h
theorem ok_node_sm {x : NodeT} (hw : sm_node x = true) : ok_node x = true := ok_node_sm1 x hw
theorem eqD_node (a b : NodeT) : eqD a b = ((a.kind == b.kind) && ((a.n == b.n) && (sEq a.s b.s && (eqD a.keys b.keys && eqD a.kids b.kids)))) := by
  cases a; cases b
  rw [Bool.eq_iff_iff]; simp [eqD_iff, sEq_iff]
theorem eta_node (x : NodeT) : (⟨x.kind, x.n, x.s, x.keys, x.kids⟩ : NodeT) = x := by cases x; rfl
def mz_node (x : NodeT) (_ : Int) : Nat := 2 * nd_node x
def mzL_node (x : List NodeT) (_ : Int) : Nat := 2 * ndL nd_node x + 1
def mt_node (x : NodeT) : Nat := 2 * nd_node x
def mtL_node (x : List NodeT) : Nat := 2 * ndL nd_node x + 1
def me_node (x : NodeT) (_ : NodeT) : Nat := 2 * nd_node x
def meL_node (x : List NodeT) (_ : List NodeT) : Nat := 2 * ndL nd_node x + 1
mutual
def ok_rule : RuleT → Bool
  | ⟨kind, keys, kids, need, low, high⟩ => (okI kind && (okL okStr keys && ((Nat.ble kids.length WIDE && okA_rule kids) && (okL (fun _ => true) need && (okI low && okI high)))))
def okA_rule : List RuleT → Bool
  | [] => true
  | x :: xs => ok_rule x && okA_rule xs
end
theorem okA_rule_eq : ∀ xs : List RuleT, okA_rule xs = xs.all ok_rule
  | [] => by simp [okA_rule]
  | x :: xs => by rw [okA_rule, okA_rule_eq xs, List.all_cons]
theorem ok_rule_def (x : RuleT) : ok_rule x = (okI x.kind && (okL okStr x.keys && (okL ok_rule x.kids && (okL (fun _ => true) x.need && (okI x.low && okI x.high))))) := by
  cases x; rw [ok_rule, okA_rule_eq]; rfl
mutual
def sm_rule : RuleT → Bool
  | ⟨kind, keys, kids, need, low, high⟩ => (okI kind && (smL smStr keys && ((Nat.ble kids.length 1048576 && smA_rule kids) && (smL (fun _ => true) need && (okI low && okI high)))))
def smA_rule : List RuleT → Bool
  | [] => true
  | x :: xs => sm_rule x && smA_rule xs
end
theorem smA_rule_eq : ∀ xs : List RuleT, smA_rule xs = xs.all sm_rule
  | [] => by simp [smA_rule]
  | x :: xs => by rw [smA_rule, smA_rule_eq xs, List.all_cons]
theorem sm_rule_def (x : RuleT) : sm_rule x = (okI x.kind && (smL smStr x.keys && (smL sm_rule x.kids && (smL (fun _ => true) x.need && (okI x.low && okI x.high))))) := by
  cases x; rw [sm_rule, smA_rule_eq]; rfl
mutual
def szN_rule : RuleT → Nat
  | ⟨_, keys, kids, need, _, _⟩ => szL ByteArray.size keys + (kids.length + szA_rule kids) + szL (fun _ => 0) need
def szA_rule : List RuleT → Nat
  | [] => 0
  | x :: xs => szN_rule x + szA_rule xs
end
theorem szA_rule_eq : ∀ xs : List RuleT, szA_rule xs = (xs.map szN_rule).sum
  | [] => by simp [szA_rule]
  | x :: xs => by rw [szA_rule, szA_rule_eq xs, List.map_cons, List.sum_cons]
theorem szN_rule_def (x : RuleT) : szN_rule x = szL ByteArray.size x.keys + szL szN_rule x.kids + szL (fun _ => 0) x.need := by
  cases x; rw [szN_rule, szA_rule_eq]; rfl
mutual
def nd_rule : RuleT → Nat
  | ⟨_, _, kids, _, _, _⟩ => 1 + ndA_rule kids
def ndA_rule : List RuleT → Nat
  | [] => 0
  | x :: xs => nd_rule x + ndA_rule xs
end
theorem ndA_rule_eq : ∀ xs : List RuleT, ndA_rule xs = ndL nd_rule xs
  | [] => by simp [ndA_rule, ndL]
  | x :: xs => by rw [ndA_rule, ndA_rule_eq xs]; simp [ndL]
theorem nd_rule_def (x : RuleT) : nd_rule x = 1 + ndL nd_rule x.kids := by
  cases x; rw [nd_rule, ndA_rule_eq]
theorem nd_rule_kid {x y : RuleT} (h : y ∈ x.kids) : nd_rule y < nd_rule x := by
  have := ndL_mem (f := nd_rule) h
  rw [nd_rule_def x]; omega
def gz_rule (x : RuleT) (n : Int) : Bool := ok_rule x && okN n
def z_rule (x : RuleT) (n : Int) : Int := szI (szN_rule x) n
def gzL_rule (x : List RuleT) (n : Int) : Bool := okL ok_rule x && okN n
def zL_rule (x : List RuleT) (n : Int) : Int := szI (szL szN_rule x) n
theorem ok_rule_w1 (x : RuleT) (h : ∀ c ∈ enc .rule x, WideC c) : ok_rule x = true := by
  rw [ok_rule_def]
  simp only [Bool.and_eq_true]
  exact ⟨okI_w (h (.v (.int .i64 x.kind)) (by simp [enc, encRuleT])), okStrs_w (h (.l .str x.keys) (by simp [enc, encRuleT])), okL_wm (h (.l .rule x.kids) (by simp [enc, encRuleT])) fun y _hy h2 => ok_rule_w1 y h2, okB_w (h (.l .bool x.need) (by simp [enc, encRuleT])), okI_w (h (.v (.int .i64 x.low)) (by simp [enc, encRuleT])), okI_w (h (.v (.int .i64 x.high)) (by simp [enc, encRuleT]))⟩
termination_by nd_rule x
decreasing_by exact nd_rule_kid _hy
theorem sm_rule_of1 (x : RuleT) (hw : ok_rule x = true) (h : szN_rule x ≤ 1048576) : sm_rule x = true := by
  rw [ok_rule_def] at hw
  simp only [Bool.and_eq_true] at hw
  obtain ⟨hw_kind, hw_keys, hw_kids, hw_need, hw_low, hw_high⟩ := hw
  rw [szN_rule_def] at h
  rw [sm_rule_def]
  simp only [Bool.and_eq_true]
  exact ⟨hw_kind, smL_ofm hw_keys (show szL ByteArray.size x.keys ≤ 1048576 by omega) fun y _ _ h2 => smStr_of h2, smL_ofm hw_kids (by omega) fun y _hy h1 h2 => sm_rule_of1 y h1 h2, smL_ofm hw_need (show szL (fun _ => 0) x.need ≤ 1048576 by omega) fun _ _ _ _ => rfl, hw_low, hw_high⟩
termination_by nd_rule x
decreasing_by exact nd_rule_kid _hy
theorem ok_rule_sm1 (x : RuleT) (hw : sm_rule x = true) : ok_rule x = true := by
  rw [sm_rule_def] at hw
  simp only [Bool.and_eq_true] at hw
  obtain ⟨hw_kind, hw_keys, hw_kids, hw_need, hw_low, hw_high⟩ := hw
  rw [ok_rule_def]
  simp only [Bool.and_eq_true]
  exact ⟨hw_kind, okL_smm hw_keys fun y _ h2 => okStr_sm h2, okL_smm hw_kids fun y _hy h1 => ok_rule_sm1 y h1, okL_smm hw_need fun _ _ _ => rfl, hw_low, hw_high⟩
termination_by nd_rule x
decreasing_by exact nd_rule_kid _hy
theorem ok_rule_w {x : RuleT} (h : ∀ c ∈ enc .rule x, WideC c) : ok_rule x = true := ok_rule_w1 x h
theorem sm_rule_of {x : RuleT} (hw : ok_rule x = true) (h : szN_rule x ≤ 1048576) : sm_rule x = true := sm_rule_of1 x hw h
theorem ok_rule_sm {x : RuleT} (hw : sm_rule x = true) : ok_rule x = true := ok_rule_sm1 x hw
theorem eqD_rule (a b : RuleT) : eqD a b = ((a.kind == b.kind) && (eqD a.keys b.keys && (eqD a.kids b.kids && (eqD a.need b.need && ((a.low == b.low) && (a.high == b.high)))))) := by
  cases a; cases b
  rw [Bool.eq_iff_iff]; simp [eqD_iff, sEq_iff]
theorem eta_rule (x : RuleT) : (⟨x.kind, x.keys, x.kids, x.need, x.low, x.high⟩ : RuleT) = x := by cases x; rfl
def mz_rule (x : RuleT) (_ : Int) : Nat := 2 * nd_rule x
def mzL_rule (x : List RuleT) (_ : Int) : Nat := 2 * ndL nd_rule x + 1
def mt_rule (x : RuleT) : Nat := 2 * nd_rule x
def mtL_rule (x : List RuleT) : Nat := 2 * ndL nd_rule x + 1
def me_rule (x : RuleT) (_ : RuleT) : Nat := 2 * nd_rule x
def meL_rule (x : List RuleT) (_ : List RuleT) : Nat := 2 * ndL nd_rule x + 1

end Go.Gm

/- Plain functions: texts, keys, rules. -/
namespace Go.Gm
open Go

def textOk (s : ByteArray) : Bool := allN (fun j => inR (byteAt s j) 32 126) 0 s.size && decide ((s.size : Int) ≤ 400)
def keyC (xs : List ByteArray) (j : Nat) : Bool := textOk (atI (t := .str) xs j) && (!(decide ((j : Int) > (0 : Int))) || sLt (atI (t := .str) xs (j - 1)) (atI (t := .str) xs j))
def keysOk (xs : List ByteArray) : Bool := allN (keyC xs) 0 xs.length
def bitI (b : Bool) : Int := cond b 1 0
/-- A rule by itself, without its kids. -/
def ruleShape (r : RuleT) : Bool :=
  ((r.kind == (2 : Int)) || ((r.kind == (3 : Int)) || ((r.kind == (4 : Int)) || ((r.low == (0 : Int)) && (r.high == (0 : Int)))))) &&
    cond (r.kind == (5 : Int)) (((r.keys.length : Int) == (r.kids.length : Int)) && (((r.need.length : Int) == (r.kids.length : Int)) && keysOk r.keys))
      (((r.keys.length : Int) == (0 : Int)) && (((r.need.length : Int) == (0 : Int)) && ((r.kids.length : Int) == bitI (r.kind == (4 : Int)))))
def ruleHead (r : RuleT) (d : Int) : Bool := inR r.kind (-1) 5 && (!(decide (r.low > r.high)) && !(decide (d ≤ 0)))
mutual
def ruleRight : RuleT → Int → Bool
  | ⟨kind, keys, kids, need, low, high⟩, d => ruleHead ⟨kind, keys, kids, need, low, high⟩ d && (rulesRight kids (d - 1) && ruleShape ⟨kind, keys, kids, need, low, high⟩)
def rulesRight : List RuleT → Int → Bool
  | [], _ => true
  | x :: xs, d => ruleRight x d && rulesRight xs d
end
theorem rulesRight_eq (d : Int) : ∀ xs : List RuleT, rulesRight xs d = xs.all fun x => ruleRight x d
  | [] => by simp [rulesRight]
  | x :: xs => by rw [rulesRight, rulesRight_eq d xs, List.all_cons]
theorem ruleRight_def (r : RuleT) (d : Int) : ruleRight r d = (ruleHead r d && ((r.kids.all fun x => ruleRight x (d - 1)) && ruleShape r)) := by
  cases r; rw [ruleRight, rulesRight_eq]
def gRule (r : RuleT) (d : Int) : Bool := sm_rule r && (decide (0 ≤ d) && decide (d ≤ 100))
def gRule1 (r : RuleT) (d : Int) : Bool := sm_rule r && (decide (1 ≤ d) && decide (d ≤ 100))
def gRules (r : List RuleT) (d : Int) : Bool := smL sm_rule r && (decide (1 ≤ d) && decide (d ≤ 100))
def ruleNot (r : RuleT) (d : Int) : Bool := !(ruleRight r (d - 1))
def ruleNotAt (rs : List RuleT) (d : Int) : Int := findI (t := .rule) (fun r => ruleNot r d) rs
def ruleNotAny (rs : List RuleT) (d : Int) : Bool := rs.any fun r => ruleNot r d
def mr0 (r : RuleT) (_ : Int) : Nat := 4 * nd_rule r
def mr1 (r : RuleT) (_ : Int) : Nat := 4 * nd_rule r + 1
def mr2 (r : List RuleT) (_ : Int) : Nat := 4 * ndL nd_rule r + 2
def mr3 (r : List RuleT) (_ : Int) : Nat := 4 * ndL nd_rule r + 3
def ruleOk (r : RuleT) : Bool := ruleRight r 8
theorem ruleNotAny_eq (rs : List RuleT) (d : Int) : (!(ruleNotAny rs d)) = rs.all fun x => ruleRight x (d - 1) := by
  unfold ruleNotAny
  rw [← any_not]; rfl
theorem beq_comm' (a b : Int) : (a == b) = (b == a) := by rw [Bool.eq_iff_iff]; simp; exact eq_comm
theorem keysOk_nil {xs : List ByteArray} (h : (xs.length : Int) = 0) : keysOk xs = true := by
  have : xs = [] := List.length_eq_zero_iff.1 (by omega)
  subst this; rfl

end Go.Gm

/- Plain functions: what is to be looked at, taken and added. -/
namespace Go.Gm
open Go

theorem limLe {α : Type} {xs : List α} (h : xs.length ≤ 1048576) : Nat.ble xs.length LIM = true := Nat.ble_eq_true_of_le (by have : (LIM : Nat) = 4294967296 := rfl; omega)
theorem limLe1 {α : Type} {xs : List α} (h : xs.length ≤ 1048576) : Nat.ble (xs.length + 1) LIM = true := Nat.ble_eq_true_of_le (by have : (LIM : Nat) = 4294967296 := rfl; omega)
theorem smL_tail {α : Type} {f : α → Bool} {x : α} {r : List α} (h : smL f (x :: r) = true) : smL f r = true := by
  simp only [smL, Bool.and_eq_true, List.all_cons] at h ⊢
  have := bleN h.1
  rw [List.length_cons] at this
  exact ⟨Nat.ble_eq_true_of_le (by omega), h.2.2⟩
theorem smL_head {α : Type} {f : α → Bool} {x : α} {r : List α} (h : smL f (x :: r) = true) : f x = true := by
  simp only [smL, Bool.and_eq_true, List.all_cons] at h; exact h.2.1
theorem smL_snoc {α : Type} {f : α → Bool} {x : α} {r : List α} (h : smL f r = true) (hx : f x = true) (hl : r.length < 1048576) : smL f (r ++ [x]) = true := by
  simp only [smL, Bool.and_eq_true, List.all_append, List.all_cons, List.all_nil, List.length_append, List.length_cons, List.length_nil] at h ⊢
  exact ⟨Nat.ble_eq_true_of_le (by omega), h.2, hx, trivial⟩
theorem smL_sub {α : Type} {f : α → Bool} {xs ys : List α} (h : smL f ys = true) (hs : ∀ x ∈ xs, x ∈ ys) (hl : xs.length ≤ ys.length) : smL f xs = true := by
  simp only [smL, Bool.and_eq_true] at h ⊢
  exact ⟨Nat.ble_eq_true_of_le (Nat.le_trans hl (bleN h.1)), List.all_eq_true.2 fun x hx => List.all_eq_true.1 h.2 x (hs x hx)⟩
theorem namesOk_len {xs : List ByteArray} (h : namesOk xs = true) : xs.length ≤ 6 := by
  simp only [namesOk, Bool.and_eq_true, decide_eq_true_eq] at h; omega
theorem qOk_names {w : WorkT} (h : workQOk w = true) : namesOk w.list = true ∧ namesOk w.busy = true ∧ namesOk w.again = true := by
  simp only [workQOk, Bool.and_eq_true] at h; exact ⟨h.1, h.2.1, h.2.2.1⟩
theorem qOk_len {w : WorkT} (h : workQOk w = true) : w.list.length < 1048576 ∧ w.busy.length < 1048576 ∧ w.again.length < 1048576 := by
  obtain ⟨h1, h2, h3⟩ := qOk_names h
  have := namesOk_len h1; have := namesOk_len h2; have := namesOk_len h3
  omega
theorem qOk_fails {w : WorkT} (h : workQOk w = true) : w.fails.length ≤ 12 := by
  simp only [workQOk, Bool.and_eq_true, Bool.not_eq_true', decide_eq_false_iff_not] at h
  omega
def takeN (w : WorkT) (x : ByteArray) (r : List ByteArray) : WorkT := ⟨r, w.busy ++ [x], w.again, w.fails⟩
def workTake (w : WorkT) : WorkT × ByteArray × Bool :=
  cond (workQOk w) (match w.list with
    | [] => (w, ByteArray.empty, false)
    | x :: r => cond (workQOk (takeN w x r)) (takeN w x r, x, true) (w, ByteArray.empty, false)) (w, ByteArray.empty, false)
def addAgain (w : WorkT) (s : ByteArray) : WorkT := ⟨w.list, w.busy, w.again ++ [s], w.fails⟩
def addList (w : WorkT) (s : ByteArray) : WorkT := ⟨w.list ++ [s], w.busy, w.again, w.fails⟩
def workAdd (w : WorkT) (s : ByteArray) : WorkT × Bool :=
  cond (workQOk w) (cond (isIn w.list s || isIn w.again s) (w, true)
    (cond (isIn w.busy s) (cond (workQOk (addAgain w s)) (addAgain w s, true) (w, false)) (cond (workQOk (addList w s)) (addList w s, true) (w, false)))) (w, false)
def gAddW (w : WorkT) (s : ByteArray) : Bool := sm_work w && smStr s
theorem workTake_sm {w : WorkT} (h : sm_work w = true) : sm_work (workTake w).1 = true := by
  unfold workTake
  cases hq : workQOk w with
  | false => exact h
  | true =>
    rw [cond_true]
    cases hl : w.list with
    | nil => exact h
    | cons x r =>
      simp only
      cases workQOk (takeN w x r)
      · exact h
      · simp only [sm_work, Bool.and_eq_true] at h
        rw [hl] at h
        simp only [cond_true, takeN, sm_work, Bool.and_eq_true]
        exact ⟨smL_tail h.1, smL_snoc h.2.1 (smL_head h.1) (qOk_len hq).2.1, h.2.2.1, h.2.2.2⟩
theorem workAdd_sm {w : WorkT} {s : ByteArray} (h : sm_work w = true) (hs : smStr s = true) : sm_work (workAdd w s).1 = true := by
  unfold workAdd
  cases hq : workQOk w with
  | false => exact h
  | true =>
    have h0 := h
    simp only [sm_work, Bool.and_eq_true] at h
    have s1 : sm_work (addAgain w s) = true := by
      simp only [addAgain, sm_work, Bool.and_eq_true]
      exact ⟨h.1, h.2.1, smL_snoc h.2.2.1 hs (qOk_len hq).2.2, h.2.2.2⟩
    have s2 : sm_work (addList w s) = true := by
      simp only [addList, sm_work, Bool.and_eq_true]
      exact ⟨smL_snoc h.1 hs (qOk_len hq).1, h.2.1, h.2.2.1, h.2.2.2⟩
    cases (isIn w.list s || isIn w.again s) <;> cases isIn w.busy s <;> cases workQOk (addAgain w s) <;> cases workQOk (addList w s) <;> assumption

end Go.Gm

/- Plain laws: marks of structs, list by list; how many there are. Printed by mkp14.py of this session. -/
namespace Go.Gm
open Go

theorem ct_of {α : Type} {f : Int → α → α × Int} {c : α → Nat} (hc : ∀ k x, (f k x).2 = k + (c x : Nat)) (hi : ∀ k x, f k (f k x).1 = f k x) (k : Int) (x : α) : c (f k x).1 = c x := by
  have h1 := hc k (f k x).1
  rw [hi, hc] at h1; omega
theorem ctL_bd {α : Type} {c : α → Nat} {f : α → Bool} {B : Nat} (h : ∀ x, f x = true → c x ≤ B) : ∀ xs : List α, xs.all f = true → ctL c xs ≤ xs.length * B
  | [], _ => by simp [ctL]
  | x :: xs, ha => by
    simp only [List.all_cons, Bool.and_eq_true] at ha
    have h1 := ctL_bd h xs ha.2
    have h2 := h x ha.1
    rw [ctL_cons, List.length_cons, Nat.add_mul]; omega
theorem ctL_sm {α : Type} {c : α → Nat} {f : α → Bool} {B : Nat} (h : ∀ x, f x = true → c x ≤ B) {xs : List α} (hs : smL f xs = true) : ctL c xs ≤ 1048576 * B :=
  Nat.le_trans (ctL_bd h xs (smL_all hs)) (Nat.mul_le_mul_right _ (smL_len hs))

theorem ct_str_sm (x : ByteArray) (_h : smStr x = true) : ct_str x ≤ 1 := Nat.le_refl _
theorem ct_int_sm (x : Int) (_h : okI x = true) : ct_int x ≤ 1 := Nat.le_refl _
theorem ct_bool_sm (x : Bool) (_h : true = true) : ct_bool x ≤ 1 := Nat.le_refl _
theorem ct_metric_sm (x : MetricT) (_h : sm_metric x = true) : ct_metric x ≤ 3 := by
  simp only [ct_metric]; omega
theorem ct_note_sm (x : NoteT) (_h : sm_note x = true) : ct_note x ≤ 2 := by
  simp only [ct_note]; omega
theorem ct_order_sm (x : OrderT) (h : sm_order x = true) : ct_order x ≤ 5242888 := by
  simp only [sm_order, sm_pace, Bool.and_eq_true] at h
  obtain ⟨h1, h2, h3, h4, h5, ⟨h6, h7, h8, h9⟩, h10⟩ := h
  have q5 := ctL_sm ct_metric_sm h5
  have q10 := ctL_sm ct_note_sm h10
  simp only [ct_order]; omega
theorem cts_order_sm {x : OrderT} (h : sm_order x = true) : cts_order x ≤ 5242888 := by
  simp only [sm_order, sm_pace, Bool.and_eq_true] at h
  obtain ⟨h1, h2, h3, h4, h5, ⟨h6, h7, h8, h9⟩, h10⟩ := h
  have q5 := ctL_sm ct_metric_sm h5
  have q10 := ctL_sm ct_note_sm h10
  simp only [cts_order]; omega
theorem hds_order_mk (k : Int) (x0 : ByteArray) (x1 : ByteArray) (x2 : Int) (x3 : Int) (x4 : List MetricT) (x5 : Int) (x6 : Int) (x7 : Int) (x8 : Int) (x9 : List NoteT) : hds_order k (⟨x0, x1, x2, x3, (mkL mk_metric k x4).1, (⟨x5, x6, x7, x8⟩ : PaceT), (mkL mk_note ((mkL mk_metric k x4).2) x9).1⟩ : OrderT) = (mkL mk_note ((mkL mk_metric k x4).2) x9).2 := hds_order_marked k (⟨x0, x1, x2, x3, x4, (⟨x5, x6, x7, x8⟩ : PaceT), x9⟩ : OrderT)
theorem cts_order_mk (k : Int) (x0 : ByteArray) (x1 : ByteArray) (x2 : Int) (x3 : Int) (x4 : List MetricT) (x5 : Int) (x6 : Int) (x7 : Int) (x8 : Int) (x9 : List NoteT) : cts_order (⟨x0, x1, x2, x3, (mkL mk_metric k x4).1, (⟨x5, x6, x7, x8⟩ : PaceT), (mkL mk_note ((mkL mk_metric k x4).2) x9).1⟩ : OrderT) = cts_order (⟨x0, x1, x2, x3, x4, (⟨x5, x6, x7, x8⟩ : PaceT), x9⟩ : OrderT) := ct_of mks_order_ct mks_order_idem k (⟨x0, x1, x2, x3, x4, (⟨x5, x6, x7, x8⟩ : PaceT), x9⟩ : OrderT)
theorem gmk_order_mk (k : Int) (x0 : ByteArray) (x1 : ByteArray) (x2 : Int) (x3 : Int) (x4 : List MetricT) (x5 : Int) (x6 : Int) (x7 : Int) (x8 : Int) (x9 : List NoteT) (h : gmk k (ctL ct_metric x4 + ctL ct_note x9) = true) : gmk k (cts_order (⟨x0, x1, x2, x3, (mkL mk_metric k x4).1, (⟨x5, x6, x7, x8⟩ : PaceT), (mkL mk_note ((mkL mk_metric k x4).2) x9).1⟩ : OrderT)) = true := by
  rw [cts_order_mk]; simpa [cts_order] using h
theorem ct_item_sm (x : ItemT) (h : sm_item x = true) : ct_item x ≤ 5242889 := by
  simp only [sm_item, sm_order, sm_pace, Bool.and_eq_true] at h
  obtain ⟨⟨h1, h2, h3, h4, h5, ⟨h6, h7, h8, h9⟩, h10⟩, h11⟩ := h
  have q5 := ctL_sm ct_metric_sm h5
  have q10 := ctL_sm ct_note_sm h10
  simp only [ct_item]; omega
theorem cts_item_sm {x : ItemT} (h : sm_item x = true) : cts_item x ≤ 5242889 := by
  simp only [sm_item, sm_order, sm_pace, Bool.and_eq_true] at h
  obtain ⟨⟨h1, h2, h3, h4, h5, ⟨h6, h7, h8, h9⟩, h10⟩, h11⟩ := h
  have q5 := ctL_sm ct_metric_sm h5
  have q10 := ctL_sm ct_note_sm h10
  simp only [cts_item]; omega
theorem hds_item_mk (k : Int) (x0 : ByteArray) (x1 : ByteArray) (x2 : Int) (x3 : Int) (x4 : List MetricT) (x5 : Int) (x6 : Int) (x7 : Int) (x8 : Int) (x9 : List NoteT) (x10 : Int) : hds_item k (⟨(⟨x0, x1, x2, x3, (mkL mk_metric k x4).1, (⟨x5, x6, x7, x8⟩ : PaceT), (mkL mk_note ((mkL mk_metric k x4).2) x9).1⟩ : OrderT), x10⟩ : ItemT) = (mkL mk_note ((mkL mk_metric k x4).2) x9).2 := hds_item_marked k (⟨(⟨x0, x1, x2, x3, x4, (⟨x5, x6, x7, x8⟩ : PaceT), x9⟩ : OrderT), x10⟩ : ItemT)
theorem cts_item_mk (k : Int) (x0 : ByteArray) (x1 : ByteArray) (x2 : Int) (x3 : Int) (x4 : List MetricT) (x5 : Int) (x6 : Int) (x7 : Int) (x8 : Int) (x9 : List NoteT) (x10 : Int) : cts_item (⟨(⟨x0, x1, x2, x3, (mkL mk_metric k x4).1, (⟨x5, x6, x7, x8⟩ : PaceT), (mkL mk_note ((mkL mk_metric k x4).2) x9).1⟩ : OrderT), x10⟩ : ItemT) = cts_item (⟨(⟨x0, x1, x2, x3, x4, (⟨x5, x6, x7, x8⟩ : PaceT), x9⟩ : OrderT), x10⟩ : ItemT) := ct_of mks_item_ct mks_item_idem k (⟨(⟨x0, x1, x2, x3, x4, (⟨x5, x6, x7, x8⟩ : PaceT), x9⟩ : OrderT), x10⟩ : ItemT)
theorem gmk_item_mk (k : Int) (x0 : ByteArray) (x1 : ByteArray) (x2 : Int) (x3 : Int) (x4 : List MetricT) (x5 : Int) (x6 : Int) (x7 : Int) (x8 : Int) (x9 : List NoteT) (x10 : Int) (h : gmk k (ctL ct_metric x4 + ctL ct_note x9) = true) : gmk k (cts_item (⟨(⟨x0, x1, x2, x3, (mkL mk_metric k x4).1, (⟨x5, x6, x7, x8⟩ : PaceT), (mkL mk_note ((mkL mk_metric k x4).2) x9).1⟩ : OrderT), x10⟩ : ItemT)) = true := by
  rw [cts_item_mk]; simpa [cts_item] using h
theorem ct_store_sm (x : StoreT) (h : sm_store x = true) : ct_store x ≤ 5497567576065 := by
  simp only [sm_store, Bool.and_eq_true] at h
  obtain ⟨h1, h2⟩ := h
  have q1 := ctL_sm ct_item_sm h1
  simp only [ct_store]; omega
theorem cts_store_sm {x : StoreT} (h : sm_store x = true) : cts_store x ≤ 5497567576065 := by
  simp only [sm_store, Bool.and_eq_true] at h
  obtain ⟨h1, h2⟩ := h
  have q1 := ctL_sm ct_item_sm h1
  simp only [cts_store]; omega
theorem hds_store_mk (k : Int) (x0 : List ItemT) (x1 : Int) : hds_store k (⟨(mkL mk_item k x0).1, x1⟩ : StoreT) = (mkL mk_item k x0).2 := hds_store_marked k (⟨x0, x1⟩ : StoreT)
theorem cts_store_mk (k : Int) (x0 : List ItemT) (x1 : Int) : cts_store (⟨(mkL mk_item k x0).1, x1⟩ : StoreT) = cts_store (⟨x0, x1⟩ : StoreT) := ct_of mks_store_ct mks_store_idem k (⟨x0, x1⟩ : StoreT)
theorem gmk_store_mk (k : Int) (x0 : List ItemT) (x1 : Int) (h : gmk k (ctL ct_item x0) = true) : gmk k (cts_store (⟨(mkL mk_item k x0).1, x1⟩ : StoreT)) = true := by
  rw [cts_store_mk]; simpa [cts_store] using h
theorem ct_answer_sm (x : AnswerT) (_h : sm_answer x = true) : ct_answer x ≤ 3 := by
  simp only [ct_answer]; omega
theorem ct_sample_sm (x : SampleT) (_h : sm_sample x = true) : ct_sample x ≤ 2 := by
  simp only [ct_sample]; omega
theorem ct_rcd_sm (x : RcdT) (_h : sm_rcd x = true) : ct_rcd x ≤ 2 := by
  simp only [ct_rcd]; omega
theorem ct_scale_sm (x : ScaleT) (h : sm_scale x = true) : ct_scale x ≤ 2097154 := by
  simp only [sm_scale, Bool.and_eq_true] at h
  obtain ⟨h1, h2, h3⟩ := h
  have q3 := ctL_sm ct_rcd_sm h3
  simp only [ct_scale]; omega
theorem cts_scale_sm {x : ScaleT} (h : sm_scale x = true) : cts_scale x ≤ 2097154 := by
  simp only [sm_scale, Bool.and_eq_true] at h
  obtain ⟨h1, h2, h3⟩ := h
  have q3 := ctL_sm ct_rcd_sm h3
  simp only [cts_scale]; omega
theorem hds_scale_mk (k : Int) (x0 : ByteArray) (x1 : Int) (x2 : List RcdT) : hds_scale k (⟨x0, x1, (mkL mk_rcd k x2).1⟩ : ScaleT) = (mkL mk_rcd k x2).2 := hds_scale_marked k (⟨x0, x1, x2⟩ : ScaleT)
theorem cts_scale_mk (k : Int) (x0 : ByteArray) (x1 : Int) (x2 : List RcdT) : cts_scale (⟨x0, x1, (mkL mk_rcd k x2).1⟩ : ScaleT) = cts_scale (⟨x0, x1, x2⟩ : ScaleT) := ct_of mks_scale_ct mks_scale_idem k (⟨x0, x1, x2⟩ : ScaleT)
theorem gmk_scale_mk (k : Int) (x0 : ByteArray) (x1 : Int) (x2 : List RcdT) (h : gmk k (ctL ct_rcd x2) = true) : gmk k (cts_scale (⟨x0, x1, (mkL mk_rcd k x2).1⟩ : ScaleT)) = true := by
  rw [cts_scale_mk]; simpa [cts_scale] using h
theorem ct_feed_sm (x : FeedT) (h : sm_feed x = true) : ct_feed x ≤ 2097153 := by
  simp only [sm_feed, Bool.and_eq_true] at h
  obtain ⟨h1, h2⟩ := h
  have q2 := ctL_sm ct_sample_sm h2
  simp only [ct_feed]; omega
theorem cts_feed_sm {x : FeedT} (h : sm_feed x = true) : cts_feed x ≤ 2097153 := by
  simp only [sm_feed, Bool.and_eq_true] at h
  obtain ⟨h1, h2⟩ := h
  have q2 := ctL_sm ct_sample_sm h2
  simp only [cts_feed]; omega
theorem hds_feed_mk (k : Int) (x0 : ByteArray) (x1 : List SampleT) : hds_feed k (⟨x0, (mkL mk_sample k x1).1⟩ : FeedT) = (mkL mk_sample k x1).2 := hds_feed_marked k (⟨x0, x1⟩ : FeedT)
theorem cts_feed_mk (k : Int) (x0 : ByteArray) (x1 : List SampleT) : cts_feed (⟨x0, (mkL mk_sample k x1).1⟩ : FeedT) = cts_feed (⟨x0, x1⟩ : FeedT) := ct_of mks_feed_ct mks_feed_idem k (⟨x0, x1⟩ : FeedT)
theorem gmk_feed_mk (k : Int) (x0 : ByteArray) (x1 : List SampleT) (h : gmk k (ctL ct_sample x1) = true) : gmk k (cts_feed (⟨x0, (mkL mk_sample k x1).1⟩ : FeedT)) = true := by
  rw [cts_feed_mk]; simpa [cts_feed] using h
theorem ct_told_sm (x : ToldT) (_h : sm_told x = true) : ct_told x ≤ 3 := by
  simp only [ct_told]; omega
theorem ct_world_sm (x : WorldT) (h : sm_world x = true) : ct_world x ≤ 7696596074498 := by
  simp only [sm_store, sm_world, Bool.and_eq_true] at h
  obtain ⟨⟨h1, h2⟩, h3, h4, h5⟩ := h
  have q1 := ctL_sm ct_item_sm h1
  have q3 := ctL_sm ct_scale_sm h3
  have q5 := ctL_sm ct_told_sm h5
  simp only [ct_world]; omega
theorem cts_world_sm {x : WorldT} (h : sm_world x = true) : cts_world x ≤ 7696596074498 := by
  simp only [sm_store, sm_world, Bool.and_eq_true] at h
  obtain ⟨⟨h1, h2⟩, h3, h4, h5⟩ := h
  have q1 := ctL_sm ct_item_sm h1
  have q3 := ctL_sm ct_scale_sm h3
  have q5 := ctL_sm ct_told_sm h5
  simp only [cts_world]; omega
theorem hds_world_mk (k : Int) (x0 : List ItemT) (x1 : Int) (x2 : List ScaleT) (x3 : Int) (x4 : List ToldT) : hds_world k (⟨(⟨(mkL mk_item k x0).1, x1⟩ : StoreT), (mkL mk_scale ((mkL mk_item k x0).2) x2).1, x3, (mkL mk_told ((mkL mk_scale ((mkL mk_item k x0).2) x2).2) x4).1⟩ : WorldT) = (mkL mk_told ((mkL mk_scale ((mkL mk_item k x0).2) x2).2) x4).2 := hds_world_marked k (⟨(⟨x0, x1⟩ : StoreT), x2, x3, x4⟩ : WorldT)
theorem cts_world_mk (k : Int) (x0 : List ItemT) (x1 : Int) (x2 : List ScaleT) (x3 : Int) (x4 : List ToldT) : cts_world (⟨(⟨(mkL mk_item k x0).1, x1⟩ : StoreT), (mkL mk_scale ((mkL mk_item k x0).2) x2).1, x3, (mkL mk_told ((mkL mk_scale ((mkL mk_item k x0).2) x2).2) x4).1⟩ : WorldT) = cts_world (⟨(⟨x0, x1⟩ : StoreT), x2, x3, x4⟩ : WorldT) := ct_of mks_world_ct mks_world_idem k (⟨(⟨x0, x1⟩ : StoreT), x2, x3, x4⟩ : WorldT)
theorem gmk_world_mk (k : Int) (x0 : List ItemT) (x1 : Int) (x2 : List ScaleT) (x3 : Int) (x4 : List ToldT) (h : gmk k (ctL ct_item x0 + ctL ct_scale x2 + ctL ct_told x4) = true) : gmk k (cts_world (⟨(⟨(mkL mk_item k x0).1, x1⟩ : StoreT), (mkL mk_scale ((mkL mk_item k x0).2) x2).1, x3, (mkL mk_told ((mkL mk_scale ((mkL mk_item k x0).2) x2).2) x4).1⟩ : WorldT)) = true := by
  rw [cts_world_mk]; simpa [cts_world] using h
theorem ct_deed_sm (x : DeedT) (h : sm_deed x = true) : ct_deed x ≤ 2199024304133 := by
  simp only [sm_deed, Bool.and_eq_true] at h
  obtain ⟨h1, h2, h3, h4, h5, h6⟩ := h
  have q6 := ctL_sm ct_feed_sm h6
  simp only [ct_deed]; omega
theorem cts_deed_sm {x : DeedT} (h : sm_deed x = true) : cts_deed x ≤ 2199024304133 := by
  simp only [sm_deed, Bool.and_eq_true] at h
  obtain ⟨h1, h2, h3, h4, h5, h6⟩ := h
  have q6 := ctL_sm ct_feed_sm h6
  simp only [cts_deed]; omega
theorem hds_deed_mk (k : Int) (x0 : Int) (x1 : Int) (x2 : Int) (x3 : ByteArray) (x4 : ByteArray) (x5 : List FeedT) : hds_deed k (⟨x0, x1, x2, x3, x4, (mkL mk_feed k x5).1⟩ : DeedT) = (mkL mk_feed k x5).2 := hds_deed_marked k (⟨x0, x1, x2, x3, x4, x5⟩ : DeedT)
theorem cts_deed_mk (k : Int) (x0 : Int) (x1 : Int) (x2 : Int) (x3 : ByteArray) (x4 : ByteArray) (x5 : List FeedT) : cts_deed (⟨x0, x1, x2, x3, x4, (mkL mk_feed k x5).1⟩ : DeedT) = cts_deed (⟨x0, x1, x2, x3, x4, x5⟩ : DeedT) := ct_of mks_deed_ct mks_deed_idem k (⟨x0, x1, x2, x3, x4, x5⟩ : DeedT)
theorem gmk_deed_mk (k : Int) (x0 : Int) (x1 : Int) (x2 : Int) (x3 : ByteArray) (x4 : ByteArray) (x5 : List FeedT) (h : gmk k (ctL ct_feed x5) = true) : gmk k (cts_deed (⟨x0, x1, x2, x3, x4, (mkL mk_feed k x5).1⟩ : DeedT)) = true := by
  rw [cts_deed_mk]; simpa [cts_deed] using h
theorem ct_event_sm (x : EventT) (h : sm_event x = true) : ct_event x ≤ 5242891 := by
  simp only [sm_event, sm_item, sm_order, sm_pace, Bool.and_eq_true] at h
  obtain ⟨h1, h2, ⟨⟨h3, h4, h5, h6, h7, ⟨h8, h9, h10, h11⟩, h12⟩, h13⟩⟩ := h
  have q7 := ctL_sm ct_metric_sm h7
  have q12 := ctL_sm ct_note_sm h12
  simp only [ct_event]; omega
theorem cts_event_sm {x : EventT} (h : sm_event x = true) : cts_event x ≤ 5242891 := by
  simp only [sm_event, sm_item, sm_order, sm_pace, Bool.and_eq_true] at h
  obtain ⟨h1, h2, ⟨⟨h3, h4, h5, h6, h7, ⟨h8, h9, h10, h11⟩, h12⟩, h13⟩⟩ := h
  have q7 := ctL_sm ct_metric_sm h7
  have q12 := ctL_sm ct_note_sm h12
  simp only [cts_event]; omega
theorem hds_event_mk (k : Int) (x0 : Int) (x1 : Int) (x2 : ByteArray) (x3 : ByteArray) (x4 : Int) (x5 : Int) (x6 : List MetricT) (x7 : Int) (x8 : Int) (x9 : Int) (x10 : Int) (x11 : List NoteT) (x12 : Int) : hds_event k (⟨x0, x1, (⟨(⟨x2, x3, x4, x5, (mkL mk_metric k x6).1, (⟨x7, x8, x9, x10⟩ : PaceT), (mkL mk_note ((mkL mk_metric k x6).2) x11).1⟩ : OrderT), x12⟩ : ItemT)⟩ : EventT) = (mkL mk_note ((mkL mk_metric k x6).2) x11).2 := hds_event_marked k (⟨x0, x1, (⟨(⟨x2, x3, x4, x5, x6, (⟨x7, x8, x9, x10⟩ : PaceT), x11⟩ : OrderT), x12⟩ : ItemT)⟩ : EventT)
theorem cts_event_mk (k : Int) (x0 : Int) (x1 : Int) (x2 : ByteArray) (x3 : ByteArray) (x4 : Int) (x5 : Int) (x6 : List MetricT) (x7 : Int) (x8 : Int) (x9 : Int) (x10 : Int) (x11 : List NoteT) (x12 : Int) : cts_event (⟨x0, x1, (⟨(⟨x2, x3, x4, x5, (mkL mk_metric k x6).1, (⟨x7, x8, x9, x10⟩ : PaceT), (mkL mk_note ((mkL mk_metric k x6).2) x11).1⟩ : OrderT), x12⟩ : ItemT)⟩ : EventT) = cts_event (⟨x0, x1, (⟨(⟨x2, x3, x4, x5, x6, (⟨x7, x8, x9, x10⟩ : PaceT), x11⟩ : OrderT), x12⟩ : ItemT)⟩ : EventT) := ct_of mks_event_ct mks_event_idem k (⟨x0, x1, (⟨(⟨x2, x3, x4, x5, x6, (⟨x7, x8, x9, x10⟩ : PaceT), x11⟩ : OrderT), x12⟩ : ItemT)⟩ : EventT)
theorem gmk_event_mk (k : Int) (x0 : Int) (x1 : Int) (x2 : ByteArray) (x3 : ByteArray) (x4 : Int) (x5 : Int) (x6 : List MetricT) (x7 : Int) (x8 : Int) (x9 : Int) (x10 : Int) (x11 : List NoteT) (x12 : Int) (h : gmk k (ctL ct_metric x6 + ctL ct_note x11) = true) : gmk k (cts_event (⟨x0, x1, (⟨(⟨x2, x3, x4, x5, (mkL mk_metric k x6).1, (⟨x7, x8, x9, x10⟩ : PaceT), (mkL mk_note ((mkL mk_metric k x6).2) x11).1⟩ : OrderT), x12⟩ : ItemT)⟩ : EventT)) = true := by
  rw [cts_event_mk]; simpa [cts_event] using h
theorem ct_hist_sm (x : HistT) (h : sm_hist x = true) : ct_hist x ≤ 5497569673217 := by
  simp only [sm_hist, Bool.and_eq_true] at h
  obtain ⟨h1, h2⟩ := h
  have q2 := ctL_sm ct_event_sm h2
  simp only [ct_hist]; omega
theorem cts_hist_sm {x : HistT} (h : sm_hist x = true) : cts_hist x ≤ 5497569673217 := by
  simp only [sm_hist, Bool.and_eq_true] at h
  obtain ⟨h1, h2⟩ := h
  have q2 := ctL_sm ct_event_sm h2
  simp only [cts_hist]; omega
theorem hds_hist_mk (k : Int) (x0 : Int) (x1 : List EventT) : hds_hist k (⟨x0, (mkL mk_event k x1).1⟩ : HistT) = (mkL mk_event k x1).2 := hds_hist_marked k (⟨x0, x1⟩ : HistT)
theorem cts_hist_mk (k : Int) (x0 : Int) (x1 : List EventT) : cts_hist (⟨x0, (mkL mk_event k x1).1⟩ : HistT) = cts_hist (⟨x0, x1⟩ : HistT) := ct_of mks_hist_ct mks_hist_idem k (⟨x0, x1⟩ : HistT)
theorem gmk_hist_mk (k : Int) (x0 : Int) (x1 : List EventT) (h : gmk k (ctL ct_event x1) = true) : gmk k (cts_hist (⟨x0, (mkL mk_event k x1).1⟩ : HistT)) = true := by
  rw [cts_hist_mk]; simpa [cts_hist] using h
theorem ct_fail_sm (x : FailT) (_h : sm_fail x = true) : ct_fail x ≤ 2 := by
  simp only [ct_fail]; omega
theorem ct_work_sm (x : WorkT) (h : sm_work x = true) : ct_work x ≤ 5242880 := by
  simp only [sm_work, Bool.and_eq_true] at h
  obtain ⟨h1, h2, h3, h4⟩ := h
  have q1 := ctL_sm ct_str_sm h1
  have q2 := ctL_sm ct_str_sm h2
  have q3 := ctL_sm ct_str_sm h3
  have q4 := ctL_sm ct_fail_sm h4
  simp only [ct_work]; omega
theorem cts_work_sm {x : WorkT} (h : sm_work x = true) : cts_work x ≤ 5242880 := by
  simp only [sm_work, Bool.and_eq_true] at h
  obtain ⟨h1, h2, h3, h4⟩ := h
  have q1 := ctL_sm ct_str_sm h1
  have q2 := ctL_sm ct_str_sm h2
  have q3 := ctL_sm ct_str_sm h3
  have q4 := ctL_sm ct_fail_sm h4
  simp only [cts_work]; omega
theorem hds_work_mk (k : Int) (x0 : List ByteArray) (x1 : List ByteArray) (x2 : List ByteArray) (x3 : List FailT) : hds_work k (⟨(mkL mk_str k x0).1, (mkL mk_str ((mkL mk_str k x0).2) x1).1, (mkL mk_str ((mkL mk_str ((mkL mk_str k x0).2) x1).2) x2).1, (mkL mk_fail ((mkL mk_str ((mkL mk_str ((mkL mk_str k x0).2) x1).2) x2).2) x3).1⟩ : WorkT) = (mkL mk_fail ((mkL mk_str ((mkL mk_str ((mkL mk_str k x0).2) x1).2) x2).2) x3).2 := hds_work_marked k (⟨x0, x1, x2, x3⟩ : WorkT)
theorem cts_work_mk (k : Int) (x0 : List ByteArray) (x1 : List ByteArray) (x2 : List ByteArray) (x3 : List FailT) : cts_work (⟨(mkL mk_str k x0).1, (mkL mk_str ((mkL mk_str k x0).2) x1).1, (mkL mk_str ((mkL mk_str ((mkL mk_str k x0).2) x1).2) x2).1, (mkL mk_fail ((mkL mk_str ((mkL mk_str ((mkL mk_str k x0).2) x1).2) x2).2) x3).1⟩ : WorkT) = cts_work (⟨x0, x1, x2, x3⟩ : WorkT) := ct_of mks_work_ct mks_work_idem k (⟨x0, x1, x2, x3⟩ : WorkT)
theorem gmk_work_mk (k : Int) (x0 : List ByteArray) (x1 : List ByteArray) (x2 : List ByteArray) (x3 : List FailT) (h : gmk k (ctL ct_str x0 + ctL ct_str x1 + ctL ct_str x2 + ctL ct_fail x3) = true) : gmk k (cts_work (⟨(mkL mk_str k x0).1, (mkL mk_str ((mkL mk_str k x0).2) x1).1, (mkL mk_str ((mkL mk_str ((mkL mk_str k x0).2) x1).2) x2).1, (mkL mk_fail ((mkL mk_str ((mkL mk_str ((mkL mk_str k x0).2) x1).2) x2).2) x3).1⟩ : WorkT)) = true := by
  rw [cts_work_mk]; simpa [cts_work] using h
theorem ct_pick_sm (x : PickT) (h : sm_pick x = true) : ct_pick x ≤ 1048578 := by
  simp only [sm_pick, Bool.and_eq_true] at h
  obtain ⟨h1, h2, h3⟩ := h
  have q3 := ctL_sm ct_str_sm h3
  simp only [ct_pick]; omega
theorem cts_pick_sm {x : PickT} (h : sm_pick x = true) : cts_pick x ≤ 1048578 := by
  simp only [sm_pick, Bool.and_eq_true] at h
  obtain ⟨h1, h2, h3⟩ := h
  have q3 := ctL_sm ct_str_sm h3
  simp only [cts_pick]; omega
theorem hds_pick_mk (k : Int) (x0 : Int) (x1 : ByteArray) (x2 : List ByteArray) : hds_pick k (⟨x0, x1, (mkL mk_str k x2).1⟩ : PickT) = (mkL mk_str k x2).2 := hds_pick_marked k (⟨x0, x1, x2⟩ : PickT)
theorem cts_pick_mk (k : Int) (x0 : Int) (x1 : ByteArray) (x2 : List ByteArray) : cts_pick (⟨x0, x1, (mkL mk_str k x2).1⟩ : PickT) = cts_pick (⟨x0, x1, x2⟩ : PickT) := ct_of mks_pick_ct mks_pick_idem k (⟨x0, x1, x2⟩ : PickT)
theorem gmk_pick_mk (k : Int) (x0 : Int) (x1 : ByteArray) (x2 : List ByteArray) (h : gmk k (ctL ct_str x2) = true) : gmk k (cts_pick (⟨x0, x1, (mkL mk_str k x2).1⟩ : PickT)) = true := by
  rw [cts_pick_mk]; simpa [cts_pick] using h
theorem ctL_mk_str (k : Int) (xs : List ByteArray) : ctL ct_str (mkL mk_str k xs).1 = ctL ct_str xs := by
  have h1 := mkL_str_ct k (mkL mk_str k xs).1
  rw [mkL_idem mk_str_idem, mkL_str_ct] at h1; omega
theorem ctL_mk_int (k : Int) (xs : List Int) : ctL ct_int (mkL mk_int k xs).1 = ctL ct_int xs := by
  have h1 := mkL_int_ct k (mkL mk_int k xs).1
  rw [mkL_idem mk_int_idem, mkL_int_ct] at h1; omega
theorem ctL_mk_bool (k : Int) (xs : List Bool) : ctL ct_bool (mkL mk_bool k xs).1 = ctL ct_bool xs := by
  have h1 := mkL_bool_ct k (mkL mk_bool k xs).1
  rw [mkL_idem mk_bool_idem, mkL_bool_ct] at h1; omega
theorem ctL_mk_metric (k : Int) (xs : List MetricT) : ctL ct_metric (mkL mk_metric k xs).1 = ctL ct_metric xs := by
  have h1 := mkL_metric_ct k (mkL mk_metric k xs).1
  rw [mkL_idem mk_metric_idem, mkL_metric_ct] at h1; omega
theorem ctL_mk_note (k : Int) (xs : List NoteT) : ctL ct_note (mkL mk_note k xs).1 = ctL ct_note xs := by
  have h1 := mkL_note_ct k (mkL mk_note k xs).1
  rw [mkL_idem mk_note_idem, mkL_note_ct] at h1; omega
theorem ctL_mk_order (k : Int) (xs : List OrderT) : ctL ct_order (mkL mk_order k xs).1 = ctL ct_order xs := by
  have h1 := mkL_order_ct k (mkL mk_order k xs).1
  rw [mkL_idem mk_order_idem, mkL_order_ct] at h1; omega
theorem ctL_mk_item (k : Int) (xs : List ItemT) : ctL ct_item (mkL mk_item k xs).1 = ctL ct_item xs := by
  have h1 := mkL_item_ct k (mkL mk_item k xs).1
  rw [mkL_idem mk_item_idem, mkL_item_ct] at h1; omega
theorem ctL_mk_store (k : Int) (xs : List StoreT) : ctL ct_store (mkL mk_store k xs).1 = ctL ct_store xs := by
  have h1 := mkL_store_ct k (mkL mk_store k xs).1
  rw [mkL_idem mk_store_idem, mkL_store_ct] at h1; omega
theorem ctL_mk_answer (k : Int) (xs : List AnswerT) : ctL ct_answer (mkL mk_answer k xs).1 = ctL ct_answer xs := by
  have h1 := mkL_answer_ct k (mkL mk_answer k xs).1
  rw [mkL_idem mk_answer_idem, mkL_answer_ct] at h1; omega
theorem ctL_mk_sample (k : Int) (xs : List SampleT) : ctL ct_sample (mkL mk_sample k xs).1 = ctL ct_sample xs := by
  have h1 := mkL_sample_ct k (mkL mk_sample k xs).1
  rw [mkL_idem mk_sample_idem, mkL_sample_ct] at h1; omega
theorem ctL_mk_rcd (k : Int) (xs : List RcdT) : ctL ct_rcd (mkL mk_rcd k xs).1 = ctL ct_rcd xs := by
  have h1 := mkL_rcd_ct k (mkL mk_rcd k xs).1
  rw [mkL_idem mk_rcd_idem, mkL_rcd_ct] at h1; omega
theorem ctL_mk_scale (k : Int) (xs : List ScaleT) : ctL ct_scale (mkL mk_scale k xs).1 = ctL ct_scale xs := by
  have h1 := mkL_scale_ct k (mkL mk_scale k xs).1
  rw [mkL_idem mk_scale_idem, mkL_scale_ct] at h1; omega
theorem ctL_mk_feed (k : Int) (xs : List FeedT) : ctL ct_feed (mkL mk_feed k xs).1 = ctL ct_feed xs := by
  have h1 := mkL_feed_ct k (mkL mk_feed k xs).1
  rw [mkL_idem mk_feed_idem, mkL_feed_ct] at h1; omega
theorem ctL_mk_told (k : Int) (xs : List ToldT) : ctL ct_told (mkL mk_told k xs).1 = ctL ct_told xs := by
  have h1 := mkL_told_ct k (mkL mk_told k xs).1
  rw [mkL_idem mk_told_idem, mkL_told_ct] at h1; omega
theorem ctL_mk_world (k : Int) (xs : List WorldT) : ctL ct_world (mkL mk_world k xs).1 = ctL ct_world xs := by
  have h1 := mkL_world_ct k (mkL mk_world k xs).1
  rw [mkL_idem mk_world_idem, mkL_world_ct] at h1; omega
theorem ctL_mk_deed (k : Int) (xs : List DeedT) : ctL ct_deed (mkL mk_deed k xs).1 = ctL ct_deed xs := by
  have h1 := mkL_deed_ct k (mkL mk_deed k xs).1
  rw [mkL_idem mk_deed_idem, mkL_deed_ct] at h1; omega
theorem ctL_mk_event (k : Int) (xs : List EventT) : ctL ct_event (mkL mk_event k xs).1 = ctL ct_event xs := by
  have h1 := mkL_event_ct k (mkL mk_event k xs).1
  rw [mkL_idem mk_event_idem, mkL_event_ct] at h1; omega
theorem ctL_mk_hist (k : Int) (xs : List HistT) : ctL ct_hist (mkL mk_hist k xs).1 = ctL ct_hist xs := by
  have h1 := mkL_hist_ct k (mkL mk_hist k xs).1
  rw [mkL_idem mk_hist_idem, mkL_hist_ct] at h1; omega
theorem ctL_mk_fail (k : Int) (xs : List FailT) : ctL ct_fail (mkL mk_fail k xs).1 = ctL ct_fail xs := by
  have h1 := mkL_fail_ct k (mkL mk_fail k xs).1
  rw [mkL_idem mk_fail_idem, mkL_fail_ct] at h1; omega
theorem ctL_mk_work (k : Int) (xs : List WorkT) : ctL ct_work (mkL mk_work k xs).1 = ctL ct_work xs := by
  have h1 := mkL_work_ct k (mkL mk_work k xs).1
  rw [mkL_idem mk_work_idem, mkL_work_ct] at h1; omega
theorem ctL_mk_pick (k : Int) (xs : List PickT) : ctL ct_pick (mkL mk_pick k xs).1 = ctL ct_pick xs := by
  have h1 := mkL_pick_ct k (mkL mk_pick k xs).1
  rw [mkL_idem mk_pick_idem, mkL_pick_ct] at h1; omega
end Go.Gm

/- Plain functions: orders. -/
namespace Go.Gm
open Go

def hasPre (a b : ByteArray) : Bool := decide ((a.size : Int) ≥ (b.size : Int)) && sEq (a.extract 0 b.size) b
def ours (a : ByteArray) : Bool := hasPre a (bs [113,117,97,121,47])
def isMany (n : Int) : Bool := inR n 0 1000
def paceOk (p : PaceT) : Bool := inR p.up 0 1000 && (inR p.down 0 1000 && (inR p.upSpan 0 3600 && inR p.downSpan 0 3600))
def metricOk (m : MetricT) : Bool := nameOk m.name && (inR m.kind 1 3 && inR m.goal 1 1000000)
noncomputable def noteC (xs : List NoteT) (j : Nat) : Bool :=
  plainOk (atI (t := .note) xs j).key && (!(hasPre (atI (t := .note) xs j).key (bs [113,117,97,121,47])) && (textOk (atI (t := .note) xs j).text && (!(decide (((atI (t := .note) xs j).text.size : Int) > 40)) &&
    (!(decide ((j : Int) > 0)) || sLt (atI (t := .note) xs (j - 1)).key (atI (t := .note) xs j).key))))
noncomputable def notesOk (xs : List NoteT) : Bool := allN (noteC xs) 0 xs.length && decide ((xs.length : Int) ≤ 4)
def metC (xs : List MetricT) (j : Nat) : Bool := metricOk (atI (t := .metric) xs j) && (!(decide ((j : Int) > 0)) || sLt (atI (t := .metric) xs (j - 1)).name (atI (t := .metric) xs j).name)
def metsOk (xs : List MetricT) : Bool := allN (metC xs) 0 xs.length && decide ((xs.length : Int) ≤ 4)
noncomputable def orderOk (o : OrderT) : Bool :=
  nameOk o.name && (nameOk o.target && (inR o.low 1 o.high && (decide (o.high ≤ 1000) && (metsOk o.metrics && (paceOk o.pace && notesOk o.notes)))))
theorem eta_pace (x : PaceT) : (⟨x.up, x.down, x.upSpan, x.downSpan⟩ : PaceT) = x := rfl
theorem eta_metric (x : MetricT) : (⟨x.name, x.kind, x.goal⟩ : MetricT) = x := rfl
theorem eta_note (x : NoteT) : (⟨x.key, x.text⟩ : NoteT) = x := rfl
theorem eta_order (x : OrderT) : (⟨x.name, x.target, x.low, x.high, x.metrics, x.pace, x.notes⟩ : OrderT) = x := rfl
theorem eta_order2 (x : OrderT) : (⟨x.name, x.target, x.low, x.high, x.metrics, ⟨x.pace.up, x.pace.down, x.pace.upSpan, x.pace.downSpan⟩, x.notes⟩ : OrderT) = x := rfl
theorem eta_item (x : ItemT) : (⟨x.order, x.ver⟩ : ItemT) = x := rfl
theorem eta_event (x : EventT) : (⟨x.seq, x.kind, x.item⟩ : EventT) = x := rfl

end Go.Gm

/- Plain functions: what has happened. -/
namespace Go.Gm
open Go

noncomputable def eventC (h : HistT) (j : Nat) : Bool :=
  ((atI (t := .event) h.list j).seq == h.base + 1 + (j : Int)) && (inR (atI (t := .event) h.list j).kind 1 2 && (orderOk (atI (t := .event) h.list j).item.order && inR (atI (t := .event) h.list j).item.ver 1 100000))
noncomputable def histOk (h : HistT) : Bool := inR h.base 0 100000 && (!(decide ((h.list.length : Int) > 60)) && allN (eventC h) 0 h.list.length)
theorem histOk_b {h : HistT} (hh : histOk h = true) : 0 ≤ h.base ∧ h.base ≤ 100000 ∧ h.list.length ≤ 60 ∧ ∀ j, j < h.list.length → eventC h j = true := by
  simp only [histOk, Bool.and_eq_true, inR_iff, Bool.not_eq_true', decide_eq_false_iff_not, allN_iff] at hh
  exact ⟨hh.1.1, hh.1.2, by omega, fun j hj => hh.2.2 j (Nat.zero_le _) (by omega)⟩
def evNew (h : HistT) (k : Int) (x : ItemT) : EventT := ⟨h.base + 1 + (h.list.length : Int), k, x⟩
noncomputable def histAdd (h : HistT) (k : Int) (x : ItemT) : HistT :=
  cond (histOk h) (cond (decide (h.list.length ≥ 60))
    (cond (histOk ⟨h.base + 1, (h.list ++ [evNew h k x]).drop 1⟩) ⟨h.base + 1, (h.list ++ [evNew h k x]).drop 1⟩ h)
    (cond (histOk ⟨h.base, h.list ++ [evNew h k x]⟩) ⟨h.base, h.list ++ [evNew h k x]⟩ h)) h
def gHistAdd (h : HistT) (k : Int) (x : ItemT) : Bool := sm_hist h && (okI k && sm_item x)
noncomputable def since (h : HistT) (n : Int) : List EventT × Bool := cond (histOk h && inR n h.base (h.base + (h.list.length : Int))) (h.list.drop (n - h.base).toNat, true) ([], false)
noncomputable def compact (h : HistT) (n : Int) : HistT := cond ((since h n).2 && !(decide (n > 100000))) ⟨n, (since h n).1⟩ h
def gHistN (h : HistT) (n : Int) : Bool := sm_hist h && okI n
theorem smL_drop {α : Type} {f : α → Bool} {xs : List α} (h : smL f xs = true) (n : Nat) : smL f (xs.drop n) = true :=
  smL_sub h (fun _ hx => List.mem_of_mem_drop hx) (by rw [List.length_drop]; omega)
theorem since_sm {h : HistT} {n : Int} (hh : sm_hist h = true) : smL sm_event (since h n).1 = true := by
  simp only [sm_hist, Bool.and_eq_true] at hh
  unfold since
  cases histOk h && inR n h.base (h.base + (h.list.length : Int))
  · rfl
  · exact smL_drop hh.2 _
theorem compact_sm {h : HistT} {n : Int} (hh : sm_hist h = true) (hn : okI n = true) : sm_hist (compact h n) = true := by
  unfold compact
  cases (since h n).2 && !(decide (n > 100000))
  · exact hh
  · simp only [cond_true, sm_hist, Bool.and_eq_true]; exact ⟨hn, since_sm hh⟩
theorem in12 (k : Int) : inR k 1 2 = ((k == (1 : Int)) || (k == (2 : Int))) := by
  rw [Bool.eq_iff_iff]; simp only [inR_iff, Bool.or_eq_true, beq_iff_eq]; omega
theorem foldl_snoc {α : Type} (xs out : List α) : xs.foldl (fun o x => o ++ [x]) out = out ++ xs := by
  induction xs generalizing out with
  | nil => simp
  | cons x r ih => rw [List.foldl_cons, ih]; simp
theorem okI_small {n : Int} (h1 : 0 ≤ n) (h2 : n ≤ 1000000) : okI n = true := okI_iff.2 (by omega)
theorem evNew_sm {h : HistT} {k : Int} {x : ItemT} (hk : okI k = true) (hx : sm_item x = true) (hh : histOk h = true) : sm_event (evNew h k x) = true := by
  obtain ⟨h1, h2, h3, _⟩ := histOk_b hh
  simp only [evNew, sm_event, Bool.and_eq_true]
  exact ⟨okI_small (by omega) (by omega), hk, hx⟩
theorem histAdd_sm {h : HistT} {k : Int} {x : ItemT} (hh : sm_hist h = true) (hk : okI k = true) (hx : sm_item x = true) : sm_hist (histAdd h k x) = true := by
  unfold histAdd
  cases ho : histOk h with
  | false => exact hh
  | true =>
    obtain ⟨h1, h2, h3, _⟩ := histOk_b ho
    have h0 := hh
    simp only [sm_hist, Bool.and_eq_true] at hh
    have hl := smL_snoc hh.2 (evNew_sm hk hx ho) (by omega)
    have s1 : sm_hist ⟨h.base + 1, (h.list ++ [evNew h k x]).drop 1⟩ = true := by
      simp only [sm_hist, Bool.and_eq_true]; exact ⟨okI_small (by omega) (by omega), smL_drop hl 1⟩
    have s2 : sm_hist ⟨h.base, h.list ++ [evNew h k x]⟩ = true := by
      simp only [sm_hist, Bool.and_eq_true]; exact ⟨hh.1, hl⟩
    rw [cond_true]
    cases decide (h.list.length ≥ 60) <;> cases histOk ⟨h.base + 1, (h.list ++ [evNew h k x]).drop 1⟩ <;> cases histOk ⟨h.base, h.list ++ [evNew h k x]⟩ <;> assumption

end Go.Gm

/- Plain functions: names taken out of lists; what was looked at. -/
namespace Go.Gm
open Go

/-! ### slices.DeleteFunc, its loop -/
theorem getE_of_drop {α : Type} {xs ys : List α} {j : Nat} (h : ys.drop j = xs.drop j) : ys[j]? = xs[j]? := by
  have := congrArg (fun l => l[0]?) h
  simpa [List.getElem?_drop] using this
theorem loop_delf {t : Ty} {R : Type} {xs : List (El t)} {p : El t → Bool} {F : Nat → Int → Int → List (El t) → Option R} {good : Option R}
    (hs : ∀ (m i j : Nat) (vr : List (El t)), i < j → j < xs.length → vr.length = xs.length → F (m + 1) (i : Int) (j : Int) vr = cond (!(p (atI vr j))) (F m ((i + 1 : Nat) : Int) ((j + 1 : Nat) : Int) (vr.set i (atI vr j))) (F m (i : Int) ((j + 1 : Nat) : Int) vr))
    (he : ∀ (m i : Nat) (vr : List (El t)), vr.length = xs.length → i < xs.length → vr.take i = xs.filter (fun x => !(p x)) → F (m + 1) (i : Int) (xs.length : Int) vr = good) :
    ∀ (d i j m : Nat) (vr : List (El t)), j + d = xs.length → d < m → i < j → vr.length = xs.length → vr.take i = (xs.take j).filter (fun x => !(p x)) → vr.drop j = xs.drop j → F m (i : Int) (j : Int) vr = good := by
  intro d
  induction d with
  | zero =>
    intro i j m vr hj hm hij hl ht hd
    obtain ⟨m, rfl⟩ : ∃ m', m = m' + 1 := ⟨m - 1, by omega⟩
    have : j = xs.length := by omega
    subst this
    exact he m i vr hl hij (by rw [ht, List.take_length])
  | succ d ih =>
    intro i j m vr hj hm hij hl ht hd
    obtain ⟨m, rfl⟩ : ∃ m', m = m' + 1 := ⟨m - 1, by omega⟩
    have hjl : j < xs.length := by omega
    rw [hs m i j vr hij hjl hl]
    have hx := atI_lt hjl
    have hv : vr[j]? = some (atI xs j) := by rw [getE_of_drop hd, hx]
    rw [atI_of hv]
    have htk : xs.take (j + 1) = xs.take j ++ [atI xs j] := by rw [List.take_add_one, hx]; rfl
    have hdr : vr.drop (j + 1) = xs.drop (j + 1) := by
      have := congrArg (List.drop 1) hd
      simpa [List.drop_drop, Nat.add_comm] using this
    cases hp : p (atI xs j) with
    | true => exact ih i (j + 1) m vr (by omega) (by omega) (by omega) hl (by rw [htk, List.filter_append, ht]; simp [hp]) hdr
    | false =>
      refine ih (i + 1) (j + 1) m _ (by omega) (by omega) (by omega) (by simpa using hl) ?_ ?_
      · rw [htk, List.filter_append, ← ht, List.take_add_one, List.getElem?_set_self (by omega), List.take_set_of_le (by omega)]
        simp [hp]
      · rw [List.drop_set_of_lt (by omega)]; exact hdr
theorem delf_start {t : Ty} {xs : List (El t)} {p : El t → Bool} {i : Nat} (hi : i < xs.length) (hp : p (atI xs i) = true) (hall : ∀ k, 0 ≤ k → k < i → p (atI xs k) = false) : xs.take i = (xs.take (i + 1)).filter fun x => !(p x) := by
  rw [List.take_add_one, atI_lt hi, List.filter_append]
  have h1 : (xs.take i).filter (fun x => !(p x)) = xs.take i := by
    rw [List.filter_eq_self]
    intro x hx
    obtain ⟨k, hk⟩ := List.getElem?_of_mem hx
    rw [List.getElem?_take] at hk
    split at hk
    · rename_i hk'
      rw [← atI_of hk, hall k (by omega) hk']; rfl
    · cases hk
  rw [h1]; simp [hp]
theorem delf_none {t : Ty} {xs : List (El t)} {p : El t → Bool} (hall : ∀ k, 0 ≤ k → k < 0 + xs.length → p (atI xs k) = false) : xs.filter (fun x => !(p x)) = xs := by
  rw [List.filter_eq_self]
  intro x hx
  obtain ⟨k, hk⟩ := List.getElem?_of_mem hx
  rw [← atI_of hk, hall k (by omega) (by have := el_lt hk; omega)]; rfl
theorem clrL_take {α : Type} (z : α) {xs : List α} {lo hi : Nat} (h : lo ≤ xs.length) : (clrL z xs lo hi).take lo = xs.take lo := by
  unfold clrL
  rw [List.append_assoc, List.take_append_of_le_length (by simp; omega), List.take_take, Nat.min_self]

/-! ### names -/
def strIs (s t : ByteArray) : Bool := sEq s t
def strAt (xs : List ByteArray) (s : ByteArray) : Int := findI (t := .str) (fun x => strIs x s) xs
def butName (xs : List ByteArray) (s : ByteArray) : List ByteArray := xs.filter fun x => !(strIs x s)
theorem foldl_filter {α : Type} (p : α → Bool) : ∀ (xs acc : List α), xs.foldl (fun out x => cond (p x) (out ++ [x]) out) acc = acc ++ xs.filter p
  | [], acc => by simp
  | x :: r, acc => by
    rw [List.foldl_cons, foldl_filter p r]
    cases h : p x <;> simp [h]
theorem butName_no {xs : List ByteArray} {s : ByteArray} (h : isIn xs s = false) : butName xs s = xs := by
  unfold butName
  rw [List.filter_eq_self]
  intro x hx
  unfold isIn at h
  rw [List.any_eq_false] at h
  have := h x hx
  simp only [strIs]
  cases hq : sEq x s
  · rfl
  · exact (this hq).elim
theorem smL_filter {α : Type} {f : α → Bool} {xs : List α} {p : α → Bool} (h : smL f xs = true) : smL f (xs.filter p) = true :=
  smL_sub h (fun x hx => (List.mem_filter.1 hx).1) (List.length_filter_le _ _)

/-! ### failures -/
def failedF (s : ByteArray) (ok : Bool) (a : Int × List FailT) (x : FailT) : Int × List FailT :=
  cond (!(sEq x.name s)) (a.1, a.2 ++ [x]) (cond (!ok) (x.n, a.2 ++ [⟨s, minI (IntKind.wrap .i64 (x.n + (1 : Int))) (20 : Int)⟩]) (x.n, a.2))
def failedS (xs : List FailT) (s : ByteArray) (ok : Bool) : List FailT :=
  let r := xs.foldl (failedF s ok) ((0 : Int), ([] : List FailT))
  cond (r.1 == (0 : Int)) (cond (!ok) (r.2 ++ [⟨s, (1 : Int)⟩]) r.2) r.2
def failedI (xs : List FailT) (s : ByteArray) (ok : Bool) : List FailT :=
  match failO xs s with
  | none => cond ok xs (xs ++ [⟨s, (1 : Int)⟩])
  | some i => cond ok (delL xs (i : Int) ((i + 1 : Nat) : Int)) (xs.set i ⟨(atI (t := .fail) xs i).name, minI ((atI (t := .fail) xs i).n + 1) 20⟩)
theorem failed_none {s : ByteArray} {ok : Bool} : ∀ {l : List FailT} {n : Int} {out : List FailT}, (∀ x ∈ l, sEq x.name s = false) → l.foldl (failedF s ok) (n, out) = (n, out ++ l)
  | [], n, out, _ => by simp
  | x :: r, n, out, h => by
    have h1 := h x (by simp)
    rw [List.foldl_cons]
    have : failedF s ok (n, out) x = (n, out ++ [x]) := by simp [failedF, h1]
    rw [this, failed_none fun y hy => h y (by simp [hy])]
    simp
theorem failed_eq {xs : List FailT} {s : ByteArray} {ok : Bool} (h : allN (failC xs) 0 xs.length = true) : failedS xs s ok = failedI xs s ok := by
  rw [allN_iff] at h
  unfold failedS failedI
  cases hO : failO xs s with
  | none =>
    have hn := firstN_none hO
    have : ∀ x ∈ xs, sEq x.name s = false := by
      intro x hx
      obtain ⟨k, hk⟩ := List.getElem?_of_mem hx
      have := hn k (by omega) (by have := el_lt hk; omega)
      rw [atI_of (t := .fail) hk] at this
      exact this
    rw [failed_none this]
    cases ok <;> rfl
  | some i =>
    obtain ⟨_, hi, hp, hall⟩ := firstN_some hO
    have hi : i < xs.length := by omega
    have hx := atI_lt (t := .fail) hi
    have hname : (atI (t := .fail) xs i).name = s := sEq_iff.1 hp
    have hci := h i (by omega) (by omega)
    simp only [failC, Bool.and_eq_true, inR_iff] at hci
    have hsplit : xs = xs.take i ++ atI (t := .fail) xs i :: xs.drop (i + 1) := by
      have e1 : xs.drop i = atI (t := .fail) xs i :: xs.drop (i + 1) := by
        rw [List.drop_eq_getElem_cons hi]
        congr 1
        rw [List.getElem?_eq_getElem hi] at hx
        exact Option.some.inj hx
      conv => lhs; rw [← List.take_append_drop i xs, e1]
    have h1 : ∀ x ∈ xs.take i, sEq x.name s = false := by
      intro x hx
      obtain ⟨k, hk⟩ := List.getElem?_of_mem hx
      rw [List.getElem?_take] at hk
      split at hk
      · rename_i hk'
        have := hall k (by omega) hk'
        rw [atI_of (t := .fail) hk] at this
        exact this
      · cases hk
    have h2 : ∀ x ∈ xs.drop (i + 1), sEq x.name s = false := by
      intro x hx
      obtain ⟨k, hk⟩ := List.getElem?_of_mem hx
      rw [List.getElem?_drop] at hk
      have hkl := el_lt hk
      have hck := h (i + 1 + k) (by omega) (by omega)
      rw [Bool.eq_false_iff]
      intro hq
      have hq := sEq_iff.1 hq
      simp only [failC, Bool.and_eq_true, atI_of (t := .fail) hk, hq] at hck
      have h3 := hck.2.1
      have hfa : failAt xs s = (i : Int) := by unfold failAt; rw [hO]; rfl
      rw [hfa] at h3
      have hne : ((i : Int) != ((i + 1 + k : Nat) : Int)) = true := by simp only [bne_iff_ne]; omega
      rw [hne] at h3
      cases h3
    have hset : ∀ y, xs.set i y = xs.take i ++ y :: xs.drop (i + 1) := fun y => by rw [List.set_eq_take_append_cons_drop, if_pos hi]
    have hdel : delL xs (i : Int) ((i + 1 : Nat) : Int) = xs.take i ++ xs.drop (i + 1) := by simp only [delL, Int.toNat_natCast]
    simp only [hset, hdel]
    generalize xs.take i = A at hsplit h1
    generalize xs.drop (i + 1) = B at hsplit h2
    generalize atI (t := .fail) xs i = y at hsplit hname hci
    subst hsplit
    rw [List.foldl_append, failed_none h1, List.foldl_cons]
    obtain ⟨ny, nn⟩ := y
    simp only at hname hci
    subst hname
    have hw : IntKind.wrap .i64 (nn + (1 : Int)) = nn + 1 := wrap_id (by omega) (by omega)
    have hnz : (nn == (0 : Int)) = false := by rw [beq_eq_false_iff_ne]; omega
    have hself : sEq ny ny = true := sEq_self ny
    cases ok
    · have : failedF ny false ((0 : Int), [] ++ A) ⟨ny, nn⟩ = (nn, A ++ [⟨ny, minI (nn + 1) 20⟩]) := by simp [failedF, hself, hw]
      rw [this, failed_none h2]
      simp [hnz]
    · have : failedF ny true ((0 : Int), [] ++ A) ⟨ny, nn⟩ = (nn, A) := by simp [failedF, hself]
      rw [this, failed_none h2]
      simp [hnz]
theorem failedI_sm {xs : List FailT} {s : ByteArray} {ok : Bool} (h : smL sm_fail xs = true) (hs : smStr s = true) (hl : xs.length < 1048576) : smL sm_fail (failedI xs s ok) = true := by
  unfold failedI
  cases hO : failO xs s with
  | none =>
    cases ok
    · exact smL_snoc h (by simp only [sm_fail, Bool.and_eq_true]; exact ⟨hs, by decide⟩) hl
    · exact h
  | some i =>
    have hi := failO_lt hO
    cases ok
    · simp only [cond_false]
      have hx := List.all_eq_true.1 (smL_all h) (atI (t := .fail) xs i) (List.mem_of_getElem? (atI_lt (t := .fail) hi))
      have hl' := h
      simp only [smL, Bool.and_eq_true] at hl' ⊢
      refine ⟨by rw [List.length_set]; exact hl'.1, List.all_eq_true.2 fun x hx' => ?_⟩
      rcases List.mem_or_eq_of_mem_set hx' with hm | rfl
      · exact List.all_eq_true.1 hl'.2 x hm
      · simp only [sm_fail, Bool.and_eq_true, okI_iff] at hx ⊢
        refine ⟨hx.1, ?_⟩
        unfold minI
        split <;> omega
    · simp only [cond_true, delL, Int.toNat_natCast]
      refine smL_sub h (fun x hx => ?_) (by simp; omega)
      rcases List.mem_append.1 hx with hx | hx
      · exact List.mem_of_mem_take hx
      · exact List.mem_of_mem_drop hx

/-! ### what was looked at -/
def doneW (w : WorkT) (s : ByteArray) (ok : Bool) : WorkT := ⟨cond (isIn w.again s || !ok) (w.list ++ [s]) w.list, butName w.busy s, butName w.again s, failedI w.fails s ok⟩
def workDone (w : WorkT) (s : ByteArray) (ok : Bool) : WorkT × Bool :=
  cond (workQOk w) (cond (isIn w.busy s) (cond (workQOk (doneW w s ok)) (doneW w s ok, true) (w, false)) (w, false)) (w, false)
def gDoneW (w : WorkT) (s : ByteArray) (_ : Bool) : Bool := sm_work w && smStr s
theorem qOk_allF {w : WorkT} (h : workQOk w = true) : allN (failC w.fails) 0 w.fails.length = true := by
  simp only [workQOk, Bool.and_eq_true] at h; exact h.2.2.2.2.2.2
theorem qOk_apart {w : WorkT} {s : ByteArray} (h : workQOk w = true) (hb : isIn w.busy s = true) : isIn w.list s = false := by
  simp only [workQOk, Bool.and_eq_true, Bool.not_eq_true'] at h
  have h1 := h.2.2.2.2.1
  unfold inBusyAny at h1
  rw [List.any_eq_false] at h1
  rw [Bool.eq_false_iff]
  intro hq
  unfold isIn at hq
  rw [List.any_eq_true] at hq
  obtain ⟨x, hx, he⟩ := hq
  have := sEq_iff.1 he
  subst this
  exact h1 x hx hb
theorem doneW_sm {w : WorkT} {s : ByteArray} {ok : Bool} (h : sm_work w = true) (hs : smStr s = true) (hq : workQOk w = true) : sm_work (doneW w s ok) = true := by
  have hl := qOk_len hq
  have hf := qOk_fails hq
  simp only [sm_work, Bool.and_eq_true] at h
  simp only [doneW, sm_work, Bool.and_eq_true]
  refine ⟨?_, smL_filter h.2.1, smL_filter h.2.2.1, failedI_sm h.2.2.2 hs (by omega)⟩
  cases (isIn w.again s || !ok)
  · exact h.1
  · exact smL_snoc h.1 hs hl.1
theorem workDone_sm {w : WorkT} {s : ByteArray} {ok : Bool} (h : sm_work w = true) (hs : smStr s = true) : sm_work (workDone w s ok).1 = true := by
  unfold workDone
  cases hq : workQOk w with
  | false => exact h
  | true =>
    have := doneW_sm (ok := ok) h hs hq
    cases isIn w.busy s <;> cases workQOk (doneW w s ok) <;> assumption
theorem done_fin {R : Type} {k : List Dt → Option R} {w N : WorkT} {s : ByteArray} {ok : Bool} (hq : workQOk w = true) (hb : isIn w.busy s = true) (h : sm_work w = true) (hs : smStr s = true) (hN : N = doneW w s ok) :
    cond (sm_work N) (cond (!(workQOk N)) (k [.d .work w, .d .bool false]) (k [.d .work N, .d .bool true])) none = k [.d .work (workDone w s ok).1, .d .bool (workDone w s ok).2] := by
  subst hN
  unfold workDone
  rw [doneW_sm h hs hq, hq, hb]
  simp only [cond_true]
  cases workQOk (doneW w s ok) <;> rfl
theorem gDel_one {α : Type} {xs : List α} {i : Nat} (h : i < xs.length) : gDel xs (i : Int) ((i + 1 : Nat) : Int) = true := by
  simp only [gDel, Bool.and_eq_true, decide_eq_true_eq]; omega
theorem isIn_snoc (xs : List ByteArray) (s : ByteArray) : isIn (xs ++ [s]) s = true := by
  simp [isIn, sEq_self]
end Go.Gm

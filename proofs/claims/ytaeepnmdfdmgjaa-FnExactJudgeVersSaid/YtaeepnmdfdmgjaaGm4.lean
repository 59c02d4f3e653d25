/- The G-machine, part 4: an evaluator of translated code on typed values, and that it is sound. No conditions. -/
import Derived.Test.YtaeepnmdfdmgjaaGm3
import Derived.Shelf.Strings.OnBuilder
import Derived.Laws.Cover4
/- Plain functions: picks. -/
namespace Go.Gm
open Go

def inR (x lo hi : Int) : Bool := decide (x ≥ lo) && decide (x ≤ hi)
def letter (c : Int) : Bool := (decide (c ≥ (97 : Int)) && decide (c ≤ (122 : Int))) || (decide (c ≥ (65 : Int)) && decide (c ≤ (90 : Int)))
def digit (c : Int) : Bool := decide (c ≥ (48 : Int)) && decide (c ≤ (57 : Int))
def idxB (s : ByteArray) (c : Int) : Int := Lib.indexByte s.data.toList c.toNat.toUInt8
def byteAt (s : ByteArray) (j : Nat) : Int := (((ByteArray.data s).getD j 0).toNat : Int)
/-- One sign of a plain text. -/
def plainC (i c : Int) : Bool := letter c || (!(i == (0 : Int)) && (digit c || ((c == (95 : Int)) || ((c == (46 : Int)) || ((c == (47 : Int)) || (c == (45 : Int)))))))
noncomputable def plainOk (s : ByteArray) : Bool :=
  allN (fun j => plainC (j : Int) (byteAt s j)) 0 s.size && (inR (s.size : Int) 1 60 && (!(sEq s (bs [110,117,108,108])) && (!(sEq s (bs [116,114,117,101])) && !(sEq s (bs [102,97,108,115,101])))))
theorem idx4 {n : Nat} (h : n < 256) : decide (idxB (bs [95,46,47,45]) (n : Int) < 0) = !(((n : Int) == (95 : Int)) || (((n : Int) == (46 : Int)) || (((n : Int) == (47 : Int)) || ((n : Int) == (45 : Int))))) := by
  have h1 : (List.range 256).all (fun n => decide (idxB (bs [95,46,47,45]) (n : Int) < 0) == !(((n : Int) == (95 : Int)) || (((n : Int) == (46 : Int)) || (((n : Int) == (47 : Int)) || ((n : Int) == (45 : Int)))))) = true := by kernel_rfl
  exact beq_iff_eq.1 (List.all_eq_true.1 h1 n (List.mem_range.2 h))
theorem idxM {n j : Nat} (h : j < n) (h0 : 0 < j) (hb : n ≤ 9223372036854775807) : IntKind.wrap .i64 ((j : Int) - (1 : Int)) = ((j - 1 : Nat) : Int) := by
  rw [wrap_id (by omega) (by omega)]; omega
/-- One value of a row of them: it is plain and above the one ahead of it. -/
noncomputable def valC (xs : List ByteArray) (j : Nat) : Bool := plainOk (atI (t := .str) xs j) && (!(decide ((j : Int) > (0 : Int))) || sLt (atI (t := .str) xs (j - 1)) (atI (t := .str) xs j))
noncomputable def valsOk (xs : List ByteArray) : Bool := allN (valC xs) 0 xs.length
noncomputable def pickOk (p : PickT) : Bool :=
  valsOk p.vals && (plainOk p.key && (((p.op == (1 : Int) || p.op == (2 : Int)) && inR (p.vals.length : Int) 1 1) || (((p.op == (3 : Int) || p.op == (4 : Int)) && inR (p.vals.length : Int) 1 4) || ((p.op == (5 : Int) || p.op == (6 : Int)) && inR (p.vals.length : Int) 0 0))))
/-! ### what is read is not too long -/
theorem okStr_w {s : ByteArray} (h : WideC (.v (.string s))) : okStr s = true := by
  cases h with
  | str h => exact Nat.ble_eq_true_of_le h
theorem okL_w {t : Ty} {xs : List (El t)} {f : El t → Bool} (h : WideC (.l t xs)) (hf : ∀ x, (∀ c ∈ enc t x, WideC c) → f x = true) : okL f xs = true := by
  cases h with
  | lst h hx =>
    unfold okL
    rw [Nat.ble_eq_true_of_le (show xs.length ≤ WIDE from h), Bool.true_and, List.all_eq_true]
    exact fun x hm => hf x (hx x hm)
end Go.Gm

/- Plain functions and laws of all structs: sizes, sameness. Printed by mkp3.py of this session. -/
namespace Go.Gm
open Go

def okI (n : Int) : Bool := decide (-9223372036854775808 ≤ n) && decide (n ≤ 9223372036854775807)
theorem okI_iff {n : Int} : okI n = true ↔ -9223372036854775808 ≤ n ∧ n ≤ 9223372036854775807 := by simp [okI]
theorem okI_w {n : Int} (h : WideC (.v (.int .i64 n))) : okI n = true := by
  cases h with
  | int h2 =>
    simp only [Lit.wf, Bool.and_eq_true, decide_eq_true_eq] at h2
    have e1 : IntKind.i64.min = -9223372036854775808 := rfl
    have e2 : IntKind.i64.max = 9223372036854775807 := rfl
    rw [okI_iff]; omega
def smStr (s : ByteArray) : Bool := Nat.ble s.size 1048576
def smL {α : Type} (f : α → Bool) (xs : List α) : Bool := Nat.ble xs.length 1048576 && xs.all f
theorem smStr_of {s : ByteArray} (h : s.size ≤ 1048576) : smStr s = true := Nat.ble_eq_true_of_le h
theorem sum_le {α : Type} (g : α → Nat) : ∀ {xs : List α} {x : α}, x ∈ xs → g x ≤ (xs.map g).sum
  | y :: ys, x, h => by
    simp only [List.map_cons, List.sum_cons]
    rcases List.mem_cons.1 h with rfl | h
    · exact Nat.le_add_right _ _
    · exact Nat.le_trans (sum_le g h) (Nat.le_add_left _ _)
theorem smL_of {α : Type} {f e : α → Bool} {g : α → Nat} {xs : List α} (hw : okL e xs = true) (h : szL g xs ≤ 1048576) (hf : ∀ x, e x = true → g x ≤ 1048576 → f x = true) : smL f xs = true := by
  simp only [okL, Bool.and_eq_true] at hw
  unfold smL
  have h1 := szL_ge g xs
  rw [Nat.ble_eq_true_of_le (by omega : xs.length ≤ 1048576), Bool.true_and, List.all_eq_true]
  intro x hx
  refine hf x (List.all_eq_true.1 hw.2 x hx) (Nat.le_trans (sum_le g hx) ?_)
  have : szL g xs = xs.length + (xs.map g).sum := rfl
  omega
theorem okStr_sm {s : ByteArray} (h : smStr s = true) : okStr s = true := Nat.ble_eq_true_of_le (Nat.le_trans (bleN h) (by decide))
theorem smL_len {α : Type} {f : α → Bool} {xs : List α} (h : smL f xs = true) : xs.length ≤ 1048576 := by
  simp only [smL, Bool.and_eq_true] at h; exact bleN h.1
theorem smL_all {α : Type} {f : α → Bool} {xs : List α} (h : smL f xs = true) : xs.all f = true := by
  simp only [smL, Bool.and_eq_true] at h; exact h.2
def same {α : Type} (x : α) : α := x
def sm2 {α : Type} (f : α → Bool) (x y : α) : Bool := f x && f y
theorem smL_at {t : Ty} {f : El t → Bool} {xs : List (El t)} (h : smL f xs = true) {j : Nat} (hj : j < xs.length) : f (atI xs j) = true := by
  obtain ⟨x, hx, _⟩ := drop_get hj
  rw [atI_of hx]; exact List.all_eq_true.1 (smL_all h) x (List.mem_of_getElem? hx)
def ok_metric (x : MetricT) : Bool := (okStr x.name && (okI x.kind && okI x.goal))
def sm_metric (x : MetricT) : Bool := (smStr x.name && (okI x.kind && okI x.goal))
def szN_metric (x : MetricT) : Nat := x.name.size
def gz_metric (x : MetricT) (n : Int) : Bool := ok_metric x && okN n
def z_metric (x : MetricT) (n : Int) : Int := szI (szN_metric x) n
def gzL_metric (x : List MetricT) (n : Int) : Bool := okL ok_metric x && okN n
def zL_metric (x : List MetricT) (n : Int) : Int := szI (szL szN_metric x) n
theorem ok_metric_w {x : MetricT} (h : ∀ c ∈ enc .metric x, WideC c) : ok_metric x = true := by
  unfold ok_metric
  rw [okStr_w (h (.v (.string x.name)) (by simp [enc, encMetricT])), okI_w (h (.v (.int .i64 x.kind)) (by simp [enc, encMetricT])), okI_w (h (.v (.int .i64 x.goal)) (by simp [enc, encMetricT]))]; rfl
theorem sm_metric_of {x : MetricT} (hw : ok_metric x = true) (h : szN_metric x ≤ 1048576) : sm_metric x = true := by
  unfold szN_metric at h
  simp only [ok_metric, Bool.and_eq_true] at hw
  obtain ⟨h0, h1, h2⟩ := hw
  unfold sm_metric
  rw [smStr_of (s := x.name) (by omega), h1, h2]; rfl
theorem eqD_metric (a b : MetricT) : eqD a b = (sEq a.name b.name && ((a.kind == b.kind) && (a.goal == b.goal))) := by
  cases a; cases b
  rw [Bool.eq_iff_iff]; simp [eqD_iff, sEq_iff]
def ok_pace (x : PaceT) : Bool := (okI x.up && (okI x.down && (okI x.upSpan && okI x.downSpan)))
def sm_pace (x : PaceT) : Bool := (okI x.up && (okI x.down && (okI x.upSpan && okI x.downSpan)))
def szN_pace (_x : PaceT) : Nat := 0
theorem ok_pace_w {x : PaceT} (h : ∀ c ∈ enc .pace x, WideC c) : ok_pace x = true := by
  unfold ok_pace
  rw [okI_w (h (.v (.int .i64 x.up)) (by simp [enc, encPaceT])), okI_w (h (.v (.int .i64 x.down)) (by simp [enc, encPaceT])), okI_w (h (.v (.int .i64 x.upSpan)) (by simp [enc, encPaceT])), okI_w (h (.v (.int .i64 x.downSpan)) (by simp [enc, encPaceT]))]; rfl
theorem sm_pace_of {x : PaceT} (hw : ok_pace x = true) (h : szN_pace x ≤ 1048576) : sm_pace x = true := by
  unfold szN_pace at h
  simp only [ok_pace, Bool.and_eq_true] at hw
  obtain ⟨h0, h1, h2, h3⟩ := hw
  unfold sm_pace
  rw [h0, h1, h2, h3]; rfl
theorem eqD_pace (a b : PaceT) : eqD a b = ((a.up == b.up) && ((a.down == b.down) && ((a.upSpan == b.upSpan) && (a.downSpan == b.downSpan)))) := by
  cases a; cases b
  rw [Bool.eq_iff_iff]; simp [eqD_iff, sEq_iff]
def ok_note (x : NoteT) : Bool := (okStr x.key && okStr x.text)
def sm_note (x : NoteT) : Bool := (smStr x.key && smStr x.text)
def szN_note (x : NoteT) : Nat := x.key.size + x.text.size
def gz_note (x : NoteT) (n : Int) : Bool := ok_note x && okN n
def z_note (x : NoteT) (n : Int) : Int := szI (szN_note x) n
def gzL_note (x : List NoteT) (n : Int) : Bool := okL ok_note x && okN n
def zL_note (x : List NoteT) (n : Int) : Int := szI (szL szN_note x) n
theorem ok_note_w {x : NoteT} (h : ∀ c ∈ enc .note x, WideC c) : ok_note x = true := by
  unfold ok_note
  rw [okStr_w (h (.v (.string x.key)) (by simp [enc, encNoteT])), okStr_w (h (.v (.string x.text)) (by simp [enc, encNoteT]))]; rfl
theorem sm_note_of {x : NoteT} (hw : ok_note x = true) (h : szN_note x ≤ 1048576) : sm_note x = true := by
  unfold szN_note at h
  simp only [ok_note, Bool.and_eq_true] at hw
  obtain ⟨h0, h1⟩ := hw
  unfold sm_note
  rw [smStr_of (s := x.key) (by omega), smStr_of (s := x.text) (by omega)]; rfl
theorem eqD_note (a b : NoteT) : eqD a b = (sEq a.key b.key && sEq a.text b.text) := by
  cases a; cases b
  rw [Bool.eq_iff_iff]; simp [eqD_iff, sEq_iff]
def ok_order (x : OrderT) : Bool := (okStr x.name && (okStr x.target && (okI x.low && (okI x.high && (okL ok_metric x.metrics && (ok_pace x.pace && okL ok_note x.notes))))))
def sm_order (x : OrderT) : Bool := (smStr x.name && (smStr x.target && (okI x.low && (okI x.high && (smL sm_metric x.metrics && (sm_pace x.pace && smL sm_note x.notes))))))
def szN_order (x : OrderT) : Nat := x.name.size + x.target.size + szL szN_metric x.metrics + szN_pace x.pace + szL szN_note x.notes
def gz_order (x : OrderT) (n : Int) : Bool := ok_order x && okN n
def z_order (x : OrderT) (n : Int) : Int := szI (szN_order x) n
theorem ok_order_w {x : OrderT} (h : ∀ c ∈ enc .order x, WideC c) : ok_order x = true := by
  unfold ok_order
  rw [okStr_w (h (.v (.string x.name)) (by simp [enc, encOrderT])), okStr_w (h (.v (.string x.target)) (by simp [enc, encOrderT])), okI_w (h (.v (.int .i64 x.low)) (by simp [enc, encOrderT])), okI_w (h (.v (.int .i64 x.high)) (by simp [enc, encOrderT])), okL_w (t := .metric) (f := ok_metric) (h (.l .metric x.metrics) (by simp [enc, encOrderT])) (fun _ hx => ok_metric_w hx), ok_pace_w (x := x.pace) (fun c hc => by simp only [enc, encPaceT, List.mem_cons, List.not_mem_nil, or_false] at hc; exact h c (by simp only [enc, encOrderT, List.mem_cons, List.not_mem_nil, or_false]; rcases hc with rfl | rfl | rfl | rfl <;> simp)), okL_w (t := .note) (f := ok_note) (h (.l .note x.notes) (by simp [enc, encOrderT])) (fun _ hx => ok_note_w hx)]; rfl
theorem sm_order_of {x : OrderT} (hw : ok_order x = true) (h : szN_order x ≤ 1048576) : sm_order x = true := by
  unfold szN_order at h
  simp only [ok_order, Bool.and_eq_true] at hw
  obtain ⟨h0, h1, h2, h3, h4, h5, h6⟩ := hw
  unfold sm_order
  rw [smStr_of (s := x.name) (by omega), smStr_of (s := x.target) (by omega), h2, h3, smL_of (f := sm_metric) (g := szN_metric) (xs := x.metrics) h4 (by omega) (fun _ hw hx => sm_metric_of hw hx), sm_pace_of (x := x.pace) h5 (by omega), smL_of (f := sm_note) (g := szN_note) (xs := x.notes) h6 (by omega) (fun _ hw hx => sm_note_of hw hx)]; rfl
theorem eqD_order (a b : OrderT) : eqD a b = (sEq a.name b.name && (sEq a.target b.target && ((a.low == b.low) && ((a.high == b.high) && (eqD a.metrics b.metrics && (eqD a.pace b.pace && eqD a.notes b.notes)))))) := by
  cases a; cases b
  rw [Bool.eq_iff_iff]; simp [eqD_iff, sEq_iff]
def ok_item (x : ItemT) : Bool := (ok_order x.order && okI x.ver)
def sm_item (x : ItemT) : Bool := (sm_order x.order && okI x.ver)
def szN_item (x : ItemT) : Nat := szN_order x.order
def gz_item (x : ItemT) (n : Int) : Bool := ok_item x && okN n
def z_item (x : ItemT) (n : Int) : Int := szI (szN_item x) n
def gzL_item (x : List ItemT) (n : Int) : Bool := okL ok_item x && okN n
def zL_item (x : List ItemT) (n : Int) : Int := szI (szL szN_item x) n
theorem ok_item_w {x : ItemT} (h : ∀ c ∈ enc .item x, WideC c) : ok_item x = true := by
  unfold ok_item
  rw [ok_order_w (x := x.order) (fun c hc => by simp only [enc, encOrderT, List.mem_cons, List.not_mem_nil, or_false] at hc; exact h c (by simp only [enc, encItemT, List.mem_cons, List.not_mem_nil, or_false]; rcases hc with rfl | rfl | rfl | rfl | rfl | rfl | rfl | rfl | rfl | rfl <;> simp)), okI_w (h (.v (.int .i64 x.ver)) (by simp [enc, encItemT]))]; rfl
theorem sm_item_of {x : ItemT} (hw : ok_item x = true) (h : szN_item x ≤ 1048576) : sm_item x = true := by
  unfold szN_item at h
  simp only [ok_item, Bool.and_eq_true] at hw
  obtain ⟨h0, h1⟩ := hw
  unfold sm_item
  rw [sm_order_of (x := x.order) h0 (by omega), h1]; rfl
theorem eqD_item (a b : ItemT) : eqD a b = (eqD a.order b.order && (a.ver == b.ver)) := by
  cases a; cases b
  rw [Bool.eq_iff_iff]; simp [eqD_iff, sEq_iff]
def ok_store (x : StoreT) : Bool := (okL ok_item x.items && okI x.next)
def sm_store (x : StoreT) : Bool := (smL sm_item x.items && okI x.next)
def szN_store (x : StoreT) : Nat := szL szN_item x.items
def gz_store (x : StoreT) (n : Int) : Bool := ok_store x && okN n
def z_store (x : StoreT) (n : Int) : Int := szI (szN_store x) n
theorem ok_store_w {x : StoreT} (h : ∀ c ∈ enc .store x, WideC c) : ok_store x = true := by
  unfold ok_store
  rw [okL_w (t := .item) (f := ok_item) (h (.l .item x.items) (by simp [enc, encStoreT])) (fun _ hx => ok_item_w hx), okI_w (h (.v (.int .i64 x.next)) (by simp [enc, encStoreT]))]; rfl
theorem sm_store_of {x : StoreT} (hw : ok_store x = true) (h : szN_store x ≤ 1048576) : sm_store x = true := by
  unfold szN_store at h
  simp only [ok_store, Bool.and_eq_true] at hw
  obtain ⟨h0, h1⟩ := hw
  unfold sm_store
  rw [smL_of (f := sm_item) (g := szN_item) (xs := x.items) h0 (by omega) (fun _ hw hx => sm_item_of hw hx), h1]; rfl
theorem eqD_store (a b : StoreT) : eqD a b = (eqD a.items b.items && (a.next == b.next)) := by
  cases a; cases b
  rw [Bool.eq_iff_iff]; simp [eqD_iff, sEq_iff]
def ok_rcd (x : RcdT) : Bool := (okI x.time && okI x.n)
def sm_rcd (x : RcdT) : Bool := (okI x.time && okI x.n)
def szN_rcd (_x : RcdT) : Nat := 0
def gzL_rcd (x : List RcdT) (n : Int) : Bool := okL ok_rcd x && okN n
def zL_rcd (x : List RcdT) (n : Int) : Int := szI (szL szN_rcd x) n
theorem ok_rcd_w {x : RcdT} (h : ∀ c ∈ enc .rcd x, WideC c) : ok_rcd x = true := by
  unfold ok_rcd
  rw [okI_w (h (.v (.int .i64 x.time)) (by simp [enc, encRcdT])), okI_w (h (.v (.int .i64 x.n)) (by simp [enc, encRcdT]))]; rfl
theorem sm_rcd_of {x : RcdT} (hw : ok_rcd x = true) (h : szN_rcd x ≤ 1048576) : sm_rcd x = true := by
  unfold szN_rcd at h
  simp only [ok_rcd, Bool.and_eq_true] at hw
  obtain ⟨h0, h1⟩ := hw
  unfold sm_rcd
  rw [h0, h1]; rfl
theorem eqD_rcd (a b : RcdT) : eqD a b = ((a.time == b.time) && (a.n == b.n)) := by
  cases a; cases b
  rw [Bool.eq_iff_iff]; simp [eqD_iff, sEq_iff]
def ok_scale (x : ScaleT) : Bool := (okStr x.name && (okI x.now && okL ok_rcd x.recs))
def sm_scale (x : ScaleT) : Bool := (smStr x.name && (okI x.now && smL sm_rcd x.recs))
def szN_scale (x : ScaleT) : Nat := x.name.size + szL szN_rcd x.recs
def gz_scale (x : ScaleT) (n : Int) : Bool := ok_scale x && okN n
def z_scale (x : ScaleT) (n : Int) : Int := szI (szN_scale x) n
def gzL_scale (x : List ScaleT) (n : Int) : Bool := okL ok_scale x && okN n
def zL_scale (x : List ScaleT) (n : Int) : Int := szI (szL szN_scale x) n
theorem ok_scale_w {x : ScaleT} (h : ∀ c ∈ enc .scale x, WideC c) : ok_scale x = true := by
  unfold ok_scale
  rw [okStr_w (h (.v (.string x.name)) (by simp [enc, encScaleT])), okI_w (h (.v (.int .i64 x.now)) (by simp [enc, encScaleT])), okL_w (t := .rcd) (f := ok_rcd) (h (.l .rcd x.recs) (by simp [enc, encScaleT])) (fun _ hx => ok_rcd_w hx)]; rfl
theorem sm_scale_of {x : ScaleT} (hw : ok_scale x = true) (h : szN_scale x ≤ 1048576) : sm_scale x = true := by
  unfold szN_scale at h
  simp only [ok_scale, Bool.and_eq_true] at hw
  obtain ⟨h0, h1, h2⟩ := hw
  unfold sm_scale
  rw [smStr_of (s := x.name) (by omega), h1, smL_of (f := sm_rcd) (g := szN_rcd) (xs := x.recs) h2 (by omega) (fun _ hw hx => sm_rcd_of hw hx)]; rfl
theorem eqD_scale (a b : ScaleT) : eqD a b = (sEq a.name b.name && ((a.now == b.now) && eqD a.recs b.recs)) := by
  cases a; cases b
  rw [Bool.eq_iff_iff]; simp [eqD_iff, sEq_iff]
def ok_told (x : ToldT) : Bool := (okI x.time && (okStr x.name && okI x.n))
def sm_told (x : ToldT) : Bool := (okI x.time && (smStr x.name && okI x.n))
def szN_told (x : ToldT) : Nat := x.name.size
def gz_told (x : ToldT) (n : Int) : Bool := ok_told x && okN n
def z_told (x : ToldT) (n : Int) : Int := szI (szN_told x) n
def gzL_told (x : List ToldT) (n : Int) : Bool := okL ok_told x && okN n
def zL_told (x : List ToldT) (n : Int) : Int := szI (szL szN_told x) n
theorem ok_told_w {x : ToldT} (h : ∀ c ∈ enc .told x, WideC c) : ok_told x = true := by
  unfold ok_told
  rw [okI_w (h (.v (.int .i64 x.time)) (by simp [enc, encToldT])), okStr_w (h (.v (.string x.name)) (by simp [enc, encToldT])), okI_w (h (.v (.int .i64 x.n)) (by simp [enc, encToldT]))]; rfl
theorem sm_told_of {x : ToldT} (hw : ok_told x = true) (h : szN_told x ≤ 1048576) : sm_told x = true := by
  unfold szN_told at h
  simp only [ok_told, Bool.and_eq_true] at hw
  obtain ⟨h0, h1, h2⟩ := hw
  unfold sm_told
  rw [h0, smStr_of (s := x.name) (by omega), h2]; rfl
theorem eqD_told (a b : ToldT) : eqD a b = ((a.time == b.time) && (sEq a.name b.name && (a.n == b.n))) := by
  cases a; cases b
  rw [Bool.eq_iff_iff]; simp [eqD_iff, sEq_iff]
def ok_world (x : WorldT) : Bool := (ok_store x.store && (okL ok_scale x.scales && (okI x.time && okL ok_told x.log)))
def sm_world (x : WorldT) : Bool := (sm_store x.store && (smL sm_scale x.scales && (okI x.time && smL sm_told x.log)))
def szN_world (x : WorldT) : Nat := szN_store x.store + szL szN_scale x.scales + szL szN_told x.log
def gz_world (x : WorldT) (n : Int) : Bool := ok_world x && okN n
def z_world (x : WorldT) (n : Int) : Int := szI (szN_world x) n
theorem ok_world_w {x : WorldT} (h : ∀ c ∈ enc .world x, WideC c) : ok_world x = true := by
  unfold ok_world
  rw [ok_store_w (x := x.store) (fun c hc => by simp only [enc, encStoreT, List.mem_cons, List.not_mem_nil, or_false] at hc; exact h c (by simp only [enc, encWorldT, List.mem_cons, List.not_mem_nil, or_false]; rcases hc with rfl | rfl <;> simp)), okL_w (t := .scale) (f := ok_scale) (h (.l .scale x.scales) (by simp [enc, encWorldT])) (fun _ hx => ok_scale_w hx), okI_w (h (.v (.int .i64 x.time)) (by simp [enc, encWorldT])), okL_w (t := .told) (f := ok_told) (h (.l .told x.log) (by simp [enc, encWorldT])) (fun _ hx => ok_told_w hx)]; rfl
theorem sm_world_of {x : WorldT} (hw : ok_world x = true) (h : szN_world x ≤ 1048576) : sm_world x = true := by
  unfold szN_world at h
  simp only [ok_world, Bool.and_eq_true] at hw
  obtain ⟨h0, h1, h2, h3⟩ := hw
  unfold sm_world
  rw [sm_store_of (x := x.store) h0 (by omega), smL_of (f := sm_scale) (g := szN_scale) (xs := x.scales) h1 (by omega) (fun _ hw hx => sm_scale_of hw hx), h2, smL_of (f := sm_told) (g := szN_told) (xs := x.log) h3 (by omega) (fun _ hw hx => sm_told_of hw hx)]; rfl
theorem eqD_world (a b : WorldT) : eqD a b = (eqD a.store b.store && (eqD a.scales b.scales && ((a.time == b.time) && eqD a.log b.log))) := by
  cases a; cases b
  rw [Bool.eq_iff_iff]; simp [eqD_iff, sEq_iff]
end Go.Gm

/- Plain functions: what is to be looked at. -/
namespace Go.Gm
open Go

def firstN (p : Nat → Bool) : Nat → Nat → Option Nat
  | _, 0 => none
  | j, d + 1 => cond (p j) (some j) (firstN p (j + 1) d)
theorem loop_find {R : Type} {F : Nat → Int → Option R} {n : Nat} {p : Nat → Bool} {hit : Int → Option R} {miss : Option R} (hs : ∀ m j, j < n → F (m + 1) (j : Int) = cond (p j) (hit (j : Int)) (F m ((j + 1 : Nat) : Int)))
    (he : ∀ m, F (m + 1) (n : Int) = miss) : ∀ d j m, j + d = n → d < m → F m (j : Int) = (firstN p j d).elim miss (fun i => hit (i : Int)) := by
  intro d
  induction d with
  | zero =>
    intro j m hj hm
    obtain ⟨m, rfl⟩ : ∃ m', m = m' + 1 := ⟨m - 1, by omega⟩
    have : j = n := by omega
    subst this
    rw [he]; rfl
  | succ d ih =>
    intro j m hj hm
    obtain ⟨m, rfl⟩ : ∃ m', m = m' + 1 := ⟨m - 1, by omega⟩
    rw [hs m j (by omega), ih (j + 1) m (by omega) (by omega)]
    simp only [firstN]
    cases p j <;> rfl
/-- A place as a number; -1 without one. -/
def plc (o : Option Nat) : Int := o.elim (-1) fun i => (i : Int)

end Go.Gm

/- Contracts of library functions that are not walked by the evaluator: one plain result, what was there stays. -/
namespace Go.Gm
open Go

variable {w w' : World} {Mf ROa : Nat → Prop}

end Go.Gm

/- Contracts of functions that call themselves, by a measure. -/
namespace Go.Gm
open Go

abbrev Q := List Dt → Option (Bool × List Dt)
end Go.Gm

/- Plain laws: numbers as texts, joined texts. -/
namespace Go.Gm
open Go

theorem inR_iff {c l h : Int} : inR c l h = true ↔ l ≤ c ∧ c ≤ h := by unfold inR; simp
end Go.Gm

/- Plain functions: picks, their texts, what they fit. -/
namespace Go.Gm
open Go

def gLenW {α : Type} (x : List α) : Bool := Nat.ble x.length WIDE
theorem gLenW_le {α : Type} {x : List α} (h : gLenW x = true) : x.length ≤ 9223372036854775807 := bleN h
theorem gLenW_of {α : Type} {x : List α} (h : x.length ≤ 9223372036854775807) : gLenW x = true := Nat.ble_eq_true_of_le h
/-! ### the first one -/
theorem firstN_drop {t : Ty} {q : El t → Bool} {xs : List (El t)} : ∀ (d j : Nat), j + d = xs.length →
    (firstN (fun j => q (atI xs j)) j d).isSome = (xs.drop j).any q ∧ (∀ i, firstN (fun j => q (atI xs j)) j d = some i → (xs.drop j).find? q = some (atI xs i)) ∧ (firstN (fun j => q (atI xs j)) j d = none → (xs.drop j).find? q = none)
  | 0, j, h => by
    have : j = xs.length := by omega
    subst this
    rw [List.drop_length]
    refine ⟨rfl, ?_, fun _ => rfl⟩
    intro i h; cases h
  | d + 1, j, h => by
    obtain ⟨x, hx, hd⟩ := drop_get (show j < xs.length by omega)
    obtain ⟨h1, h2, h3⟩ := firstN_drop (q := q) (xs := xs) d (j + 1) (by omega)
    rw [hd]
    simp only [firstN, atI_of hx, List.any_cons, List.find?_cons]
    cases hq : q x with
    | true => exact ⟨rfl, fun i hi => by cases hi; rw [atI_of hx], fun h => by cases h⟩
    | false => exact ⟨by simpa using h1, h2, h3⟩
theorem firstN_any {t : Ty} (q : El t → Bool) (xs : List (El t)) : (firstN (fun j => q (atI xs j)) 0 xs.length).isSome = xs.any q := by
  have := (firstN_drop (q := q) (xs := xs) xs.length 0 (by omega)).1
  rwa [List.drop_zero] at this
theorem plc_ge (o : Option Nat) : decide (plc o ≥ 0) = o.isSome := by
  cases o with
  | none => rfl
  | some i => simp [plc]
/-- The place of the first that is so; -1 without one. -/
def findI {t : Ty} (q : El t → Bool) (xs : List (El t)) : Int := plc (firstN (fun j => q (atI xs j)) 0 xs.length)
theorem findI_ge {t : Ty} (q : El t → Bool) (xs : List (El t)) : decide (findI q xs ≥ 0) = xs.any q := by
  unfold findI; rw [plc_ge, firstN_any]
/-! ### what picks fit -/
def isIn (xs : List ByteArray) (s : ByteArray) : Bool := xs.any fun x => sEq x s
def noteIs (n : NoteT) (p : PickT) : Bool := sEq n.key p.key
/-- What a pick asks is among the notes. -/
def among (p : PickT) (ns : List NoteT) : Bool := (ns.find? fun n => noteIs n p).elim false fun n => isIn p.vals n.text
noncomputable def fits (p : PickT) (ns : List NoteT) : Bool :=
  pickOk p && cond (p.op == (1 : Int) || p.op == (3 : Int)) (among p ns) (cond (p.op == (2 : Int) || p.op == (4 : Int)) (!(among p ns)) (cond (p.op == (5 : Int)) (ns.any fun n => noteIs n p) (!(ns.any fun n => noteIs n p))))
noncomputable def fitsNot (p : PickT) (i : ItemT) : Bool := !(fits p i.order.notes)
noncomputable def fitsNotAny (ps : List PickT) (i : ItemT) : Bool := ps.any fun p => fitsNot p i
noncomputable def chosenStep (ps : List PickT) (out : List ByteArray) (i : ItemT) : List ByteArray := cond (fitsNotAny ps i) out (out ++ [i.order.name])
noncomputable def chosen (s : StoreT) (ps : List PickT) : List ByteArray := s.items.foldl (chosenStep ps) []
end Go.Gm

/- Plain functions and laws: marks that are written into lists one after another, and whether they are held. Printed by mkp7.py of this session. -/
namespace Go.Gm
open Go

def gmk (k : Int) (c : Nat) : Bool := decide (0 ≤ k) && decide (k + (c : Nat) ≤ 4611686018427387904)
theorem gmk_iff {k : Int} {c : Nat} : gmk k c = true ↔ 0 ≤ k ∧ k + (c : Nat) ≤ 4611686018427387904 := by simp [gmk]
theorem gmk_of {k : Int} {c : Nat} (h0 : 0 ≤ k) (h : k + (c : Nat) ≤ 4611686018427387904) : gmk k c = true := gmk_iff.2 ⟨h0, h⟩
theorem decide_ge0 {n : Int} (h : 0 ≤ n) : decide (n < 0) = false := decide_eq_false (by omega)
end Go.Gm

/- Plain laws: what is chosen. -/
namespace Go.Gm
open Go

end Go.Gm

/- Plain functions: names, what is to be looked at. -/
namespace Go.Gm
open Go

def nameC (i c : Int) : Bool := (decide (c ≥ (97 : Int)) && decide (c ≤ (122 : Int))) || (!(i == (0 : Int)) && (digit c || (c == (45 : Int))))
def nameOk (s : ByteArray) : Bool := allN (fun j => nameC (j : Int) (byteAt s j)) 0 s.size && inR (s.size : Int) 1 20
end Go.Gm

/- Plain functions: amounts, orders and worlds as texts. -/
namespace Go.Gm
open Go

end Go.Gm

/- Contracts of two or three functions that call each other, by measures. -/
namespace Go.Gm
open Go

structure Rc where
  f : Nat
  ms : List Am
  rs : List Bool
  ow : Bool
  mu : List Dt → Nat
  q : Q
end Go.Gm

/- Plain functions and laws of trees: nodes and rules. Printed by mkp11.py of this session. -/
namespace Go.Gm
open Go

abbrev eN (x : NodeT) : NodeT := ⟨x.kind, x.n, x.s, x.keys, x.kids⟩
abbrev eR (x : RuleT) : RuleT := ⟨x.kind, x.keys, x.kids, x.need, x.low, x.high⟩
end Go.Gm

/- Plain functions: texts, keys, rules. -/
namespace Go.Gm
open Go

def textOk (s : ByteArray) : Bool := allN (fun j => inR (byteAt s j) 32 126) 0 s.size && decide ((s.size : Int) ≤ 400)
end Go.Gm

/- Contracts of functions of which one argument, the first, comes in cell by cell: its lists are lent, each by itself. -/
namespace Go.Gm
open Go

section ev
variable {R : Type}
def cellsOf : List Am → List Sc → Option (List (Am × Nat × Sv))
  | [], [] => some []
  | .mut :: ms, c :: cs => (cellsOf ms cs).bind fun l => some ((.mut, 0, .c (.one c)) :: l)
  | .skp :: ms, _ :: cs => cellsOf ms cs
  | _, _ => none
end ev

variable {R : Type} {P : Program} {E : Env} {w0 w w' : World} {Mf : Nat → Prop} {g : Gh} {st : St} {a : Act}

end Go.Gm

/- Contracts of library functions that are not walked by the evaluator: one result, the caller's own. -/
namespace Go.Gm
open Go

variable {P : Program} {w w' : World} {Mf ROa : Nat → Prop}

end Go.Gm

/- Plain functions: what is to be looked at, taken and added. -/
namespace Go.Gm
open Go

end Go.Gm

/- Plain laws: marks of structs, list by list; how many there are. Printed by mkp14.py of this session. -/
namespace Go.Gm
open Go

end Go.Gm

/- Plain functions: orders. -/
namespace Go.Gm
open Go

def hasPre (a b : ByteArray) : Bool := decide ((a.size : Int) ≥ (b.size : Int)) && sEq (a.extract 0 b.size) b
def ours (a : ByteArray) : Bool := hasPre a (bs [113,117,97,121,47])
def isMany (n : Int) : Bool := inR n 0 1000
def paceOk (p : PaceT) : Bool := inR p.up 0 1000 && (inR p.down 0 1000 && (inR p.upSpan 0 3600 && inR p.downSpan 0 3600))
def metricOk (m : MetricT) : Bool := nameOk m.name && (inR m.kind 1 3 && inR m.goal 1 1000000)
noncomputable def noteC (xs : List NoteT) (j : Nat) : Bool :=
  plainOk (atI (t := .note) xs j).key && (!(hasPre (atI (t := .note) xs j).key (bs [113,117,97,121,47])) && (textOk (atI (t := .note) xs j).text && (!(decide (((atI (t := .note) xs j).text.size : Int) > 40)) &&
    (!(decide ((j : Int) > 0)) || sLt (atI (t := .note) xs (j - 1)).key (atI (t := .note) xs j).key))))
noncomputable def notesOk (xs : List NoteT) : Bool := allN (noteC xs) 0 xs.length && decide ((xs.length : Int) ≤ 4)
def metC (xs : List MetricT) (j : Nat) : Bool := metricOk (atI (t := .metric) xs j) && (!(decide ((j : Int) > 0)) || sLt (atI (t := .metric) xs (j - 1)).name (atI (t := .metric) xs j).name)
def metsOk (xs : List MetricT) : Bool := allN (metC xs) 0 xs.length && decide ((xs.length : Int) ≤ 4)
noncomputable def orderOk (o : OrderT) : Bool :=
  nameOk o.name && (nameOk o.target && (inR o.low 1 o.high && (decide (o.high ≤ 1000) && (metsOk o.metrics && (paceOk o.pace && notesOk o.notes)))))
theorem eta_pace (x : PaceT) : (⟨x.up, x.down, x.upSpan, x.downSpan⟩ : PaceT) = x := rfl
theorem eta_metric (x : MetricT) : (⟨x.name, x.kind, x.goal⟩ : MetricT) = x := rfl
end Go.Gm

/- Plain functions: what has happened. -/
namespace Go.Gm
open Go

noncomputable def eventC (h : HistT) (j : Nat) : Bool :=
  ((atI (t := .event) h.list j).seq == h.base + 1 + (j : Int)) && (inR (atI (t := .event) h.list j).kind 1 2 && (orderOk (atI (t := .event) h.list j).item.order && inR (atI (t := .event) h.list j).item.ver 1 100000))
noncomputable def histOk (h : HistT) : Bool := inR h.base 0 100000 && (!(decide ((h.list.length : Int) > 60)) && allN (eventC h) 0 h.list.length)
noncomputable def since (h : HistT) (n : Int) : List EventT × Bool := cond (histOk h && inR n h.base (h.base + (h.list.length : Int))) (h.list.drop (n - h.base).toNat, true) ([], false)
end Go.Gm

/- Plain functions: stores, measures and worlds that are right. -/
namespace Go.Gm
open Go

def isTime (n : Int) : Bool := inR n 0 1000000
def rcdC (xs : List RcdT) (j : Nat) : Bool := inR (atI (t := .rcd) xs j).time 0 1000000 && (inR (atI (t := .rcd) xs j).n 0 1000 && (!(decide ((j : Int) > 0)) || !(decide ((atI (t := .rcd) xs (j - 1)).time > (atI (t := .rcd) xs j).time))))
def recsOk (xs : List RcdT) : Bool := allN (rcdC xs) 0 xs.length && decide ((xs.length : Int) ≤ 12)
def scaleOk (s : ScaleT) : Bool := nameOk s.name && (inR s.now 0 1000 && recsOk s.recs)
def verIs (x y : ItemT) : Bool := x.ver == y.ver
def verAt (xs : List ItemT) (y : ItemT) : Int := findI (t := .item) (fun x => verIs x y) xs
def verIn (xs : List ItemT) (y : ItemT) : Bool := xs.any fun x => verIs x y
noncomputable def itemC (xs : List ItemT) (next : Int) (j : Nat) : Bool :=
  orderOk (atI (t := .item) xs j).order && (inR (atI (t := .item) xs j).ver 1 (next - 1) && ((!(decide ((j : Int) > 0)) || sLt (atI (t := .item) xs (j - 1)).order.name (atI (t := .item) xs j).order.name) &&
    !(verIn (xs.take j) (atI (t := .item) xs j))))
noncomputable def storeOk (s : StoreT) : Bool := inR s.next 1 100000 && (decide ((s.items.length : Int) ≤ 6) && allN (itemC s.items s.next) 0 s.items.length)
def lateR (xs : List RcdT) (t : Int) : Bool := decide ((xs.length : Int) > 0) && decide ((atI (t := .rcd) xs (xs.length - 1)).time > t)
def scalC (ss : List ScaleT) (xs : List ItemT) (t : Int) (j : Nat) : Bool :=
  scaleOk (atI (t := .scale) ss j) && (sEq (atI (t := .scale) ss j).name (atI (t := .item) xs j).order.name && !(lateR (atI (t := .scale) ss j).recs t))
def toldC (xs : List ToldT) (t : Int) (j : Nat) : Bool :=
  inR (atI (t := .told) xs j).time 0 t && (nameOk (atI (t := .told) xs j).name && (inR (atI (t := .told) xs j).n 0 1000 && (!(decide ((j : Int) > 0)) || !(decide ((atI (t := .told) xs (j - 1)).time > (atI (t := .told) xs j).time)))))
noncomputable def worldOk (w : WorldT) : Bool :=
  storeOk w.store && (((w.scales.length : Int) == (w.store.items.length : Int)) && (inR w.time 0 1000000 && (allN (scalC w.scales w.store.items w.time) 0 w.scales.length && (allN (toldC w.log w.time) 0 w.log.length && decide ((w.log.length : Int) ≤ 40)))))
noncomputable def logOk (w : WorldT) : Bool := allN (toldC w.log w.time) 0 w.log.length && decide ((w.log.length : Int) ≤ 40)
noncomputable def judgeV (w : WorldT) : Bool := worldOk w && decide (w.store.next - 1 ≥ (w.store.items.length : Int))
theorem eta_world2 (x : WorldT) : (⟨⟨x.store.items, x.store.next⟩, x.scales, x.time, x.log⟩ : WorldT) = x := rfl
theorem allN_drop {t : Ty} (q : El t → Bool) (xs : List (El t)) : ∀ (d j : Nat), j + d ≤ xs.length → allN (fun k => !(q (atI xs k))) j d = !(((xs.drop j).take d).any q)
  | 0, j, _ => by simp [allN]
  | d + 1, j, h => by
    obtain ⟨x, hx, hd⟩ := drop_get (xs := xs) (j := j) (by omega)
    rw [hd, List.take_succ_cons, List.any_cons, allN, allN_drop q xs d (j + 1) (by omega), atI_of hx, Bool.not_or]
theorem allN_take {t : Ty} (q : El t → Bool) (xs : List (El t)) (j : Nat) (h : j ≤ xs.length) : allN (fun k => !(q (atI xs k))) 0 j = !((xs.take j).any q) := by
  have := allN_drop q xs j 0 (by omega)
  rwa [List.drop_zero] at this
theorem storeOk_items {s : StoreT} (h : storeOk s = true) : inR s.next 1 100000 = true ∧ ∀ j, j < s.items.length → itemC s.items s.next j = true := by
  simp only [storeOk, Bool.and_eq_true] at h
  exact ⟨h.1, fun j hj => allN_iff.1 h.2.2 j (by omega) (by omega)⟩
theorem worldOk_store {w : WorldT} (h : worldOk w = true) : storeOk w.store = true := by
  simp only [worldOk, Bool.and_eq_true] at h; exact h.1
theorem itemC_vers {xs : List ItemT} {n : Int} {j : Nat} (h : itemC xs n j = true) (hj : j < xs.length) : (atI (t := .item) xs j).ver ≤ n - 1 ∧ ∀ k, k < j → ((atI (t := .item) xs j).ver == (atI (t := .item) xs k).ver) = false := by
  simp only [itemC, Bool.and_eq_true] at h
  refine ⟨(inR_iff.1 h.2.1).2, fun k hk => ?_⟩
  have h2 := h.2.2.2
  unfold verIn at h2
  rw [← allN_take (t := .item) (fun x => verIs x (atI (t := .item) xs j)) xs j (by omega)] at h2
  have := allN_iff.1 h2 k (by omega) (by omega)
  simp only [verIs, Bool.not_eq_true'] at this
  rw [beq_eq_false_iff_ne] at this ⊢
  exact fun e => this e.symm
end Go.Gm

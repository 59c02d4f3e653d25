/- The G-machine, part 5: an evaluator of translated code on typed values, and that it is sound. No conditions. -/
import Derived.Test.YtalnkjjnohgjkaaGm4
import Derived.Handed
/- Trees that are right: their keys ascend; what is drawn is so, and small. -/
namespace Go.Gm
open Go

theorem less_irr : ∀ l : List UInt8, Op.bytesLess l l = false
  | [] => rfl
  | a :: l => by
    have h : decide (a < a) = false := decide_eq_false (by simp)
    simp [Op.bytesLess, less_irr l, h]
theorem less_tr : ∀ {a b c : List UInt8}, Op.bytesLess a b = true → Op.bytesLess b c = true → Op.bytesLess a c = true
  | _, [], _, h, _ => by cases ‹List UInt8› <;> simp [Op.bytesLess] at h
  | _, _ :: _, [], _, h => by simp [Op.bytesLess] at h
  | [], _ :: _, _ :: _, _, _ => rfl
  | x :: a, y :: b, z :: c, h1, h2 => by
    simp only [Op.bytesLess, Bool.or_eq_true, Bool.and_eq_true, decide_eq_true_eq, beq_iff_eq] at h1 h2 ⊢
    rcases h1 with h1 | ⟨rfl, h1⟩ <;> rcases h2 with h2 | ⟨rfl, h2⟩
    · exact .inl (UInt8.lt_trans h1 h2)
    · exact .inl h1
    · exact .inl h2
    · exact .inr ⟨rfl, less_tr h1 h2⟩
theorem less_tri : ∀ {a b : List UInt8}, Op.bytesLess a b = false → a ≠ b → Op.bytesLess b a = true
  | [], [], _, h => absurd rfl h
  | [], _ :: _, h, _ => by simp [Op.bytesLess] at h
  | _ :: _, [], _, _ => rfl
  | x :: a, y :: b, h, hn => by
    simp only [Op.bytesLess, Bool.or_eq_false_iff, Bool.and_eq_false_iff, decide_eq_false_iff_not, beq_eq_false_iff_ne] at h
    simp only [Op.bytesLess, Bool.or_eq_true, Bool.and_eq_true, decide_eq_true_eq, beq_iff_eq]
    by_cases e : x = y
    · subst e
      refine .inr ⟨rfl, less_tri (h.2.resolve_left (fun h => h rfl)) fun e => hn (by rw [e])⟩
    · have h1 := h.1
      have h1 : ¬ x.toNat < y.toNat := h1
      have h2 : x.toNat ≠ y.toNat := fun h => e (UInt8.toNat_inj.1 h)
      exact .inl (show y.toNat < x.toNat by omega)
theorem bytes_ne {a b : ByteArray} (h : a ≠ b) : a.toList ≠ b.toList := fun e => h (by
  apply sEq_iff.1; unfold sEq; rw [e]; exact beq_self_eq_true _)
theorem sLt_irr (a : ByteArray) : sLt a a = false := less_irr _
theorem sLt_tr {a b c : ByteArray} (h1 : sLt a b = true) (h2 : sLt b c = true) : sLt a c = true := less_tr h1 h2
theorem sLt_tri {a b : ByteArray} (h : sLt a b = false) (hn : a ≠ b) : sLt b a = true := less_tri h (bytes_ne hn)
theorem sLt_asym {a b : ByteArray} (h : sLt a b = true) : sLt b a = false := by
  cases hb : sLt b a with
  | false => rfl
  | true => have := sLt_tr h hb; rw [sLt_irr] at this; cases this

/-- Keys that ascend. -/
def Asc (ks : List ByteArray) : Prop := ks.Pairwise fun a b => sLt a b = true
theorem Asc.inj {ks : List ByteArray} (h : Asc ks) {i j : Nat} {a : ByteArray} (hi : ks[i]? = some a) (hj : ks[j]? = some a) : i = j := by
  have hp := List.pairwise_iff_getElem.1 h
  obtain ⟨h1, e1⟩ := List.getElem?_eq_some_iff.1 hi
  obtain ⟨h2, e2⟩ := List.getElem?_eq_some_iff.1 hj
  rcases Nat.lt_trichotomy i j with hlt | heq | hlt
  · have := hp i j h1 h2 hlt
    rw [e1, e2, sLt_irr] at this; cases this
  · exact heq
  · have := hp j i h2 h1 hlt
    rw [e1, e2, sLt_irr] at this; cases this

inductive Wf : NodeT → Prop where
  | mk {t : NodeT} (h5 : t.kind = 5 → t.keys.length = t.kids.length ∧ Asc t.keys) (h0 : t.kind ≠ 4 → t.kind ≠ 5 → t.kids = []) (hk : t.kind ≠ 5 → t.keys = []) (hs : ∀ x ∈ t.kids, Wf x) : Wf t
theorem Wf.map {t : NodeT} (h : Wf t) : t.kind = 5 → t.keys.length = t.kids.length ∧ Asc t.keys := by cases h; assumption
theorem Wf.nokeys {t : NodeT} (h : Wf t) : t.kind ≠ 5 → t.keys = [] := by cases h; assumption
theorem Wf.kids {t : NodeT} (h : Wf t) : ∀ x ∈ t.kids, Wf x := by cases h; assumption
theorem Wf.of_leaf (t : NodeT) (h : t.kids = []) (h' : t.keys = []) : Wf t := .mk (fun _ => by rw [h, h']; exact ⟨rfl, List.Pairwise.nil⟩) (fun _ _ => h) (fun _ => h') (by rw [h]; simp)
theorem Wf.isMap {t : NodeT} (h : Wf t) (hk : t.kind = 5) : isMapN t = true := by
  unfold isMapN
  rw [hk]
  have := (h.map hk).1
  simp [this]

/-- Where a key comes: ahead of it they are less, from there on they are not. -/
theorem comesAt_spec (keys : List ByteArray) (key : ByteArray) : ∃ i : Nat, comesAt keys key = (i : Int) ∧ i ≤ keys.length ∧ (∀ j a, j < i → keys[j]? = some a → sLt a key = true) ∧ ∀ a, keys[i]? = some a → sLt a key = false := by
  unfold comesAt
  cases hf : firstN (fun j => !(sLt (atI (t := .str) keys j) key)) 0 keys.length with
  | none =>
    refine ⟨keys.length, rfl, Nat.le_refl _, fun j a hj ha => ?_, fun a ha => by simp at ha⟩
    have := firstN_none hf j (by omega) (by omega)
    rw [atI_of (t := .str) ha] at this
    simpa using this
  | some i =>
    obtain ⟨h1, h2, h3, h4⟩ := firstN_some hf
    refine ⟨i, rfl, by omega, fun j a hj ha => ?_, fun a ha => ?_⟩
    · have := h4 j (by omega) hj
      rw [atI_of (t := .str) ha] at this
      simpa using this
    · rw [atI_of (t := .str) ha] at h3
      simpa using h3
theorem Asc.ins {keys : List ByteArray} {key : ByteArray} (h : Asc keys) (hn : key ∉ keys) {i : Nat} (h1 : ∀ j a, j < i → keys[j]? = some a → sLt a key = true) (h2 : ∀ a, keys[i]? = some a → sLt a key = false) :
    Asc (keys.take i ++ [key] ++ keys.drop i) := by
  unfold Asc at *
  rw [List.append_assoc, List.pairwise_append]
  have hd : (keys.drop i).Pairwise fun a b => sLt a b = true := h.sublist (List.drop_sublist _ _)
  have ht : (keys.take i).Pairwise fun a b => sLt a b = true := h.sublist (List.take_sublist _ _)
  have hlt : ∀ a ∈ keys.take i, sLt a key = true := fun a ha => by
    obtain ⟨j, hj⟩ := List.getElem?_of_mem ha
    rw [List.getElem?_take] at hj
    split at hj
    · exact h1 j a (by assumption) hj
    · cases hj
  have hge : ∀ b ∈ keys.drop i, sLt key b = true := fun b hb => by
    obtain ⟨j, hj⟩ := List.getElem?_of_mem hb
    rw [List.getElem?_drop] at hj
    have hlt : i < keys.length := by
      have := (List.getElem?_eq_some_iff.1 hj).1
      omega
    have hi := List.getElem?_eq_getElem hlt
    have hki : sLt key keys[i] = true := sLt_tri (h2 _ hi) fun e => hn (e ▸ List.getElem_mem hlt)
    cases j with
    | zero => rw [Nat.add_zero, hi] at hj; cases hj; exact hki
    | succ j =>
      obtain ⟨h3, e3⟩ := List.getElem?_eq_some_iff.1 hj
      have := List.pairwise_iff_getElem.1 h i (i + (j + 1)) hlt h3 (by omega)
      rw [e3] at this
      exact sLt_tr hki this
  refine ⟨ht, List.pairwise_append.2 ⟨List.pairwise_singleton _ _, hd, fun a ha b hb => ?_⟩, fun a ha b hb => ?_⟩
  · simp only [List.mem_singleton] at ha; subst ha; exact hge b hb
  · rcases List.mem_append.1 hb with hb | hb
    · simp only [List.mem_singleton] at hb; subst hb; exact hlt a ha
    · exact sLt_tr (hlt a ha) (hge b hb)
theorem keyAt_none {t : NodeT} {s : ByteArray} (hm : isMapN t = true) (h : keyAt t s < 0) : s ∉ t.keys := by
  intro hs
  obtain ⟨h5, hl⟩ := isMapN_eq hm
  obtain ⟨j, hj⟩ := List.getElem?_of_mem hs
  have hjl := lt_of_get hj
  unfold keyAt at h
  rw [h5, cond_true, hl, Nat.min_self] at h
  cases hf : firstN (fun j => sEq (atI (t := .str) t.keys j) s) 0 t.kids.length with
  | none =>
    have := firstN_none hf j (by omega) (by omega)
    rw [atI_of (t := .str) hj, sEq_self] at this
    cases this
  | some i => rw [hf] at h; simp [plc] at h; omega
theorem mem_insL {α : Type} {xs : List α} {i : Int} {y x : α} (h : x ∈ insL xs i [y]) : x = y ∨ x ∈ xs := by
  unfold insL at h
  simp only [List.append_assoc, List.mem_append, List.mem_singleton] at h
  rcases h with h | h | h
  · exact .inr (List.mem_of_mem_take h)
  · exact .inl h
  · exact .inr (List.mem_of_mem_drop h)
theorem insL_len {α : Type} (xs : List α) (i : Int) (y : α) : (insL xs i [y]).length = xs.length + 1 := by
  unfold insL
  simp only [List.length_append, List.length_take, List.length_drop, List.length_cons, List.length_nil]; omega
theorem setK_wf {t x : NodeT} {s : ByteArray} (h : Wf t) (hx : Wf x) (hk : t.kind = 5) : Wf (setK t s x) ∧ (setK t s x).kind = 5 := by
  have hm := h.isMap hk
  obtain ⟨hl, ha⟩ := h.map hk
  by_cases hs : keyAt t s < 0
  · rw [setK_neg hm hs]
    obtain ⟨i, e, hi, h1, h2⟩ := comesAt_spec t.keys s
    rw [e]
    refine ⟨.mk (fun _ => ⟨?_, ?_⟩) (fun _ h5 => absurd hk h5) (fun h5 => absurd hk h5) fun y hy => ?_, hk⟩
    · show (insL t.keys (i : Int) [s]).length = (insL t.kids (i : Int) [x]).length
      rw [insL_len, insL_len, hl]
    · show Asc (insL t.keys (i : Int) [s])
      unfold insL
      rw [Int.toNat_natCast]
      exact ha.ins (keyAt_none hm hs) h1 h2
    · rcases mem_insL hy with rfl | hy
      · exact hx
      · exact h.kids y hy
  · rw [setK_pos hm hs]
    refine ⟨.mk (fun _ => ⟨?_, ha⟩) (fun _ h5 => absurd hk h5) (fun h5 => absurd hk h5) fun y hy => ?_, hk⟩
    · show t.keys.length = (t.kids.set _ x).length
      rw [List.length_set]; exact hl
    · rcases List.mem_or_eq_of_mem_set hy with hy | rfl
      · exact h.kids y hy
      · exact hx
/-- A list with one more. -/
theorem snoc_wf {t x : NodeT} (h : Wf t) (hx : Wf x) (hk : t.kind = 4) : Wf ⟨t.kind, t.n, t.s, t.keys, t.kids ++ [x]⟩ :=
  .mk (fun h5 => absurd (hk.symm.trans h5) (by decide)) (fun h4 _ => absurd hk h4) (fun h5 => h.nokeys h5) fun y hy => by
    rcases List.mem_append.1 hy with hy | hy
    · exact h.kids y hy
    · simp only [List.mem_singleton] at hy; subst hy; exact hx

/-- A small tree that is right. -/
def GT (k : Nat) (t : NodeT) : Prop := sm_node t = true ∧ szN_node t ≤ 100 * 4 ^ k ∧ Wf t
theorem GT.mono {k m : Nat} (h : k ≤ m) {t : NodeT} (hg : GT k t) : GT m t :=
  ⟨hg.1, Nat.le_trans hg.2.1 (Nat.mul_le_mul_left _ (Nat.pow_le_pow_right (by decide) h)), hg.2.2⟩
theorem GT_leaf (k : Nat) {kind n : Int} {s : ByteArray} (hk : okI kind = true) (hn : okI n = true) (hs : s.size ≤ 100) : GT k ⟨kind, n, s, [], []⟩ := by
  refine ⟨?_, ?_, Wf.of_leaf _ rfl rfl⟩
  · simp only [sm_node, hk, hn, smStr_of (show s.size ≤ 1048576 by omega), smL, smA_node, List.length_nil, List.all_nil, Bool.true_and]; rfl
  · have : 100 * 1 ≤ 100 * 4 ^ k := Nat.mul_le_mul_left _ (Nat.one_le_pow _ _ (by decide))
    rw [szN_node_def]
    simp only [szL, List.map_nil, List.sum_nil, List.length_nil]; omega
theorem sm_mk {t : NodeT} (h1 : okI t.kind = true) (h2 : okI t.n = true) (h3 : smStr t.s = true) (h4 : smL smStr t.keys = true) (h5 : smL sm_node t.kids = true) : sm_node t = true := by
  obtain ⟨kind, n, s, keys, kids⟩ := t
  unfold smL at h5
  simp only [Bool.and_eq_true] at h5
  simp only [sm_node, Bool.and_eq_true]
  exact ⟨h1, h2, h3, h4, h5.1, by rw [smA_node_eq]; exact h5.2⟩
theorem snoc_ok {t x : NodeT} (h : sm_node t = true) (hx : sm_node x = true) (hz : t.kids.length + 1 ≤ 1048576) :
    sm_node ⟨t.kind, t.n, t.s, t.keys, t.kids ++ [x]⟩ = true ∧ szN_node ⟨t.kind, t.n, t.s, t.keys, t.kids ++ [x]⟩ = szN_node t + 1 + szN_node x := by
  obtain ⟨h1, h2, h3, h4, h5⟩ := sm_parts h
  refine ⟨sm_mk h1 h2 h3 h4 (smL_snoc h5 hx (by omega)), ?_⟩
  rw [szN_node_def, szN_node_def t, szL_append]
  simp only [szL, List.map_cons, List.map_nil, List.sum_cons, List.sum_nil, List.length_cons, List.length_nil]; omega
def flagN (b : Bool) : NodeT := ⟨1, bitI b, ByteArray.empty, [], []⟩
def intN (n : Int) : NodeT := ⟨2, n, ByteArray.empty, [], []⟩
def textN (s : ByteArray) : NodeT := ⟨3, 0, s, [], []⟩
theorem flagN_ok (k : Nat) (b : Bool) : GT k (flagN b) := GT_leaf k rfl (by cases b <;> rfl) (by decide)
theorem intN_ok (k : Nat) {n : Int} (h : okI n = true) : GT k (intN n) := GT_leaf k rfl h (by decide)
theorem textN_ok (k : Nat) {s : ByteArray} (h : s.size ≤ 8) : GT k (textN s) := GT_leaf k rfl rfl (by omega)

/-! ### a drawn tree, changed at a way -/
def okT (t : NodeT) : Bool := sm_node t && Nat.ble (szN_node t) 6400
theorem okT_iff {t : NodeT} : okT t = true ↔ sm_node t = true ∧ szN_node t ≤ 6400 := by unfold okT; rw [Bool.and_eq_true, Nat.ble_eq]
theorem GT.okT {t : NodeT} (h : GT 3 t) : okT t = true := okT_iff.2 ⟨h.1, h.2.1⟩
end Go.Gm

/- What is cut out of a right tree and put there again. -/
namespace Go.Gm
open Go

theorem atPtr_no {t : NodeT} {p : ByteArray} {r : List ByteArray} (h : kidAt t p < 0) : (atPtr t (p :: r)).2 = false := by
  unfold atPtr
  simp only [foldE]
  rw [show atStep p t = .inl () by unfold atStep; rw [decide_eq_true h]; rfl]
  rfl
theorem atPtr_in {t : NodeT} {p : ByteArray} {r : List ByteArray} (h : ¬ kidAt t p < 0) : atPtr t (p :: r) = atPtr (atI (t := .node) t.kids (Int.toNat (kidAt t p))) r := by
  unfold atPtr
  simp only [foldE]
  rw [show atStep p t = .inr (atI (t := .node) t.kids (Int.toNat (kidAt t p))) by unfold atStep; rw [decide_eq_false h]; rfl]
  rfl
theorem ins_del {α : Type} {xs : List α} {i : Nat} {x : α} (h : xs[i]? = some x) : insL (delL xs (i : Int) ((i : Int) + 1)) (i : Int) [x] = xs := by
  have hi := lt_of_get h
  unfold insL delL
  rw [Int.toNat_natCast, show Int.toNat ((i : Int) + 1) = i + 1 by omega]
  rw [List.take_append_of_le_length (by rw [List.length_take]; omega), List.take_take, Nat.min_self, List.drop_append_of_le_length (by rw [List.length_take]; omega), List.drop_eq_nil_of_le (by rw [List.length_take]; omega), List.nil_append]
  conv => rhs; rw [split_at h]
  simp
theorem del_len {α : Type} {xs : List α} {i : Nat} (h : i < xs.length) : (delL xs (i : Int) ((i : Int) + 1)).length + 1 = xs.length := by
  unfold delL
  rw [Int.toNat_natCast, show Int.toNat ((i : Int) + 1) = i + 1 by omega, List.length_append, List.length_take, List.length_drop]; omega
theorem del_get {α : Type} {xs : List α} {i j : Nat} (h : i < xs.length) : (delL xs (i : Int) ((i : Int) + 1))[j]? = if j < i then xs[j]? else xs[j + 1]? := by
  unfold delL
  rw [Int.toNat_natCast, show Int.toNat ((i : Int) + 1) = i + 1 by omega, List.getElem?_append, List.length_take, Nat.min_eq_left (by omega)]
  split
  · rw [List.getElem?_take]; simp [*]
  · rw [List.getElem?_drop]; congr 1; omega
theorem keyAt_neg {t : NodeT} {s : ByteArray} (hl : t.keys.length = t.kids.length) (h : s ∉ t.keys) : keyAt t s < 0 := by
  unfold keyAt
  cases t.kind == (5 : Int)
  · simp only [cond_false]; omega
  · simp only [cond_true]
    cases hf : firstN (fun j => sEq (atI (t := .str) t.keys j) s) 0 (min t.keys.length t.kids.length) with
    | none => show (-1 : Int) < 0; omega
    | some i =>
      obtain ⟨_, h2, h3, _⟩ := firstN_some hf
      have e := sEq_iff.1 h3
      exact absurd (e ▸ List.mem_of_getElem? (atI_lt (t := .str) (xs := t.keys) (i := i) (by omega))) h
theorem Asc.lt {ks : List ByteArray} (h : Asc ks) {i j : Nat} {a b : ByteArray} (hij : i < j) (hi : ks[i]? = some a) (hj : ks[j]? = some b) : sLt a b = true := by
  obtain ⟨h1, e1⟩ := List.getElem?_eq_some_iff.1 hi
  obtain ⟨h2, e2⟩ := List.getElem?_eq_some_iff.1 hj
  have := List.pairwise_iff_getElem.1 h i j h1 h2 hij
  rw [e1, e2] at this; exact this
theorem comes_del {ks : List ByteArray} {s : ByteArray} {i : Nat} (h : Asc ks) (hi : ks[i]? = some s) : comesAt (delL ks (i : Int) ((i : Int) + 1)) s = (i : Int) := by
  have hil := lt_of_get hi
  have hd := del_len hil
  obtain ⟨k, e, hk, h1, h2⟩ := comesAt_spec (delL ks (i : Int) ((i : Int) + 1)) s
  rw [e]
  rcases Nat.lt_trichotomy k i with hlt | rfl | hlt
  · have hg : ks[k]? = some (ks[k]'(by omega)) := List.getElem?_eq_getElem (by omega)
    have h3 := h2 (ks[k]'(by omega)) (by rw [del_get hil, if_pos hlt]; exact hg)
    rw [h.lt hlt hg hi] at h3; cases h3
  · rfl
  · have hg : ks[i + 1]? = some (ks[i + 1]'(by omega)) := List.getElem?_eq_getElem (by omega)
    have h3 := h1 i (ks[i + 1]'(by omega)) hlt (by rw [del_get hil, if_neg (by omega)]; exact hg)
    rw [sLt_asym (h.lt (Nat.lt_succ_self i) hi hg)] at h3; cases h3
theorem not_del {ks : List ByteArray} {s : ByteArray} {i : Nat} (h : Asc ks) (hi : ks[i]? = some s) : s ∉ delL ks (i : Int) ((i : Int) + 1) := by
  intro hm
  obtain ⟨j, hj⟩ := List.getElem?_of_mem hm
  rw [del_get (lt_of_get hi)] at hj
  split at hj
  · have := h.inj hi hj; omega
  · have := h.inj hi hj; omega
theorem kidAt_kind {t u : NodeT} (h1 : u.kind = t.kind) (h2 : u.keys = t.keys) (h3 : u.kids.length = t.kids.length) (s : ByteArray) : kidAt u s = kidAt t s := by
  unfold kidAt keyAt
  rw [h1, h2, h3]
theorem cut_put : ∀ (path : List ByteArray) (t : NodeT), Wf t → path ≠ [] → (atPtr t path).2 = true → (cutPtr t path).2 = true ∧ putPtr (cutPtr t path).1 path (atPtr t path).1 = (t, true)
  | [], _, _, h, _ => absurd rfl h
  | [p], t, hw, _, ha => by
    by_cases hk : kidAt t p < 0
    · rw [atPtr_no hk] at ha; cases ha
    rw [atPtr_in hk, cutPtr_one t p hk]
    show _ ∧ putPtr _ [p] (atI (t := .node) t.kids (Int.toNat (kidAt t p))) = _
    obtain ⟨i, e, hi⟩ := kidAt_bd hk
    rw [e, Int.toNat_natCast]
    have hx := atI_lt (t := .node) hi
    cases h5 : t.kind == (5 : Int)
    · cases h4 : t.kind == (4 : Int)
      · exact absurd (show kidAt t p < 0 by unfold kidAt; rw [h5, h4]; simp only [cond_false]; omega) hk
      simp only [cond_false]
      refine ⟨trivial, ?_⟩
      have hd := del_len hi
      have e' : plc (firstN (fun j => sEq (digS (j : Int)) p) 0 t.kids.length) = (i : Int) := by
        rw [← e]; unfold kidAt; rw [h5, h4]; rfl
      have hp : sEq p dash = false := by
        cases hf : firstN (fun j => sEq (digS (j : Int)) p) 0 t.kids.length with
        | none => rw [hf] at e'; exact absurd e' (by show ¬ ((-1 : Int) = i); omega)
        | some j =>
          obtain ⟨_, _, h3, _⟩ := firstN_some hf
          rw [← sEq_iff.1 h3]; exact dig_dash j
      have hs : slotAt (cutKid t (i : Int)) p = (i : Int) := by
        unfold slotAt
        rw [slot_num hp, show (cutKid t (i : Int)).kids.length + 1 = t.kids.length from hd]
        exact e'
      have hm : isMapN (cutKid t (i : Int)) = false := by unfold isMapN cutKid; simp only [h5, cond_false]
      have hk4 : ((cutKid t (i : Int)).kind == (4 : Int)) = true := h4
      rw [putPtr_one]
      unfold putLast
      rw [hm, hk4, hs, decide_eq_false (show ¬ ((i : Int) < 0) by omega)]
      simp only [cond_true, cond_false]
      refine Prod.ext ?_ rfl
      show (⟨t.kind, t.n, t.s, t.keys, insL (delL t.kids (i : Int) ((i : Int) + 1)) (i : Int) [_]⟩ : NodeT) = t
      rw [ins_del hx, eta_node]
    · simp only [cond_true]
      refine ⟨trivial, ?_⟩
      have hk5 : t.kind = 5 := eq_of_beq h5
      have hmp := hw.isMap hk5
      obtain ⟨hl, hasc⟩ := hw.map hk5
      have ek : keyAt t p = (i : Int) := by rw [← e]; unfold kidAt; rw [h5]; rfl
      have hkey : t.keys[i]? = some p := by
        unfold keyAt at ek
        rw [h5, cond_true] at ek
        cases hf : firstN (fun j => sEq (atI (t := .str) t.keys j) p) 0 (min t.keys.length t.kids.length) with
        | none => rw [hf] at ek; exact absurd ek (by show ¬ ((-1 : Int) = i); omega)
        | some j =>
          rw [hf] at ek
          have : j = i := by have : (j : Int) = i := ek; omega
          subst this
          obtain ⟨_, _, h3, _⟩ := firstN_some hf
          have := atI_lt (t := .str) (xs := t.keys) (i := j) (by omega)
          rw [sEq_iff.1 h3] at this; exact this
      have hu : unset t p = cutKey t (i : Int) := by
        unfold unset
        rw [hmp, ek, decide_eq_false (show ¬ ((i : Int) < 0) by omega)]; rfl
      rw [hu]
      have hlk : (cutKey t (i : Int)).keys.length = (cutKey t (i : Int)).kids.length := by
        have h1 := del_len (xs := t.keys) (i := i) (by omega)
        have h2 := del_len hi
        show (delL t.keys (i : Int) ((i : Int) + 1)).length = (delL t.kids (i : Int) ((i : Int) + 1)).length
        omega
      have hm : isMapN (cutKey t (i : Int)) = true := by
        unfold isMapN
        rw [show ((cutKey t (i : Int)).kind == (5 : Int)) = true from h5, hlk]; simp
      have hkn : keyAt (cutKey t (i : Int)) p < 0 := keyAt_neg hlk (not_del hasc hkey)
      rw [putPtr_one]
      unfold putLast
      rw [hm]
      simp only [cond_true]
      rw [setK_neg hm hkn]
      refine Prod.ext ?_ rfl
      show (⟨t.kind, t.n, t.s, insL (delL t.keys (i : Int) ((i : Int) + 1)) (comesAt (delL t.keys (i : Int) ((i : Int) + 1)) p) [p], insL (delL t.kids (i : Int) ((i : Int) + 1)) (comesAt (delL t.keys (i : Int) ((i : Int) + 1)) p) [_]⟩ : NodeT) = t
      rw [comes_del hasc hkey, ins_del hkey, ins_del hx, eta_node]
  | p :: q :: r, t, hw, _, ha => by
    by_cases hk : kidAt t p < 0
    · rw [atPtr_no hk] at ha; cases ha
    rw [atPtr_in hk] at ha ⊢
    obtain ⟨i, e, hi⟩ := kidAt_bd hk
    have hx := atI_lt (t := .node) hi
    rw [cutPtr_deep t p q r hk]
    rw [e, Int.toNat_natCast] at ha ⊢
    obtain ⟨h1, h2⟩ := cut_put (q :: r) (atI (t := .node) t.kids i) (hw.kids _ (List.mem_of_getElem? hx)) (by simp) ha
    rw [h1]
    simp only [cond_true]
    refine ⟨trivial, ?_⟩
    generalize hc : (cutPtr (atI (t := .node) t.kids i) (q :: r)).1 = c at h2
    have ek : kidAt (setKid t (i : Int) c) p = (i : Int) := by
      rw [kidAt_kind (t := t) (u := setKid t (i : Int) c) rfl rfl (by show (t.kids.set _ _).length = _; rw [List.length_set]), e]
    rw [putPtr_deep _ p q r _ (by rw [ek]; omega), ek, Int.toNat_natCast]
    have ea : atI (t := .node) (setKid t (i : Int) c).kids i = c := atI_of (t := .node) (by
      show (t.kids.set (Int.toNat (i : Int)) c)[i]? = some c
      rw [Int.toNat_natCast, List.getElem?_set_self hi])
    rw [ea, h2]
    simp only [cond_true]
    refine Prod.ext ?_ rfl
    show (⟨t.kind, t.n, t.s, t.keys, (t.kids.set (Int.toNat (i : Int)) c).set (Int.toNat (i : Int)) (atI (t := .node) t.kids i)⟩ : NodeT) = t
    rw [Int.toNat_natCast, List.set_set]
    have : t.kids.set i (atI (t := .node) t.kids i) = t.kids := by
      refine List.ext_getElem? fun j => ?_
      rw [List.getElem?_set]
      split
      · rename_i h; subst h; exact hx.symm
      · rfl
    rw [this, eta_node]

theorem test_no {t x : NodeT} {p q : List ByteArray} (h : (atPtr t p).2 = false) : (patchOne t ⟨4, p, q, x⟩).2 = false := by
  unfold patchOne patchedI
  simp only [h, cond_false, cond_true, show ((4 : Int) == (1 : Int)) = false from rfl, show ((4 : Int) == (2 : Int)) = false from rfl, show ((4 : Int) == (3 : Int)) = false from rfl, show ((4 : Int) == (4 : Int)) = true from rfl, Bool.not_false]
theorem test_yes {t : NodeT} {p q : List ByteArray} (h : (atPtr t p).2 = true) : (patchOne t ⟨4, p, q, (atPtr t p).1⟩).2 = true := by
  unfold patchOne patchedI
  simp only [h, eqD_self, cond_false, cond_true, show ((4 : Int) == (1 : Int)) = false from rfl, show ((4 : Int) == (2 : Int)) = false from rfl, show ((4 : Int) == (3 : Int)) = false from rfl, show ((4 : Int) == (4 : Int)) = true from rfl, Bool.not_true]
theorem replace_yes {t : NodeT} {p q : List ByteArray} (hw : Wf t) (h : (atPtr t p).2 = true) : patchOne t ⟨3, p, q, (atPtr t p).1⟩ = (t, true) := by
  unfold patchOne patchedI
  simp only [cond_false, cond_true, show ((3 : Int) == (1 : Int)) = false from rfl, show ((3 : Int) == (2 : Int)) = false from rfl, show ((3 : Int) == (3 : Int)) = true from rfl]
  cases p with
  | nil => rfl
  | cons a r =>
    obtain ⟨h1, h2⟩ := cut_put (a :: r) t hw (by simp) h
    have hz : (((a :: r).length : Int) == (0 : Int)) = false := by rw [beq_eq_false_iff_ne, List.length_cons]; omega
    simp only [hz, h1, h2, Bool.not_true, cond_false]
theorem move_yes {t x : NodeT} {p : List ByteArray} (hw : Wf t) (h : (atPtr t p).2 = true) : patchOne t ⟨5, p, p, x⟩ = (t, !((p.length : Int) == (0 : Int))) := by
  unfold patchOne patchedI
  have hf : frontOf p p = false := by unfold frontOf; rw [decide_eq_false (by omega)]; rfl
  simp only [h, hf, cond_false, cond_true, Bool.not_true, show ((5 : Int) == (1 : Int)) = false from rfl, show ((5 : Int) == (2 : Int)) = false from rfl, show ((5 : Int) == (3 : Int)) = false from rfl, show ((5 : Int) == (4 : Int)) = false from rfl, show ((5 : Int) == (5 : Int)) = true from rfl]
  cases p with
  | nil => rfl
  | cons a r =>
    obtain ⟨h1, h2⟩ := cut_put (a :: r) t hw (by simp) h
    have hz : (((a :: r).length : Int) == (0 : Int)) = false := by rw [beq_eq_false_iff_ne, List.length_cons]; omega
    simp only [hz, h1, h2, Bool.not_true, Bool.not_false, cond_false]

/-! ### ways -/
theorem way_sz (x : NodeT) (hs : sm_node x = true) : ∀ p ∈ allPtrs x, szL ByteArray.size p ≤ 22 * szN_node x := by
  rw [allPtrs_def, szN_node_def]
  obtain ⟨_, _, _, hke, hki⟩ := sm_parts hs
  intro p hp
  rcases List.mem_cons.1 hp with rfl | hp
  · show 0 + 0 ≤ _; omega
  · refine allPA_all (Q := fun p => szL ByteArray.size p ≤ 22 * (x.s.size + szL ByteArray.size x.keys + szL szN_node x.kids)) _ _ _ _ (fun i y hy q hq => ?_) p hp
    have _hy : y ∈ x.kids := List.mem_of_getElem? hy
    have h1 := way_sz y (sm_kid hs _hy) q hq
    have h2 : 1 + szN_node y ≤ szL szN_node x.kids := by
      have := split_at hy
      rw [this, szL_append, szL_cons]; omega
    have hi := lt_of_get hy
    have nki := smL_len hki
    have hd : (digS ((0 + i : Nat) : Int)).size ≤ 20 := digS_size (n := ((0 + i : Nat) : Int)) (okI_of (by omega) (by omega))
    have hw : (wayAt x.kind x.keys (0 + i)).size ≤ 20 + szL ByteArray.size x.keys := by
      unfold wayAt
      cases x.kind == (5 : Int)
      · simp only [cond_false]; omega
      by_cases hl : ((0 + i : Nat) : Int) < (x.keys.length : Int)
      · rw [decide_eq_true hl]
        simp only [cond_true]
        have hg := atI_lt (t := .str) (xs := x.keys) (i := 0 + i) (by omega)
        have h3 := split_at hg
        have h4 : szL ByteArray.size x.keys = szL ByteArray.size (x.keys.take (0 + i)) + (1 + (atI (t := .str) x.keys (0 + i)).size + szL ByteArray.size (x.keys.drop (0 + i + 1))) := by
          conv => lhs; rw [h3]
          rw [szL_append, szL_cons]
        omega
      · rw [decide_eq_false hl]; simp only [cond_true, cond_false]; omega
    rw [szL_cons]
    omega
termination_by nd_node x
decreasing_by exact nd_node_kid _hy
def gWay (p : List ByteArray) : Bool := smL smStr p && Nat.ble (szL ByteArray.size p) 141000
theorem gWay_iff {p : List ByteArray} : gWay p = true ↔ smL smStr p = true ∧ szL ByteArray.size p ≤ 141000 := by unfold gWay; rw [Bool.and_eq_true, Nat.ble_eq]
theorem gPt_okT {t : NodeT} (h : okT t = true) : gPt t = true := by
  obtain ⟨h1, h2⟩ := okT_iff.1 h
  have := nd_sz t
  simp only [gPt, h1, Bool.true_and]
  exact Nat.ble_eq_true_of_le (by omega)
theorem allPtrs_pos (t : NodeT) : 0 < ((allPtrs t).length : Int) := by rw [allPtrs_def, List.length_cons]; omega
theorem way_ok {t : NodeT} {p : List ByteArray} (h : okT t = true) (hp : p ∈ allPtrs t) : smL smStr p = true ∧ szL ByteArray.size p ≤ 140800 := by
  obtain ⟨h1, h2⟩ := okT_iff.1 h
  have h3 := way_sz t h1 p hp
  have h4 := szL_ge ByteArray.size p
  refine ⟨?_, by omega⟩
  simp only [smL, allPtrs_parts t h1 p hp, Bool.and_true]
  exact Nat.ble_eq_true_of_le (by omega)
theorem gWay_of {p : List ByteArray} (h : smL smStr p = true ∧ szL ByteArray.size p ≤ 140800) : gWay p = true := gWay_iff.2 ⟨h.1, by omega⟩
theorem gWay_snoc {p : List ByteArray} {s : ByteArray} (h : smL smStr p = true ∧ szL ByteArray.size p ≤ 140800) (hs : s.size ≤ 100) : gWay (p ++ [s]) = true := by
  refine gWay_iff.2 ⟨smL_snoc h.1 (smStr_of (by omega)) (by have := szL_ge ByteArray.size p; omega), ?_⟩
  rw [szL_append, szL_cons]
  have : szL ByteArray.size [] = 0 := rfl
  omega
end Go.Gm

/- The closing of a row, with what is known of the world at the start. -/
namespace Go.Gm
open Go

theorem handed_shaped {H : Type} {enc : TypeId × Value → H} {a : Assume} {C : Checked} {os : Os} {f : FuncId} {fn : Func} {s : ChangeSpec} {conds : List PathCond} {apart fresh handsOn again : Bool}
    (own : ownKnob C.prog.godebug = none) (started : os.Started) (noInit : C.prog.inits.idxOf? f = none) (hfn : C.prog.funcs[f]? = some fn)
    (witness : ∃ (w : World) (tape : Tape) (i : Input), w.os = os ∧ (w.forCall tape i).Shaped C.prog ∧ i.vars = [] ∧ Input.okWide C.prog (w.forCall tape i) .any w.heap.size f i ∧
      s.pre6 enc C.prog fn conds apart (w.forCall tape i).memory i.args ∧ a.holds C.prog (lone (Frame.enter C.prog f i.args .normal) [] (w.forCall tape i)))
    (contract : ∀ (W : World) (base : Nat) (args : Array Value) (ds gs : List (DataW H)) (before : List MemPlace), W.ShapedOpen C.prog →
      (∀ (j : Nat) t v, fn.params[j]? = some t → args[j]? = some v → Value.okWide C.prog W .any base t v) →
      DataW.Whole enc C.prog fn.params.toList s.vars apart W args.toList ds gs before →
      Calls C.prog f args W fun e W' => ∃ v, e = .returned v ∧ s.post enc C.prog fn apart fresh handsOn again W args v W') :
    ReturnsInHanded a C os f .any (s.pre6 enc C.prog fn conds apart) (s.post enc C.prog fn apart fresh handsOn again) := by
  refine returnsInHanded_of_calls own started noInit witness ?_
  intro w tape i _ hsh _ hok hpre _
  obtain ⟨_, _, _, fn', hfn', _, _, _, _, hval⟩ := hok
  have e : fn' = fn := Option.some.inj (hfn'.symm.trans hfn)
  subst e
  obtain ⟨⟨ds, gs, before, hw, _⟩, _⟩ := hpre
  have hw' := DataW.Whole.of_heap (w' := w.forCall tape i) (by rfl) hw
  refine (contract (w.forCall tape i) w.heap.size i.args ds gs before hsh hval hw').mono fun e W' ⟨v, he, hp⟩ => ?_
  subst he
  exact ChangeSpec.post_blind hp

end Go.Gm

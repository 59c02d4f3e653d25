/- The G-machine, part 2: an evaluator of translated code on typed values, and that it is sound. No conditions. -/
import Derived.Test.YtklmnopgogcbhaaDoorGm1
import Derived.Laws.AppendOwn
import Derived.Laws.Tables
/- Own lists put together and taken apart. -/
namespace Go.Gm
open Go

variable {w : World}

/-- A row of elements, cell by cell, each cell with the blocks that it brings. -/
structure Pieces (w : World) (ro : Nat → Prop) (deep : Bool) (t : Ty) (xs : List (El t)) (cs : Array Value) (o : Nat) (G : Nat → Nat → Nat → Prop) : Prop where
  rows : ∀ i x j c, xs[i]? = some x → (enc t x)[j]? = some c → ∃ u, cs[o + i * esz t + j]? = some u ∧ CRd w (fun k => G i j k ∨ ro k) c u ∧ (deep = true → COwn w (G i j) c u)
  dis : ∀ i j i' j' k, G i j k → G i' j' k → i = i' ∧ j = j'

theorem NodeOwn.blkF {F : Nat → Prop} {t : Ty} {ys : List (El t)} {v : Value} {kid : Nat → Nat → Value} (h : NodeOwn w F t ys v kid) {k : Nat} (hk : blk v = some k) : F k := by
  rcases h with ⟨_, rfl⟩ | ⟨b, o, cap, cs, el, rfl, hF, _⟩
  · simp [blk] at hk
  · simp only [blk, Option.some.injEq] at hk; subst hk; exact hF
theorem NodeOwn.toF {F G : Nat → Prop} {t : Ty} {ys : List (El t)} {v : Value} {kid : Nat → Nat → Value} (h : NodeOwn w F t ys v kid) (hG : ∀ k, blk v = some k → G k) : NodeOwn w G t ys v kid := by
  rcases h with h | ⟨b, o, cap, cs, el, rfl, hF, h⟩
  · exact .inl h
  · exact .inr ⟨b, o, cap, cs, el, rfl, hG b rfl, h⟩
theorem NodeOwn.kid {F : Nat → Prop} {t : Ty} {ys : List (El t)} {v : Value} {kid kid' : Nat → Nat → Value} (h : NodeOwn w F t ys v kid) (hk : ∀ i y (j : Nat) t' zs, ys[i]? = some y → (enc t y)[j]? = some (.l t' zs) → kid' i j = kid i j) :
    NodeOwn w F t ys v kid' := by
  rcases h with h | ⟨b, o, cap, cs, el, h1, h2, h3, h4, h5, h6⟩
  · exact .inl h
  · refine .inr ⟨b, o, cap, cs, el, h1, h2, h3, h4, h5, fun i y j c hy hc => ?_⟩
    obtain ⟨u, hu, hcu⟩ := h6 i y j c hy hc
    refine ⟨u, hu, ?_⟩
    cases c with
    | v x => exact hcu
    | l t' zs => simp only [CellIs] at hcu ⊢; rw [hk i y j t' zs hy hc]; exact hcu
theorem NodeRd.kid {F : Nat → Prop} {t : Ty} {ys : List (El t)} {v : Value} {kid kid' : Nat → Nat → Value} (h : NodeRd w F t ys v kid) (hk : ∀ i y (j : Nat) t' zs, ys[i]? = some y → (enc t y)[j]? = some (.l t' zs) → kid' i j = kid i j) :
    NodeRd w F t ys v kid' := by
  obtain ⟨a, cap, h1, h2, h3⟩ := h
  refine ⟨a, cap, h1, h2, fun hn => ?_⟩
  obtain ⟨b, o, cs, el, fz, h4, h5, h6, h7⟩ := h3 hn
  refine ⟨b, o, cs, el, fz, h4, h5, h6, fun i y j c hy hc => ?_⟩
  obtain ⟨u, hu, hcu⟩ := h7 i y j c hy hc
  refine ⟨u, hu, ?_⟩
  cases c with
  | v x => exact hcu
  | l t' zs => simp only [CellIs] at hcu ⊢; rw [hk i y j t' zs hy hc]; exact hcu
/-- Only a node's own block counts. -/
theorem NodeOwn.here {w' : World} {F : Nat → Prop} {X : Nat → Prop} (hs : SameBut X w w') {t : Ty} {ys : List (El t)} {v : Value} {kid : Nat → Nat → Value} (h : NodeOwn w F t ys v kid)
    (hx : ∀ k, blk v = some k → ¬ X k) : NodeOwn w' F t ys v kid := by
  rcases h with h | ⟨b, o, cap, cs, el, rfl, h2, h3, h4⟩
  · exact .inl h
  · exact .inr ⟨b, o, cap, cs, el, rfl, h2, hs.get h3 (hx b rfl), h4⟩

/-- A cell of an own list's element, with the blocks under it. -/
def Under (t : Ty) (xs : List (El t)) (av : Path → Value) (p : Path) (k : Nat) : Prop := ∃ q s, subR t xs (p ++ q) = some s ∧ blk (av (p ++ q)) = some k

theorem TreeOwn.at {F : Nat → Prop} {t : Ty} {xs : List (El t)} {av : Path → Value} (h : TreeOwn w F t xs av) {p : Path} {s : Sl} (hs : subR t xs p = some s) :
    TreeOwn w (Under t xs av p) s.t s.xs fun q => av (p ++ q) := by
  refine ⟨fun q s' hs' => ?_, fun q q' s1 s2 b h1 h2 h3 h4 => ?_⟩
  · have hp : subR t xs (p ++ q) = some s' := by rw [subR_append q hs]; exact hs'
    have := (h.1 (p ++ q) s' hp).toF (G := Under t xs av p) fun k hk => ⟨q, s', hp, hk⟩
    simpa [List.append_assoc] using this
  · have e1 : subR t xs (p ++ q) = some s1 := by rw [subR_append q hs]; exact h1
    have e2 : subR t xs (p ++ q') = some s2 := by rw [subR_append q' hs]; exact h2
    exact List.append_cancel_left (h.2 _ _ _ _ b e1 e2 h3 h4)

theorem subR_one {t : Ty} {xs : List (El t)} {i j : Nat} {x : El t} {t' : Ty} {ys : List (El t')} (hx : xs[i]? = some x) (hc : (enc t x)[j]? = some (.l t' ys)) : subR t xs [(i, j)] = some ⟨t', ys⟩ := by
  simp only [subR, hx, hc]

/-- An own list taken apart. -/
theorem TreeOwn.pieces {F ro : Nat → Prop} {t : Ty} {xs : List (El t)} {av : Path → Value} (h : TreeOwn w F t xs av) {cs : Array Value} {o : Nat} (hr : RowsIn t xs cs o fun i j => av [(i, j)]) :
    Pieces w ro true t xs cs o (fun i j => Under t xs av [(i, j)]) := by
  refine ⟨fun i x j c hx hc => ?_, fun i j i' j' k ⟨q, s, h1, h2⟩ ⟨q', s', h3, h4⟩ => ?_⟩
  · obtain ⟨u, hu, hcu⟩ := hr i x j c hx hc
    refine ⟨u, hu, ?_, fun _ => ?_⟩
    · cases c with
      | v y => exact hcu
      | l t' ys =>
        have hs := subR_one hx hc
        exact ⟨fun q => av ([(i, j)] ++ q), by simpa [CellIs] using hcu.symm, (h.at hs).rd.mono fun k => .inl⟩
    · cases c with
      | v y => exact hcu
      | l t' ys => exact ⟨fun q => av ([(i, j)] ++ q), by simpa [CellIs] using hcu.symm, h.at (subR_one hx hc)⟩
  · have := h.2 _ _ _ _ k h1 h3 h2 h4
    simp only [List.singleton_append, List.cons.injEq, Prod.mk.injEq] at this
    exact this.1

theorem TreeSh.pieces {F ro : Nat → Prop} {t : Ty} {xs : List (El t)} {av : Path → Value} (h : TreeSh w F ro t xs av) {cs : Array Value} {o : Nat} (hr : RowsIn t xs cs o fun i j => av [(i, j)]) :
    Pieces w ro false t xs cs o (fun _ _ _ => False) := by
  refine ⟨fun i x j c hx hc => ?_, fun i j i' j' k h => h.elim⟩
  obtain ⟨u, hu, hcu⟩ := hr i x j c hx hc
  refine ⟨u, hu, ?_, fun h => by cases h⟩
  cases c with
  | v y => exact hcu
  | l t' ys =>
    have hs := subR_one hx hc
    refine ⟨fun q => av ([(i, j)] ++ q), by simpa [CellIs] using hcu.symm, fun q s' hs' => ?_⟩
    have hp : subR t xs ([(i, j)] ++ q) = some s' := by rw [subR_append q hs]; exact hs'
    have := (h.2 ([(i, j)] ++ q) s' (by simp) hp).mono (Q := fun k => False ∨ ro k) fun k => .inr
    simpa [List.append_assoc] using this

open Classical in
/-- An own list put together: all of it owned. -/
theorem Pieces.own {ro : Nat → Prop} {t : Ty} {xs : List (El t)} {cs : Array Value} {o b cap el : Nat} {G : Nat → Nat → Nat → Prop} (h : Pieces w ro true t xs cs o G)
    (hb : w.heap[b]? = some (.cells cs el (0, 0))) (hcap : xs.length ≤ cap) (hsz : o + cap * esz t ≤ cs.size) (hG : ∀ i j, ¬ G i j b) :
    ∃ av, av [] = .slice (some ⟨b, o, none⟩) xs.length cap ∧ TreeOwn w (fun k => k = b ∨ ∃ i j, G i j k) t xs av := by
  have hw : ∀ ij : Nat × Nat, ∃ f : Path → Value, ∀ x t' ys, xs[ij.1]? = some x → (enc t x)[ij.2]? = some (.l t' ys) → cs[o + ij.1 * esz t + ij.2]? = some (f []) ∧ TreeOwn w (G ij.1 ij.2) t' ys f := by
    intro ⟨i, j⟩
    by_cases hex : ∃ x t' ys, xs[i]? = some x ∧ (enc t x)[j]? = some (.l t' ys)
    · obtain ⟨x, t', ys, hx, hc⟩ := hex
      obtain ⟨u, hu, _, ho⟩ := h.rows i x j _ hx hc
      obtain ⟨f, h0, h1⟩ := ho rfl
      refine ⟨f, fun x2 t2 ys2 hx2 hc2 => ?_⟩
      simp only at hx2 hc2
      rw [hx] at hx2; cases hx2
      rw [hc] at hc2; cases hc2
      exact ⟨by rw [h0]; exact hu, h1⟩
    · exact ⟨fun _ => undef, fun x t' ys hx hc => (hex ⟨x, t', ys, hx, hc⟩).elim⟩
  obtain ⟨f, hf⟩ := Classical.axiomOfChoice hw
  refine ⟨fun q => match q with | [] => .slice (some ⟨b, o, none⟩) xs.length cap | ij :: q => f ij q, rfl, ?_, ?_⟩
  · intro p s hs
    cases p with
    | nil =>
      simp only [subR, Option.some.injEq] at hs; subst hs
      refine .inr ⟨b, o, cap, cs, el, rfl, .inl rfl, hb, hcap, hsz, fun i y j c hy hc => ?_⟩
      obtain ⟨u, hu, hr, _⟩ := h.rows i y j c hy hc
      refine ⟨u, hu, ?_⟩
      cases c with
      | v x => exact hr
      | l t' ys =>
        obtain ⟨h1, _⟩ := hf (i, j) y t' ys hy hc
        simp only at h1
        rw [hu] at h1
        simpa [CellIs] using h1
    | cons ij p =>
      obtain ⟨i, j⟩ := ij
      simp only [subR] at hs
      split at hs
      case h_2 => cases hs
      rename_i x hx
      split at hs
      case h_2 => cases hs
      rename_i t' ys hc
      obtain ⟨_, h2⟩ := hf (i, j) x t' ys hx hc
      have := (h2.1 p s hs).mono (Q := fun k => k = b ∨ ∃ i j, G i j k) fun k hk => .inr ⟨i, j, hk⟩
      exact this
  · intro p q s s' k h1 h2 h3 h4
    have hin : ∀ i j p s, subR t xs ((i, j) :: p) = some s → ∃ x t' ys, xs[i]? = some x ∧ (enc t x)[j]? = some (.l t' ys) ∧ subR t' ys p = some s := by
      intro i j p s hs
      simp only [subR] at hs
      split at hs
      case h_2 => cases hs
      rename_i x hx
      split at hs
      case h_2 => cases hs
      rename_i t' ys hc
      exact ⟨x, t', ys, hx, hc, hs⟩
    have hblk : ∀ i j p s, subR t xs ((i, j) :: p) = some s → blk (f (i, j) p) = some k → G i j k := by
      intro i j p s hs hk
      obtain ⟨x, t', ys, hx, hc, hs⟩ := hin i j p s hs
      exact ((hf (i, j) x t' ys hx hc).2.1 p s hs).blkF hk
    cases p with
    | nil =>
      cases q with
      | nil => rfl
      | cons ij q =>
        simp only [blk, Option.some.injEq] at h3; subst h3
        exact (hG _ _ (hblk ij.1 ij.2 q s' h2 h4)).elim
    | cons ij p =>
      cases q with
      | nil =>
        simp only [blk, Option.some.injEq] at h4; subst h4
        exact (hG _ _ (hblk ij.1 ij.2 p s h1 h3)).elim
      | cons ij' q =>
        obtain ⟨i, j⟩ := ij
        obtain ⟨i', j'⟩ := ij'
        obtain ⟨rfl, rfl⟩ := h.dis _ _ _ _ k (hblk i j p s h1 h3) (hblk i' j' q s' h2 h4)
        obtain ⟨x, t', ys, hx, hc, hs⟩ := hin i j p s h1
        obtain ⟨x2, t2, ys2, hx2, hc2, hs2⟩ := hin i j q s' h2
        rw [hx] at hx2; cases hx2
        rw [hc] at hc2; cases hc2
        rw [(hf (i, j) x t' ys hx hc).2.2 p q s s' k hs hs2 h3 h4]

open Classical in
/-- An own list put together of what is read alone. -/
theorem Pieces.shal {ro : Nat → Prop} {d : Bool} {t : Ty} {xs : List (El t)} {cs : Array Value} {o b cap el : Nat} {G : Nat → Nat → Nat → Prop} (h : Pieces w ro d t xs cs o G)
    (hb : w.heap[b]? = some (.cells cs el (0, 0))) (hcap : xs.length ≤ cap) (hsz : o + cap * esz t ≤ cs.size) {ro' : Nat → Prop} (hro : ∀ k, ro k → ro' k) (hG : ∀ i j k, G i j k → ro' k) :
    ∃ av, av [] = .slice (some ⟨b, o, none⟩) xs.length cap ∧ TreeSh w (fun k => k = b) ro' t xs av := by
  have hw : ∀ ij : Nat × Nat, ∃ f : Path → Value, ∀ x t' ys, xs[ij.1]? = some x → (enc t x)[ij.2]? = some (.l t' ys) → cs[o + ij.1 * esz t + ij.2]? = some (f []) ∧ TreeRd w ro' t' ys f := by
    intro ⟨i, j⟩
    by_cases hex : ∃ x t' ys, xs[i]? = some x ∧ (enc t x)[j]? = some (.l t' ys)
    · obtain ⟨x, t', ys, hx, hc⟩ := hex
      obtain ⟨u, hu, hr, _⟩ := h.rows i x j _ hx hc
      obtain ⟨f, h0, h1⟩ := hr
      refine ⟨f, fun x2 t2 ys2 hx2 hc2 => ?_⟩
      simp only at hx2 hc2
      rw [hx] at hx2; cases hx2
      rw [hc] at hc2; cases hc2
      exact ⟨by rw [h0]; exact hu, h1.mono fun k hk => hk.elim (hG i j k) (hro k)⟩
    · exact ⟨fun _ => undef, fun x t' ys hx hc => (hex ⟨x, t', ys, hx, hc⟩).elim⟩
  obtain ⟨f, hf⟩ := Classical.axiomOfChoice hw
  refine ⟨fun q => match q with | [] => .slice (some ⟨b, o, none⟩) xs.length cap | ij :: q => f ij q, rfl, ?_, ?_⟩
  · refine .inr ⟨b, o, cap, cs, el, rfl, rfl, hb, hcap, hsz, fun i y j c hy hc => ?_⟩
    obtain ⟨u, hu, hr, _⟩ := h.rows i y j c hy hc
    refine ⟨u, hu, ?_⟩
    cases c with
    | v x => exact hr
    | l t' ys =>
      obtain ⟨h1, _⟩ := hf (i, j) y t' ys hy hc
      simp only at h1
      rw [hu] at h1
      simpa [CellIs] using h1
  · intro p s hp hs
    cases p with
    | nil => exact (hp rfl).elim
    | cons ij p =>
      obtain ⟨i, j⟩ := ij
      simp only [subR] at hs
      split at hs
      case h_2 => cases hs
      rename_i x hx
      split at hs
      case h_2 => cases hs
      rename_i t' ys hc
      obtain ⟨_, h2⟩ := hf (i, j) x t' ys hx hc
      exact h2 p s hs

end Go.Gm

/- append. -/
namespace Go.Gm
open Go

variable {P : Program} {E : Env} {w : World}

/-- Values in a row at an address. -/
def Lies (w : World) (ad : Option Addr) (vs : List Value) : Prop := vs = [] ∨ ∃ b o cs el fz, ad = some ⟨b, o, none⟩ ∧ w.heap[b]? = some (.cells cs el fz) ∧ ∀ (j : Nat) v, vs[j]? = some v → cs[o + j]? = some v

theorem Lies.cells {ad : Addr} {vs : List Value} (h : Lies w (some ad) vs) : ∀ (j : Nat) v, vs[j]? = some v → w.cell? (ad.add j) = some v := by
  intro j v hj
  rcases h with rfl | ⟨b, o, cs, el, fz, e, hb, hc⟩
  · simp at hj
  · cases e
    rw [addrAdd, cellIn hb]; exact hc j v hj

theorem run_first {sz n : Nat} {ad : Option Addr} {cap : Nat} {vs : List Value} (hl : vs.length = n * sz) (h : Lies w ad vs) : (Builtin.firstCells sz n (.slice ad n cap)).run P w = .ok vs.toArray w := by
  cases ad with
  | none =>
    rcases h with rfl | ⟨b, o, cs, el, fz, e, _⟩
    · exact run_firstCells_none w sz n n cap
    · cases e
  | some a => exact run_firstCells_some w sz n a n cap vs hl h.cells

/-- What append does: it stays, it goes on where it lies, or it goes on elsewhere. -/
theorem run_append (hE : E.Ok P) {T T' ty : Nat} {e e' : Ty} (hT : E.code T = some (.sl e)) (hT' : E.code T' = some (.sl e')) {sa : Option Addr} {n cap : Nat} {xa : Option Addr} {m c : Nat} {olds news : List Value}
    (ho : olds.length = n * esz e) (hlo : Lies w sa olds) (hn : news.length = m * esz e) (hln : Lies w xa news) (hf : ∀ v ∈ news, v.oneCell' = true)
    (hcap : n ≤ cap) (hin : ∀ b o, sa = some ⟨b, o, none⟩ → ∃ cs el, w.heap[b]? = some (.cells cs el (0, 0)) ∧ o + cap * esz e ≤ cs.size) (hsa : sa = none → cap = 0)
    (hsp : ∀ a, sa = some a → a.spot = none) (hlim : n + m ≤ LIM) :
    ∃ v' w', (Builtin.append_ #[T, T'] ty #[.slice sa n cap, .slice xa m c]).run P w = .ok v' w' ∧ w'.os = w.os ∧ w'.tape = w.tape ∧ w'.output = w.output ∧
      ((v' = .slice none 0 0 ∧ sa = none ∧ n = 0 ∧ m = 0 ∧ w' = w) ∨
       ∃ b o cap' cs el, v' = .slice (some ⟨b, o, none⟩) (n + m) cap' ∧ w'.heap[b]? = some (.cells cs el (0, 0)) ∧ n + m ≤ cap' ∧ o + cap' * esz e ≤ cs.size ∧
         (∀ (j : Nat) v, (olds ++ news)[j]? = some v → cs[o + j]? = some v) ∧ SameBut (fun k => k = b) w w' ∧ ((∃ o', sa = some ⟨b, o', none⟩) ∨ b = w.heap.size)) := by
  obtain ⟨el, hu, hel⟩ := hE.slice hT
  obtain ⟨el', hu', _⟩ := hE.slice hT'
  obtain ⟨i, zv, hi, hsz, hby, hz, hzc⟩ := hE.info el e hel
  have hpos := esz_pos e
  have hzlen : (zvals e).length = esz e := by simp [zvals, enc_length]
  by_cases hroom : n + m ≤ cap
  · -- in place
    by_cases hm : m = 0
    · subst hm
      have hnil : news = [] := List.eq_nil_of_length_eq_zero (by simpa using hn)
      subst hnil
      have hf0 := run_first (P := P) (sz := esz e) (n := 0) (ad := xa) (cap := c) (vs := []) (w := w) (by simp) (.inl rfl)
      cases sa with
      | none =>
        have hc0 := hsa rfl
        have hn0 : n = 0 := by omega
        subst hc0; subst hn0
        refine ⟨.slice none 0 0, w, ?_, rfl, rfl, rfl, .inl ⟨rfl, rfl, rfl, rfl, rfl⟩⟩
        simp [Builtin.append_, run_underlying hu, run_underlying hu', sizeOf, typeInfo, hi, hsz, Builtin.lenOf, hf0]
      | some a =>
        obtain ⟨b, o, sp⟩ := a
        have := hsp _ rfl
        simp only at this; subst this
        obtain ⟨cs, el2, hb, hsize⟩ := hin b o rfl
        refine ⟨.slice (some ⟨b, o, none⟩) (n + 0) cap, w, ?_, rfl, rfl, rfl, .inr ⟨b, o, cap, cs, el2, rfl, hb, by simpa using hcap, hsize, ?_, ⟨Nat.le_refl _, fun _ _ _ => rfl⟩, .inl ⟨o, rfl⟩⟩⟩
        · simp [Builtin.append_, run_underlying hu, run_underlying hu', sizeOf, typeInfo, hi, hsz, Builtin.lenOf, hcap, hf0, storeCells]
        · intro j v hj
          rw [List.append_nil] at hj
          rcases hlo with rfl | ⟨b', o', cs', el', fz', e1, hb', hc'⟩
          · simp at hj
          · simp only [Option.some.injEq, Addr.mk.injEq, and_true] at e1
            obtain ⟨rfl, rfl⟩ := e1
            rw [hb] at hb'; cases hb'
            exact hc' j v hj
    · cases sa with
      | none => have := hsa rfl; omega
      | some a =>
        obtain ⟨b, o, sp⟩ := a
        have := hsp _ rfl
        simp only at this; subst this
        obtain ⟨cs, el2, hb, hsize⟩ := hin b o rfl
        have hf0 := run_first (P := P) (sz := esz e) (n := m) (ad := xa) (cap := c) (vs := news) (w := w) hn hln
        have hfit : o + n * esz e + news.length ≤ cs.size := by
          rw [hn, Nat.add_assoc, ← Nat.add_mul]
          exact Nat.le_trans (Nat.add_le_add_left (Nat.mul_le_mul_right _ hroom) _) hsize
        have hst := run_storeCells_at P b (o + n * esz e) el2 news 0 cs w hb (by simpa using hfit) hf
        simp only [Nat.add_zero] at hst
        refine ⟨.slice (some ⟨b, o, none⟩) (n + m) cap, w.setRow b (cs.toList.take (o + n * esz e) ++ news ++ cs.toList.drop (o + n * esz e + news.length)).toArray, ?_, rfl, rfl, rfl, .inr ⟨b, o, cap, _, el2, rfl, setRow_heap w b cs _ el2 _ hb, hroom, ?_, ?_, setRow_same w b _, .inl ⟨o, rfl⟩⟩⟩
        · simp [Builtin.append_, run_underlying hu, run_underlying hu', sizeOf, typeInfo, hi, hsz, Builtin.lenOf, hroom, hf0, addrAdd, hst]
        · simp only [List.size_toArray, List.length_append, List.length_take, List.length_drop, Array.length_toList]; omega
        · intro j v hj
          have hlen : o + n * esz e ≤ cs.size := by omega
          simp only [List.getElem?_toArray]
          by_cases hjn : j < n * esz e
          · rw [List.getElem?_append_left (by omega)] at hj
            rw [List.append_assoc, List.getElem?_append_left (by simp; omega), List.getElem?_take, if_pos (by omega)]
            rcases hlo with rfl | ⟨b', o', cs', el', fz', e1, hb', hc'⟩
            · simp at hj
            · simp only [Option.some.injEq, Addr.mk.injEq, and_true] at e1
              obtain ⟨rfl, rfl⟩ := e1
              rw [hb] at hb'; cases hb'
              simpa using hc' j v hj
          · rw [List.getElem?_append_right (by omega)] at hj
            have hjlt : j - olds.length < news.length := by
              rcases Nat.lt_or_ge (j - olds.length) news.length with h' | h'
              · exact h'
              · simp [List.getElem?_eq_none h'] at hj
            rw [List.getElem?_append_left (by simp; omega), List.getElem?_append_right (by simp; omega)]
            have : o + j - min (o + n * esz e) cs.size = j - olds.length := by omega
            simpa [this] using hj
  · -- elsewhere
    have hlt : n + m > cap := by omega
    have hbytes : (n + m) * i.bytes ≤ 140737488355328 := by
      have : (n + m) * i.bytes ≤ LIM * 1024 := Nat.mul_le_mul hlim hby
      unfold LIM at this; omega
    have hfits := growslice_fits (need := n + m) (old := cap) (by omega) hbytes
    have h63' : ¬ (9223372036854775807 < ((n : Int) + (m : Int))) := by unfold LIM at hlim; omega
    have h48' : ¬ (281474976710656 < Builtin.nextslicecap (n + m) cap * i.bytes) := by omega
    have hnot : ¬ (n + m ≤ cap) := hroom
    have hdr : Lies w.drew sa olds := by rcases hlo with h | ⟨b, o, cs, el, fz, h1, h2, h3⟩; exact .inl h; exact .inr ⟨b, o, cs, el, fz, h1, h2, h3⟩
    have hdr' : Lies w.drew xa news := by rcases hln with h | ⟨b, o, cs, el, fz, h1, h2, h3⟩; exact .inl h; exact .inr ⟨b, o, cs, el, fz, h1, h2, h3⟩
    have hf1 := run_first (P := P) (sz := esz e) (n := n) (ad := sa) (cap := cap) (vs := olds) (w := w.drew) ho hdr
    have hf0 := run_first (P := P) (sz := esz e) (n := m) (ad := xa) (cap := c) (vs := news) (w := w.drew) hn hdr'
    have hge := grownCap_ge w (n + m) cap el
    have hzs : zv.cells.size = esz e := by rw [hzc]; simp [hzlen]
    refine ⟨.slice (some ⟨w.heap.size, 0, none⟩) (n + m) (grownCap w (n + m) cap el), w.drew.alloc (.cells (olds.toArray ++ news.toArray ++ Builtin.zeroCells zv.cells (grownCap w (n + m) cap el - (n + m))) el), ?_, rfl, rfl, rfl,
      .inr ⟨w.heap.size, 0, _, _, el, rfl, heap_alloc_new w.drew _, hge, ?_, ?_, ?_, .inr rfl⟩⟩
    · simp [Builtin.append_, run_underlying hu, run_underlying hu', sizeOf, typeInfo, zeroValue, hi, hz, hsz, Builtin.lenOf, hnot, h63', h48', Question.forced, newRow, grownCap, hf0, hf1]
      congr 2
      apply Array.ext'
      simp [List.append_assoc]
    · simp only [Array.size_append, List.size_toArray, size_zeroCells, hzs, ho, hn, Nat.zero_add, ← Nat.add_mul]
      refine Nat.le_of_eq ?_
      congr 1; omega
    · intro j v hj
      have hjlt : j < (olds ++ news).length := by
        rcases Nat.lt_or_ge j (olds ++ news).length with h' | h'
        · exact h'
        · simp [List.getElem?_eq_none h'] at hj
      rw [Nat.zero_add, Array.getElem?_append_left (by simpa using hjlt)]
      simpa using hj
    · refine ⟨by simp, fun k hk _ => heap_alloc_old w.drew _ k hk⟩

end Go.Gm

/- What is taken out of a list of one's own. -/
namespace Go.Gm
open Go
variable {R : Type} {w0 w : World} {Mf : Nat → Prop} {g : Gh} {st : St} {a : Act}

/-- The same, with fewer blocks. -/
abbrev Gh.wrf (g : Gh) (rf : Nat → Nat → Prop) : Gh := { g with rf := rf }

/-- From st to st' roots were handed over, or pieces of them: Fs are their blocks, rf what is left. -/
structure TookP (w : World) (g : Gh) (rf : Nat → Nat → Prop) (st st' : St) (ups : List (Nat × Rt)) (Fs : List (Nat → Prop)) : Prop where
  eq : st' = { st with roots := asets st.roots ups }
  own : ∀ id, OwnAt st' id → OwnAt st id
  less : ∀ id k, rf id k → g.rf id k
  map : ∀ c u, ScRel w g st c u → ScRel w g st' c u
  apart : PairApart Fs
  src : ∀ F ∈ Fs, ∀ k, F k → ∃ id, OwnAt st id ∧ g.rf id k
  off : ∀ F ∈ Fs, ∀ k, F k → ∀ id, OwnAt st' id → ¬ rf id k
  live : ∀ id r, aget st'.roots id = some (.live r) → ∃ r0, aget st.roots id = some (.live r0) ∧ r0.ver = r.ver

theorem ScRel.rf (rf : Nat → Nat → Prop) {c : Sc} {u : Value} (h : ScRel w g st c u) : ScRel w (g.wrf rf) st c u := by
  cases c <;> exact h
theorem ScRel.rf' {rf : Nat → Nat → Prop} {c : Sc} {u : Value} (h : ScRel w (g.wrf rf) st c u) : ScRel w g st c u := by
  cases c <;> exact h
theorem CsL.rf (rf : Nat → Nat → Prop) : ∀ {cs : List Sc} {us : List Value}, CsL w g st cs us → CsL w (g.wrf rf) st cs us
  | [], [], _ => trivial
  | [], _ :: _, h => h.elim
  | _ :: _, [], h => h.elim
  | _ :: _, _ :: _, h => ⟨h.1.rf rf, CsL.rf rf h.2⟩

theorem TookP.refl (w : World) (g : Gh) (st : St) : TookP w g g.rf st st [] [] :=
  ⟨rfl, fun _ h => h, fun _ _ h => h, fun _ _ h => h, List.Pairwise.nil, by simp, by simp, fun _ r h => ⟨r, h, rfl⟩⟩
theorem TookP.trans {rf rf2 : Nat → Nat → Prop} {s1 s2 s3 : St} {u v : List (Nat × Rt)} {Fs Gs : List (Nat → Prop)} (h : TookP w g rf s1 s2 u Fs) (k : TookP w (g.wrf rf) rf2 s2 s3 v Gs) : TookP w g rf2 s1 s3 (u ++ v) (Fs ++ Gs) := by
  refine ⟨?_, fun id hi => h.own id (k.own id hi), fun id n hn => h.less id n (k.less id n hn), fun c u hc => (k.map c u ((h.map c u hc).rf rf)).rf', ?_, ?_, ?_, fun id r hr => ?_⟩
  · rw [k.eq, h.eq, asets_append]
  · refine List.pairwise_append.2 ⟨h.apart, k.apart, fun F hF G hG n hn hn' => ?_⟩
    obtain ⟨id, hid, hrf⟩ := k.src G hG n hn'
    exact h.off F hF n hn id hid hrf
  · intro F hF n hn
    rcases List.mem_append.1 hF with hF | hF
    · exact h.src F hF n hn
    · obtain ⟨id, hid, hrf⟩ := k.src F hF n hn
      exact ⟨id, h.own id hid, h.less id n hrf⟩
  · intro F hF n hn id hid hr
    rcases List.mem_append.1 hF with hF | hF
    · exact h.off F hF n hn id (k.own id hid) (k.less id n hr)
    · exact k.off F hF n hn id hid hr
  · obtain ⟨r1, h1, e1⟩ := k.live id r hr
    obtain ⟨r0, h0, e0⟩ := h.live id r1 h1
    exact ⟨r0, h0, e0.trans e1⟩
theorem Took.P {st' : St} {ups : List (Nat × Rt)} {Fs : List (Nat → Prop)} (T : Took w g st st' ups Fs) : TookP w g g.rf st st' ups Fs :=
  ⟨T.eq, T.own, fun _ _ h => h, T.map, T.apart, T.src, T.off, fun id r h => ⟨r, T.live id r h, rfl⟩⟩

/-- The same frame, with fewer blocks, and a root of which a part was taken. -/
theorem Inv.cutRoot (I : Inv w0 Mf g st a w) {id : Nat} {r : Root} (h : aget st.roots id = some (.live r)) (hm : r.md.isFrz = false) {md : Md} (hmd : md.isFrz = false) {F : Nat → Prop} (hF : ∀ k, F k → g.rf id k)
    (hr : RootRel w (g.wrf fun i k => if i = id then F k else g.rf i k) id ⟨r.t, md, r.ver, r.log, r.xs⟩) :
    Inv w0 Mf (g.wrf fun i k => if i = id then F k else g.rf i k) { st with roots := aset st.roots id (.live ⟨r.t, md, r.ver, r.log, r.xs⟩) } a w ∧
    ∀ c u, ScRel w g st c u → ScRel w g { st with roots := aset st.roots id (.live ⟨r.t, md, r.ver, r.log, r.xs⟩) } c u := by
  have hat : OwnAt st id := ⟨r, h, hm⟩
  have ho : ∀ id', OwnAt { st with roots := aset st.roots id (.live ⟨r.t, md, r.ver, r.log, r.xs⟩) } id' → OwnAt st id' := fun id' ⟨r', h1, h2⟩ => by
    simp only [aget_aset] at h1
    by_cases e : id' = id
    · rw [e]; exact hat
    · exact ⟨r', by simpa [e] using h1, h2⟩
  have hl : ∀ id' k, (if id' = id then F k else g.rf id' k) → g.rf id' k := by
    intro id' k hk
    by_cases e : id' = id
    · rw [if_pos e] at hk; rw [e]; exact hF k hk
    · rw [if_neg e] at hk; exact hk
  have hmap : ∀ c u, ScRel w g st c u → ScRel w g { st with roots := aset st.roots id (.live ⟨r.t, md, r.ver, r.log, r.xs⟩) } c u := by
    intro c u hc
    have hv : ∀ id' ver iv, verOk st id' ver iv → verOk { st with roots := aset st.roots id (.live ⟨r.t, md, r.ver, r.log, r.xs⟩) } id' ver iv := by
      intro id' ver iv hv
      unfold verOk at hv ⊢
      simp only [aget_aset]
      by_cases e : id' = id
      · subst e; simp only [h] at hv; simp only [if_true]; exact hv
      · simpa [e] using hv
    have hx : ∀ id' ver iv p r', Vx { st with roots := aset st.roots id (.live ⟨r.t, md, r.ver, r.log, r.xs⟩) } id' ver iv p r' → ∃ r0, Vx st id' ver iv p r0 ∧ r0.t = r'.t ∧ HEq r0.xs r'.xs := by
      intro id' ver iv p r' ⟨h1, h2, h3⟩
      simp only [aget_aset] at h1
      by_cases e : id' = id
      · subst e
        simp only [if_true, Option.some.injEq, Rt.live.injEq, reduceCtorEq, or_false] at h1
        subst h1
        exact ⟨r, ⟨.inl h, h2, h3⟩, rfl, .rfl⟩
      · exact ⟨r', ⟨by simpa [e] using h1, h2, h3⟩, rfl, .rfl⟩
    refine ⟨hc.1, ?_⟩
    have h2 := hc.2
    cases c with
    | h id' ver iv p =>
      refine ⟨hv _ _ _ h2.1, fun r' hr' => ?_⟩
      obtain ⟨⟨t0, md0, v0, l0, x0⟩, h3, e1, e2⟩ := hx _ _ _ _ _ hr'
      obtain ⟨t1, md1, v1, l1, x1⟩ := r'
      simp only at e1; subst e1
      have e2 := eq_of_heq e2
      simp only at e2; subst e2
      have h4 := h2.2 ⟨t0, md0, v0, l0, x0⟩ h3
      exact h4
    | vw id' ver lo hi =>
      refine ⟨hv _ _ _ h2.1, fun r' hr' => ?_⟩
      obtain ⟨⟨t0, md0, v0, l0, x0⟩, h3, e1, e2⟩ := hx _ _ _ _ _ hr'
      obtain ⟨t1, md1, v1, l1, x1⟩ := r'
      simp only at e1; subst e1
      have e2 := eq_of_heq e2
      simp only at e2; subst e2
      have h4 := h2.2 ⟨t0, md0, v0, l0, x0⟩ h3
      exact h4
    | pe id' ver iv p i off =>
      refine ⟨hv _ _ _ h2.1, fun r' hr' => ?_⟩
      obtain ⟨⟨t0, md0, v0, l0, x0⟩, h3, e1, e2⟩ := hx _ _ _ _ _ hr'
      obtain ⟨t1, md1, v1, l1, x1⟩ := r'
      simp only at e1; subst e1
      have e2 := eq_of_heq e2
      simp only at e2; subst e2
      have h4 := h2.2 ⟨t0, md0, v0, l0, x0⟩ h3
      exact h4
    | _ => exact h2
  refine ⟨?_, hmap⟩
  exact {
    slots := fun s sv h' => let ⟨u, hu, hr⟩ := I.slots s sv h'; ⟨u, hu, hr.map fun c u hc => (hmap c u hc).rf _⟩
    boxes := fun b x h' => let ⟨us, el, h1, h2⟩ := I.boxes b x h'; ⟨us, el, h1, h2.map fun c u hc => (hmap c u hc).rf _⟩
    roots := fun id' r' h' => by
      simp only [aget_aset] at h'
      by_cases e : id' = id
      · subst e; simp only [if_true, Option.some.injEq, Rt.live.injEq] at h'; subst h'; exact hr
      · have := I.roots id' r' (by simpa [e] using h')
        unfold RootRel at this ⊢
        simpa [e] using this
    apart := {
      rr := fun i i' k h1 h2 h3 h4 => I.apart.rr i i' k (ho _ h1) (ho _ h2) (hl _ _ h3) (hl _ _ h4)
      rb := fun i b h1 h2 h3 => I.apart.rb i b (ho _ h1) h2 (hl _ _ h3)
      bb := I.apart.bb
      ro_r := fun i k h1 h3 => I.apart.ro_r i k (ho _ h1) (hl _ _ h3)
      ro_b := I.apart.ro_b
      mine_r := fun i k h1 h3 => I.apart.mine_r i k (ho _ h1) (hl _ _ h3)
      mine_b := I.apart.mine_b
      lt_r := fun i k h1 h3 => I.apart.lt_r i k (ho _ h1) (hl _ _ h3)
      lt_ro := I.apart.lt_ro
      mine_ro := I.apart.mine_ro }
    kept := I.kept
    defers := I.defers
    size := I.size
    base := ⟨I.base.wl, I.base.ap, I.base.ro⟩ }

theorem takes_part {m : Md} {i j : Nat} (h : m.takes i j = true) : m.isFrz = false ∧ (m = .deep ∨ ∃ a b, m = .part (.cur a b) ∧ leC a b i j = true) := by
  cases m with
  | deep => exact ⟨rfl, .inl rfl⟩
  | part k =>
    cases k with
    | cur a b => exact ⟨rfl, .inr ⟨a, b, rfl, h⟩⟩
    | hole p => cases h
  | shal => cases h
  | frz => cases h
/-- What is left of a root is its own from here on. -/
theorem Inv.asPart (I : Inv w0 Mf g st a w) {id : Nat} {r : Root} (h : aget st.roots id = some (.live r)) {i j : Nat} (ht : r.md.takes i j = true) : TreePart w (g.rf id) (.cur i j) r.t r.xs (g.rv id) := by
  have hr := I.roots id r h
  unfold RootRel at hr
  obtain ⟨_, hm | ⟨a', b', hm, hl⟩⟩ := takes_part ht
  · rw [hm] at hr; exact hr.part _
  · rw [hm] at hr; exact hr.on hl

theorem Inv.take (I : Inv w0 Mf g st a w) {id : Nat} {r : Root} (h : aget st.roots id = some (.live r)) {i j i' j' : Nat} (ht : r.md.takes i j = true) (hl : leC i j i' j' = true) {Fs : Nat → Prop}
    (hF : ∀ k, Fs k ↔ ∃ p s, (Pt.cur i j).nodeAt p = true ∧ (Pt.cur i' j').nodeAt p = false ∧ subR r.t r.xs p = some s ∧ blk (g.rv id p) = some k) :
    ∃ rf, Inv w0 Mf (g.wrf rf) (st.taken id r i' j') a w ∧ TookP w g rf st (st.taken id r i' j') [(id, .live ⟨r.t, .part (.cur i' j'), r.ver, r.log, r.xs⟩)] [Fs] := by
  have hp := I.asPart h ht
  have hfz := (takes_part ht).1
  have hat : OwnAt st id := ⟨r, h, hfz⟩
  have hFr : ∀ k, Fs k → g.rf id k := fun k hk => by
    obtain ⟨p, s, h1, _, h3, h4⟩ := (hF k).1 hk
    exact NodeOwn.blkF (hp.1 p s h1 h3) h4
  have hnew : TreePart w (fun k => g.rf id k ∧ ¬ Fs k) (.cur i' j') r.t r.xs (g.rv id) := by
    have ho := hp.on hl
    refine ⟨fun p s h1 hs => NodeOwn.toF (ho.1 p s h1 hs) fun k hk => ⟨NodeOwn.blkF (ho.1 p s h1 hs) hk, fun hk' => ?_⟩, ho.2⟩
    obtain ⟨q, s', h2, h3, h4, h5⟩ := (hF k).1 hk'
    have := hp.2.1 p q s s' k (nodeAt_mono hl h1) h2 hs h4 hk h5
    subst this
    rw [h1] at h3; cases h3
  obtain ⟨I1, hmap⟩ := I.cutRoot h hfz (md := .part (.cur i' j')) rfl (F := fun k => g.rf id k ∧ ¬ Fs k) (fun k hk => hk.1) (by unfold RootRel; simpa using hnew)
  refine ⟨_, I1, rfl, fun id' ⟨r', h1, h2⟩ => ?_, fun id' k hk => ?_, hmap, List.pairwise_singleton _ _, fun F hF' k hk => ?_, fun F hF' k hk id' hid hrf => ?_, fun id' r' h' => ?_⟩
  · simp only [St.taken, aget_aset] at h1
    by_cases e : id' = id
    · rw [e]; exact hat
    · exact ⟨r', by simpa [e] using h1, h2⟩
  · by_cases e : id' = id
    · rw [if_pos e] at hk; rw [e]; exact hk.1
    · rw [if_neg e] at hk; exact hk
  · simp only [List.mem_singleton] at hF'; subst hF'
    exact ⟨id, hat, hFr k hk⟩
  · simp only [List.mem_singleton] at hF'; subst hF'
    by_cases e : id' = id
    · rw [if_pos e] at hrf; exact hrf.2 hk
    · rw [if_neg e] at hrf
      obtain ⟨r', h1, h2⟩ := hid
      simp only [St.taken, aget_aset, e, if_false] at h1
      exact e (I.apart.rr id' id k ⟨r', h1, h2⟩ hat hrf (hFr k hk))
  · simp only [St.taken, aget_aset] at h'
    by_cases e : id' = id
    · subst e
      simp only [if_true, Option.some.injEq, Rt.live.injEq] at h'
      subst h'; exact ⟨r, h, rfl⟩
    · exact ⟨r', by simpa [e] using h', rfl⟩

theorem TreePart.at {F : Nat → Prop} {a b : Nat} {t : Ty} {xs : List (El t)} {av : Path → Value} (hp : TreePart w F (.cur a b) t xs av) {i j : Nat} (hl : leC a b i j = true) {s : Sl} (hs' : subR t xs [(i, j)] = some s) :
    TreeOwn w (Under t xs av [(i, j)]) s.t s.xs fun q => av ([(i, j)] ++ q) := by
  have hna : ∀ q, (Pt.cur a b).nodeAt ([(i, j)] ++ q) = true := fun q => hl
  refine ⟨fun q s2 hq => ?_, fun q q' s1 s2 b h1 h2 h3 h4 => ?_⟩
  · have h1 : subR t xs ([(i, j)] ++ q) = some s2 := by rw [subR_append q hs']; exact hq
    have := NodeOwn.toF (G := Under t xs av [(i, j)]) (hp.1 _ s2 (hna q) h1) fun k hk => ⟨q, s2, h1, hk⟩
    simpa [List.append_assoc] using this
  · have e1 : subR t xs ([(i, j)] ++ q) = some s1 := by rw [subR_append q hs']; exact h1
    have e2 : subR t xs ([(i, j)] ++ q') = some s2 := by rw [subR_append q' hs']; exact h2
    have := hp.2.1 _ _ _ _ b (hna q) (hna q') e1 e2 h3 h4
    simpa using this
theorem Inv.absScP (I : Inv w0 Mf g st a w) {c : Sc} {q : Option Ty} {k : Cv → Bool → St → List (Nat × Rt) → Option R} {r : R} {u : Value} (h : absScP st c q k = some r) (hc : ScRel w g st c u) :
    ∃ cv d st' ups F rf, k cv d st' ups = some r ∧ Inv w0 Mf (g.wrf rf) st' a w ∧ TookP w g rf st st' ups [F] ∧ CRd w (fun k => F k ∨ g.ro k) cv u ∧ (d = true → COwn w F cv u) := by
  unfold Gm.absScP at h
  split at h
  · rename_i id ver iv i j t
    obtain ⟨ro, hro, h⟩ := getRp_some h
    obtain ⟨ht, h⟩ := condN h
    obtain ⟨s, hs, h⟩ := bindS h
    obtain ⟨hu, hsome⟩ := hc.2.2 ro hro.x
    obtain ⟨s', hs'⟩ := Option.isSome_iff_exists.1 hsome
    have := sub_of_subR hs'
    rw [hs] at this; cases this
    have hp := I.asPart hro.1 ht
    have hl : leC i j i (j + 1) = true := leC_iff.2 (.inr ⟨rfl, Nat.le_succ _⟩)
    have hna : ∀ q, (Pt.cur i j).nodeAt ([(i, j)] ++ q) = true := fun q => leC_iff.2 (.inr ⟨rfl, Nat.le_refl _⟩)
    let F : Nat → Prop := Under ro.t ro.xs (g.rv id) [(i, j)]
    obtain ⟨rf, I1, T1⟩ := I.take hro.1 ht hl (Fs := F) (fun k => by
      constructor
      · rintro ⟨q, s2, h1, h2⟩
        refine ⟨[(i, j)] ++ q, s2, hna q, ?_, h1, h2⟩
        show leC i (j + 1) i j = false
        cases hh : leC i (j + 1) i j with
        | false => rfl
        | true => rw [leC_iff] at hh; omega
      · rintro ⟨p, s2, h1, h2, h3, h4⟩
        cases p with
        | nil => cases h2
        | cons ij p =>
          obtain ⟨i2, j2⟩ := ij
          have h1 : leC i j i2 j2 = true := h1
          have h2 : leC i (j + 1) i2 j2 = false := h2
          have : i2 = i ∧ j2 = j := by
            rw [leC_iff] at h1
            have h2' : ¬ (i < i2 ∨ (i = i2 ∧ j + 1 ≤ j2)) := fun hh => by rw [leC_iff.2 hh] at h2; cases h2
            omega
          obtain ⟨rfl, rfl⟩ := this
          exact ⟨p, s2, h3, h4⟩)
    have hown : TreeOwn w F s.t s.xs fun q => g.rv id ([(i, j)] ++ q) := hp.at (leC_iff.2 (.inr ⟨rfl, Nat.le_refl _⟩)) hs'
    exact ⟨_, _, _, _, F, rf, h, I1, T1, ⟨_, by simpa using hu.symm, hown.rd.mono fun k => .inl⟩, fun _ => ⟨_, by simpa using hu.symm, hown⟩⟩
  · obtain ⟨cv, d, st', ups, F, h1, I1, T1, h2, h3⟩ := I.absSc h hc
    exact ⟨cv, d, st', ups, F, g.rf, h1, I1, T1.P, h2, h3⟩

theorem Inv.absLP : ∀ {cs : List Sc} {g : Gh} {st : St} {qs : List (Option Ty)} {k : List Cv → Bool → St → List (Nat × Rt) → Option R} {r : R} {us : List Value}, Inv w0 Mf g st a w →
    absLP st cs qs k = some r → CsL w g st cs us →
    ∃ cv d st' ups Fs rf, k cv d st' ups = some r ∧ Inv w0 Mf (g.wrf rf) st' a w ∧ TookP w g rf st st' ups Fs ∧ AbsL w g.ro cv us Fs d
  | [], g, st, [], k, r, us, I, h, hc => by
    cases us with
    | nil => exact ⟨[], true, st, [], [], g.rf, h, I, TookP.refl _ _ _, .nil⟩
    | cons u us => exact hc.elim
  | c :: cs, g, st, q :: qs, k, r, us, I, h, hc => by
    cases us with
    | nil => exact hc.elim
    | cons u us =>
      obtain ⟨cv, d, s1, u1, F, rf, h1, I1, T1, hr, ho⟩ := I.absScP h hc.1
      obtain ⟨cvs, d2, s2, u2, Fs, rf2, h2, I2, T2, hA⟩ := Inv.absLP I1 h1 ((hc.2.map T1.map).rf rf)
      exact ⟨_, _, _, _, _, rf2, h2, I2, T1.trans T2, .cons hr ho hA⟩
  | [], g, _, _ :: _, k, r, us, I, h, hc => by cases h
  | _ :: _, g, _, [], k, r, us, I, h, hc => by cases h


/-- A list at a way, taken out of a list of one's own: it becomes a root of its own. -/
theorem Inv.detach (I : Inv w0 Mf g st a w) {id : Nat} {r : Root} (h : aget st.roots id = some (.live r)) (hm : r.md = .deep) {p : Path} (hp0 : p ≠ []) {s : Sl} (hs : subR r.t r.xs p = some s) {id' ver : Nat} (hne : id' ≠ id)
    (hfit : FitVer st id' ⟨s.t, .deep, ver, [], s.xs⟩) :
    ∃ g', g'.n = g.n ∧ g'.ro = g.ro ∧ (∀ b, g'.bx b = g.bx b) ∧ g'.rv id' [] = g.rv id p ∧
      Inv w0 Mf g' { st with roots := aset (aset st.roots id (.live ⟨r.t, .part (.hole p), r.ver, r.log, r.xs⟩)) id' (.live ⟨s.t, .deep, ver, [], s.xs⟩) } a w ∧
      ∀ i k, OwnAt { st with roots := aset (aset st.roots id (.live ⟨r.t, .part (.hole p), r.ver, r.log, r.xs⟩)) id' (.live ⟨s.t, .deep, ver, [], s.xs⟩) } i → g'.rf i k → ∃ i0, OwnAt st i0 ∧ g.rf i0 k := by
  have hr := I.roots id r h
  unfold RootRel at hr
  rw [hm] at hr
  have hr : TreeOwn w (g.rf id) r.t r.xs (g.rv id) := hr
  have hfz : r.md.isFrz = false := by rw [hm]; rfl
  have hat : OwnAt st id := ⟨r, h, hfz⟩
  let F : Nat → Prop := Under r.t r.xs (g.rv id) p
  have hFr : ∀ k, F k → g.rf id k := fun k ⟨q, s2, h1, h2⟩ => NodeOwn.blkF (hr.1 _ s2 h1) h2
  have hpart := hr.part (.hole p)
  have hnew : TreePart w (fun k => g.rf id k ∧ ¬ F k) (.hole p) r.t r.xs (g.rv id) := by
    refine ⟨fun q s2 h1 h2 => NodeOwn.toF (hr.1 q s2 h2) fun k hk => ⟨NodeOwn.blkF (hr.1 q s2 h2) hk, fun ⟨q', s3, h3, h4⟩ => ?_⟩, hpart.2⟩
    have := hr.2 _ _ _ _ k h2 h3 hk h4
    subst this
    exact (hole_iff hp0).1 h1 (List.prefix_append _ _)
  obtain ⟨I1, _⟩ := I.cutRoot h hfz (md := .part (.hole p)) rfl (F := fun k => g.rf id k ∧ ¬ F k) (fun k hk => hk.1) (by unfold RootRel; simpa using hnew)
  have hfit1 : FitVer { st with roots := aset st.roots id (.live ⟨r.t, .part (.hole p), r.ver, r.log, r.xs⟩) } id' ⟨s.t, .deep, ver, [], s.xs⟩ := by
    unfold FitVer at hfit ⊢
    simpa only [aget_aset_ne _ _ hne] using hfit
  have hsub : TreeOwn w F s.t s.xs fun q => g.rv id (p ++ q) := hr.at hs
  have I2 := I1.setR (id := id') (r := ⟨s.t, .deep, ver, [], s.xs⟩) hfit1 (av := fun q => g.rv id (p ++ q)) (F := F) (by unfold RootRel; simp only [Gh.setR, if_true]; exact hsub)
    (fun k hk => ⟨fun i ⟨r', h1, h2⟩ hi hrf => by
      simp only [aget_aset] at h1
      by_cases e : i = id
      · subst e
        simp only [if_true] at hrf
        exact hrf.2 hk
      · simp only [e, if_false] at h1 hrf
        exact e (I.apart.rr i id k ⟨r', h1, h2⟩ hat hrf (hFr k hk)), I.apart.ro_r id k hat (hFr k hk), fun b hb e => I.apart.rb id b hat hb (e ▸ hFr k hk), I.apart.mine_r id k hat (hFr k hk), I.apart.lt_r id k hat (hFr k hk)⟩)
  refine ⟨(g.wrf fun i k => if i = id then g.rf id k ∧ ¬ F k else g.rf i k).setR id' (fun q => g.rv id (p ++ q)) F, rfl, rfl, fun _ => rfl, ?_, I2, fun i k ⟨r', h1, h2⟩ hrf => ?_⟩
  · simp [Gh.setR]
  · by_cases e : i = id'
    · subst e
      simp only [Gh.setR, if_true] at hrf
      exact ⟨id, hat, hFr k hrf⟩
    · simp only [Gh.setR, e, if_false] at hrf
      by_cases e2 : i = id
      · subst e2
        simp only [if_true] at hrf
        exact ⟨i, hat, hrf.1⟩
      · simp only [e2, if_false] at hrf
        simp only [aget_aset, e, e2, if_false] at h1
        exact ⟨i, ⟨r', h1, h2⟩, hrf⟩
end Go.Gm

/- append, on the frame's state. -/
namespace Go.Gm
open Go

variable {R : Type} {P : Program} {E : Env} {w0 w : World} {Mf : Nat → Prop} {g : Gh} {st : St} {a : Act} {Q : Exit → Act → World → Prop}
  {o : Oper} {k : Dl → Option R} {r : R} {K : Act → World → Prop}

theorem aset_aset {α : Type} (l : List (Nat × α)) (n : Nat) (x y : α) : aset (aset l n x) n y = aset l n y := by
  induction l with
  | nil => simp [aset, Nat.beq_refl]
  | cons kv l ih =>
    obtain ⟨k, u⟩ := kv
    simp only [aset]
    cases h1 : Nat.beq n k
    · cases h2 : Nat.blt n k
      · simp only [cond_false, aset, h1, h2, ih]
      · simp only [cond_false, cond_true, aset, Nat.beq_refl]
    · simp only [cond_true, aset, Nat.beq_refl]

theorem RowsIn.size {t : Ty} {ys : List (El t)} {cs : Array Value} {o : Nat} {kid : Nat → Nat → Value} (h : RowsIn t ys cs o kid) (hn : ys ≠ []) : o + ys.length * esz t ≤ cs.size := by
  have hpos := esz_pos t
  have hl : 0 < ys.length := List.length_pos_iff.2 hn
  have hi : ys.length - 1 < ys.length := by omega
  obtain ⟨u, hu, _⟩ := h (ys.length - 1) ys[ys.length - 1] (esz t - 1) _ (List.getElem?_eq_getElem hi) (List.getElem?_eq_getElem (by rw [enc_length]; omega))
  have hlt : o + (ys.length - 1) * esz t + (esz t - 1) < cs.size := by
    rcases Nat.lt_or_ge (o + (ys.length - 1) * esz t + (esz t - 1)) cs.size with h' | h'
    · exact h'
    · simp [Array.getElem?_eq_none h'] at hu
  have : ys.length * esz t = (ys.length - 1) * esz t + esz t := by
    have e : ys.length = (ys.length - 1) + 1 := by omega
    conv => lhs; rw [e, Nat.add_mul, Nat.one_mul]
  omega

/-- The values of a list's row. -/
theorem NodeRd.news {F : Nat → Prop} {t : Ty} {ys : List (El t)} {v : Value} {kid : Nat → Nat → Value} (h : NodeRd w F t ys v kid) :
    ∃ xa cap news, v = .slice xa ys.length cap ∧ ys.length ≤ cap ∧ news.length = ys.length * esz t ∧ Lies w xa news ∧
      ∀ i y j c, ys[i]? = some y → (enc t y)[j]? = some c → ∃ u, news[i * esz t + j]? = some u ∧ CellIs c u (kid i j) := by
  obtain ⟨xa, cap, e, hle, hh⟩ := h
  by_cases hn : ys = []
  · subst hn
    exact ⟨xa, cap, [], e, hle, by simp, .inl rfl, fun i y j c h => by simp at h⟩
  · obtain ⟨b, oo, cs, el, fz, rfl, hF, hb, hr⟩ := hh hn
    have hsz := hr.size hn
    refine ⟨_, cap, (cs.toList.drop oo).take (ys.length * esz t), e, hle, by simp; omega, .inr ⟨b, oo, cs, el, fz, rfl, hb, fun j v hj => ?_⟩, fun i y j c hy hc => ?_⟩
    · rw [List.getElem?_take] at hj
      split at hj
      · rw [List.getElem?_drop] at hj; simpa using hj
      · cases hj
    · obtain ⟨u, hu, hcu⟩ := hr i y j c hy hc
      refine ⟨u, ?_, hcu⟩
      have hi : i < ys.length := by
        rcases Nat.lt_or_ge i ys.length with h' | h'
        · exact h'
        · simp [List.getElem?_eq_none h'] at hy
      have hj : j < esz t := by
        rw [← enc_length t y]
        rcases Nat.lt_or_ge j (enc t y).length with h' | h'
        · exact h'
        · simp [List.getElem?_eq_none h'] at hc
      have : i * esz t + j < ys.length * esz t := by
        have : (i + 1) * esz t ≤ ys.length * esz t := Nat.mul_le_mul_right _ hi
        rw [Nat.add_mul] at this; omega
      rw [List.getElem?_take, if_pos this, List.getElem?_drop]
      simpa [Nat.add_assoc] using hu

/-- What is appended. -/
structure Src (w : World) (ro : Nat → Prop) (d : Bool) (F : Nat → Prop) (e : Ty) (ys : List (El e)) (u : Value) (xa : Option Addr) (cap : Nat) (news : List Value) (G : Nat → Nat → Nat → Prop) : Prop where
  eq : u = .slice xa ys.length cap
  len : news.length = ys.length * esz e
  lies : Lies w xa news
  rows : ∀ i y j c, ys[i]? = some y → (enc e y)[j]? = some c → ∃ z, news[i * esz e + j]? = some z ∧ CRd w (fun k => F k ∨ ro k) c z ∧ (d = true → COwn w (G i j) c z)
  dis : ∀ i j i' j' k, G i j k → G i' j' k → i = i' ∧ j = j'
  sub : ∀ i j k, G i j k → F k

theorem Src.flat {ro : Nat → Prop} {d : Bool} {F : Nat → Prop} {e : Ty} {ys : List (El e)} {u : Value} {xa : Option Addr} {cap : Nat} {news : List Value} {G : Nat → Nat → Nat → Prop}
    (h : Src w ro d F e ys u xa cap news G) : ∀ v ∈ news, v.oneCell' = true := by
  intro v hv
  obtain ⟨n, hn⟩ := List.getElem?_of_mem hv
  have hpos := esz_pos e
  have hlt : n < news.length := by
    rcases Nat.lt_or_ge n news.length with h' | h'
    · exact h'
    · simp [List.getElem?_eq_none h'] at hn
  rw [h.len] at hlt
  have hi : n / esz e < ys.length := Nat.div_lt_of_lt_mul (by rw [Nat.mul_comm]; exact hlt)
  have hj : n % esz e < esz e := Nat.mod_lt _ hpos
  obtain ⟨z, hz, hr, _⟩ := h.rows (n / esz e) ys[n / esz e] (n % esz e) _ (List.getElem?_eq_getElem hi) (List.getElem?_eq_getElem (by rw [enc_length]; exact hj))
  have : n / esz e * esz e + n % esz e = n := by rw [Nat.mul_comm]; exact Nat.div_add_mod n (esz e)
  rw [this, hn] at hz; cases hz
  exact flat_one (flat_of_cell (List.getElem?_eq_getElem (by rw [enc_length]; exact hj)) hr)

theorem kinds_flat {e : Ty} (h : (kinds e).all (fun q => q.isNone) = true) {y : El e} {j : Nat} {c : Cv} (hc : (enc e y)[j]? = some c) : ∃ x, c = .v x := by
  have h1 := kinds_eq e y
  rw [← h1, List.all_map, List.all_eq_true] at h
  have := h _ (List.mem_of_getElem? hc)
  cases c with
  | v x => exact ⟨x, rfl⟩
  | l t ys => simp [Cv.kind] at this

theorem subR_one' {t : Ty} {xs : List (El t)} {i j : Nat} {s : Sl} (h : subR t xs [(i, j)] = some s) : ∃ x, xs[i]? = some x ∧ (enc t x)[j]? = some (.l s.t s.xs) := by
  simp only [subR] at h
  split at h
  · rename_i x hx
    split at h
    · rename_i t' ys hc
      simp only [Option.some.injEq] at h; subst h
      exact ⟨x, hx, hc⟩
    · cases h
  · cases h
/-- What is appended, out of what was taken over. -/
theorem srcTook {g : Gh} {st st' : St} {rf : Nat → Nat → Prop} {ups : List (Nat × Rt)} {F : Nat → Prop} {e : Ty} {xs : List (El e)} {d : Bool} {u : Value} (I' : Inv w0 Mf (g.wrf rf) st' a w) (T' : TookP w g rf st st' ups [F])
    (hr : CRd w (fun k => F k ∨ g.ro k) (.l e xs) u) (ho : d = true → COwn w F (.l e xs) u) : ∃ xa cap news G, Inv w0 Mf (g.wrf rf) st' a w ∧ TookP w g rf st st' ups [F] ∧ Src w g.ro d F e xs u xa cap news G := by
  cases d
  · obtain ⟨av, h0, hav⟩ := hr
    obtain ⟨xa, cap, news, e1, _, h2, h3, h4⟩ := (hav [] _ rfl).news
    refine ⟨xa, cap, news, fun _ _ _ => False, I', T', ⟨by rw [← h0]; exact e1, h2, h3, fun i y j c hy hcc => ?_, fun _ _ _ _ _ h => h.elim, fun _ _ _ h => h.elim⟩⟩
    obtain ⟨z, hz, hcz⟩ := h4 i y j c hy hcc
    refine ⟨z, hz, ?_, fun h => by cases h⟩
    cases c with
    | v x => exact hcz
    | l t ys => exact ⟨fun q => av ([(i, j)] ++ q), by simpa [CellIs] using hcz.symm, hav.at (subR_one hy hcc)⟩
  · obtain ⟨av, h0, hav⟩ := ho rfl
    obtain ⟨xa, cap, news, e1, _, h2, h3, h4⟩ := (hav.1 [] _ rfl).rd.news
    refine ⟨xa, cap, news, fun i j => Under e xs av [(i, j)], I', T', ⟨by rw [← h0]; exact e1, h2, h3, fun i y j c hy hcc => ?_, fun i j i' j' n ⟨q, s, h1, h2⟩ ⟨q', s', h3, h4⟩ => ?_,
      fun i j n ⟨q, s, h1, h2⟩ => (hav.1 _ s h1).blkF h2⟩⟩
    · obtain ⟨z, hz, hcz⟩ := h4 i y j c hy hcc
      refine ⟨z, hz, ?_, fun _ => ?_⟩
      · cases c with
        | v x => exact hcz
        | l t ys => exact ⟨fun q => av ([(i, j)] ++ q), by simpa [CellIs] using hcz.symm, (hav.rd.at (subR_one hy hcc)).mono fun n => .inl⟩
      · cases c with
        | v x => exact hcz
        | l t ys => exact ⟨fun q => av ([(i, j)] ++ q), by simpa [CellIs] using hcz.symm, hav.at (subR_one hy hcc)⟩
    · have := hav.2 _ _ _ _ n h1 h3 h2 h4
      simp only [List.singleton_append, List.cons.injEq, Prod.mk.injEq] at this
      exact this.1
/-- A piece of an own list, taken out of it. -/
theorem Inv.srcPiece (I : Inv w0 Mf g st a w) {id ver lo hi : Nat} {ro : Root} (hv : aget st.roots id = some (.live ro)) (ht : ro.md.takes lo 0 = true) (h1 : lo ≤ hi) (h2 : hi ≤ ro.xs.length) :
    ∃ F rf xa cap news G, Inv w0 Mf (g.wrf rf) (st.taken id ro hi 0) a w ∧ TookP w g rf st (st.taken id ro hi 0) [(id, .live ⟨ro.t, .part (.cur hi 0), ro.ver, ro.log, ro.xs⟩)] [F] ∧
      Src w g.ro true F ro.t ((ro.xs.take hi).drop lo) (cutV (esz ro.t) (g.rv id []) lo hi) xa cap news G := by
  have hp := I.asPart hv ht
  obtain ⟨rf, I1, T1⟩ := I.take hv ht (leC_iff.2 (show lo < hi ∨ (lo = hi ∧ 0 ≤ 0) by omega)) (fun _ => Iff.rfl)
  have hnode := NodeOwn.cut (hp.1 [] ⟨ro.t, ro.xs⟩ rfl rfl) h1 h2
  obtain ⟨xa, cap, news, e1, _, h3, h4, h5⟩ := hnode.rd.news
  have hle : ∀ i j, leC lo 0 (i + lo) j = true := fun i j => leC_iff.2 (by omega)
  refine ⟨_, rf, xa, cap, news, fun i j k => i + lo < hi ∧ Under ro.t ro.xs (g.rv id) [(i + lo, j)] k, I1, T1, ⟨e1, h3, h4, fun i y j c hy hc => ?_, ?_, ?_⟩⟩
  · obtain ⟨z, hz, hcz⟩ := h5 i y j c hy hc
    have hi' : i + lo < hi := by
      rw [getElem?_cut] at hy
      split at hy
      · omega
      · cases hy
    have own : COwn w (fun k => i + lo < hi ∧ Under ro.t ro.xs (g.rv id) [(i + lo, j)] k) c z := by
      cases c with
      | v x => exact hcz
      | l t ys =>
        have hs : subR ro.t ro.xs [(i + lo, j)] = some ⟨t, ys⟩ := by
          have := subR_cut (subR_one hy hc); exact this
        exact ⟨fun q => g.rv id ([(i + lo, j)] ++ q), by simpa [CellIs] using hcz.symm, (hp.at (hle i j) hs).mono fun k hk => ⟨hi', hk⟩⟩
    refine ⟨z, hz, ?_, fun _ => own⟩
    cases c with
    | v x => exact hcz
    | l t ys =>
      obtain ⟨av, h6, h7⟩ := own
      refine ⟨av, h6, h7.rd.mono fun k hk => .inl ?_⟩
      obtain ⟨_, q, s, h8, h9⟩ := hk
      refine ⟨[(i + lo, j)] ++ q, s, hle i j, ?_, h8, h9⟩
      show leC hi 0 (i + lo) j = false
      cases hh : leC hi 0 (i + lo) j with
      | false => rfl
      | true => rw [leC_iff] at hh; omega
  · rintro i j i' j' n ⟨_, q, s, h6, h7⟩ ⟨_, q', s', h8, h9⟩
    have := hp.2.1 ([(i + lo, j)] ++ q) ([(i' + lo, j')] ++ q') _ _ n (hle i j) (hle i' j') h6 h8 h7 h9
    simp only [List.singleton_append, List.cons.injEq, Prod.mk.injEq] at this
    exact ⟨by omega, this.1.2⟩
  · rintro i j k ⟨hi', q, s, h8, h9⟩
    refine ⟨[(i + lo, j)] ++ q, s, hle i j, ?_, h8, h9⟩
    show leC hi 0 (i + lo) j = false
    cases hh : leC hi 0 (i + lo) j with
    | false => rfl
    | true => rw [leC_iff] at hh; omega

theorem Inv.srcOf (I : Inv w0 Mf g st a w) {e : Ty} {c : Sc} {k : List (El e) → Bool → St → List (Nat × Rt) → Option R} {r : R} {u : Value} (h : srcOf st e c k = some r) (hc : ScRel w g st c u) :
    ∃ ys d st' ups F rf xa cap news G, k ys d st' ups = some r ∧ Inv w0 Mf (g.wrf rf) st' a w ∧ TookP w g rf st st' ups [F] ∧ Src w g.ro d F e ys u xa cap news G := by
  have T0 : Took w g st st [] [fun _ => False] :=
    ⟨rfl, fun _ h => h, fun _ _ h => h, List.pairwise_singleton _ _, fun F hF k hk => by simp only [List.mem_singleton] at hF; subst hF; exact hk.elim,
      fun F hF k hk => by simp only [List.mem_singleton] at hF; subst hF; exact hk.elim, fun _ _ h => h, fun _ _ h => h⟩
  unfold Gm.srcOf at h
  split at h
  · rename_i hfl
    replace h := I.rdSc h hc; obtain ⟨cv, h, hcv⟩ := h
    replace h := bindS h; obtain ⟨xs, hxs, h⟩ := h
    have := dec_enc hxs
    simp only [enc, List.cons.injEq, and_true] at this
    subst this
    obtain ⟨av, h0, hav⟩ := hcv
    obtain ⟨xa, cap, news, e1, _, h2, h3, h4⟩ := (hav [] _ rfl).news
    refine ⟨xs, true, st, [], _, g.rf, xa, cap, news, fun _ _ _ => False, h, I, T0.P, ⟨by rw [← h0]; exact e1, h2, h3, fun i y j c hy hcc => ?_, fun _ _ _ _ _ h => h.elim, fun _ _ _ h => h⟩⟩
    obtain ⟨z, hz, hcz⟩ := h4 i y j c hy hcc
    obtain ⟨x, rfl⟩ := kinds_flat hfl hcc
    exact ⟨z, hz, hcz, fun _ => hcz⟩
  · have fin : ∀ {rf : Nat → Nat → Prop} {cv : Cv} {d : Bool} {st' : St} {ups : List (Nat × Rt)} {F : Nat → Prop}, ((dec (.sl e) [cv]).bind fun xs => k xs d st' ups) = some r → Inv w0 Mf (g.wrf rf) st' a w → TookP w g rf st st' ups [F] →
        CRd w (fun k => F k ∨ g.ro k) cv u → (d = true → COwn w F cv u) → ∃ ys d st' ups F rf xa cap news G, k ys d st' ups = some r ∧ Inv w0 Mf (g.wrf rf) st' a w ∧ TookP w g rf st st' ups [F] ∧ Src w g.ro d F e ys u xa cap news G := by
      intro rf cv d st' ups F h I' T' hr ho
      replace h := bindS h; obtain ⟨xs, hxs, h⟩ := h
      have := dec_enc hxs
      simp only [enc, List.cons.injEq, and_true] at this
      subst this
      obtain ⟨xa, cap, news, G, h1, h2, h3⟩ := srcTook I' T' hr ho
      exact ⟨xs, d, st', ups, F, rf, xa, cap, news, G, h, h1, h2, h3⟩
    unfold Gm.absVw at h
    split at h
    · rename_i id ver lo hi t _
      replace h := getR_some h; obtain ⟨ro, hv, hver, h⟩ := h
      cases ht : ro.md.takes lo 0
      · rw [ht] at h
        simp only [cond_false] at h
        replace h := I.absSc h hc; obtain ⟨cv, d, st', ups, F, h, I', T', hr, ho⟩ := h
        exact fin h I' T'.P hr ho
      · rw [ht] at h
        simp only [cond_true] at h
        obtain ⟨h1, h2, hu⟩ := hc.2.2 ro ⟨.inl hv, hver, validNil _ _⟩
        obtain ⟨F, rf, xa, cap, news, G, h3, h4, h5⟩ := I.srcPiece (ver := ver) hv ht h1 h2
        replace h := bindS h; obtain ⟨xs, hxs, h⟩ := h
        have := dec_enc hxs
        simp only [enc, List.cons.injEq, and_true, Cv.l.injEq] at this
        obtain ⟨e1, e2⟩ := this
        obtain ⟨t0, md0, v0, l0, x0⟩ := ro
        simp only at e1 e2
        subst e1
        have e2 := eq_of_heq e2
        subst e2
        exact ⟨_, _, _, _, F, rf, xa, cap, news, G, h, h3, h4, by rw [hu]; exact h5⟩
    · replace h := I.absScP h hc; obtain ⟨cv, d, st', ups, F, rf, h, I', T', hr, ho⟩ := h
      exact fin h I' T' hr ho

end Go.Gm

/- A root is built; append on the frame's state. -/
namespace Go.Gm
open Go

variable {R : Type} {P : Program} {E : Env} {w0 w : World} {Mf : Nat → Prop} {g : Gh} {st : St} {a : Act} {Q : Exit → Act → World → Prop}
  {o : Oper} {k : Dl → Option R} {r : R} {K : Act → World → Prop}

/-- A block that nobody of the frame's holds. -/
structure Free (w0 : World) (Mf : Nat → Prop) (g : Gh) (st : St) (n : Nat) : Prop where
  r : ∀ id, OwnAt st id → ¬ g.rf id n
  ro : ¬ g.ro n
  b : ∀ b, BoxAt st b → g.bx b ≠ n
  mine : w0.heap.size ≤ n ∨ Mf n

theorem Inv.freeNew (I : Inv w0 Mf g st a w) : Free w0 Mf g st w.heap.size := {
  r := fun id h1 h2 => by have := I.apart.lt_r id _ h1 h2; omega
  ro := fun h => by have := I.apart.lt_ro _ h; omega
  b := fun b h e => by
    obtain ⟨x, hx⟩ := Option.isSome_iff_exists.1 h
    obtain ⟨us', el', h1, _⟩ := I.boxes b x hx
    have := (Array.getElem?_eq_some_iff.1 h1).1
    omega
  mine := .inl I.kept.same.1 }
theorem COwn.same {w w' : World} {X F : Nat → Prop} (hs : SameBut X w w') (hd : ∀ k, F k → ¬ X k) {c : Cv} {u : Value} (h : COwn w F c u) : COwn w' F c u := by
  cases c with
  | v x => exact h
  | l t xs => obtain ⟨av, h0, h1⟩ := h; exact ⟨av, h0, h1.same hs hd⟩

theorem Pieces.same {w w' : World} {X ro : Nat → Prop} {d : Bool} {t : Ty} {xs : List (El t)} {cs : Array Value} {o : Nat} {G : Nat → Nat → Nat → Prop} (hs : SameBut X w w')
    (hG : ∀ i j k, G i j k → ¬ X k) (hro : ∀ k, ro k → ¬ X k) (h : Pieces w ro d t xs cs o G) : Pieces w' ro d t xs cs o G :=
  ⟨fun i x j c hx hc => let ⟨u, hu, hr, ho⟩ := h.rows i x j c hx hc
    ⟨u, hu, hr.same hs (fun k hk => hk.elim (hG i j k) (hro k)), fun hd => (ho hd).same hs (hG i j)⟩, h.dis⟩

/-- A root is built in a block that nobody holds, out of pieces that nobody holds any more. -/
theorem Inv.build (I : Inv w0 Mf g st a w) {w' : World} {b o cap el : Nat} {cs : Array Value} (hs : SameBut (fun k => k = b) w w') (hos : w'.os = w.os) (htape : w'.tape = w.tape) (hout : w'.output = w.output)
    (hb : w'.heap[b]? = some (.cells cs el (0, 0))) (hfree : Free w0 Mf g st b) {e : Ty} {xs : List (El e)} {G : Nat → Nat → Nat → Prop} {F : Nat → Prop} {d : Bool}
    (hp : Pieces w (fun k => g.ro k ∨ F k) d e xs cs o G) (hG : ∀ i j k, G i j k → k ≠ b ∧ Free w0 Mf g st k ∧ k < w.heap.size) (hF : ∀ k, F k → k ≠ b ∧ Free w0 Mf g st k ∧ k < w.heap.size)
    (hcap : xs.length ≤ cap) (hsz : o + cap * esz e ≤ cs.size) {id ver : Nat} {md : Md} (hfit : FitVer st id ⟨e, md, ver, [], xs⟩) (hmd : md.isFrz = false ∧ md.isPart = false) (hdd : md.isDeep = true → d = true) :
    ∃ g' : Gh, g'.n = g.n ∧ Inv w0 Mf g' { st with roots := aset st.roots id (.live ⟨e, md, ver, [], xs⟩) } a w' ∧ g'.rv id [] = .slice (some ⟨b, o, none⟩) xs.length cap := by
  have hblt : b < w'.heap.size := (Array.getElem?_eq_some_iff.1 hb).1
  have hk' : Kept w0 w' Mf := I.kept.step hos htape hout hs (fun k hk => by subst hk; exact hfree.mine)
  have I1 : Inv w0 Mf g st a w' := I.world hs (fun k h1 h2 => hfree.ro (h2 ▸ h1)) (fun id k h1 h2 h3 => hfree.r id h1 (h3 ▸ h2)) (fun b' h1 h2 => hfree.b b' h1 h2) hk'
  have hp' : Pieces w' (fun k => g.ro k ∨ F k) d e xs cs o G := hp.same hs (fun i j k h => (hG i j k h).1) (fun k h => h.elim (fun h1 h2 => hfree.ro (h2 ▸ h1)) (fun h1 => (hF k h1).1))
  cases hdeep : md.isDeep
  · -- what it is built of is read alone from now on
    have hsh : md = .shal := by cases md <;> simp_all [Md.isDeep, Md.isFrz, Md.isPart]
    subst hsh
    let RO' : Nat → Prop := fun k => (g.ro k ∨ F k) ∨ ∃ i j, G i j k
    obtain ⟨av, h0, hav⟩ := hp'.shal hb hcap hsz (ro' := RO') (fun k => .inl) (fun i j k h => .inr ⟨i, j, h⟩)
    have hnot : ∀ k, RO' k → k ≠ b := fun k h => h.elim (fun h => h.elim (fun h1 h2 => hfree.ro (h2 ▸ h1)) fun h1 => (hF k h1).1) fun ⟨i, j, h1⟩ => (hG i j k h1).1
    have I2 : Inv w0 Mf { g with ro := RO' } st a w' := I1.growRO (G := RO') (fun k h => .inl (.inl h))
      (fun id k h1 h2 h3 => h3.elim (fun h => h.elim (I1.apart.ro_r id k h1 h2) (fun h => (hF k h).2.1.r id h1 h2)) fun ⟨i, j, h⟩ => (hG i j k h).2.1.r id h1 h2)
      (fun b' h1 h3 => h3.elim (fun h => h.elim (I1.apart.ro_b b' h1) (fun h => (hF _ h).2.1.b b' h1 rfl)) fun ⟨i, j, h⟩ => (hG i j _ h).2.1.b b' h1 rfl)
      (fun k h => h.elim (fun h => h.elim (I1.apart.lt_ro k) fun h => Nat.lt_of_lt_of_le (hF k h).2.2 hs.1) fun ⟨i, j, h⟩ => Nat.lt_of_lt_of_le (hG i j k h).2.2 hs.1)
      (fun k h => h.elim (fun h => h.elim (I1.apart.mine_ro k) fun h => .inr (hF k h).2.1.mine) fun ⟨i, j, h⟩ => .inr (hG i j k h).2.1.mine)
    have I3 := I2.setR (id := id) (r := ⟨e, .shal, ver, [], xs⟩) hfit (av := av) (F := fun k => k = b)
      (by simp only [RootRel, Gh.setR, if_true]; exact hav)
      (fun k hk => by subst hk; exact ⟨fun id' h1 _ => hfree.r id' h1, fun h => hnot _ h rfl, hfree.b, hfree.mine, hblt⟩)
    exact ⟨_, by rfl, I3, by simp [Gh.setR, h0]⟩
  · have hd := hdd hdeep
    subst hd
    have hmdd : md = .deep := by cases md <;> simp_all [Md.isDeep]
    subst hmdd
    obtain ⟨av, h0, hav⟩ := hp'.own hb hcap hsz (fun i j h => (hG i j b h).1 rfl)
    have I3 := I1.setR (id := id) (r := ⟨e, .deep, ver, [], xs⟩) hfit (av := av) (F := fun k => k = b ∨ ∃ i j, G i j k)
      (by simp only [RootRel, Gh.setR, if_true]; exact hav)
      (fun k hk => by
        rcases hk with rfl | ⟨i, j, h⟩
        · exact ⟨fun id' h1 _ => hfree.r id' h1, hfree.ro, hfree.b, hfree.mine, hblt⟩
        · obtain ⟨_, h2, h3⟩ := hG i j k h
          exact ⟨fun id' h1 _ => h2.r id' h1, h2.ro, h2.b, h2.mine, Nat.lt_of_lt_of_le h3 hs.1⟩)
    exact ⟨_, by rfl, I3, by simp [Gh.setR, h0]⟩

/-- A root that holds nothing. -/
theorem Inv.buildNil (I : Inv w0 Mf g st a w) {e : Ty} {id ver : Nat} {md : Md} (hfit : FitVer st id ⟨e, md, ver, [], []⟩) (hmd : md.isFrz = false ∧ md.isPart = false) :
    ∃ g' : Gh, g'.n = g.n ∧ Inv w0 Mf g' { st with roots := aset st.roots id (.live ⟨e, md, ver, [], []⟩) } a w ∧ g'.rv id [] = .slice none 0 0 := by
  have hno : ∀ p s, subR e [] p = some s → p = [] ∧ s = ⟨e, []⟩ := by
    intro p s hs
    cases p with
    | nil => simp only [subR, Option.some.injEq] at hs; exact ⟨rfl, hs.symm⟩
    | cons ij p => simp [subR] at hs
  have hown : TreeOwn w (fun _ => False) e [] (fun _ => .slice none 0 0) :=
    ⟨fun p s hs => by obtain ⟨rfl, rfl⟩ := hno p s hs; exact .inl ⟨rfl, rfl⟩, fun p q s s' b _ _ h _ => by simp [blk] at h⟩
  have I3 := I.setR (id := id) (r := ⟨e, md, ver, [], []⟩) hfit (av := fun _ => .slice none 0 0) (F := fun _ => False)
    (by
      cases md with
      | deep => simp only [RootRel, Gh.setR, if_true]; exact hown
      | shal =>
        simp only [RootRel, Gh.setR, if_true]
        exact ⟨.inl ⟨rfl, rfl⟩, fun p s hp hs => (hp (hno p s hs).1).elim⟩
      | frz => simp [Md.isFrz] at hmd
      | part k => simp [Md.isPart] at hmd)
    (fun k hk => hk.elim)
  exact ⟨_, by rfl, I3, by simp [Gh.setR]⟩

/-- The old part of an append. -/
structure Old (w0 w : World) (Mf : Nat → Prop) (g : Gh) (st : St) (d : Bool) (e : Ty) (xs : List (El e)) (sa : Option Addr) (cap : Nat) (olds : List Value) (G : Nat → Nat → Nat → Prop) : Prop where
  len : olds.length = xs.length * esz e
  lies : Lies w sa olds
  fits : xs.length ≤ cap
  room : ∀ b o, sa = some ⟨b, o, none⟩ → ∃ cs el, w.heap[b]? = some (.cells cs el (0, 0)) ∧ o + cap * esz e ≤ cs.size
  nocap : sa = none → cap = 0
  spot : ∀ ad, sa = some ad → ad.spot = none
  rows : ∀ i x j c, xs[i]? = some x → (enc e x)[j]? = some c → ∃ u, olds[i * esz e + j]? = some u ∧ CRd w (fun k => G i j k ∨ g.ro k) c u ∧ (d = true → COwn w (G i j) c u)
  dis : ∀ i j i' j' k, G i j k → G i' j' k → i = i' ∧ j = j'
  free : ∀ b o, sa = some ⟨b, o, none⟩ → Free w0 Mf g st b ∧ (∀ i j, ¬ G i j b)
  gfree : ∀ i j k, G i j k → Free w0 Mf g st k ∧ k < w.heap.size

theorem Inv.appendCore (hE : E.Ok P) (I : Inv w0 Mf g st a w) {T T' ty : Nat} {e e' : Ty} (hT : E.code T = some (.sl e)) (hT' : E.code T' = some (.sl e')) {d1 d2 : Bool} {xs ys : List (El e)} {sa xa : Option Addr} {cap c2 : Nat}
    {olds news : List Value} {G1 G2 : Nat → Nat → Nat → Prop} {F : Nat → Prop} {x : Value} (hold : Old w0 w Mf g st d1 e xs sa cap olds G1) (hsrc : Src w g.ro d2 F e ys x xa c2 news G2)
    (hF : ∀ k, F k → Free w0 Mf g st k ∧ k < w.heap.size ∧ (∀ o b, sa = some ⟨b, o, none⟩ → k ≠ b) ∧ ∀ i j, ¬ G1 i j k) (hlim : xs.length + ys.length ≤ LIM) {id ver : Nat} {md : Md}
    (hfit : FitVer st id ⟨e, md, ver, [], xs ++ ys⟩) (hmd : md.isFrz = false ∧ md.isPart = false) (hdd : md.isDeep = true → d1 = true ∧ d2 = true) :
    ∃ v' w' g', (Builtin.append_ #[T, T'] ty #[.slice sa xs.length cap, x]).run P w = .ok v' w' ∧ g'.n = g.n ∧ Inv w0 Mf g' { st with roots := aset st.roots id (.live ⟨e, md, ver, [], xs ++ ys⟩) } a w' ∧ g'.rv id [] = v' := by
  obtain ⟨v', w', hrun, hos, htape, hout, hres⟩ := run_append (P := P) (ty := ty) hE hT hT' hold.len hold.lies hsrc.len hsrc.lies hsrc.flat hold.fits hold.room hold.nocap hold.spot hlim (c := c2)
  rw [← hsrc.eq] at hrun
  rcases hres with ⟨rfl, _, hn, hm, rfl⟩ | ⟨b, oo, cap', cs, el, rfl, hb, hcap', hsz', hcells, hsame, hwhere⟩
  · have hx : xs = [] := List.eq_nil_of_length_eq_zero hn
    have hy : ys = [] := List.eq_nil_of_length_eq_zero hm
    subst hx; subst hy
    obtain ⟨g', h1, h2, h3⟩ := I.buildNil (e := e) (id := id) (ver := ver) (md := md) (by simpa using hfit) hmd
    exact ⟨_, _, g', hrun, h1, by simpa using h2, h3⟩
  · have hpos := esz_pos e
    have hfb : Free w0 Mf g st b ∧ (∀ i j, ¬ G1 i j b) ∧ ¬ F b := by
      rcases hwhere with ⟨o', ho'⟩ | rfl
      · obtain ⟨h1, h2⟩ := hold.free b o' ho'
        exact ⟨h1, h2, fun h => (hF b h).2.2.1 o' b ho' rfl⟩
      · exact ⟨I.freeNew, fun i j h => by have := (hold.gfree i j _ h).2; omega, fun h => by have := (hF _ h).2.1; omega⟩
    let G : Nat → Nat → Nat → Prop := fun i j k => (i < xs.length ∧ G1 i j k) ∨ (xs.length ≤ i ∧ G2 (i - xs.length) j k)
    have hp : Pieces w (fun k => g.ro k ∨ F k) (d1 && d2) e (xs ++ ys) cs oo G := by
      refine ⟨fun i y j c hy hc => ?_, fun i j i' j' k h1 h2 => ?_⟩
      · have hj : j < esz e := by
          rw [← enc_length e y]
          rcases Nat.lt_or_ge j (enc e y).length with h' | h'
          · exact h'
          · simp [List.getElem?_eq_none h'] at hc
        by_cases hi : i < xs.length
        · rw [List.getElem?_append_left hi] at hy
          obtain ⟨u, hu, hr, ho⟩ := hold.rows i y j c hy hc
          have hlt : i * esz e + j < olds.length := by
            rcases Nat.lt_or_ge (i * esz e + j) olds.length with h' | h'
            · exact h'
            · simp [List.getElem?_eq_none h'] at hu
          refine ⟨u, ?_, hr.mono fun k hk => hk.elim (fun h => .inl (.inl ⟨hi, h⟩)) (fun h => .inr (.inl h)), fun hd => ?_⟩
          · rw [Nat.add_assoc]; exact hcells _ u (by rw [List.getElem?_append_left hlt]; exact hu)
          · simp only [Bool.and_eq_true] at hd
            have := ho hd.1
            cases c with
            | v q => exact this
            | l t zs => obtain ⟨f, h0, h1⟩ := this; exact ⟨f, h0, h1.mono fun k hk => .inl ⟨hi, hk⟩⟩
        · rw [List.getElem?_append_right (by omega)] at hy
          obtain ⟨u, hu, hr, ho⟩ := hsrc.rows (i - xs.length) y j c hy hc
          have hlt : (i - xs.length) * esz e + j < news.length := by
            rcases Nat.lt_or_ge ((i - xs.length) * esz e + j) news.length with h' | h'
            · exact h'
            · simp [List.getElem?_eq_none h'] at hu
          refine ⟨u, ?_, hr.mono fun k hk => hk.elim (fun h => .inr (.inr h)) (fun h => .inr (.inl h)), fun hd => ?_⟩
          · have e1 : i * esz e = xs.length * esz e + (i - xs.length) * esz e := by rw [← Nat.add_mul]; congr 1; omega
            rw [Nat.add_assoc]
            refine hcells _ u ?_
            rw [List.getElem?_append_right (by rw [hold.len]; omega), hold.len]
            rw [show i * esz e + j - xs.length * esz e = (i - xs.length) * esz e + j by omega]
            exact hu
          · simp only [Bool.and_eq_true] at hd
            have := ho hd.2
            cases c with
            | v q => exact this
            | l t zs => obtain ⟨f, h0, h1⟩ := this; exact ⟨f, h0, h1.mono fun k hk => .inr ⟨by omega, hk⟩⟩
      · rcases h1 with ⟨hi, h1⟩ | ⟨hi, h1⟩ <;> rcases h2 with ⟨hi', h2⟩ | ⟨hi', h2⟩
        · exact hold.dis _ _ _ _ k h1 h2
        · exact ((hF k (hsrc.sub _ _ _ h2)).2.2.2 i j h1).elim
        · exact ((hF k (hsrc.sub _ _ _ h1)).2.2.2 i' j' h2).elim
        · obtain ⟨h3, h4⟩ := hsrc.dis _ _ _ _ k h1 h2
          exact ⟨by omega, h4⟩
    obtain ⟨g', h1, h2, h3⟩ := I.build hsame hos htape hout hb hfb.1 hp (fun i j k h => by
        rcases h with ⟨hi, h⟩ | ⟨hi, h⟩
        · exact ⟨fun e => hfb.2.1 i j (e ▸ h), (hold.gfree i j k h).1, (hold.gfree i j k h).2⟩
        · have hk := hsrc.sub _ _ _ h
          exact ⟨fun e => hfb.2.2 (e ▸ hk), (hF k hk).1, (hF k hk).2.1⟩)
      (fun k h => ⟨fun e => hfb.2.2 (e ▸ h), (hF k h).1, (hF k h).2.1⟩) (by simpa using hcap') hsz' hfit hmd (fun h => by simp [hdd h])
    exact ⟨_, w', g', hrun, h1, h2, by simpa using h3⟩

end Go.Gm

/- append, the operation. -/
namespace Go.Gm
open Go

variable {R : Type} {P : Program} {E : Env} {w0 w : World} {Mf : Nat → Prop} {g : Gh} {st : St} {a : Act} {Q : Exit → Act → World → Prop}
  {o : Oper} {k : Dl → Option R} {r : R} {K : Act → World → Prop}

theorem mkRoot_some {id : Nat} {t : Ty} {md : Md} {xs : List (El t)} {k : Root → Option R} {r : R} (h : mkRootP st id t md xs k = some r) :
    ∃ ver, FitVer st id ⟨t, md, ver, [], xs⟩ ∧ k ⟨t, md, ver, [], xs⟩ = some r := by
  unfold mkRootP at h
  split at h
  · rename_i r' hn; obtain ⟨_, h⟩ := condN h; exact ⟨r'.ver + 1, by unfold FitVer; rw [hn]; simp, h⟩
  unfold mkRoot at h
  split at h
  · rename_i hn; exact ⟨0, by unfold FitVer; rw [hn]; trivial, h⟩
  · rename_i v hn; exact ⟨v + 1, by unfold FitVer; rw [hn]; simp, h⟩
  · cases h

theorem mkRoot_fit {id : Nat} {t : Ty} {md : Md} {xs : List (El t)} {k : Root → Option R} {r : R} (h : mkRoot st id t md xs k = some r) :
    ∃ ver, FitVer st id ⟨t, md, ver, [], xs⟩ ∧ k ⟨t, md, ver, [], xs⟩ = some r ∧ ∀ ro, aget st.roots id ≠ some (.live ro) := by
  unfold mkRoot at h
  split at h
  · rename_i hn; exact ⟨0, by unfold FitVer; rw [hn]; trivial, h, fun ro => by rw [hn]; simp⟩
  · rename_i v hn; exact ⟨v + 1, by unfold FitVer; rw [hn]; simp, h, fun ro => by rw [hn]; simp⟩
  · cases h

/-- Behind a new root: the handle in its slot. -/
theorem Inv.putRoot {g' : Gh} {w' : World} {id : Nat} {r : Root} (I : Inv w0 Mf g' { st with roots := aset st.roots id (.live r) } a w') (hl : r.log = []) {dst : Option Nat} (hd : ∀ d, dst = some d → d < g'.n.sz) (hf : flatB (g'.rv id []) = true) :
    Inv w0 Mf g' (({ st with roots := aset st.roots id (.live r) } : St).apply { slot := dst.map fun d => (d, .c (.one (.h id r.ver 0 []))) }) (a.put dst (g'.rv id [])) w' :=
  I.putS hd ⟨hf, by unfold verOk; simp only [aget_aset_self]; exact .inr ⟨trivial, Nat.zero_le _⟩, fun r' hr' => by
    have := hr'.1
    simp only [aget_aset_self, Option.some.injEq, Rt.live.injEq, reduceCtorEq, or_false] at this
    subst this
    exact ⟨rfl, by simp [subR]⟩⟩

theorem meet_deep {m : Md} {d : Bool} (h : (m.meet d).isDeep = true) : m.isDeep = true ∧ d = true := by
  cases m <;> cases d <;> simp_all [Md.meet, Md.isDeep]
theorem meet_frz {m : Md} {d : Bool} (h : m.isFrz = false) : (m.meet d).isFrz = false := by
  cases m <;> cases d <;> simp_all [Md.meet, Md.isFrz]

theorem meet_part {m : Md} {d : Bool} (h : m.isPart = false) : (m.meet d).isPart = false := by
  cases m <;> cases d <;> simp_all [Md.meet, Md.isPart]
theorem Took.free (I : Inv w0 Mf g st a w) {st' : St} {ups : List (Nat × Rt)} {Fs : List (Nat → Prop)} (T : Took w g st st' ups Fs) {F : Nat → Prop} (hF : F ∈ Fs) {k : Nat} (hk : F k) : Free w0 Mf g st' k ∧ k < w.heap.size := by
  obtain ⟨id, h1, h2⟩ := T.src F hF k hk
  exact ⟨⟨fun id' h => T.off F hF k hk id' h, I.apart.ro_r id k h1 h2, fun b hb e => I.apart.rb id b h1 (by rw [T.eq] at hb; exact hb) (e ▸ h2), I.apart.mine_r id k h1 h2⟩, I.apart.lt_r id k h1 h2⟩
theorem TookP.free (I : Inv w0 Mf g st a w) {rf : Nat → Nat → Prop} {st' : St} {ups : List (Nat × Rt)} {Fs : List (Nat → Prop)} (T : TookP w g rf st st' ups Fs) {F : Nat → Prop} (hF : F ∈ Fs) {k : Nat} (hk : F k) : Free w0 Mf (g.wrf rf) st' k ∧ k < w.heap.size := by
  obtain ⟨id, h1, h2⟩ := T.src F hF k hk
  exact ⟨⟨fun id' h => T.off F hF k hk id' h, I.apart.ro_r id k h1 h2, fun b hb e => I.apart.rb id b h1 (by rw [T.eq] at hb; exact hb) (e ▸ h2), I.apart.mine_r id k h1 h2⟩, I.apart.lt_r id k h1 h2⟩

theorem Free.drop {id : Nat} {v : Nat} {n : Nat} (h : ∀ id', OwnAt st id' → id' ≠ id → ¬ g.rf id' n) (hro : ¬ g.ro n) (hb : ∀ b, BoxAt st b → g.bx b ≠ n) (hm : w0.heap.size ≤ n ∨ Mf n) :
    Free w0 Mf g { st with roots := aset st.roots id (.gone v) } n :=
  ⟨fun id' ⟨r', h1, h2⟩ => by
    simp only [aget_aset] at h1
    by_cases e : id' = id
    · simp [e] at h1
    · exact h id' ⟨r', by simpa [e] using h1, h2⟩ e, hro, hb, hm⟩

/-- The old part, out of a root that goes on. -/
theorem Inv.oldOf (I : Inv w0 Mf g st a w) {id : Nat} {e : Ty} {xs : List (El e)} {md : Md} {ver : Nat} {log : List Nat} (h : aget st.roots id = some (.live ⟨e, md, ver, log, xs⟩)) (hm : md.isFrz = false) (hmp : md.isPart = false) :
    ∃ sa cap olds G, g.rv id [] = .slice sa xs.length cap ∧ Old w0 w Mf g { st with roots := aset st.roots id (.gone ver) } md.isDeep e xs sa cap olds G ∧ (∀ i j n, G i j n → g.rf id n) ∧ (∀ b o, sa = some ⟨b, o, none⟩ → g.rf id b) := by
  have hat : OwnAt st id := ⟨_, h, hm⟩
  have hfree : ∀ n, g.rf id n → Free w0 Mf g { st with roots := aset st.roots id (.gone ver) } n := fun n hn =>
    Free.drop (fun id' h1 h2 h3 => h2 (I.apart.rr id' id n h1 hat h3 hn)) (I.apart.ro_r id n hat hn) (fun b hb e => I.apart.rb id b hat hb (e ▸ hn)) (I.apart.mine_r id n hat hn)
  have hr := I.roots id _ h
  -- the node itself
  have hnode : NodeOwn w (g.rf id) e xs (g.rv id []) fun i j => g.rv id [(i, j)] := by
    unfold RootRel at hr
    split at hr
    · exact hr.1 [] _ rfl
    · exact hr.1
    · rename_i hmd; simp only at hmd; simp [hmd, Md.isFrz] at hm
    · rename_i hmd; simp only at hmd; simp [hmd, Md.isPart] at hmp
  let G : Nat → Nat → Nat → Prop := fun i j n => md.isDeep = true ∧ Under e xs (g.rv id) [(i, j)] n
  have hsub : ∀ i j n, G i j n → g.rf id n := by
    intro i j n ⟨hd, q, s, h1, h2⟩
    unfold RootRel at hr
    split at hr
    · exact (hr.1 _ s h1).blkF h2
    · rename_i hmd; simp only at hmd; simp [hmd, Md.isDeep] at hd
    · rename_i hmd; simp only at hmd; simp [hmd, Md.isDeep] at hd
    · rename_i hmd; simp only at hmd; simp [hmd, Md.isDeep] at hd
  have hdis : ∀ i j i' j' n, G i j n → G i' j' n → i = i' ∧ j = j' := by
    intro i j i' j' n ⟨hd, q, s, h1, h2⟩ ⟨_, q', s', h3, h4⟩
    unfold RootRel at hr
    split at hr
    · have := hr.2 _ _ _ _ n h1 h3 h2 h4
      simp only [List.singleton_append, List.cons.injEq, Prod.mk.injEq] at this
      exact this.1
    · rename_i hmd; simp only at hmd; simp [hmd, Md.isDeep] at hd
    · rename_i hmd; simp only at hmd; simp [hmd, Md.isDeep] at hd
    · rename_i hmd; simp only at hmd; simp [hmd, Md.isDeep] at hd
  have hpiece : ∀ {us : Array Value} {oo : Nat}, RowsIn e xs us oo (fun i j => g.rv id [(i, j)]) → ∀ i x j c, xs[i]? = some x → (enc e x)[j]? = some c →
      ∃ u, us[oo + i * esz e + j]? = some u ∧ CRd w (fun k => G i j k ∨ g.ro k) c u ∧ (md.isDeep = true → COwn w (G i j) c u) := by
    intro us oo hrows i x j c hx hc
    unfold RootRel at hr
    split at hr
    · rename_i hmd
      simp only at hmd
      obtain ⟨u, h1, h2, h3⟩ := (hr.pieces (ro := g.ro) hrows).rows i x j c hx hc
      have hG : ∀ n, Under e xs (g.rv id) [(i, j)] n → G i j n := fun n hn => ⟨by simp [hmd, Md.isDeep], hn⟩
      refine ⟨u, h1, h2.mono fun k hk => hk.imp (hG k) (fun h => h), fun _ => ?_⟩
      cases c with
      | v q => exact h3 rfl
      | l t zs => obtain ⟨f, h0, h4⟩ := h3 rfl; exact ⟨f, h0, h4.mono hG⟩
    · rename_i hmd
      simp only at hmd
      obtain ⟨u, h1, h2, h3⟩ := (hr.pieces hrows).rows i x j c hx hc
      exact ⟨u, h1, h2.mono fun k hk => hk.elim (fun h => h.elim) .inr, fun h => by simp [hmd, Md.isDeep] at h⟩
    · rename_i hmd; simp only at hmd; simp [hmd, Md.isFrz] at hm
    · rename_i hmd; simp only at hmd; simp [hmd, Md.isPart] at hmp
  rcases hnode with ⟨rfl, hv⟩ | ⟨b, oo, cap, us, el, hv, hFb, hb, hle, hsz, hrows⟩
  · exact ⟨none, 0, [], G, hv, ⟨by simp, .inl rfl, Nat.le_refl _, fun b o h => by simp at h, fun _ => rfl, fun ad h => by simp at h, fun i x j c h => by simp at h, hdis, fun b o h => by simp at h,
      fun i j n h => ⟨hfree n (hsub i j n h), I.apart.lt_r id n hat (hsub i j n h)⟩⟩, hsub, fun b o h => by simp at h⟩
  · have hll : oo + xs.length * esz e ≤ us.size := Nat.le_trans (Nat.add_le_add_left (Nat.mul_le_mul_right _ hle) _) hsz
    refine ⟨some ⟨b, oo, none⟩, cap, (us.toList.drop oo).take (xs.length * esz e), G, hv, ⟨by simp; omega, .inr ⟨b, oo, us, el, (0, 0), rfl, hb, fun j v hj => ?_⟩, hle, fun b' o' h => ?_, fun h => by simp at h, fun ad h => ?_,
      fun i x j c hx hc => ?_, hdis, fun b' o' h => ?_, fun i j n h => ⟨hfree n (hsub i j n h), I.apart.lt_r id n hat (hsub i j n h)⟩⟩, hsub, fun b' o' h => ?_⟩
    · rw [List.getElem?_take] at hj
      split at hj
      · rw [List.getElem?_drop] at hj; simpa using hj
      · cases hj
    · simp only [Option.some.injEq, Addr.mk.injEq, and_true] at h; obtain ⟨rfl, rfl⟩ := h
      exact ⟨us, el, hb, hsz⟩
    · simp only [Option.some.injEq] at h; subst h; rfl
    · obtain ⟨u, h1, h2, h3⟩ := hpiece hrows i x j c hx hc
      refine ⟨u, ?_, h2, h3⟩
      have hi : i < xs.length := by
        rcases Nat.lt_or_ge i xs.length with h' | h'
        · exact h'
        · simp [List.getElem?_eq_none h'] at hx
      have hj : j < esz e := by
        rw [← enc_length e x]
        rcases Nat.lt_or_ge j (enc e x).length with h' | h'
        · exact h'
        · simp [List.getElem?_eq_none h'] at hc
      have : i * esz e + j < xs.length * esz e := by
        have : (i + 1) * esz e ≤ xs.length * esz e := Nat.mul_le_mul_right _ hi
        rw [Nat.add_mul] at this; omega
      rw [List.getElem?_take, if_pos this, List.getElem?_drop]
      simpa [Nat.add_assoc] using h1
    · simp only [Option.some.injEq, Addr.mk.injEq, and_true] at h; obtain ⟨rfl, rfl⟩ := h
      refine ⟨hfree b hFb, fun i j hG => ?_⟩
      obtain ⟨hd, q, s, h1, h2⟩ := hG
      unfold RootRel at hr
      split at hr
      · have := hr.2 _ [] s ⟨e, xs⟩ b h1 rfl h2 (by rw [hv]; rfl)
        simp at this
      · rename_i hmd; simp only at hmd; simp [hmd, Md.isDeep] at hd
      · rename_i hmd; simp only at hmd; simp [hmd, Md.isDeep] at hd
      · rename_i hmd; simp only at hmd; simp [hmd, Md.isDeep] at hd
    · simp only [Option.some.injEq, Addr.mk.injEq, and_true] at h; obtain ⟨rfl, rfl⟩ := h
      exact hFb

theorem Inv.rvFlat (I : Inv w0 Mf g st a w) {id : Nat} {r : Root} (h : aget st.roots id = some (.live r)) : flatB (g.rv id []) = true := by
  exact I.rvFlatAt h (p := []) (s := ⟨r.t, r.xs⟩) rfl

theorem x_append (hE : E.Ok P) (I : Inv w0 Mf g st a w) (hd : ∀ d, o.dst = some d → d < g.n.sz) (hK : Then w0 Mf g st k r K) {c : Call} (hop : o.op = .call c) (hcal : c.callee = .builtin .append)
    (h : evX E o st k = some r) : o.wp P a w K Q := by
  simp only [evX, hop, hcal, evBuiltin] at h
  split at h
  case h_2 => cases h
  rename_i s x T T' hargs htys
  have hargs' : c.args = #[s, x] := by apply Array.ext'; simpa using hargs
  have htys' : c.argTypes = #[T, T'] := by apply Array.ext'; simpa using htys
  have key : ∀ v w', (Builtin.append_ #[T, T'] o.type #[a.eval s, a.eval x]).run P w = .ok v w' → (execOp a.eval o).run P w = .ok (.value v) w' := by
    intro v w' hv
    simp [execOp, hop, resolve, hcal, invoke, builtin, hargs', htys', hv]
  replace h := bindS h; obtain ⟨e', he', h⟩ := h
  have hT' := slElem_some he'
  replace h := I.getC h; obtain ⟨cs, h, hcs⟩ := h
  replace h := I.getC h; obtain ⟨cx, h, hcx⟩ := h
  unfold evAppend at h
  split at h
  case h_2 => cases h
  rename_i e hT
  split at h
  · -- onto nil
    replace h := I.srcOf h hcx; obtain ⟨ys, d, st', ups, F, rf, xa, cap, news, G, h, I', TK, hsrc⟩ := h
    replace h := condN h; obtain ⟨hlim, h⟩ := h
    replace h := mkRoot_some h; obtain ⟨ver, hfit, h⟩ := h
    have hs := hcs.2; simp only [ScR] at hs
    have hold : Old w0 w Mf (g.wrf rf) st' true e ([] : List (El e)) none 0 [] (fun _ _ _ => False) :=
      ⟨by simp, .inl rfl, Nat.le_refl _, fun b o h => by simp at h, fun _ => rfl, fun ad h => by simp at h, fun i x j c h => by simp at h, fun _ _ _ _ _ h => h.elim, fun b o h => by simp at h, fun _ _ _ h => h.elim⟩
    obtain ⟨v', w', g', hrun, hn, I2, hv⟩ := I'.appendCore (ty := o.type) hE hT hT' hold hsrc
      (fun k hk => ⟨(TK.free I (by simp) hk).1, (TK.free I (by simp) hk).2, fun o b h => by simp at h, fun _ _ h => h⟩) (by have := bleN hlim; simpa using this) (id := 64 * o.dst.getD 0) (ver := ver) (md := Md.deep.meet d)
      (by simpa using hfit) ⟨meet_frz rfl, meet_part rfl⟩ (fun h => ⟨rfl, (meet_deep h).2⟩)
    refine wp_val (key v' w' (by rw [hs]; exact hrun)) (hK _ g' _ _ h hn ?_)
    have hfl := I2.rvFlat (id := 64 * o.dst.getD 0) (aget_aset_self _ _ _)
    have := I2.putRoot rfl (dst := o.dst) (fun d h => by rw [hn]; exact hd d h) hfl
    rw [hv] at this
    have hst := TK.eq
    subst hst
    simpa [St.apply, asets_append, asets] using this
  · -- onto an own list
    rename_i id ver iv
    replace h := I.srcOf h hcx; obtain ⟨ys, d, st', ups, F, rf, xa, cap, news, G, h, I', TK, hsrc⟩ := h
    replace h := getR_some h; obtain ⟨ro, hlive, hver, h⟩ := h
    obtain ⟨hfz, hpt, h⟩ : ro.md.isFrz = false ∧ ro.md.isPart = false ∧ _ := by
      cases hfz : ro.md.isFrz
      case true => simp [hfz] at h
      cases hpt : ro.md.isPart
      case true => simp [hfz, hpt] at h
      simp only [hfz, hpt, Bool.or_self, cond_false] at h
      exact ⟨rfl, rfl, h⟩
    replace h := bindS h; obtain ⟨xs, hxs, h⟩ := h
    replace h := condN h; obtain ⟨hlim, h⟩ := h
    obtain ⟨t, md, ver', log, xs0⟩ := ro
    have := dec_enc hxs
    simp only [enc, List.cons.injEq, and_true, Cv.l.injEq] at this
    obtain ⟨rfl, hxx⟩ := this
    have hxx := eq_of_heq hxx
    subst hxx
    simp only at hver hfz hpt
    subst hver
    have hcs' := (TK.map _ _ hcs).rf rf
    obtain ⟨hu, _⟩ := hcs'.2.2 _ ⟨.inl hlive, rfl, validNil _ _⟩
    obtain ⟨sa, cap1, olds, G1, hrv, hold, hG1, hsab⟩ := I'.oldOf hlive hfz hpt
    have I'' := I'.drop hlive
    have hfreeF : ∀ n, F n → Free w0 Mf (g.wrf rf) { st' with roots := aset st'.roots id (.gone ver') } n ∧ n < w.heap.size ∧ (∀ o b, sa = some ⟨b, o, none⟩ → n ≠ b) ∧ ∀ i j, ¬ G1 i j n := by
      intro n hn
      obtain ⟨hf, hlt⟩ := TK.free I (by simp) hn
      have hoff := TK.off F (by simp) n hn id ⟨_, hlive, hfz⟩
      exact ⟨Free.drop (fun id' h1 _ => hf.r id' h1) hf.ro hf.b hf.mine, hlt, fun o b h e => hoff (e ▸ hsab b o h), fun i j h => hoff (hG1 i j n h)⟩
    obtain ⟨v', w', g', hrun, hn, I2, hv⟩ := I''.appendCore (ty := o.type) hE hT hT' hold hsrc hfreeF (bleN hlim) (id := id) (ver := ver' + 1) (md := md.meet d)
      (by unfold FitVer; simp [aget_aset_self]) ⟨meet_frz hfz, meet_part hpt⟩ meet_deep
    refine wp_val (key v' w' (by rw [hu, hrv]; exact hrun)) (hK _ g' _ _ h hn ?_)
    have hfl := I2.rvFlat (id := id) (aget_aset_self _ _ _)
    have := I2.putRoot rfl (dst := o.dst) (fun d h => by rw [hn]; exact hd d h) hfl
    rw [hv] at this
    have hst := TK.eq
    subst hst
    simp only [aset_aset] at this
    simpa [St.apply, asets_append, asets] using this
  · -- onto a list within an own one
    rename_i id ver iv p hnp
    have hp0 : p ≠ [] := hnp
    replace h := I.srcOf h hcx; obtain ⟨ys, d, st', ups, F, rf, xa, cap, news, G, h, I', TK, hsrc⟩ := h
    replace h := getRp_some h; obtain ⟨ro, hro, h⟩ := h
    replace h := condN h; obtain ⟨hdeep, h⟩ := h
    have hmd : ro.md = .deep := by cases hq : ro.md <;> simp_all [Md.isDeep]
    replace h := bindS h; obtain ⟨s1, hs1, h⟩ := h
    replace h := bindS h; obtain ⟨xs, hxs, h⟩ := h
    replace h := condN h; obtain ⟨hlim, h⟩ := h
    replace h := mkRoot_fit h; obtain ⟨ver2, hfit, h, hnl⟩ := h
    have hne : 64 * o.dst.getD 0 ≠ id := fun e => hnl ro (by rw [e]; exact hro.1)
    obtain ⟨t1, xs1⟩ := s1
    have := dec_enc hxs
    simp only [enc, List.cons.injEq, and_true, Cv.l.injEq] at this
    obtain ⟨e1, e2⟩ := this
    subst e1
    have e2 := eq_of_heq e2
    subst e2
    have hcs' := (TK.map _ _ hcs).rf rf
    obtain ⟨hu, hsome⟩ := hcs'.2.2 ro hro.x
    obtain ⟨s', hs'⟩ := Option.isSome_iff_exists.1 hsome
    have := sub_of_subR hs'
    rw [hs1] at this; cases this
    obtain ⟨g2, n1, n2, _, n4, I2, hown⟩ := I'.detach hro.1 hmd hp0 hs' hne hfit
    obtain ⟨sa, cap1, olds, G1, hrv, hold, hG1, hsab⟩ := I2.oldOf (aget_aset_self _ _ _) rfl rfl
    have I3 := I2.drop (aget_aset_self _ _ _)
    have hoff : ∀ n, F n → ∀ i, OwnAt { st' with roots := aset (aset st'.roots id (.live ⟨ro.t, .part (.hole p), ro.ver, ro.log, ro.xs⟩)) (64 * o.dst.getD 0) (.live ⟨t1, .deep, ver2, [], xs1⟩) } i → ¬ g2.rf i n := fun n hn i hi hr => by
      obtain ⟨i0, h1, h2⟩ := hown i n hi hr
      exact (TK.free I (by simp) hn).1.r i0 h1 h2
    have hat2 : OwnAt { st' with roots := aset (aset st'.roots id (.live ⟨ro.t, .part (.hole p), ro.ver, ro.log, ro.xs⟩)) (64 * o.dst.getD 0) (.live ⟨t1, .deep, ver2, [], xs1⟩) } (64 * o.dst.getD 0) := ⟨_, aget_aset_self _ _ _, rfl⟩
    have hfreeF : ∀ n, F n → Free w0 Mf g2 { st' with roots := aset (aset (aset st'.roots id (.live ⟨ro.t, .part (.hole p), ro.ver, ro.log, ro.xs⟩)) (64 * o.dst.getD 0) (.live ⟨t1, .deep, ver2, [], xs1⟩)) (64 * o.dst.getD 0) (.gone ver2) } n ∧ n < w.heap.size ∧ (∀ o b, sa = some ⟨b, o, none⟩ → n ≠ b) ∧ ∀ i j, ¬ G1 i j n := by
      intro n hn
      obtain ⟨hf, hlt⟩ := TK.free I (by simp) hn
      refine ⟨Free.drop (st := { st' with roots := aset (aset st'.roots id (.live ⟨ro.t, .part (.hole p), ro.ver, ro.log, ro.xs⟩)) (64 * o.dst.getD 0) (.live ⟨t1, .deep, ver2, [], xs1⟩) }) (fun i h1 _ => hoff n hn i h1) ?_ (fun b hb => ?_) hf.mine, hlt, fun o b h e => hoff n hn _ hat2 (e ▸ hsab b o h), fun i j h => hoff n hn _ hat2 (hG1 i j n h)⟩
      · rw [n2]; exact hf.ro
      · rw [‹∀ b, g2.bx b = _› b]; exact hf.b b hb
    rw [n4] at hrv
    obtain ⟨v', w', g', hrun, hn, I4, hv⟩ := I3.appendCore (ty := o.type) hE hT hT' hold (by rw [n2]; exact hsrc) hfreeF (bleN hlim) (id := 64 * o.dst.getD 0) (ver := ver2 + 1) (md := Md.deep.meet d)
      (by unfold FitVer; simp [aget_aset_self]) ⟨meet_frz rfl, meet_part rfl⟩ meet_deep
    have hgn : g'.n = g.n := hn.trans n1
    refine wp_val (key v' w' (by rw [hu, hrv]; exact hrun)) (hK _ g' _ _ h hgn ?_)
    have hfl := I4.rvFlat (id := 64 * o.dst.getD 0) (aget_aset_self _ _ _)
    have := I4.putRoot rfl (dst := o.dst) (fun d h => by rw [hgn]; exact hd d h) hfl
    rw [hv] at this
    have hst := TK.eq
    subst hst
    simp only [aset_aset] at this
    simpa [St.apply, asets_append, asets] using this
  · cases h

end Go.Gm

/- Rows put together: composite literals and make. -/
namespace Go.Gm
open Go

variable {R : Type} {P : Program} {E : Env} {w0 w : World} {Mf : Nat → Prop} {g : Gh} {st : St} {a : Act} {Q : Exit → Act → World → Prop}
  {o : Oper} {k : Dl → Option R} {r : R} {K : Act → World → Prop}

theorem put_get (off : Nat) : ∀ (l : List Value) (n : Nat) (cells : Array Value), off + n + l.length ≤ cells.size →
    ((l.zipIdx n).foldl (fun cs (p : Value × Nat) => cs.setIfInBounds (off + p.2) p.1) cells).size = cells.size ∧
    ∀ m, ((l.zipIdx n).foldl (fun cs (p : Value × Nat) => cs.setIfInBounds (off + p.2) p.1) cells)[m]? = if off + n ≤ m ∧ m < off + n + l.length then l[m - (off + n)]? else cells[m]?
  | [], n, cells, h => ⟨rfl, fun m => by rw [if_neg (by simp)]; rfl⟩
  | v :: l, n, cells, h => by
    simp only [List.length_cons] at h
    obtain ⟨h1, h2⟩ := put_get off l (n + 1) (cells.setIfInBounds (off + n) v) (by simp; omega)
    simp only [List.zipIdx_cons, List.foldl_cons]
    refine ⟨by rw [h1]; simp, fun m => ?_⟩
    rw [h2 m]
    by_cases hm : m = off + n
    · subst hm
      rw [if_neg (by omega), if_pos (by simp), Array.getElem?_setIfInBounds_self_of_lt (by omega)]
      simp
    · by_cases hr : off + n ≤ m ∧ m < off + n + (v :: l).length
      · simp only [List.length_cons] at hr
        rw [if_pos (by omega), if_pos (by simp; omega)]
        rw [show m - (off + n) = (m - (off + (n + 1))) + 1 by omega, List.getElem?_cons_succ]
      · simp only [List.length_cons] at hr
        rw [if_neg (by omega), if_neg (by simp; omega), Array.getElem?_setIfInBounds_ne (by omega)]

def putAt (cells : Array Value) (off : Nat) (vs : Array Value) : Array Value := vs.zipIdx.foldl (fun cs (p : Value × Nat) => cs.setIfInBounds (off + p.2) p.1) cells
theorem putAt_size {cells : Array Value} {off : Nat} {vs : Array Value} (h : off + vs.size ≤ cells.size) : (putAt cells off vs).size = cells.size := by
  have := (put_get off vs.toList 0 cells (by simpa using h)).1
  unfold putAt
  rw [← Array.foldl_toList, Array.toList_zipIdx]
  exact this
theorem putAt_get {cells : Array Value} {off : Nat} {vs : Array Value} (h : off + vs.size ≤ cells.size) (m : Nat) : (putAt cells off vs)[m]? = if off ≤ m ∧ m < off + vs.size then vs[m - off]? else cells[m]? := by
  have := (put_get off vs.toList 0 cells (by simpa using h)).2 m
  unfold putAt
  rw [← Array.foldl_toList, Array.toList_zipIdx]
  simpa using this
theorem fill_cons {place : Nat → Option (Nat × Nat)} {cells : Array Value} {i off : Nat} {v : Value} {rest : List (Nat × Value)} (hp : place i = some (off, v.cells.size)) (h : off + v.cells.size ≤ cells.size) :
    Instr.fill place cells ((i, v) :: rest) = Instr.fill place (putAt cells off v.cells) rest := by
  simp only [Instr.fill, hp]
  rw [if_neg (by simp; omega)]
  rfl

theorem zero_nil {t : Ty} {j : Nat} {t' : Ty} {ys : List (El t')} (h : (enc t (zero t))[j]? = some (.l t' ys)) : ys = [] := by
  have key : (enc t (zero t)).all (fun c => match c with | .v _ => true | .l _ ys => ys.isEmpty) = true := by cases t <;> rfl
  have := List.all_eq_true.1 key _ (List.mem_of_getElem? h)
  simpa using this

theorem nilOwn (w : World) (F : Nat → Prop) (t : Ty) : OwnSl w F t [] (.slice none 0 0) :=
  ⟨fun _ => .slice none 0 0, rfl, fun p s hs => by
      cases p with
      | nil => simp only [subR, Option.some.injEq] at hs; subst hs; exact .inl ⟨rfl, rfl⟩
      | cons ij p => simp [subR] at hs,
    fun p q s s' b _ _ h _ => by simp [blk] at h⟩
theorem COwn.rd {F : Nat → Prop} {c : Cv} {u : Value} (h : COwn w F c u) : CRd w F c u := by
  cases c with
  | v x => exact h
  | l t ys => obtain ⟨av, h0, h1⟩ := h; exact ⟨av, h0, h1.rd⟩
theorem COwn.mono {F G : Nat → Prop} (hFG : ∀ k, F k → G k) {c : Cv} {u : Value} (h : COwn w F c u) : COwn w G c u := by
  cases c with
  | v x => exact h
  | l t ys => obtain ⟨av, h0, h1⟩ := h; exact ⟨av, h0, h1.mono hFG⟩

/-- A row of zeros. -/
def zrow (t : Ty) (n : Nat) : Array Value := (Array.range (n * esz t)).map fun i => (zvals t).getD (i % esz t) (.bool false)
theorem zrow_size (t : Ty) (n : Nat) : (zrow t n).size = n * esz t := by simp [zrow]
theorem zrow_pieces (w : World) (ro : Nat → Prop) (t : Ty) (n : Nat) : Pieces w ro true t (List.replicate n (zero t)) (zrow t n) 0 (fun _ _ _ => False) := by
  refine ⟨fun i x j c hx hc => ?_, fun _ _ _ _ _ h => h.elim⟩
  have hi : i < n := by
    rcases Nat.lt_or_ge i n with h' | h'
    · exact h'
    · rw [List.getElem?_eq_none (by simpa using h')] at hx; cases hx
  simp only [List.getElem?_replicate, hi, if_true, Option.some.injEq] at hx
  subst hx
  have hj : j < esz t := by
    rw [← enc_length t (zero t)]
    rcases Nat.lt_or_ge j (enc t (zero t)).length with h' | h'
    · exact h'
    · simp [List.getElem?_eq_none h'] at hc
  have hlt : i * esz t + j < n * esz t := by
    have : (i + 1) * esz t ≤ n * esz t := Nat.mul_le_mul_right _ hi
    rw [Nat.add_mul] at this; omega
  have hmod : (i * esz t + j) % esz t = j := by rw [Nat.mul_comm, Nat.mul_add_mod, Nat.mod_eq_of_lt hj]
  have hz : (zrow t n)[0 + i * esz t + j]? = some ((zvals t).getD j (.bool false)) := by
    rw [Nat.zero_add]
    simp only [zrow, Array.getElem?_map]
    rw [Array.getElem?_eq_getElem (by simpa using hlt)]
    simp [hmod]
  refine ⟨_, hz, ?_⟩
  cases c with
  | v x =>
    have hzv : (zvals t).getD j (.bool false) = x := by simp only [zvals, List.getD, List.getElem?_map, hc, Option.map_some, Option.getD_some]
    exact ⟨hzv, fun _ => hzv⟩
  | l t' ys =>
    have := zero_nil hc
    subst this
    have hzv : (zvals t).getD j (.bool false) = .slice none 0 0 := by simp only [zvals, List.getD, List.getElem?_map, hc, Option.map_some, Option.getD_some]
    rw [hzv]
    have hown : COwn w (fun _ => False) (.l t' []) (.slice none 0 0) := nilOwn w _ t'
    exact ⟨hown.rd.mono fun _ h => h.elim, fun _ => hown⟩

theorem Any_nil {k : Nat} : ¬ Any [] k := fun ⟨_, h, _⟩ => by simp at h
theorem Any_append {Fs Gs : List (Nat → Prop)} {k : Nat} : Any (Fs ++ Gs) k ↔ Any Fs k ∨ Any Gs k := by
  simp only [Any, List.mem_append]
  constructor
  · rintro ⟨F, h | h, hk⟩
    · exact .inl ⟨F, h, hk⟩
    · exact .inr ⟨F, h, hk⟩
  · rintro (⟨F, h, hk⟩ | ⟨F, h, hk⟩)
    · exact ⟨F, .inl h, hk⟩
    · exact ⟨F, .inr h, hk⟩

/-- An element that is taken over. -/
theorem Inv.absEl (I : Inv w0 Mf g st a w) {t : Ty} {s : Sv} {k : El t → Bool → St → List (Nat × Rt) → Option R} {r : R} {u : Value} (h : absEl st t s k = some r) (hs : SvRel w g st s u) :
    ∃ x us d st' ups Fs, k x d st' ups = some r ∧ Form t u us ∧ Inv w0 Mf g st' a w ∧ Took w g st st' ups Fs ∧ AbsL w g.ro (enc t x) us.toList Fs d := by
  obtain ⟨cs, hcs, h⟩ := bindS h
  obtain ⟨us, hf, hc⟩ := svCells_sound hcs hs
  obtain ⟨cv, d, st', ups, Fs, h1, I', T, hA⟩ := I.absL h hc.l
  obtain ⟨x, hx, h3⟩ := bindS h1
  have hcv := dec_enc hx
  subst hcv
  exact ⟨x, us, d, st', ups, Fs, h3, hf, I', T, hA⟩

theorem Inv.absElP (I : Inv w0 Mf g st a w) {t : Ty} {s : Sv} {k : El t → Bool → St → List (Nat × Rt) → Option R} {r : R} {u : Value} (h : absElP st t s k = some r) (hs : SvRel w g st s u) :
    ∃ x us d st' ups Fs rf, k x d st' ups = some r ∧ Form t u us ∧ Inv w0 Mf (g.wrf rf) st' a w ∧ TookP w g rf st st' ups Fs ∧ AbsL w g.ro (enc t x) us.toList Fs d := by
  obtain ⟨cs, hcs, h⟩ := bindS h
  obtain ⟨us, hf, hc⟩ := svCells_sound hcs hs
  obtain ⟨cv, d, st', ups, Fs, rf, h1, I', T, hA⟩ := I.absLP h hc.l
  obtain ⟨x, hx, h3⟩ := bindS h1
  have hcv := dec_enc hx
  subst hcv
  exact ⟨x, us, d, st', ups, Fs, rf, h3, hf, I', T, hA⟩

theorem enc_lt {t : Ty} {x : El t} {j : Nat} {c : Cv} (h : (enc t x)[j]? = some c) : j < esz t := by
  rw [← enc_length t x]
  rcases Nat.lt_or_ge j (enc t x).length with h' | h'
  · exact h'
  · simp [List.getElem?_eq_none h'] at h
theorem el_lt {α : Type} {xs : List α} {i : Nat} {x : α} (h : xs[i]? = some x) : i < xs.length := by
  rcases Nat.lt_or_ge i xs.length with h' | h'
  · exact h'
  · simp [List.getElem?_eq_none h'] at h

/-- An element laid into a row. -/
theorem Pieces.put {ro gr : Nat → Prop} {dd d : Bool} {e : Ty} {xs : List (El e)} {cs : Array Value} {o : Nat} {G : Nat → Nat → Nat → Prop} {Fs Gs : List (Nat → Prop)} (hp : Pieces w (fun k => ro k ∨ Any Fs k) dd e xs cs o G)
    (hG : ∀ i j k, G i j k → Any Fs k) {y : El e} {vs : List Value} (hA : AbsL w gr (enc e y) vs Gs d) (hro : ∀ k, gr k → ro k) (hpair : PairApart (Fs ++ Gs)) {i : Nat} (hi : i < xs.length) (hsz : o + xs.length * esz e ≤ cs.size) :
    ∃ G', Pieces w (fun k => ro k ∨ Any (Fs ++ Gs) k) (dd && d) e (xs.set i y) (putAt cs (o + i * esz e) vs.toArray) o G' ∧ ∀ i j k, G' i j k → Any (Fs ++ Gs) k := by
  have hlen : vs.length = esz e := by rw [hA.len.1, enc_length]
  have hmul : i * esz e + esz e ≤ xs.length * esz e := by
    have : (i + 1) * esz e ≤ xs.length * esz e := Nat.mul_le_mul_right _ hi
    rw [Nat.add_mul] at this; omega
  have hget := fun m => putAt_get (cells := cs) (off := o + i * esz e) (vs := vs.toArray) (by simp [hlen]; omega) m
  have hrow := hA.rd
  let G' : Nat → Nat → Nat → Prop := fun i' j k => (i' = i ∧ ∃ F, Gs[j]? = some F ∧ F k) ∨ (i' ≠ i ∧ G i' j k)
  have hG' : ∀ i j k, G' i j k → Any (Fs ++ Gs) k := by
    rintro i' j k (⟨rfl, F, h1, h2⟩ | ⟨_, h⟩)
    · exact Any_append.2 (.inr ⟨F, List.mem_of_getElem? h1, h2⟩)
    · exact Any_append.2 (.inl (hG _ _ _ h))
  refine ⟨G', ⟨fun i' x j c hx hc => ?_, ?_⟩, hG'⟩
  · have hj := enc_lt hc
    by_cases hii : i' = i
    · subst hii
      rw [List.getElem?_set_self hi] at hx
      cases hx
      obtain ⟨z, hz, hr⟩ := hrow.get j c hc
      refine ⟨z, ?_, hr.mono fun k hk => ?_, fun hd => ?_⟩
      · rw [hget, if_pos (by simp [hlen]; omega), show o + i' * esz e + j - (o + i' * esz e) = j by omega]
        simpa using hz
      · rcases hk with hk | hk
        · exact .inr (.inr (Any_append.2 (.inr hk)))
        · exact .inr (.inl (hro k hk))
      · simp only [Bool.and_eq_true] at hd
        obtain ⟨z', F, h1, h2, h3⟩ := hA.own hd.2 j c hc
        rw [hz] at h1; cases h1
        exact h3.mono fun k hk => .inl ⟨rfl, F, h2, hk⟩
    · rw [List.getElem?_set_ne (Ne.symm hii)] at hx
      obtain ⟨z, hz, hr, ho⟩ := hp.rows i' x j c hx hc
      refine ⟨z, ?_, hr.mono fun k hk => ?_, fun hd => ?_⟩
      · rw [hget, if_neg ?_]
        · exact hz
        · simp only [List.size_toArray, hlen]
          rcases Nat.lt_or_gt_of_ne hii with hlt | hlt
          · have : (i' + 1) * esz e ≤ i * esz e := Nat.mul_le_mul_right _ hlt
            rw [Nat.add_mul] at this; omega
          · have : (i + 1) * esz e ≤ i' * esz e := Nat.mul_le_mul_right _ hlt
            rw [Nat.add_mul] at this; omega
      · rcases hk with hk | hk | hk
        · exact .inl (.inr ⟨hii, hk⟩)
        · exact .inr (.inl hk)
        · exact .inr (.inr (Any_append.2 (.inl hk)))
      · simp only [Bool.and_eq_true] at hd
        exact (ho hd.1).mono fun k hk => .inr ⟨hii, hk⟩
  · have hx : ∀ k, Any Fs k → Any Gs k → False := fun k ⟨F, hF, h1⟩ ⟨F', hF', h2⟩ => (List.pairwise_append.1 hpair).2.2 F hF F' hF' k h1 h2
    rintro i1 j1 i2 j2 k (⟨rfl, F, h1, h2⟩ | ⟨hn, h⟩) (⟨rfl, F', h1', h2'⟩ | ⟨hn', h'⟩)
    · refine ⟨rfl, ?_⟩
      have hgp := List.pairwise_iff_getElem.1 (List.pairwise_append.1 hpair).2.1
      obtain ⟨hj, rfl⟩ := List.getElem?_eq_some_iff.1 h1
      obtain ⟨hj', rfl⟩ := List.getElem?_eq_some_iff.1 h1'
      rcases Nat.lt_trichotomy j1 j2 with hlt | heq | hlt
      · exact (hgp j1 j2 hj hj' hlt k h2 h2').elim
      · exact heq
      · exact (hgp j2 j1 hj' hj hlt k h2' h2).elim
    · exact (hx k (hG _ _ _ h') ⟨F, List.mem_of_getElem? h1, h2⟩).elim
    · exact (hx k (hG _ _ _ h) ⟨F', List.mem_of_getElem? h1', h2'⟩).elim
    · exact hp.dis _ _ _ _ k h h'

theorem Inv.elemsAt {g : Gh} {st0 : St} {e : Ty} : ∀ {ps : List (Nat × Operand)} {rf : Nat → Nat → Prop} {st : St} {ups : List (Nat × Rt)} {Fs : List (Nat → Prop)} {xs : List (El e)} {cs : Array Value} {G : Nat → Nat → Nat → Prop} {dd : Bool}
    {k : List (El e) → Bool → St → List (Nat × Rt) → Option R} {r : R}, Inv w0 Mf (g.wrf rf) st a w → TookP w g rf st0 st ups Fs → Pieces w (fun k => g.ro k ∨ Any Fs k) dd e xs cs 0 G → (∀ i j k, G i j k → Any Fs k) →
    cs.size = xs.length * esz e → elemsAt e st ps xs k = some r →
    ∃ ys d st' ups' Fs' cs' G' rf', k ys d st' ups' = some r ∧ Inv w0 Mf (g.wrf rf') st' a w ∧ TookP w g rf' st0 st' (ups ++ ups') Fs' ∧ Pieces w (fun k => g.ro k ∨ Any Fs' k) (dd && d) e ys cs' 0 G' ∧ (∀ i j k, G' i j k → Any Fs' k) ∧
      cs'.size = cs.size ∧ ys.length = xs.length ∧ Instr.fill (fun i => some (i * esz e, esz e)) cs (ps.map fun p => (p.1, a.eval p.2)) = some cs'
  | [], rf, st, ups, Fs, xs, cs, G, dd, k, r, I, T, hp, hG, hsz, h => ⟨xs, true, st, [], Fs, cs, G, rf, h, I, by simpa using T, by simpa using hp, hG, rfl, rfl, rfl⟩
  | (i, x) :: ps, rf, st, ups, Fs, xs, cs, G, dd, k, r, I, T, hp, hG, hsz, h => by
    simp only [Gm.elemsAt] at h
    obtain ⟨s, h, hs⟩ := I.getS h
    obtain ⟨y, us, d, s1, u1, Gs, rf1, h, hf, I1, T1, hA⟩ := I.absElP h hs
    obtain ⟨hi, h⟩ := condN h
    have hi : i < xs.length := Nat.lt_of_succ_le (bleN hi)
    have T2 := T.trans T1
    obtain ⟨G1, hp1, hG1⟩ := hp.put hG hA (fun _ h => h) T2.apart hi (by omega)
    have hus : us.size = esz e := by
      have := hA.len.1
      rw [enc_length] at this; simpa using this
    have hmul : i * esz e + esz e ≤ xs.length * esz e := by
      have : (i + 1) * esz e ≤ xs.length * esz e := Nat.mul_le_mul_right _ hi
      rw [Nat.add_mul] at this; omega
    have hcell := hf.cells
    obtain ⟨ys, d', st', u', Fs', cs', G', rf', h1, h2, h3, h4, h5, h6, h7, h8⟩ := Inv.elemsAt (g := g) (rf := rf1) I1 T2 hp1 hG1 (by rw [putAt_size (by simp [hus]; omega)]; simpa using hsz) h
    refine ⟨ys, d && d', st', u1 ++ u', Fs', cs', G', rf', h1, h2, by rw [← List.append_assoc]; exact h3, by rw [← Bool.and_assoc]; exact h4, h5, ?_, by simpa using h7, ?_⟩
    · rw [h6, putAt_size (by simp [hus]; omega)]
    · simp only [List.map_cons]
      rw [fill_cons (off := i * esz e) (by rw [hcell, hus]) (by rw [hcell, hus]; omega)]
      simpa [hcell] using h8

theorem run_newRow {T : Nat} {cs : Array Value} (w : World) : (newRow T cs).run P w = .ok ⟨w.heap.size, 0, none⟩ (pushW w (.cells cs T)) := by
  simp [newRow, pushW]

/-- A new row becomes a root. -/
theorem Inv.newRoot {rf : Nat → Nat → Prop} {st0 : St} (I0 : Inv w0 Mf g st0 a w) (I : Inv w0 Mf (g.wrf rf) st a w) {ups : List (Nat × Rt)} {Fs : List (Nat → Prop)} (T : TookP w g rf st0 st ups Fs) {e : Ty} {xs : List (El e)} {cs : Array Value} {G : Nat → Nat → Nat → Prop} {d : Bool}
    (hp : Pieces w (fun k => g.ro k ∨ Any Fs k) d e xs cs 0 G) (hG : ∀ i j k, G i j k → Any Fs k) (hsz : cs.size = xs.length * esz e) {el id ver : Nat} {md : Md} (hfit : FitVer st id ⟨e, md, ver, [], xs⟩) (hmd : md.isFrz = false ∧ md.isPart = false)
    (hdd : md.isDeep = true → d = true) {dst : Option Nat} (hd : ∀ d, dst = some d → d < g.n.sz) :
    ∃ g' : Gh, g'.n = g.n ∧ Inv w0 Mf g' (({ st with roots := aset st.roots id (.live ⟨e, md, ver, [], xs⟩) } : St).apply { slot := dst.map fun d => (d, .c (.one (.h id ver 0 []))) })
      (a.put dst (.slice (some ⟨w.heap.size, 0, none⟩) xs.length xs.length)) (pushW w (.cells cs el)) := by
  have hs : SameBut (fun k => k = w.heap.size) w (pushW w (.cells cs el)) := ⟨(push_same w _).1, fun b h _ => (push_same w (.cells cs el)).2 b h (fun h => h)⟩
  have hfr : ∀ k, Any Fs k → k ≠ w.heap.size ∧ Free w0 Mf (g.wrf rf) st k ∧ k < w.heap.size := fun k ⟨F, hF, hk⟩ => by
    obtain ⟨h1, h2⟩ := T.free I0 hF hk
    exact ⟨by omega, h1, h2⟩
  obtain ⟨g', h1, h2, h3⟩ := I.build (w' := pushW w (.cells cs el)) (b := w.heap.size) (o := 0) (cap := xs.length) (el := el) (cs := cs) hs rfl rfl rfl (push_new _ _) I.freeNew hp (fun i j k h => hfr k (hG i j k h)) hfr (Nat.le_refl _)
    (by omega) hfit hmd hdd
  refine ⟨g', h1, ?_⟩
  have := h2.putRoot rfl (dst := dst) (fun d h => by rw [h1]; exact hd d h) (by rw [h3]; rfl)
  rw [h3] at this
  exact this

theorem zrow_eq {zv : Array Value} {t : Ty} (h : zv = (zvals t).toArray) (n : Nat) : (Array.range (n * esz t)).map (fun i => (if n * esz t = 0 then #[] else zv)[i % (if n * esz t = 0 then (#[] : Array Value) else zv).size]!) = zrow t n := by
  subst h
  by_cases hn : n * esz t = 0
  · simp [zrow, hn]
  · simp only [hn, if_false, zrow]
    apply Array.ext
    · simp
    · intro i h1 h2
      simp only [Array.getElem_map, Array.getElem_range]
      have hl : (zvals t).length = esz t := by simp [zvals, enc_length]
      have hlt : i % esz t < (zvals t).length := by rw [hl]; exact Nat.mod_lt _ (esz_pos t)
      simp [hl, List.getD, List.getElem?_eq_getElem hlt]

theorem run_buildSlice {T n el : Nat} {e : Ty} {zv : Value} {cs : Array Value} {parts : Array (Nat × Value)} (hu : P.underlying T = some (.slice el)) (hs : (sizeOf el).run P w = .ok (esz e) w)
    (hz : (zeroValue el).run P w = .ok zv w) (hzc : zv.cells = (zvals e).toArray) (hlim : n * esz e ≤ 16777216)
    (hfill : Instr.fill (fun i => some (i * esz e, esz e)) (zrow e n) parts.toList = some cs) : (Instr.buildSlice T n parts).run P w = .ok (.slice (some ⟨w.heap.size, 0, none⟩) n n) (pushW w (.cells cs el)) := by
  have hlim' : ¬ (2 ^ 24 < n * esz e) := by omega
  have hzr := zrow_eq hzc n
  by_cases hn0 : n * esz e = 0
  · simp only [hn0, if_true] at hzr
    rw [← hzr] at hfill
    simp only [Instr.buildSlice, Sem.run_bind, run_underlying hu, Result.andThen_ok, hs, gt_iff_lt, hn0, if_true, Sem.run_pure]
    simp only [Nat.not_lt_zero, if_false, Sem.run_bind, Sem.run_pure, Result.andThen_ok, hfill, run_newRow]
  · simp only [hn0, if_false] at hzr
    rw [← hzr] at hfill
    simp only [Instr.buildSlice, Sem.run_bind, run_underlying hu, Result.andThen_ok, hs, gt_iff_lt, hlim', hn0, if_false, Sem.run_pure, hz, hfill, run_newRow]

theorem x_buildSlice (hE : E.Ok P) (I : Inv w0 Mf g st a w) (hd : ∀ d, o.dst = some d → d < g.n.sz) (hK : Then w0 Mf g st k r K) {T n : Nat} {ps : Array (Nat × Operand)} (hop : o.op = .buildSlice T n ps)
    (h : evX E o st k = some r) : o.wp P a w K Q := by
  simp only [evX, hop] at h
  split at h
  case h_2 => cases h
  rename_i e hT
  obtain ⟨hlim, h⟩ := condN h
  have hlim := bleN hlim
  obtain ⟨ys, d, st', ups, Fs, cs, G, rf, h, I', TK, hp, hG, hsz, hlen, hfill⟩ := Inv.elemsAt (rf := g.rf) (G := fun _ _ _ => False) (dd := true) I (TookP.refl _ _ _) (zrow_pieces w _ e n) (fun _ _ _ h => h.elim) (by simp [zrow_size]) h
  obtain ⟨ver, hfit, h⟩ := mkRoot_some h
  obtain ⟨el, hu, hel⟩ := hE.slice hT
  obtain ⟨zv, hz, hzc⟩ := hE.zero hel w
  have hys : ys.length = n := by simpa using hlen
  obtain ⟨g', hn, I2⟩ := Inv.newRoot (el := el) I I' (by simpa using TK) hp hG (by rw [hsz, zrow_size, hys]) hfit ⟨meet_frz rfl, meet_part rfl⟩ (fun h => by simpa using (meet_deep h).2) hd
  refine wp_val (v := .slice (some ⟨w.heap.size, 0, none⟩) ys.length ys.length) (w' := pushW w (.cells cs el)) ?_ (hK _ g' _ _ h hn ?_)
  · have hfill' : Instr.fill (fun i => some (i * esz e, esz e)) (zrow e n) (ps.map fun p => (p.1, a.eval p.2)).toList = some cs := by simpa using hfill
    have := run_buildSlice (n := n) hu (hE.size hel w) hz hzc hlim hfill'
    rw [hys]
    simp only [execOp, hop, Sem.run_bind, this, Result.andThen_ok, Sem.run_pure]
  · have hst := TK.eq
    subst hst
    simpa [St.apply, asets_append, asets] using I2

end Go.Gm

/- make; a struct's literal. -/
namespace Go.Gm
open Go

variable {R : Type} {P : Program} {E : Env} {w0 w : World} {Mf : Nat → Prop} {g : Gh} {st : St} {a : Act} {Q : Exit → Act → World → Prop}
  {o : Oper} {k : Dl → Option R} {r : R} {K : Act → World → Prop}

theorem run_makeSlice (hE : E.Ok P) {T el : Nat} {e : Ty} {zv : Value} {n : Int} (hu : P.underlying T = some (.slice el)) (hel : E.code el = some e) (hz : (zeroValue el).run P w = .ok zv w) (hzc : zv.cells = (zvals e).toArray)
    (h0 : 0 ≤ n) (h1 : n ≤ (LIM : Int)) : (Instr.makeSlice T (.int .i64 n) (.int .i64 n)).run P w = .ok (.slice (some ⟨w.heap.size, 0, none⟩) n.toNat n.toNat) (pushW w (.cells (zrow e n.toNat) el)) := by
  obtain ⟨i, zv', hi, hsz, hby, _, _⟩ := hE.info el e hel
  have hw : IntKind.i64.wrap n = n := by
    unfold LIM at h1
    simp only [IntKind.wrap, IntKind.signed, IntKind.bits]
    simp
    omega
  have hbytes : ¬ (281474976710656 < (i.bytes : Int) * n) := by
    have h3 : (i.bytes : Int) * n ≤ 1024 * n := Int.mul_le_mul_of_nonneg_right (by omega) h0
    unfold LIM at h1; omega
  have hzr := zrow_eq hzc n.toNat
  have hs := hE.size hel w
  have hn : ¬ n < 0 := by omega
  by_cases hn0 : n.toNat * esz e = 0
  · simp only [hn0, if_true] at hzr
    simp [Instr.makeSlice, run_underlying hu, asInt, asIntOf, typeInfo, hi, hw, hn, hbytes, hs, hn0, run_newRow, ← hzr]
  · simp only [hn0, if_false] at hzr
    simp [Instr.makeSlice, run_underlying hu, asInt, asIntOf, typeInfo, hi, hw, hn, hbytes, hs, hn0, run_newRow, ← hzr, hz]

theorem x_makeSlice (hE : E.Ok P) (I : Inv w0 Mf g st a w) (hd : ∀ d, o.dst = some d → d < g.n.sz) (hK : Then w0 Mf g st k r K) {T : Nat} {n m : Operand} (hop : o.op = .makeSlice T n m)
    (h : evX E o st k = some r) : o.wp P a w K Q := by
  simp only [evX, hop] at h
  split at h
  case h_2 => cases h
  rename_i e hT
  replace h := I.getInt h; obtain ⟨n', h, hn'⟩ := h
  replace h := I.getInt h; obtain ⟨m', h, hm'⟩ := h
  replace h := condN h; obtain ⟨hc, h⟩ := h
  simp only [Bool.and_eq_true, decide_eq_true_eq] at hc
  obtain ⟨rfl, h0, h1⟩ := hc
  replace h := mkRoot_some h; obtain ⟨ver, hfit, h⟩ := h
  obtain ⟨el, hu, hel⟩ := hE.slice hT
  obtain ⟨zv, hz, hzc⟩ := hE.zero hel w
  obtain ⟨g', hn, I2⟩ := Inv.newRoot (el := el) (G := fun _ _ _ => False) (rf := g.rf) I I (TookP.refl _ _ _) ((zrow_pieces w (fun k => g.ro k ∨ Any [] k) e n'.toNat)) (fun _ _ _ h => h.elim) (by simp [zrow_size]) hfit ⟨rfl, rfl⟩ (fun _ => rfl) hd
  refine wp_val (v := .slice (some ⟨w.heap.size, 0, none⟩) n'.toNat n'.toNat) (w' := pushW w (.cells (zrow e n'.toNat) el)) ?_ (hK _ g' _ _ h hn ?_)
  · simp only [execOp, hop, Sem.run_bind, hn', hm', run_makeSlice hE hu hel hz hzc h0 h1, Result.andThen_ok, Sem.run_pure]
  · simpa [St.apply, asets] using I2


end Go.Gm

/- A struct's literal. -/
namespace Go.Gm
open Go

variable {R : Type} {P : Program} {E : Env} {w0 w : World} {Mf : Nat → Prop} {g : Gh} {st : St} {a : Act} {Q : Exit → Act → World → Prop}
  {o : Oper} {k : Dl → Option R} {r : R} {K : Act → World → Prop}

/-- A struct's row put together, part by part. -/
theorem Inv.partsAt (hE : E.Ok P) (I : Inv w0 Mf g st a w) {T : Nat} {fs : Array Field} (hu : P.underlying T = some (.struct fs)) {pl : List (Nat × Nat)}
    (hpl : fs.toList.mapM (fun f => (P.info? f.type).map fun i => (f.offset, i.size)) = some pl) : ∀ {ps : List (Nat × Operand)} {row : List Sc} {us : Array Value} {k : List Sc → Option R} {r : R}, CsRel w g st row us →
    partsAt E T st ps row k = some r → ∃ row' us', k row' = some r ∧ CsRel w g st row' us' ∧ Instr.fill (pl.toArray[·]?) us (ps.map fun p => (p.1, a.eval p.2)) = some us'
  | [], row, us, k, r, hr, h => ⟨row, us, h, hr, rfl⟩
  | (i, x) :: ps, row, us, k, r, hr, h => by
    simp only [Gm.partsAt] at h
    obtain ⟨⟨off, ft⟩, hfld, h⟩ := bindS h
    obtain ⟨t, ht, h⟩ := bindS h
    obtain ⟨s, h, hs⟩ := I.getS h
    obtain ⟨cs, hcs, h⟩ := bindS h
    obtain ⟨hb, h⟩ := condN h
    simp only [Bool.and_eq_true] at hb
    have hlen := beqN hb.1
    have hle := bleN hb.2
    obtain ⟨vs, hf, hc⟩ := svCells_sound hcs hs
    obtain ⟨fs', fd, t', hu', hfd, rfl, rfl, hcode⟩ := hE.fld T i _ _ hfld
    rw [hu] at hu'; cases hu'
    rw [ht] at hcode; cases hcode
    obtain ⟨inf, zv, hi, hsz, _⟩ := hE.info _ _ ht
    have hvs : vs.size = cs.length := hc.1
    have hus : us.size = row.length := hr.1
    have hplace : pl.toArray[i]? = some (fd.offset, esz t) := by
      have : ∀ (l : List Field) (pl : List (Nat × Nat)), l.mapM (fun f => (P.info? f.type).map fun i => (f.offset, i.size)) = some pl → ∀ (n : Nat) f, l[n]? = some f → ∃ inf, P.info? f.type = some inf ∧ pl[n]? = some (f.offset, inf.size) := by
        intro l
        induction l with
        | nil => intro pl _ n f hn; simp at hn
        | cons f0 l ih =>
          intro pl hm n f hn
          simp only [List.mapM_cons, Option.bind_eq_bind, Option.pure_def] at hm
          obtain ⟨b, hb, hm⟩ := bindS hm
          obtain ⟨bs, hbs, hm⟩ := bindS hm
          simp only [Option.some.injEq] at hm; subst hm
          cases n with
          | zero =>
            simp only [List.getElem?_cons_zero, Option.some.injEq] at hn; subst hn
            simp only [Option.map_eq_some_iff] at hb
            obtain ⟨inf, h1, rfl⟩ := hb
            exact ⟨inf, h1, rfl⟩
          | succ n => simpa using ih bs hbs n f (by simpa using hn)
      obtain ⟨inf', h1, h2⟩ := this fs.toList pl hpl i fd (by simpa using hfd)
      rw [hi] at h1; cases h1
      simpa [hsz] using h2
    have hset := hr.set hc fd.offset (by omega)
    obtain ⟨row', us', h1, h2, h3⟩ := Inv.partsAt hE I hu hpl hset h
    refine ⟨row', us', h1, h2, ?_⟩
    have hcell := hf.cells
    simp only [List.map_cons]
    rw [fill_cons (off := fd.offset) (by rw [hcell, hvs, hlen]; exact hplace) (by rw [hcell, hvs, hus]; omega), hcell]
    rw [← h3]
    congr 1
    apply Array.ext
    · rw [putAt_size (by omega)]; simp; omega
    · intro n h1 h2
      apply Option.some.inj
      rw [← Array.getElem?_eq_getElem, ← Array.getElem?_eq_getElem, putAt_get (by omega)]
      simp only [List.getElem?_toArray]
      by_cases hn1 : n < fd.offset
      · rw [if_neg (by omega), List.append_assoc, List.getElem?_append_left (by simp; omega), List.getElem?_take, if_pos hn1]; simp
      · by_cases hn2 : n < fd.offset + vs.size
        · rw [if_pos (by omega), List.getElem?_append_left (by simp; omega), List.getElem?_append_right (by simp; omega)]
          have : min fd.offset us.size = fd.offset := by omega
          simp [this]
        · rw [if_neg (by omega), List.getElem?_append_right (by simp; omega)]
          have : min fd.offset us.size = fd.offset := by omega
          simp only [List.length_append, List.length_take, Array.length_toList, this, List.getElem?_drop]
          rw [show fd.offset + vs.size + (n - (fd.offset + vs.size)) = n by omega]
          simp


theorem x_build (hE : E.Ok P) (I : Inv w0 Mf g st a w) (hd : ∀ d, o.dst = some d → d < g.n.sz) (hK : Then w0 Mf g st k r K) {T : Nat} {ps : Array (Nat × Operand)} (hop : o.op = .build T ps)
    (h : evX E o st k = some r) : o.wp P a w K Q := by
  simp only [evX, hop] at h
  replace h := bindS h; obtain ⟨t, hT, h⟩ := h
  replace h := condN h; obtain ⟨hst, h⟩ := h
  have hu := hE.und T t hT
  have hu' : ∃ fs, P.underlying T = some (.struct fs) := by
    unfold UndOk at hu
    cases t <;> first | exact hu | (simp only [isSt, Bool.false_eq_true] at hst)
  obtain ⟨fs, hfs⟩ := hu'
  obtain ⟨pl, hpl⟩ := hE.sts T fs hfs (by simp [hT])
  obtain ⟨row', us', h, hr, hfill⟩ := I.partsAt hE hfs hpl (zeroRel t) h
  obtain ⟨i, zv, hi, _, _, hz, hzc⟩ := hE.info T t hT
  have hb : P.built T (ps.map fun (i, x) => (i, a.eval x)).toList = some us' := by
    unfold Program.built
    simp only [hi, hfs, hz, hpl, hzc]
    rw [show (ps.map fun (i, x) => (i, a.eval x)).toList = ps.toList.map (fun p => (p.1, a.eval p.2)) from by simp]
    exact hfill
  refine I.val hd hK (v := .agg us') ?_ h ⟨us', rfl, hr⟩
  simp only [execOp, hop, Sem.run_bind, run_build w T _ _ hb, Result.andThen_ok, Sem.run_pure]

end Go.Gm

/- A root turned in place: what handles to it still say. -/
namespace Go.Gm
open Go

variable {R : Type} {P : Program} {E : Env} {w0 w : World} {Mf : Nat → Prop} {g : Gh} {st : St} {a : Act} {Q : Exit → Act → World → Prop}
  {o : Oper} {k : Dl → Option R} {r : R} {K : Act → World → Prop}

theorem verOk_at {id ver iv : Nat} {ro : Root} (h : aget st.roots id = some (.live ro) ∨ aget st.roots id = some (.lent ro)) : verOk st id ver iv ↔ (ver < ro.ver ∨ (ver = ro.ver ∧ iv ≤ ro.log.length)) := by
  unfold verOk
  rcases h with h | h <;> simp only [h]

/-- Blocks that none but the root at id holds. -/
structure Alone (g : Gh) (st : St) (id k : Nat) : Prop where
  r : ∀ id', OwnAt st id' → id' ≠ id → ¬ g.rf id' k
  ro : ¬ g.ro k
  b : ∀ b, BoxAt st b → g.bx b ≠ k

theorem ScR.reroot {id : Nat} {ro ro' : Root} (h : aget st.roots id = some (.live ro) ∨ aget st.roots id = some (.lent ro)) (ht : ro'.t = ro.t) (hver : ro'.ver = ro.ver) {l : List Nat} (hlog : ro'.log = ro.log ++ l)
    {av : Path → Value} {F : Nat → Prop}
    (hav : ∀ q, (∀ D ∈ l, q.length ≤ D) → av q = g.rv id q ∧ ∀ s, subR ro.t ro.xs q = some s → ∃ s', subR ro'.t ro'.xs q = some s' ∧ s'.t = s.t ∧ s'.xs.length = s.xs.length)
    {c : Sc} {u : Value} (hc : ScR w g st c u) : ScR w (g.setR id av F) { st with roots := aset st.roots id (.live ro') } c u := by
  have hat : aget ({ st with roots := aset st.roots id (.live ro') } : St).roots id = some (.live ro') := aget_aset_self _ _ _
  have hv : ∀ id' ver iv, verOk st id' ver iv → verOk { st with roots := aset st.roots id (.live ro') } id' ver iv := by
    intro id' ver iv hv
    by_cases hid : id' = id
    · subst hid
      rw [verOk_at (.inl hat), hver, hlog]
      rw [verOk_at h] at hv
      rcases hv with hv | ⟨hv, hi⟩
      · exact .inl hv
      · exact .inr ⟨hv, by simp; omega⟩
    · unfold verOk at hv ⊢
      simp only [aget_aset_ne _ _ hid]; exact hv
  have hx : ∀ id' ver iv p r', verOk st id' ver iv → Vx { st with roots := aset st.roots id (.live ro') } id' ver iv p r' →
      (id' ≠ id ∧ Vx st id' ver iv p r') ∨ (id' = id ∧ r' = ro' ∧ Vx st id ver iv p ro ∧ ∀ D ∈ l, p.length ≤ D) := by
    intro id' ver iv p r' hvo hvx
    by_cases hid : id' = id
    · subst hid
      have e := hvx.is hat
      subst e
      refine .inr ⟨rfl, rfl, ?_⟩
      obtain ⟨_, h2, h3⟩ := hvx
      rw [verOk_at h] at hvo
      have hiv : iv ≤ ro.log.length := by omega
      unfold validAt at h3
      rw [hlog, List.drop_append_of_le_length hiv, List.all_append, Bool.and_eq_true] at h3
      exact ⟨⟨h, by omega, h3.1⟩, fun D hD => bleN (List.all_eq_true.1 h3.2 D hD)⟩
    · refine .inl ⟨hid, ?_⟩
      obtain ⟨h1, h2, h3⟩ := hvx
      simp only [aget_aset_ne _ _ hid] at h1
      exact ⟨h1, h2, h3⟩
  cases c with
  | h id' ver iv p =>
    refine ⟨hv _ _ _ hc.1, fun r' hr' => ?_⟩
    rcases hx _ _ _ _ _ hc.1 hr' with ⟨hid, hvx⟩ | ⟨rfl, rfl, hvx, hl⟩
    · simpa [Gh.setR, hid] using hc.2 r' hvx
    · obtain ⟨h1, h2⟩ := hc.2 ro hvx
      obtain ⟨h3, h4⟩ := hav p hl
      obtain ⟨s, hs⟩ := Option.isSome_iff_exists.1 h2
      obtain ⟨s', hs', _⟩ := h4 s hs
      simp only [Gh.setR, if_true]
      exact ⟨by rw [h3, h1], by rw [hs']; rfl⟩
  | vw id' ver lo hi =>
    refine ⟨hv _ _ _ hc.1, fun r' hr' => ?_⟩
    rcases hx _ _ _ _ _ hc.1 hr' with ⟨hid, hvx⟩ | ⟨rfl, rfl, hvx, hl⟩
    · simpa [Gh.setR, hid] using hc.2 r' hvx
    · obtain ⟨h1, h2, h5⟩ := hc.2 ro hvx
      obtain ⟨h3, h4⟩ := hav [] hl
      obtain ⟨s', hs', e1, e2⟩ := h4 _ rfl
      simp only [subR, Option.some.injEq] at hs'
      subst hs'
      simp only at e1 e2
      simp only [Gh.setR, if_true]
      exact ⟨h1, by rw [e2]; exact h2, by rw [h3, ht]; exact h5⟩
  | pe id' ver iv p i off =>
    refine ⟨hv _ _ _ hc.1, fun r' hr' => ?_⟩
    rcases hx _ _ _ _ _ hc.1 hr' with ⟨hid, hvx⟩ | ⟨rfl, rfl, hvx, hl⟩
    · simpa [Gh.setR, hid] using hc.2 r' hvx
    · obtain ⟨s, b, oo, n, cap, h1, h2, h5, h6⟩ := hc.2 ro hvx
      obtain ⟨h3, h4⟩ := hav p hl
      obtain ⟨s', hs', e1, e2⟩ := h4 s h1
      simp only [Gh.setR, if_true]
      exact ⟨s', b, oo, n, cap, hs', by rw [e2]; exact h2, by rw [h3]; exact h5, by rw [e1]; exact h6⟩
  | _ => exact hc

/-- A root turned in place, and the world with it. -/
theorem Inv.reroot (I : Inv w0 Mf g st a w) {id : Nat} {ro ro' : Root} (h : aget st.roots id = some (.live ro) ∨ aget st.roots id = some (.lent ro)) {w' : World} {X : Nat → Prop} (hs : SameBut X w w') (hk : Kept w0 w' Mf)
    (hX : ∀ k, X k → Alone g st id k) {G : Nat → Prop} (hG : ∀ k, g.ro k → G k) (hGr : ∀ id' k, OwnAt st id' → id' ≠ id → g.rf id' k → ¬ G k) (hGb : ∀ b, BoxAt st b → ¬ G (g.bx b)) (hGlt : ∀ k, G k → k < w'.heap.size) (hGm : ∀ k, G k → g.n.r0 k ∨ w0.heap.size ≤ k ∨ Mf k)
    (ht : ro'.t = ro.t) (hver : ro'.ver = ro.ver) {l : List Nat} (hlog : ro'.log = ro.log ++ l) {av : Path → Value} {F : Nat → Prop}
    (hav : ∀ q, (∀ D ∈ l, q.length ≤ D) → av q = g.rv id q ∧ ∀ s, subR ro.t ro.xs q = some s → ∃ s', subR ro'.t ro'.xs q = some s' ∧ s'.t = s.t ∧ s'.xs.length = s.xs.length)
    (hr : RootRel w' (({ g with ro := G } : Gh).setR id av F) id ro')
    (hF : ∀ k, F k → (∀ id', OwnAt st id' → id' ≠ id → ¬ g.rf id' k) ∧ ¬ G k ∧ (∀ b, BoxAt st b → g.bx b ≠ k) ∧ (w0.heap.size ≤ k ∨ Mf k) ∧ k < w'.heap.size) :
    Inv w0 Mf (({ g with ro := G } : Gh).setR id av F) { st with roots := aset st.roots id (.live ro') } a w' := by
  have hro : ∀ k, g.ro k → ¬ X k := fun k h1 h2 => (hX k h2).ro h1
  have hm : ∀ c u, ScRel w g st c u → ScRel w' (({ g with ro := G } : Gh).setR id av F) { st with roots := aset st.roots id (.live ro') } c u := fun c u hc =>
    ⟨hc.1, ScR.reroot (g := { g with ro := G }) h ht hver hlog hav ((hc.2.world hs hro).ro hG)⟩
  have ho : ∀ id', OwnAt { st with roots := aset st.roots id (.live ro') } id' → id' ≠ id → OwnAt st id' := fun id' ⟨r', h1, h2⟩ hid =>
    ⟨r', by simpa [aget_aset, hid] using h1, h2⟩
  exact {
    slots := fun s sv h => let ⟨u, hu, hr⟩ := I.slots s sv h; ⟨u, hu, hr.map hm⟩
    boxes := fun b x h => let ⟨us, el, h1, h2⟩ := I.boxes b x h; ⟨us, el, hs.get h1 (fun hx => (hX _ hx).b b (by simp [BoxAt, h]) rfl), h2.map hm⟩
    roots := fun id' r' h => by
      simp only [aget_aset] at h
      by_cases hid : id' = id
      · subst hid; simp only [if_true, Option.some.injEq, Rt.live.injEq] at h; subst h; exact hr
      · simp only [hid, if_false] at h
        have := I.roots id' r' h
        have hoff : r'.md.isFrz = false → ∀ k, g.rf id' k → ¬ X k := fun hm k h1 h2 => (hX k h2).r id' ⟨r', h, hm⟩ hid h1
        unfold RootRel at this ⊢
        simp only [Gh.setR, hid, if_false]
        split at this
        · rename_i hmd; exact this.same hs (hoff (by rw [hmd]; rfl))
        · rename_i hmd
          have := this.same hs (hoff (by rw [hmd]; rfl)) hro
          exact ⟨this.1, fun p s hp hs => (this.2 p s hp hs).mono hG⟩
        · exact (this.same hs hro).mono hG
        · rename_i hmd; exact this.same hs (hoff (by rw [hmd]; rfl))
    apart := {
      rr := fun i i' k h1 h2 h3 h4 => by
        by_cases hi : i = id <;> by_cases hi' : i' = id
        · rw [hi, hi']
        · simp only [Gh.setR, hi, hi', if_true, if_false] at h3 h4
          exact ((hF k h3).1 i' (ho _ h2 hi') hi' h4).elim
        · simp only [Gh.setR, hi, hi', if_true, if_false] at h3 h4
          exact ((hF k h4).1 i (ho _ h1 hi) hi h3).elim
        · simp only [Gh.setR, hi, hi', if_false] at h3 h4
          exact I.apart.rr i i' k (ho _ h1 hi) (ho _ h2 hi') h3 h4
      rb := fun i b h1 h2 h3 => by
        by_cases hi : i = id
        · simp only [Gh.setR, hi, if_true] at h3
          exact (hF _ h3).2.2.1 b h2 rfl
        · simp only [Gh.setR, hi, if_false] at h3
          exact I.apart.rb i b (ho _ h1 hi) h2 h3
      bb := I.apart.bb
      ro_r := fun i k h1 h3 => by
        by_cases hi : i = id
        · simp only [Gh.setR, hi, if_true] at h3; exact (hF _ h3).2.1
        · simp only [Gh.setR, hi, if_false] at h3; exact hGr i k (ho _ h1 hi) hi h3
      ro_b := hGb
      mine_r := fun i k h1 h3 => by
        by_cases hi : i = id
        · simp only [Gh.setR, hi, if_true] at h3; exact (hF _ h3).2.2.2.1
        · simp only [Gh.setR, hi, if_false] at h3; exact I.apart.mine_r i k (ho _ h1 hi) h3
      mine_b := I.apart.mine_b
      lt_r := fun i k h1 h3 => by
        by_cases hi : i = id
        · simp only [Gh.setR, hi, if_true] at h3; exact (hF _ h3).2.2.2.2
        · simp only [Gh.setR, hi, if_false] at h3; exact Nat.lt_of_lt_of_le (I.apart.lt_r i k (ho _ h1 hi) h3) hs.1
      lt_ro := hGlt
      mine_ro := hGm }
    kept := hk
    defers := I.defers
    size := I.size
    base := ⟨I.base.wl, I.base.ap, fun k h => hG k (I.base.ro k h)⟩ }

/-- A root lent to a call: what handles to it say stays. -/
theorem Inv.lend (I : Inv w0 Mf g st a w) {id : Nat} {ro : Root} (h : aget st.roots id = some (.live ro)) : Inv w0 Mf g { st with roots := aset st.roots id (.lent ro) } a w := by
  have hv : ∀ id' ver iv, verOk st id' ver iv → verOk { st with roots := aset st.roots id (.lent ro) } id' ver iv := by
    intro id' ver iv hv
    by_cases hid : id' = id
    · subst hid
      rw [verOk_at (.inr (aget_aset_self _ _ _))]
      exact (verOk_at (.inl h)).1 hv
    · unfold verOk at hv ⊢
      simp only [aget_aset_ne _ _ hid]; exact hv
  have hx : ∀ id' ver iv p r', Vx { st with roots := aset st.roots id (.lent ro) } id' ver iv p r' → Vx st id' ver iv p r' := by
    intro id' ver iv p r' ⟨h1, h2, h3⟩
    simp only [aget_aset] at h1
    by_cases hid : id' = id
    · subst hid
      simp only [if_true, Option.some.injEq, reduceCtorEq, Rt.lent.injEq, false_or] at h1
      subst h1; exact ⟨.inl h, h2, h3⟩
    · simp only [hid, if_false] at h1; exact ⟨h1, h2, h3⟩
  have hm : ∀ c u, ScRel w g st c u → ScRel w g { st with roots := aset st.roots id (.lent ro) } c u := fun c u hc =>
    ⟨hc.1, ScR.roots (st := st) (fun b hb => hb) hv (fun _ _ _ _ _ _ h => hx _ _ _ _ _ h) hc.2⟩
  have ho : ∀ id', OwnAt { st with roots := aset st.roots id (.lent ro) } id' → OwnAt st id' := fun id' ⟨r', h1, h2⟩ => by
    simp only [aget_aset] at h1
    by_cases hid : id' = id
    · simp [hid] at h1
    · exact ⟨r', by simpa [hid] using h1, h2⟩
  exact {
    slots := fun s sv hs => let ⟨u, hu, hr⟩ := I.slots s sv hs; ⟨u, hu, hr.map hm⟩
    boxes := fun b x hb => let ⟨us, el, h1, h2⟩ := I.boxes b x hb; ⟨us, el, h1, h2.map hm⟩
    roots := fun id' r' hr => I.roots id' r' (by
      simp only [aget_aset] at hr
      by_cases hid : id' = id
      · simp [hid] at hr
      · simpa [hid] using hr)
    apart := {
      rr := fun i i' k h1 h2 => I.apart.rr i i' k (ho _ h1) (ho _ h2)
      rb := fun i b h1 h2 => I.apart.rb i b (ho _ h1) h2
      bb := I.apart.bb
      ro_r := fun i k h1 => I.apart.ro_r i k (ho _ h1)
      ro_b := I.apart.ro_b
      mine_r := fun i k h1 => I.apart.mine_r i k (ho _ h1)
      mine_b := I.apart.mine_b
      lt_r := fun i k h1 => I.apart.lt_r i k (ho _ h1)
      lt_ro := I.apart.lt_ro
      mine_ro := I.apart.mine_ro }
    kept := I.kept
    defers := I.defers
    size := I.size
    base := ⟨I.base.wl, I.base.ap, I.base.ro⟩ }

end Go.Gm

/- An own list with another list at a way. -/
namespace Go.Gm
open Go

variable {w : World}

theorem setSub_type : ∀ {p : Path} {t : Ty} {xs zs : List (El t)} {s s' : Sl}, subR t xs p = some s → setSub t xs p s' = some zs → s'.t = s.t
  | [], t, xs, zs, s, s', h, hz => by
    simp only [setSub] at hz
    have := dec_enc hz
    simp only [enc, List.cons.injEq, and_true] at this
    simp only [subR, Option.some.injEq] at h
    cases s' with | mk t' xs' => cases this; subst h; rfl
  | (i, j) :: p, t, xs, zs, s, s', h, hz => by
    simp only [subR] at h
    split at h
    case h_2 => cases h
    rename_i x hx
    split at h
    case h_2 => cases h
    rename_i t1 ys hc
    simp only [setSub, atI_of hx, hc, Option.bind_eq_some_iff, Option.some.injEq] at hz
    obtain ⟨z1, hz1, y, hy, rfl⟩ := hz
    exact setSub_type h hz1

/-- Not under the way, the lists keep their lengths. -/
theorem subR_keep : ∀ {p : Path} {t : Ty} {xs zs : List (El t)} {s s' : Sl}, subR t xs p = some s → setSub t xs p s' = some zs → s'.xs.length = s.xs.length →
    ∀ q sq, (p <+: q → q = p) → subR t xs q = some sq → ∃ sq', subR t zs q = some sq' ∧ sq'.t = sq.t ∧ sq'.xs.length = sq.xs.length
  | [], t, xs, zs, s, s', h, hz, hl, q, sq, hq, hsq => by
    have e := hq (List.nil_prefix)
    subst e
    have ht := setSub_type h hz
    simp only [setSub] at hz
    have := dec_enc hz
    simp only [enc, List.cons.injEq, and_true] at this
    simp only [subR, Option.some.injEq] at h hsq
    subst h; subst hsq
    cases s' with | mk t' xs' => cases this; exact ⟨_, rfl, rfl, hl⟩
  | (i, j) :: p, t, xs, zs, s, s', h, hz, hl, q, sq, hq, hsq => by
    simp only [subR] at h
    split at h
    case h_2 => cases h
    rename_i x hx
    split at h
    case h_2 => cases h
    rename_i t1 ys hc
    simp only [setSub, atI_of hx, hc, Option.bind_eq_some_iff, Option.some.injEq] at hz
    obtain ⟨z1, hz1, y, hy, rfl⟩ := hz
    have hey := dec_enc hy
    have hlt := el_lt hx
    have hj : j < (enc t x).length := by rw [enc_length]; exact enc_lt hc
    cases q with
    | nil =>
      simp only [subR, Option.some.injEq] at hsq
      subst hsq
      exact ⟨⟨t, xs.set i y⟩, rfl, rfl, by simp⟩
    | cons ij q =>
      obtain ⟨i', j'⟩ := ij
      simp only [subR] at hsq ⊢
      by_cases hii : i = i'
      · subst hii
        simp only [List.getElem?_set_self hlt, ← hey]
        rw [hx] at hsq
        simp only at hsq
        by_cases hjj : j = j'
        · subst hjj
          simp only [hc, List.getElem?_set_self hj] at hsq ⊢
          exact subR_keep h hz1 hl q sq (fun hp => by simpa using hq (by simpa using hp)) hsq
        · rw [List.getElem?_set_ne hjj]
          exact ⟨sq, hsq, rfl, rfl⟩
      · simp only [List.getElem?_set_ne hii]
        exact ⟨sq, hsq, rfl, rfl⟩

/-- Where a node lies that is not under the way. -/
def Beside (t : Ty) (xs : List (El t)) (av : Path → Value) (p : Path) (k : Nat) : Prop := ∃ q s, ¬ p <+: q ∧ subR t xs q = some s ∧ blk (av q) = some k

theorem TreeOwn.graft {F : Nat → Prop} {t : Ty} {xs zs : List (El t)} {av : Path → Value} (h : TreeOwn w F t xs av) {p : Path} {s s' : Sl} (hs : subR t xs p = some s) (hz : setSub t xs p s' = some zs)
    {w' : World} {X : Nat → Prop} (hsame : SameBut X w w') (hX : ∀ k, X k → ¬ Beside t xs av p k) {B : Nat → Prop} {av2 : Path → Value} (hnew : TreeOwn w' B s'.t s'.xs av2) (h0 : av2 [] = av p) (hB : ∀ k, B k → ¬ Beside t xs av p k) :
    ∃ av' : Path → Value, (∀ q, (p <+: q → q = p) → av' q = av q) ∧ (∀ q, av' (p ++ q) = av2 q) ∧ TreeOwn w' (fun k => B k ∨ Beside t xs av p k) t zs av' := by
  let av' : Path → Value := fun q => if p <+: q then av2 (q.drop p.length) else av q
  have hu : ∀ q, av' (p ++ q) = av2 q := fun q => by simp [av']
  have ho : ∀ q, ¬ p <+: q → av' q = av q := fun q hq => by simp [av', hq]
  have hk : ∀ q, (p <+: q → q = p) → av' q = av q := fun q hq => by
    by_cases hp : p <+: q
    · have := hq hp; subst this
      have := hu []; rw [List.append_nil] at this; rw [this, h0]
    · exact ho q hp
  refine ⟨av', hk, hu, ?_, ?_⟩
  · intro q s2' hs2
    rcases subR_set hs hz q s2' hs2 with ⟨q', rfl, hs3⟩ | ⟨hn, s2, hs3, hsim⟩
    · rw [hu]
      have := (hnew.1 q' s2' hs3).mono (Q := fun k => B k ∨ Beside t xs av p k) fun k => .inl
      refine this.kid fun i y j t' ys _ _ => ?_
      rw [List.append_assoc, hu]
    · rw [ho q hn]
      have h1 := (h.1 q s2 hs3).toF (G := fun k => B k ∨ Beside t xs av p k) fun k hk => .inr ⟨q, s2, hn, hs3, hk⟩
      have h2 := h1.here hsame fun k hk hx => hX k hx ⟨q, s2, hn, hs3, hk⟩
      refine (hsim.own h2).kid fun i y j t' ys _ _ => ?_
      refine hk _ fun hp => ?_
      rw [List.prefix_concat_iff] at hp
      exact hp.elim (fun h => h.symm) (fun h => (hn h).elim)
  · intro q1 q2 s1 s2 b h1 h2 h3 h4
    rcases subR_set hs hz q1 s1 h1 with ⟨q1', rfl, hs1⟩ | ⟨hn1, s1', hs1, _⟩ <;> rcases subR_set hs hz q2 s2 h2 with ⟨q2', rfl, hs2⟩ | ⟨hn2, s2', hs2, _⟩
    · rw [hu] at h3 h4
      rw [hnew.2 _ _ _ _ b hs1 hs2 h3 h4]
    · rw [hu] at h3; rw [ho _ hn2] at h4
      exact (hB b ((hnew.1 _ _ hs1).blkF h3) ⟨_, _, hn2, hs2, h4⟩).elim
    · rw [hu] at h4; rw [ho _ hn1] at h3
      exact (hB b ((hnew.1 _ _ hs2).blkF h4) ⟨_, _, hn1, hs1, h3⟩).elim
    · rw [ho _ hn1] at h3; rw [ho _ hn2] at h4
      exact h.2 _ _ _ _ b hs1 hs2 h3 h4

theorem TreeOwn.under_beside {F : Nat → Prop} {t : Ty} {xs : List (El t)} {av : Path → Value} (h : TreeOwn w F t xs av) {p : Path} {k : Nat} (hu : Under t xs av p k) : ¬ Beside t xs av p k := by
  rintro ⟨q, s, hn, hs, hb⟩
  obtain ⟨q', s', hs', hb'⟩ := hu
  have := h.2 _ _ _ _ k hs hs' hb hb'
  subst this
  exact hn (List.prefix_append _ _)
theorem TreeOwn.beside_F {F : Nat → Prop} {t : Ty} {xs : List (El t)} {av : Path → Value} (h : TreeOwn w F t xs av) {p : Path} {k : Nat} (hu : Beside t xs av p k) : F k := by
  obtain ⟨q, s, hn, hs, hb⟩ := hu
  exact (h.1 q s hs).blkF hb
theorem TreeOwn.under_F {F : Nat → Prop} {t : Ty} {xs : List (El t)} {av : Path → Value} (h : TreeOwn w F t xs av) {p : Path} {k : Nat} (hu : Under t xs av p k) : F k := by
  obtain ⟨q, s, hs, hb⟩ := hu
  exact (h.1 _ s hs).blkF hb

/-- An element that is changed in its scalars alone: the lists below are what they were. -/
theorem subR_scal {t : Ty} {xs : List (El t)} {i : Nat} {x y : El t} (hx : xs[i]? = some x) (hy : ∀ (j : Nat) t' (ys : List (El t')), (enc t y)[j]? = some (.l t' ys) ↔ (enc t x)[j]? = some (.l t' ys)) :
    ∀ q, q ≠ [] → subR t (xs.set i y) q = subR t xs q := by
  intro q hq
  cases q with
  | nil => exact (hq rfl).elim
  | cons ij q =>
    obtain ⟨i', j⟩ := ij
    have hlt := el_lt hx
    simp only [subR]
    by_cases hii : i = i'
    · subst hii
      simp only [List.getElem?_set_self hlt, hx]
      cases hc : (enc t x)[j]? with
      | none =>
        cases hc' : (enc t y)[j]? with
        | none => rfl
        | some c =>
          cases c with
          | v z => rfl
          | l t' ys => rw [(hy j t' ys).1 hc'] at hc; cases hc
      | some c =>
        cases c with
        | v z =>
          cases hc' : (enc t y)[j]? with
          | none => rfl
          | some c' =>
            cases c' with
            | v z' => rfl
            | l t' ys => rw [(hy j t' ys).1 hc'] at hc; cases hc
        | l t' ys => rw [(hy j t' ys).2 hc]
    · simp only [List.getElem?_set_ne hii]

end Go.Gm

/- Stores into own lists: the pieces. -/
namespace Go.Gm
open Go

variable {R : Type} {P : Program} {E : Env} {w0 w : World} {Mf : Nat → Prop} {g : Gh} {st : St} {a : Act} {Q : Exit → Act → World → Prop}
  {o : Oper} {k : Dl → Option R} {r : R} {K : Act → World → Prop}

theorem row_putAt {us vs : Array Value} {at_ : Nat} (h : at_ + vs.size ≤ us.size) : (us.toList.take at_ ++ vs.toList ++ us.toList.drop (at_ + vs.toList.length)).toArray = putAt us at_ vs := by
  apply Array.ext
  · rw [putAt_size h]; simp; omega
  · intro n h1 h2
    apply Option.some.inj
    rw [← Array.getElem?_eq_getElem, ← Array.getElem?_eq_getElem, putAt_get h]
    simp only [List.getElem?_toArray]
    by_cases hn1 : n < at_
    · rw [if_neg (by omega), List.append_assoc, List.getElem?_append_left (by simp; omega), List.getElem?_take, if_pos hn1]; simp
    · by_cases hn2 : n < at_ + vs.size
      · rw [if_pos (by omega), List.getElem?_append_left (by simp; omega), List.getElem?_append_right (by simp; omega)]
        have : min at_ us.size = at_ := by omega
        simp [this]
      · rw [if_neg (by omega), List.getElem?_append_right (by simp; omega)]
        have : min at_ us.size = at_ := by omega
        simp only [List.length_append, List.length_take, Array.length_toList, this, List.getElem?_drop]
        rw [show at_ + vs.size + (n - (at_ + vs.size)) = n by omega]
        simp

theorem setRange_get {α : Type} {l ys : List α} {off : Nat} (h : off + ys.length ≤ l.length) (n : Nat) : (setRange l off ys)[n]? = if off ≤ n ∧ n < off + ys.length then ys[n - off]? else l[n]? := by
  simp only [setRange]
  by_cases hn1 : n < off
  · rw [if_neg (by omega), List.append_assoc, List.getElem?_append_left (by simp; omega), List.getElem?_take, if_pos hn1]
  · by_cases hn2 : n < off + ys.length
    · rw [if_pos (by omega), List.getElem?_append_left (by simp; omega), List.getElem?_append_right (by simp; omega)]
      have : min off l.length = off := by omega
      simp [this]
    · rw [if_neg (by omega), List.getElem?_append_right (by simp; omega)]
      have : min off l.length = off := by omega
      simp only [List.length_append, List.length_take, this, List.getElem?_drop]
      rw [show off + ys.length + (n - (off + ys.length)) = n by omega]

/-- Some cells of an element laid into a row. -/
theorem Pieces.poke {ro gr : Nat → Prop} {dd d : Bool} {e : Ty} {xs : List (El e)} {us : Array Value} {oo : Nat} {G : Nat → Nat → Nat → Prop} {Gs : List (Nat → Prop)} (hp : Pieces w ro dd e xs us oo G)
    {i : Nat} {x y : El e} (hx : xs[i]? = some x) {cv : List Cv} {vs : Array Value} {off : Nat} (hA : AbsL w gr cv vs.toList Gs d) (hy : enc e y = setRange (enc e x) off cv) (hle : off + cv.length ≤ esz e) (hro : ∀ k, gr k → ro k)
    (hpair : PairApart Gs) (hdis : ∀ i j k, G i j k → Any Gs k → False) (hsz : oo + xs.length * esz e ≤ us.size) :
    ∃ G', Pieces w (fun k => ro k ∨ Any Gs k) (dd && d) e (xs.set i y) (putAt us (oo + i * esz e + off) vs) oo G' ∧ ∀ i j k, G' i j k → Any Gs k ∨ G i j k := by
  have hi := el_lt hx
  have hlen : vs.size = cv.length := by have := hA.len.1; simpa using this
  have hmul : i * esz e + esz e ≤ xs.length * esz e := by
    have : (i + 1) * esz e ≤ xs.length * esz e := Nat.mul_le_mul_right _ hi
    rw [Nat.add_mul] at this; omega
  have hget := fun m => putAt_get (cells := us) (off := oo + i * esz e + off) (vs := vs) (by omega) m
  have hrow := hA.rd
  let In : Nat → Nat → Prop := fun i' j => i' = i ∧ off ≤ j ∧ j < off + cv.length
  let G' : Nat → Nat → Nat → Prop := fun i' j k => (In i' j ∧ ∃ F, Gs[j - off]? = some F ∧ F k) ∨ (¬ In i' j ∧ G i' j k)
  have hG' : ∀ i j k, G' i j k → Any Gs k ∨ G i j k := by
    rintro i' j k (⟨_, F, h1, h2⟩ | ⟨_, h⟩)
    · exact .inl ⟨F, List.mem_of_getElem? h1, h2⟩
    · exact .inr h
  -- a cell that stays
  have stays : ∀ i' x' j c, xs[i']? = some x' → (enc e x')[j]? = some c → ¬ In i' j → ∃ u, (putAt us (oo + i * esz e + off) vs)[oo + i' * esz e + j]? = some u ∧ CRd w (fun k => G' i' j k ∨ ro k ∨ Any Gs k) c u ∧ ((dd && d) = true → COwn w (G' i' j) c u) := by
    intro i' x' j c hx' hc hn
    have hj := enc_lt hc
    obtain ⟨z, hz, hr, ho⟩ := hp.rows i' x' j c hx' hc
    refine ⟨z, ?_, hr.mono fun k hk => ?_, fun hd => ?_⟩
    · rw [hget, if_neg ?_]
      · exact hz
      · intro ⟨h1, h2⟩
        rw [hlen] at h2
        rcases Nat.lt_trichotomy i' i with hlt | heq | hlt
        · have : (i' + 1) * esz e ≤ i * esz e := Nat.mul_le_mul_right _ hlt
          rw [Nat.add_mul] at this; omega
        · subst heq; exact hn ⟨rfl, by omega, by omega⟩
        · have : (i + 1) * esz e ≤ i' * esz e := Nat.mul_le_mul_right _ hlt
          rw [Nat.add_mul] at this; omega
    · rcases hk with hk | hk
      · exact .inl (.inr ⟨hn, hk⟩)
      · exact .inr (.inl hk)
    · simp only [Bool.and_eq_true] at hd
      exact (ho hd.1).mono fun k hk => .inr ⟨hn, hk⟩
  refine ⟨G', ⟨fun i' x' j c hx' hc => ?_, ?_⟩, hG'⟩
  · by_cases hii : i' = i
    · subst hii
      rw [List.getElem?_set_self hi] at hx'
      cases hx'
      rw [hy, setRange_get (by rw [enc_length]; exact hle)] at hc
      by_cases hin : off ≤ j ∧ j < off + cv.length
      · rw [if_pos hin] at hc
        obtain ⟨z, hz, hr⟩ := hrow.get (j - off) c hc
        refine ⟨z, ?_, hr.mono fun k hk => ?_, fun hd => ?_⟩
        · rw [hget, if_pos (by omega), show oo + i' * esz e + j - (oo + i' * esz e + off) = j - off by omega]
          simpa using hz
        · rcases hk with hk | hk
          · exact .inr (.inr hk)
          · exact .inr (.inl (hro k hk))
        · simp only [Bool.and_eq_true] at hd
          obtain ⟨z', F, h1, h2, h3⟩ := hA.own hd.2 (j - off) c hc
          rw [hz] at h1; cases h1
          exact h3.mono fun k hk => .inl ⟨⟨rfl, hin.1, hin.2⟩, F, h2, hk⟩
      · rw [if_neg hin] at hc
        exact stays i' x j c hx hc fun h => hin h.2
    · rw [List.getElem?_set_ne (Ne.symm hii)] at hx'
      exact stays i' x' j c hx' hc fun h => hii h.1
  · rintro i1 j1 i2 j2 k (⟨⟨rfl, ha, hb⟩, F, h1, h2⟩ | ⟨hn, h⟩) (⟨⟨rfl, ha', hb'⟩, F', h1', h2'⟩ | ⟨hn', h'⟩)
    · refine ⟨rfl, ?_⟩
      have hgp := List.pairwise_iff_getElem.1 hpair
      obtain ⟨hj, rfl⟩ := List.getElem?_eq_some_iff.1 h1
      obtain ⟨hj', rfl⟩ := List.getElem?_eq_some_iff.1 h1'
      rcases Nat.lt_trichotomy (j1 - off) (j2 - off) with hlt | heq | hlt
      · exact (hgp _ _ hj hj' hlt k h2 h2').elim
      · omega
      · exact (hgp _ _ hj' hj hlt k h2' h2).elim
    · exact (hdis _ _ k h' ⟨F, List.mem_of_getElem? h1, h2⟩).elim
    · exact (hdis _ _ k h ⟨F', List.mem_of_getElem? h1', h2'⟩).elim
    · exact hp.dis _ _ _ _ k h h'

theorem subR_at : ∀ {p : Path} {t : Ty} {xs zs : List (El t)} {s s' : Sl}, subR t xs p = some s → setSub t xs p s' = some zs → subR t zs p = some s'
  | [], t, xs, zs, s, s', h, hz => by
    simp only [setSub] at hz
    have := dec_enc hz
    simp only [enc, List.cons.injEq, and_true] at this
    cases s' with | mk t' xs' => cases this; rfl
  | (i, j) :: p, t, xs, zs, s, s', h, hz => by
    simp only [subR] at h
    split at h
    case h_2 => cases h
    rename_i x hx
    split at h
    case h_2 => cases h
    rename_i t1 ys hc
    simp only [setSub, atI_of hx, hc, Option.bind_eq_some_iff, Option.some.injEq] at hz
    obtain ⟨z1, hz1, y, hy, rfl⟩ := hz
    have hey := dec_enc hy
    have hlt := el_lt hx
    have hj : j < (enc t x).length := by rw [enc_length]; exact enc_lt hc
    simp only [subR, List.getElem?_set_self hlt, ← hey, List.getElem?_set_self hj]
    exact subR_at h hz1

end Go.Gm

/- Stores. -/
namespace Go.Gm
open Go

variable {R : Type} {P : Program} {E : Env} {w0 w : World} {Mf : Nat → Prop} {g : Gh} {st : St} {a : Act} {Q : Exit → Act → World → Prop}
  {o : Oper} {k : Dl → Option R} {r : R} {K : Act → World → Prop}

/-- The node of an own list, where it lies. -/
theorem RootRel.node {id : Nat} {ro : Root} (h : RootRel w g id ro) {p : Path} {s : Sl} (hs : subR ro.t ro.xs p = some s) (hm : ro.md.isDeep = true ∨ (ro.md.isShal = true ∧ p = [])) :
    NodeOwn w (g.rf id) s.t s.xs (g.rv id p) fun i j => g.rv id (p ++ [(i, j)]) := by
  unfold RootRel at h
  split at h
  · exact h.1 p s hs
  · rename_i hmd
    rcases hm with hm | ⟨_, rfl⟩
    · simp [hmd, Md.isDeep] at hm
    · simp only [subR, Option.some.injEq] at hs; subst hs; exact h.1
  · rename_i hmd; simp [hmd, Md.isDeep, Md.isShal] at hm
  · rename_i hmd; simp [hmd, Md.isDeep, Md.isShal] at hm

theorem rows_pieces {t : Ty} {xs : List (El t)} {us : Array Value} {oo : Nat} {kid : Nat → Nat → Value} (h : RowsIn t xs us oo kid) {i : Nat} {x y : El t} (hx : xs[i]? = some x) {cv : List Cv} {vs : Array Value} {off : Nat}
    (hc : ∀ (j : Nat) c, cv[j]? = some c → ∃ z, vs[j]? = some z ∧ c = .v z) (hv : vs.size = cv.length) (hy : enc t y = setRange (enc t x) off cv) (hle : off + cv.length ≤ esz t) (hsz : oo + xs.length * esz t ≤ us.size) :
    RowsIn t (xs.set i y) (putAt us (oo + i * esz t + off) vs) oo kid := by
  have hi := el_lt hx
  have hmul : i * esz t + esz t ≤ xs.length * esz t := by
    have : (i + 1) * esz t ≤ xs.length * esz t := Nat.mul_le_mul_right _ hi
    rw [Nat.add_mul] at this; omega
  have hget := fun m => putAt_get (cells := us) (off := oo + i * esz t + off) (vs := vs) (by omega) m
  have stays : ∀ i' x' j c, xs[i']? = some x' → (enc t x')[j]? = some c → ¬ (i' = i ∧ off ≤ j ∧ j < off + cv.length) → ∃ u, (putAt us (oo + i * esz t + off) vs)[oo + i' * esz t + j]? = some u ∧ CellIs c u (kid i' j) := by
    intro i' x' j c hx' hcc hn
    have hj := enc_lt hcc
    obtain ⟨z, hz, hr⟩ := h i' x' j c hx' hcc
    refine ⟨z, ?_, hr⟩
    rw [hget, if_neg ?_]
    · exact hz
    · intro ⟨h1, h2⟩
      rw [hv] at h2
      rcases Nat.lt_trichotomy i' i with hlt | heq | hlt
      · have : (i' + 1) * esz t ≤ i * esz t := Nat.mul_le_mul_right _ hlt
        rw [Nat.add_mul] at this; omega
      · subst heq; exact hn ⟨rfl, by omega, by omega⟩
      · have : (i + 1) * esz t ≤ i' * esz t := Nat.mul_le_mul_right _ hlt
        rw [Nat.add_mul] at this; omega
  intro i' x' j c hx' hcc
  by_cases hii : i' = i
  · subst hii
    rw [List.getElem?_set_self hi] at hx'
    cases hx'
    rw [hy, setRange_get (by rw [enc_length]; exact hle)] at hcc
    by_cases hin : off ≤ j ∧ j < off + cv.length
    · rw [if_pos hin] at hcc
      obtain ⟨z, hz, rfl⟩ := hc (j - off) c hcc
      refine ⟨z, ?_, rfl⟩
      rw [hget, if_pos (by omega), show oo + i' * esz t + j - (oo + i' * esz t + off) = j - off by omega]
      exact hz
    · rw [if_neg hin] at hcc
      exact stays i' x j c hx hcc fun h => hin h.2
  · rw [List.getElem?_set_ne (Ne.symm hii)] at hx'
    exact stays i' x' j c hx' hcc fun h => hii h.1

theorem scal_iff {t : Ty} {x y : El t} {cv : List Cv} {off : Nat} (hc : ∀ (j : Nat) c, cv[j]? = some c → ∃ z, c = .v z) (hk : ∀ (j : Nat) c, off ≤ j → j < off + cv.length → (enc t x)[j]? = some c → ∃ z, c = .v z)
    (hy : enc t y = setRange (enc t x) off cv) (hle : off + cv.length ≤ esz t) : ∀ (j : Nat) t' (ys : List (El t')), (enc t y)[j]? = some (.l t' ys) ↔ (enc t x)[j]? = some (.l t' ys) := by
  intro j t' ys
  rw [hy, setRange_get (by rw [enc_length]; exact hle)]
  by_cases hin : off ≤ j ∧ j < off + cv.length
  · rw [if_pos hin]
    constructor
    · intro h; obtain ⟨z, hz⟩ := hc _ _ h; cases hz
    · intro h; obtain ⟨z, hz⟩ := hk _ _ hin.1 hin.2 h; cases hz
  · rw [if_neg hin]

/-- An own list, an element's scalars changed. -/
theorem TreeOwn.scal {F : Nat → Prop} {t : Ty} {xs : List (El t)} {av : Path → Value} (h : TreeOwn w F t xs av) {i : Nat} {x y : El t} (hx : xs[i]? = some x) (hy : ∀ (j : Nat) t' (ys : List (El t')), (enc t y)[j]? = some (.l t' ys) ↔ (enc t x)[j]? = some (.l t' ys))
    {w' : World} {b oo cap el : Nat} {us' : Array Value} (hsame : SameBut (fun k => k = b) w w') (hav : av [] = .slice (some ⟨b, oo, none⟩) xs.length cap) (hb : w'.heap[b]? = some (.cells us' el (0, 0))) (hcap : xs.length ≤ cap)
    (hsz : oo + cap * esz t ≤ us'.size) (hr : RowsIn t (xs.set i y) us' oo fun i j => av [(i, j)]) : TreeOwn w' F t (xs.set i y) av := by
  have hsub := subR_scal hx hy
  have hbF : F b := (h.1 [] _ rfl).blkF (by rw [hav]; rfl)
  refine ⟨fun p s hs => ?_, fun p q s s' k h1 h2 h3 h4 => ?_⟩
  · by_cases hp : p = []
    · subst hp
      simp only [subR, Option.some.injEq] at hs
      subst hs
      exact .inr ⟨b, oo, cap, us', el, by simpa using hav, hbF, hb, by simpa using hcap, hsz, hr⟩
    · rw [hsub p hp] at hs
      refine (h.1 p s hs).here hsame fun k hk e => ?_
      subst e
      exact hp (h.2 p [] s ⟨t, xs⟩ k hs rfl hk (by rw [hav]; rfl))
  · have fix : ∀ p s, subR t (xs.set i y) p = some s → ∃ s0, subR t xs p = some s0 := fun p s hs => by
      by_cases hp : p = []
      · subst hp; exact ⟨_, rfl⟩
      · rw [hsub p hp] at hs; exact ⟨s, hs⟩
    obtain ⟨s1, hs1⟩ := fix p s h1
    obtain ⟨s2, hs2⟩ := fix q s' h2
    exact h.2 _ _ _ _ k hs1 hs2 h3 h4

theorem Inv.alone (I : Inv w0 Mf g st a w) {id : Nat} (h : OwnAt st id) {k : Nat} (hk : g.rf id k) : Alone g st id k :=
  ⟨fun id' h1 h2 h3 => h2 (I.apart.rr id' id k h1 h h3 hk), I.apart.ro_r id k h hk, fun b hb e => I.apart.rb id b h hb (e ▸ hk)⟩

theorem setSub_nil {t : Ty} {xs zs ys : List (El t)} (h : setSub t xs [] ⟨t, ys⟩ = some zs) : zs = ys := by
  simp only [setSub] at h
  have := dec_enc h
  simp only [enc, List.cons.injEq, and_true, Cv.l.injEq, heq_eq_eq, true_and] at this
  exact this.symm

theorem Inv.storeScal (I : Inv w0 Mf g st a w) {id : Nat} {ro : Root} (hlive : aget st.roots id = some (.live ro)) {p : Path} {s : Sl} (hs : subR ro.t ro.xs p = some s) (hm : ro.md.isDeep = true ∨ (ro.md.isShal = true ∧ p = []))
    {i : Nat} {x y : El s.t} (hx : s.xs[i]? = some x) {cv : List Cv} {vs : Array Value} {off : Nat} (hcv : ∀ (j : Nat) c, cv[j]? = some c → ∃ z, vs[j]? = some z ∧ c = .v z) (hv : vs.size = cv.length)
    (hk : ∀ (j : Nat) c, off ≤ j → j < off + cv.length → (enc s.t x)[j]? = some c → ∃ z, c = .v z) (hy : enc s.t y = setRange (enc s.t x) off cv) (hle : off + cv.length ≤ esz s.t)
    {zs : List (El ro.t)} (hz : setSub ro.t ro.xs p ⟨s.t, s.xs.set i y⟩ = some zs) {b oo n cap : Nat} (hav : g.rv id p = .slice (some ⟨b, oo, none⟩) n cap) :
    ∃ us el, w.heap[b]? = some (.cells us el (0, 0)) ∧ oo + i * esz s.t + esz s.t ≤ us.size ∧ ∃ g' : Gh, g'.n = g.n ∧
      Inv w0 Mf g' { st with roots := aset st.roots id (.live ⟨ro.t, ro.md, ro.ver, ro.log, zs⟩) } a (w.setRow b (putAt us (oo + i * esz s.t + off) vs)) := by
  have hi := el_lt hx
  have hfz : ro.md.isFrz = false := by
    rcases hm with hm | hm
    · cases h : ro.md <;> simp_all [Md.isDeep, Md.isFrz]
    · cases h : ro.md <;> simp_all [Md.isShal, Md.isFrz]
  have hat : OwnAt st id := ⟨ro, hlive, hfz⟩
  have hr := I.roots id ro hlive
  have hnode := hr.node hs hm
  rcases hnode with ⟨h0, _⟩ | ⟨b', oo', cap', us, el, e1, hF, hb, hcap, hsize, hrows⟩
  · rw [h0] at hi; simp at hi
  rw [hav] at e1
  simp only [Value.slice.injEq, Option.some.injEq, Addr.mk.injEq, and_true] at e1
  obtain ⟨⟨rfl, rfl⟩, rfl, rfl⟩ := e1
  have hmul : i * esz s.t + esz s.t ≤ s.xs.length * esz s.t := by
    have : (i + 1) * esz s.t ≤ s.xs.length * esz s.t := Nat.mul_le_mul_right _ hi
    rw [Nat.add_mul] at this; omega
  have hmul2 : s.xs.length * esz s.t ≤ cap * esz s.t := Nat.mul_le_mul_right _ hcap
  refine ⟨us, el, hb, by omega, ?_⟩
  have hsame := setRow_same w b (putAt us (oo + i * esz s.t + off) vs)
  have hb' := setRow_heap w b us (putAt us (oo + i * esz s.t + off) vs) el (0, 0) hb
  have hrows' := rows_pieces hrows hx hcv hv hy hle (by omega)
  have hiff := scal_iff (fun j c h => let ⟨z, _, e⟩ := hcv j c h; ⟨z, e⟩) hk hy hle
  have hsz' : oo + cap * esz s.t ≤ (putAt us (oo + i * esz s.t + off) vs).size := by rw [putAt_size (by omega)]; exact hsize
  have hkept : Kept w0 (w.setRow b (putAt us (oo + i * esz s.t + off) vs)) Mf := I.kept.step rfl rfl rfl hsame (fun k e => by subst e; exact I.apart.mine_r id _ hat hF)
  have hroot : RootRel (w.setRow b (putAt us (oo + i * esz s.t + off) vs)) (({ g with ro := g.ro } : Gh).setR id (g.rv id) (g.rf id)) id ⟨ro.t, ro.md, ro.ver, ro.log, zs⟩ := by
    unfold RootRel at hr ⊢
    simp only [Gh.setR, if_true]
    split at hr
    · rename_i hmd
      try simp only [hmd]
      have htr := (hr.at hs).scal hx hiff hsame (b := b) (oo := oo) (cap := cap) (el := el) (us' := putAt us (oo + i * esz s.t + off) vs) (by simpa using hav) hb' hcap hsz' hrows'
      have hund : Under ro.t ro.xs (g.rv id) p b := ⟨[], s, by rw [List.append_nil]; exact hs, by rw [List.append_nil, hav]; rfl⟩
      obtain ⟨av', h1, h2, h3⟩ := hr.graft hs hz hsame (fun k e => by subst e; exact hr.under_beside hund) htr (by simp) (fun k hk => hr.under_beside hk)
      have : av' = g.rv id := by
        funext q
        by_cases hp : p <+: q
        · obtain ⟨q', rfl⟩ := hp; exact h2 q'
        · exact h1 q fun h => (hp h).elim
      subst this
      exact h3.mono fun k hk => hk.elim hr.under_F hr.beside_F
    · rename_i hmd
      have hp : p = [] := by rcases hm with hm | hm; simp [hmd, Md.isDeep] at hm; exact hm.2
      subst hp
      simp only [subR, Option.some.injEq] at hs
      subst hs
      have := setSub_nil hz
      subst this
      try simp only [hmd]
      refine ⟨.inr ⟨b, oo, cap, _, el, by simpa using hav, hF, hb', by simpa using hcap, hsz', hrows'⟩, fun q s' hq hs' => ?_⟩
      rw [subR_scal hx hiff q hq] at hs'
      exact (hr.2 q s' hq hs').same hsame fun k hk e => I.apart.ro_r id k hat (e ▸ hF) hk
    · rename_i hmd; simp [hmd, Md.isFrz] at hfz
    · rename_i hmd; simp [hmd, Md.isDeep, Md.isShal] at hm
  refine ⟨_, by rfl, I.reroot (ro' := ⟨ro.t, ro.md, ro.ver, ro.log, zs⟩) (.inl hlive) hsame hkept (fun k e => by subst e; exact I.alone hat hF) (fun _ h => h) (fun id' k h1 _ h3 => I.apart.ro_r id' k h1 h3)
    I.apart.ro_b (fun k h => Nat.lt_of_lt_of_le (I.apart.lt_ro k h) hsame.1) I.apart.mine_ro rfl rfl (l := []) (by simp) (fun q _ => ⟨rfl, fun sq hsq => ?_⟩) hroot
    (fun k hk => ⟨(I.alone hat hk).r, (I.alone hat hk).ro, (I.alone hat hk).b, I.apart.mine_r id k hat hk, Nat.lt_of_lt_of_le (I.apart.lt_r id k hat hk) hsame.1⟩)⟩
  by_cases hq : p <+: q → q = p
  · exact subR_keep hs hz (by simp) q sq hq hsq
  · have hp : p <+: q := by
      by_cases h : p <+: q
      · exact h
      · exact (hq fun h' => (h h').elim).elim
    obtain ⟨q', rfl⟩ := hp
    have hq' : q' ≠ [] := fun e => hq fun _ => by rw [e, List.append_nil]
    rw [subR_append q' hs] at hsq
    refine ⟨sq, ?_, rfl, rfl⟩
    simp only
    rw [subR_append q' (subR_at hs hz), subR_scal hx hiff q' hq']
    exact hsq

end Go.Gm

/- Stores into own lists, of what owns lists itself. -/
namespace Go.Gm
open Go

variable {R : Type} {P : Program} {E : Env} {w0 w : World} {Mf : Nat → Prop} {g : Gh} {st0 st : St} {a : Act} {Q : Exit → Act → World → Prop}
  {o : Oper} {k : Dl → Option R} {r : R} {K : Act → World → Prop}

/-- All of it owned. -/
theorem Inv.storeDeep (I0 : Inv w0 Mf g st0 a w) (I : Inv w0 Mf g st a w) {ups : List (Nat × Rt)} {Gs : List (Nat → Prop)} (T : Took w g st0 st ups Gs) {id : Nat} {ro : Root} (hlive : aget st.roots id = some (.live ro))
    {p : Path} {s : Sl} (hs : subR ro.t ro.xs p = some s) (hm : ro.md = .deep)
    {i : Nat} {x y : El s.t} (hx : s.xs[i]? = some x) {cv : List Cv} {vs : Array Value} {off : Nat} (hA : AbsL w g.ro cv vs.toList Gs true) (hy : enc s.t y = setRange (enc s.t x) off cv) (hle : off + cv.length ≤ esz s.t)
    {zs : List (El ro.t)} (hz : setSub ro.t ro.xs p ⟨s.t, s.xs.set i y⟩ = some zs) {b oo n cap : Nat} (hav : g.rv id p = .slice (some ⟨b, oo, none⟩) n cap) :
    ∃ us el, w.heap[b]? = some (.cells us el (0, 0)) ∧ oo + i * esz s.t + esz s.t ≤ us.size ∧ ∃ g' : Gh, g'.n = g.n ∧
      Inv w0 Mf g' { st with roots := aset st.roots id (.live ⟨ro.t, .deep, ro.ver, ro.log ++ [p.length], zs⟩) } a (w.setRow b (putAt us (oo + i * esz s.t + off) vs)) := by
  have hi := el_lt hx
  have hat : OwnAt st id := ⟨ro, hlive, by rw [hm]; rfl⟩
  have hr := I.roots id ro hlive
  have hnode := hr.node hs (.inl (by rw [hm]; rfl))
  have hv : vs.size = cv.length := by have := hA.len.1; simpa using this
  rcases hnode with ⟨h0, _⟩ | ⟨b', oo', cap', us, el, e1, hF, hb, hcap, hsize, hrows⟩
  · rw [h0] at hi; simp at hi
  rw [hav] at e1
  simp only [Value.slice.injEq, Option.some.injEq, Addr.mk.injEq, and_true] at e1
  obtain ⟨⟨rfl, rfl⟩, rfl, rfl⟩ := e1
  have hmul : i * esz s.t + esz s.t ≤ s.xs.length * esz s.t := by
    have : (i + 1) * esz s.t ≤ s.xs.length * esz s.t := Nat.mul_le_mul_right _ hi
    rw [Nat.add_mul] at this; omega
  have hmul2 : s.xs.length * esz s.t ≤ cap * esz s.t := Nat.mul_le_mul_right _ hcap
  refine ⟨us, el, hb, by omega, ?_⟩
  have hsame := setRow_same w b (putAt us (oo + i * esz s.t + off) vs)
  have hb' := setRow_heap w b us (putAt us (oo + i * esz s.t + off) vs) el (0, 0) hb
  have hsz' : oo + cap * esz s.t ≤ (putAt us (oo + i * esz s.t + off) vs).size := by rw [putAt_size (by omega)]; exact hsize
  have hkept : Kept w0 (w.setRow b (putAt us (oo + i * esz s.t + off) vs)) Mf := I.kept.step rfl rfl rfl hsame (fun k e => by subst e; exact I.apart.mine_r id _ hat hF)
  have htr : TreeOwn w (g.rf id) ro.t ro.xs (g.rv id) := by unfold RootRel at hr; rw [hm] at hr; exact hr
  have hsub := htr.at hs
  have hfree : ∀ k, Any Gs k → Free w0 Mf g st k ∧ k < w.heap.size := fun k ⟨F, hF, hk⟩ => T.free I0 hF hk
  have hoff : ∀ k, Any Gs k → ¬ g.rf id k := fun k ⟨F, hF, hk⟩ => T.off F hF k hk id hat
  have hund : Under ro.t ro.xs (g.rv id) p b := ⟨[], s, by rw [List.append_nil]; exact hs, by rw [List.append_nil, hav]; rfl⟩
  have hunder : ∀ i j k, Under s.t s.xs (fun q => g.rv id (p ++ q)) [(i, j)] k → Under ro.t ro.xs (g.rv id) p k ∧ k ≠ b := by
    rintro i j k ⟨q, s2, h1, h2⟩
    have h3 : subR ro.t ro.xs (p ++ ([(i, j)] ++ q)) = some s2 := by rw [subR_append _ hs]; exact h1
    refine ⟨⟨[(i, j)] ++ q, s2, h3, h2⟩, fun e => ?_⟩
    subst e
    have := htr.2 _ p s2 s k h3 hs h2 (by rw [hav]; rfl)
    simp at this
  obtain ⟨G', hp', hG'⟩ := (hsub.pieces (ro := g.ro) (by simpa using hrows)).poke hx hA hy hle (fun _ h => h) T.apart (fun i j k h1 h2 => hoff k h2 (htr.under_F (hunder i j k h1).1)) (by omega)
  have hnb : ∀ i j k, G' i j k → k ≠ b := fun i j k h => (hG' i j k h).elim (fun h e => hoff k h (e ▸ hF)) fun h => (hunder i j k h).2
  have hp2 := hp'.same hsame hnb (fun k h e => by
    subst e
    exact h.elim (fun h => I.apart.ro_r id _ hat hF h) (fun h => hoff _ h hF))
  simp only [Bool.and_self] at hp2
  obtain ⟨av2, h0, hnew⟩ := hp2.own hb' (by simpa using hcap) hsz' (fun i j h => hnb i j b h rfl)
  have hbes : ∀ k, (k = b ∨ ∃ i j, G' i j k) → ¬ Beside ro.t ro.xs (g.rv id) p k := by
    rintro k (rfl | ⟨i, j, h⟩)
    · exact htr.under_beside hund
    · rcases hG' i j k h with h | h
      · exact fun h' => hoff k h (htr.beside_F h')
      · exact htr.under_beside (hunder i j k h).1
  obtain ⟨av', h1, h2, h3⟩ := htr.graft hs hz hsame (fun k e => by subst e; exact htr.under_beside hund) hnew (by rw [h0, hav]; simp) hbes
  refine ⟨_, by rfl, I.reroot (ro' := ⟨ro.t, .deep, ro.ver, ro.log ++ [p.length], zs⟩) (.inl hlive) hsame hkept (fun k e => by subst e; exact I.alone hat hF) (fun _ h => h) (fun id' k h1 _ h3 => I.apart.ro_r id' k h1 h3)
    I.apart.ro_b (fun k h => Nat.lt_of_lt_of_le (I.apart.lt_ro k h) hsame.1) I.apart.mine_ro rfl rfl (l := [p.length]) rfl (av := av') (F := fun k => (k = b ∨ ∃ i j, G' i j k) ∨ Beside ro.t ro.xs (g.rv id) p k) (fun q hq => ?_) ?_ (fun k hk => ?_)⟩
  · have hql : q.length ≤ p.length := hq _ (by simp)
    have hqp : p <+: q → q = p := fun h => (h.eq_of_length_le hql).symm
    exact ⟨h1 q hqp, fun sq hsq => subR_keep hs hz (by simp) q sq hqp hsq⟩
  · unfold RootRel
    simp only [Gh.setR, if_true]
    exact h3
  · have hold : g.rf id k → (∀ id', OwnAt st id' → id' ≠ id → ¬ g.rf id' k) ∧ ¬ g.ro k ∧ (∀ b, BoxAt st b → g.bx b ≠ k) ∧ (w0.heap.size ≤ k ∨ Mf k) ∧ k < (w.setRow b (putAt us (oo + i * esz s.t + off) vs)).heap.size := fun hk =>
      ⟨(I.alone hat hk).r, (I.alone hat hk).ro, (I.alone hat hk).b, I.apart.mine_r id k hat hk, Nat.lt_of_lt_of_le (I.apart.lt_r id k hat hk) hsame.1⟩
    rcases hk with (rfl | ⟨i', j', h⟩) | h
    · exact hold hF
    · rcases hG' i' j' k h with h | h
      · obtain ⟨hf, hlt⟩ := hfree k h
        exact ⟨fun id' h1 _ => hf.r id' h1, hf.ro, hf.b, hf.mine, Nat.lt_of_lt_of_le hlt hsame.1⟩
      · exact hold (htr.under_F (hunder i' j' k h).1)
    · exact hold (htr.beside_F h)

/-- Its elements' lists are read alone from then on. -/
theorem Inv.storeShal (I0 : Inv w0 Mf g st0 a w) (I : Inv w0 Mf g st a w) {ups : List (Nat × Rt)} {Gs : List (Nat → Prop)} (T : Took w g st0 st ups Gs) {id : Nat} {ro : Root} (hlive : aget st.roots id = some (.live ro))
    (hm : ro.md.isFrz = false) (hmp : ro.md.isPart = false) {i : Nat} {x y : El ro.t} (hx : ro.xs[i]? = some x) {cv : List Cv} {vs : Array Value} {off : Nat} {d : Bool} (hA : AbsL w g.ro cv vs.toList Gs d) (hy : enc ro.t y = setRange (enc ro.t x) off cv) (hle : off + cv.length ≤ esz ro.t)
    {b oo n cap : Nat} (hav : g.rv id [] = .slice (some ⟨b, oo, none⟩) n cap) :
    ∃ us el, w.heap[b]? = some (.cells us el (0, 0)) ∧ oo + i * esz ro.t + esz ro.t ≤ us.size ∧ ∃ g' : Gh, g'.n = g.n ∧
      Inv w0 Mf g' { st with roots := aset st.roots id (.live ⟨ro.t, .shal, ro.ver, ro.log ++ [0], ro.xs.set i y⟩) } a (w.setRow b (putAt us (oo + i * esz ro.t + off) vs)) := by
  have hi := el_lt hx
  have hat : OwnAt st id := ⟨ro, hlive, hm⟩
  have hr := I.roots id ro hlive
  have hnode := hr.node (p := []) (s := ⟨ro.t, ro.xs⟩) rfl (by cases h : ro.md <;> simp_all [Md.isDeep, Md.isShal, Md.isFrz, Md.isPart])
  have hv : vs.size = cv.length := by have := hA.len.1; simpa using this
  rcases hnode with ⟨h0, _⟩ | ⟨b', oo', cap', us, el, e1, hF, hb, hcap, hsize, hrows⟩
  · simp only at h0; rw [h0] at hi; simp at hi
  rw [hav] at e1
  simp only [Value.slice.injEq, Option.some.injEq, Addr.mk.injEq, and_true] at e1
  obtain ⟨⟨rfl, rfl⟩, rfl, rfl⟩ := e1
  simp only at hcap hsize hrows
  have hmul : i * esz ro.t + esz ro.t ≤ ro.xs.length * esz ro.t := by
    have : (i + 1) * esz ro.t ≤ ro.xs.length * esz ro.t := Nat.mul_le_mul_right _ hi
    rw [Nat.add_mul] at this; omega
  have hmul2 : ro.xs.length * esz ro.t ≤ cap * esz ro.t := Nat.mul_le_mul_right _ hcap
  refine ⟨us, el, hb, by omega, ?_⟩
  have hsame := setRow_same w b (putAt us (oo + i * esz ro.t + off) vs)
  have hb' := setRow_heap w b us (putAt us (oo + i * esz ro.t + off) vs) el (0, 0) hb
  have hsz' : oo + cap * esz ro.t ≤ (putAt us (oo + i * esz ro.t + off) vs).size := by rw [putAt_size (by omega)]; exact hsize
  have hkept : Kept w0 (w.setRow b (putAt us (oo + i * esz ro.t + off) vs)) Mf := I.kept.step rfl rfl rfl hsame (fun k e => by subst e; exact I.apart.mine_r id _ hat hF)
  have hfree : ∀ k, Any Gs k → Free w0 Mf g st k ∧ k < w.heap.size := fun k ⟨F, hF, hk⟩ => T.free I0 hF hk
  have hoff : ∀ k, Any Gs k → ¬ g.rf id k := fun k ⟨F, hF, hk⟩ => T.off F hF k hk id hat
  -- what was there, in pieces
  have hpc : ∃ dd G, Pieces w g.ro dd ro.t ro.xs us oo G ∧ ∀ i j k, G i j k → g.rf id k ∧ k ≠ b := by
    unfold RootRel at hr
    split at hr
    · refine ⟨true, _, hr.pieces (ro := g.ro) (by simpa using hrows), ?_⟩
      rintro i j k ⟨q, s2, h1, h2⟩
      refine ⟨(hr.1 _ s2 h1).blkF h2, fun e => ?_⟩
      subst e
      have := hr.2 _ [] s2 ⟨ro.t, ro.xs⟩ k h1 rfl h2 (by rw [hav]; rfl)
      simp at this
    · exact ⟨false, _, hr.pieces (by simpa using hrows), fun _ _ _ h => h.elim⟩
    · rename_i hmd; simp [hmd, Md.isFrz] at hm
    · rename_i hmd; simp [hmd, Md.isPart] at hmp
  obtain ⟨dd, G, hpc, hG⟩ := hpc
  obtain ⟨G', hp', hG'⟩ := hpc.poke hx hA hy hle (fun _ h => h) T.apart (fun i j k h1 h2 => hoff k h2 (hG i j k h1).1) (by omega)
  have hnb : ∀ i j k, G' i j k → k ≠ b := fun i j k h => (hG' i j k h).elim (fun h e => hoff k h (e ▸ hF)) fun h => (hG i j k h).2
  let RO' : Nat → Prop := fun k => (g.ro k ∨ Any Gs k) ∨ ∃ i j, G' i j k
  have hp2 := hp'.same hsame hnb (fun k h e => by
    subst e
    exact h.elim (fun h => I.apart.ro_r id _ hat hF h) (fun h => hoff _ h hF))
  obtain ⟨av2, h0, hnew⟩ := hp2.shal hb' (by simpa using hcap) hsz' (ro' := RO') (fun k => .inl) (fun i j k h => .inr ⟨i, j, h⟩)
  -- who holds what is read from now on
  have hRO : ∀ k, RO' k → (∀ id', OwnAt st id' → id' ≠ id → ¬ g.rf id' k) ∧ (∀ b, BoxAt st b → g.bx b ≠ k) ∧ k < w.heap.size ∧ k ≠ b := by
    have hgs : ∀ k, Any Gs k → (∀ id', OwnAt st id' → id' ≠ id → ¬ g.rf id' k) ∧ (∀ b, BoxAt st b → g.bx b ≠ k) ∧ k < w.heap.size ∧ k ≠ b := fun k h => by
      obtain ⟨hf, hlt⟩ := hfree k h
      exact ⟨fun id' h1 _ => hf.r id' h1, hf.b, hlt, fun e => hoff k h (e ▸ hF)⟩
    rintro k ((h | h) | ⟨i', j', h⟩)
    · exact ⟨fun id' h1 _ h3 => I.apart.ro_r id' k h1 h3 h, fun b' hb' e => I.apart.ro_b b' hb' (e ▸ h), I.apart.lt_ro k h, fun e => I.apart.ro_r id b hat hF (e ▸ h)⟩
    · exact hgs k h
    · rcases hG' i' j' k h with h | h
      · exact hgs k h
      · have hk := (hG i' j' k h).1
        exact ⟨(I.alone hat hk).r, (I.alone hat hk).b, I.apart.lt_r id k hat hk, (hG i' j' k h).2⟩
  have hROm : ∀ k, RO' k → g.n.r0 k ∨ w0.heap.size ≤ k ∨ Mf k := by
    rintro k ((h | h) | ⟨i', j', h⟩)
    · exact I.apart.mine_ro k h
    · exact .inr (hfree k h).1.mine
    · rcases hG' i' j' k h with h | h
      · exact .inr (hfree k h).1.mine
      · exact .inr (I.apart.mine_r id k hat (hG i' j' k h).1)
  refine ⟨_, by rfl, I.reroot (ro' := ⟨ro.t, .shal, ro.ver, ro.log ++ [0], ro.xs.set i y⟩) (G := RO') (.inl hlive) hsame hkept (fun k e => by subst e; exact I.alone hat hF) (fun _ h => .inl (.inl h)) (fun id' k h1 h2 h3 h4 => (hRO k h4).1 id' h1 h2 h3)
    (fun b' hb' h => (hRO _ h).2.1 b' hb' rfl) (fun k h => Nat.lt_of_lt_of_le (hRO k h).2.2.1 hsame.1) hROm rfl rfl (l := [0]) rfl (av := av2) (F := fun k => k = b) (fun q hq => ?_) ?_ (fun k hk => ?_)⟩
  · have hq0 : q = [] := List.eq_nil_of_length_eq_zero (Nat.le_zero.1 (hq 0 (by simp)))
    subst hq0
    refine ⟨by rw [h0, hav]; simp, fun sq hsq => ?_⟩
    simp only [subR, Option.some.injEq] at hsq
    subst hsq
    exact ⟨_, rfl, rfl, by simp⟩
  · unfold RootRel
    simp only [Gh.setR, if_true]
    exact hnew
  · subst hk
    exact ⟨(I.alone hat hF).r, fun h => (hRO _ h).2.2.2 rfl, (I.alone hat hF).b, I.apart.mine_r id _ hat hF, Nat.lt_of_lt_of_le (I.apart.lt_r id _ hat hF) hsame.1⟩

end Go.Gm

/- A list is put back where one was taken out. -/
namespace Go.Gm
open Go

variable {R : Type} {P : Program} {E : Env} {w0 w : World} {Mf : Nat → Prop} {g : Gh} {st0 st : St} {a : Act} {Q : Exit → Act → World → Prop}
  {o : Oper} {k : Dl → Option R} {r : R} {K : Act → World → Prop}

theorem subR_keepN : ∀ {p : Path} {t : Ty} {xs zs : List (El t)} {s s' : Sl}, subR t xs p = some s → setSub t xs p s' = some zs →
    ∀ q sq, ¬ p <+: q → subR t xs q = some sq → ∃ sq', subR t zs q = some sq' ∧ sq'.t = sq.t ∧ sq'.xs.length = sq.xs.length
  | [], t, xs, zs, s, s', h, hz, q, sq, hq, hsq => absurd List.nil_prefix hq
  | (i, j) :: p, t, xs, zs, s, s', h, hz, q, sq, hq, hsq => by
    simp only [subR] at h
    split at h
    case h_2 => cases h
    rename_i x hx
    split at h
    case h_2 => cases h
    rename_i t1 ys hc
    simp only [setSub, atI_of hx, hc, Option.bind_eq_some_iff, Option.some.injEq] at hz
    obtain ⟨z1, hz1, y, hy, rfl⟩ := hz
    have hey := dec_enc hy
    have hlt := el_lt hx
    have hj : j < (enc t x).length := by rw [enc_length]; exact enc_lt hc
    cases q with
    | nil =>
      simp only [subR, Option.some.injEq] at hsq
      subst hsq
      exact ⟨⟨t, xs.set i y⟩, rfl, rfl, by simp⟩
    | cons ij q =>
      obtain ⟨i', j'⟩ := ij
      simp only [subR] at hsq ⊢
      by_cases hii : i = i'
      · subst hii
        simp only [List.getElem?_set_self hlt, ← hey]
        rw [hx] at hsq
        simp only at hsq
        by_cases hjj : j = j'
        · subst hjj
          simp only [hc, List.getElem?_set_self hj] at hsq ⊢
          exact subR_keepN h hz1 q sq (fun hp => hq (by simpa using hp)) hsq
        · rw [List.getElem?_set_ne hjj]
          exact ⟨sq, hsq, rfl, rfl⟩
      · simp only [List.getElem?_set_ne hii]
        exact ⟨sq, hsq, rfl, rfl⟩

theorem sub_of_prefix : ∀ {q : Path} {t : Ty} {xs : List (El t)} {s : Sl}, subR t xs q = some s → ∀ p, sub t xs (q ++ p) = sub s.t s.xs p
  | [], t, xs, s, h, p => by simp only [subR, Option.some.injEq] at h; subst h; rfl
  | (i, j) :: q, t, xs, s, h, p => by
    simp only [subR] at h
    split at h
    · rename_i x hx
      split at h
      · rename_i t' ys hc
        simp only [List.cons_append, sub, atI_of hx, hc]
        exact sub_of_prefix h p
      · cases h
    · cases h
/-- What stands at a cell of a row, after another was put there. -/
theorem putAt_one {us : Array Value} {off : Nat} {u : Value} (h : off < us.size) (m : Nat) : (putAt us off #[u])[m]? = if m = off then some u else us[m]? := by
  rw [putAt_get (by simp; omega)]
  by_cases e : m = off
  · subst e; rw [if_pos ⟨Nat.le_refl _, by simp⟩, if_pos rfl, Nat.sub_self]; rfl
  · rw [if_neg (by simp; omega), if_neg e]

theorem TreePart.fill {F F2 : Nat → Prop} {t : Ty} {xs zs : List (El t)} {av : Path → Value} {q : Path} {i j : Nat} (h : TreePart w F (.hole (q ++ [(i, j)])) t xs av) {s s' : Sl} (hs : subR t xs (q ++ [(i, j)]) = some s)
    (hz : setSub t xs (q ++ [(i, j)]) s' = some zs) {b oo n cap : Nat} (hav : av q = .slice (some ⟨b, oo, none⟩) n cap) {sq : Sl} (hsq : subR t xs q = some sq) {us : Array Value} {el : TypeId} {fz : Nat × Nat} (hb : w.heap[b]? = some (.cells us el fz))
    {u : Value} (hu : flatB u = true) {av2 : Path → Value} (hnew : TreeOwn w F2 s'.t s'.xs av2) (h0 : av2 [] = u) (hF2 : ∀ k, F2 k → ¬ F k) :
    ∃ av' : Path → Value, (∀ r, ¬ (q ++ [(i, j)]) <+: r → av' r = av r) ∧ TreeOwn (w.setRow b (putAt us (oo + i * esz sq.t + j) #[u])) (fun k => F k ∨ F2 k) t zs av' := by
  have hqa : (Pt.hole (q ++ [(i, j)])).nodeAt q = true := (hole_iff (by simp)).2 fun hp => by
    have := hp.length_le
    simp at this
    omega
  obtain ⟨xq, hxq, hcq⟩ : ∃ xq, sq.xs[i]? = some xq ∧ (enc sq.t xq)[j]? = some (.l s.t s.xs) := by
    rw [subR_append _ hsq] at hs
    exact subR_one' hs
  have hi := el_lt hxq
  have hj := enc_lt hcq
  rcases h.1 q sq hqa hsq with ⟨e0, _⟩ | ⟨b', oo', cap', us', el', e1, hFb, hb', hcap, hsize, hrows⟩
  · rw [e0] at hi; simp at hi
  rw [hav] at e1
  simp only [Value.slice.injEq, Option.some.injEq, Addr.mk.injEq, and_true] at e1
  obtain ⟨⟨rfl, rfl⟩, rfl, rfl⟩ := e1
  rw [hb] at hb'
  simp only [Option.some.injEq, Obj.cells.injEq] at hb'
  obtain ⟨rfl, rfl, rfl⟩ := hb'
  have hmul : i * esz sq.t + esz sq.t ≤ sq.xs.length * esz sq.t := by
    have : (i + 1) * esz sq.t ≤ sq.xs.length * esz sq.t := Nat.mul_le_mul_right _ hi
    rw [Nat.add_mul] at this; omega
  have hmul2 : sq.xs.length * esz sq.t ≤ cap * esz sq.t := Nat.mul_le_mul_right _ hcap
  have hoff : oo + i * esz sq.t + j < us.size := by omega
  have hsame := setRow_same w b (putAt us (oo + i * esz sq.t + j) #[u])
  have hbn := setRow_heap w b us (putAt us (oo + i * esz sq.t + j) #[u]) el (0, 0) hb
  have hsz2 : (putAt us (oo + i * esz sq.t + j) #[u]).size = us.size := putAt_size (by simp; omega)
  let av' : Path → Value := fun r => if (q ++ [(i, j)]) <+: r then av2 (r.drop (q ++ [(i, j)]).length) else av r
  have hup : ∀ r, av' ((q ++ [(i, j)]) ++ r) = av2 r := fun r => by simp only [av']; rw [if_pos (List.prefix_append _ _), List.drop_left]
  have hoth : ∀ r, ¬ (q ++ [(i, j)]) <+: r → av' r = av r := fun r hr => by simp only [av']; rw [if_neg hr]
  have hnew' : TreeOwn (w.setRow b (putAt us (oo + i * esz sq.t + j) #[u])) F2 s'.t s'.xs av2 := hnew.same hsame fun k hk e => by subst e; exact hF2 _ hk hFb
  refine ⟨av', hoth, fun r s2' hs2 => ?_, fun r1 r2 s1 s2 n h1 h2 h3 h4 => ?_⟩
  · rcases subR_set hs hz r s2' hs2 with ⟨r', rfl, hs3⟩ | ⟨hn, s2, hs3, hsim⟩
    · rw [hup]
      have := (hnew'.1 r' s2' hs3).mono (Q := fun k => F k ∨ F2 k) fun k => .inr
      refine this.kid fun i y j t' ys _ _ => ?_
      rw [List.append_assoc, hup]
    · rw [hoth r hn]
      have ha := (hole_iff (by simp)).2 hn
      have h1 := h.1 r s2 ha hs3
      by_cases hrq : r = q
      · subst hrq
        rw [hsq] at hs3; cases hs3
        refine .inr ⟨b, oo, cap, _, el, by rw [hav, hsim.2.1], .inl hFb, hbn, by rw [hsim.2.1]; exact hcap, by rw [hsz2, hsim.1]; exact hsize, ?_⟩
        have hrow2 := hsim.rows hrows
        intro i2 y j2 c hy hc
        obtain ⟨z, hz2, hcz⟩ := hrow2 i2 y j2 c hy hc
        rw [hsim.1] at hz2 ⊢
        rw [putAt_one hoff]
        have hj2 : j2 < esz sq.t := by rw [← hsim.1]; exact enc_lt hc
        by_cases e : oo + i2 * esz sq.t + j2 = oo + i * esz sq.t + j
        · rw [if_pos e]
          have : i2 = i ∧ j2 = j := by
            rcases Nat.lt_trichotomy i2 i with hlt | heq | hlt
            · have : (i2 + 1) * esz sq.t ≤ i * esz sq.t := Nat.mul_le_mul_right _ hlt
              rw [Nat.add_mul] at this; omega
            · subst heq; exact ⟨rfl, by omega⟩
            · have : (i + 1) * esz sq.t ≤ i2 * esz sq.t := Nat.mul_le_mul_right _ hlt
              rw [Nat.add_mul] at this; omega
          obtain ⟨rfl, rfl⟩ := this
          refine ⟨u, rfl, ?_⟩
          have hk1 : c.kind.isSome = true := by
            obtain ⟨y0, c0, h5, h6, h7⟩ := hsim.2.2 i2 y j2 c hy hc
            rw [hxq] at h5; cases h5
            rw [hcq] at h6; cases h6
            cases c with
            | v x => exact h7.elim
            | l t' ys => rfl
          cases c with
          | v x => cases hk1
          | l t' ys =>
            show u = av' (r ++ [(i2, j2)])
            have := hup []
            rw [List.append_nil] at this
            rw [this, h0]
        · rw [if_neg e]
          refine ⟨z, hz2, ?_⟩
          cases c with
          | v x => exact hcz
          | l t' ys =>
            have hcz : z = av (r ++ [(i2, j2)]) := hcz
            show z = av' (r ++ [(i2, j2)])
            rw [hcz, hoth]
            intro hp
            have hl := hp.eq_of_length (by simp)
            have := List.append_cancel_left hl
            simp only [List.cons.injEq, Prod.mk.injEq, and_true] at this
            exact e (by rw [this.1, this.2])
      · have hblk : ∀ k, blk (av r) = some k → k ≠ b := fun k hk e => by
          subst e
          exact hrq (h.2.1 r q s2 sq k ha hqa hs3 hsq hk (by rw [hav]; rfl))
        have h2 := (h1.toF (G := fun k => F k ∧ k ≠ b) fun k hk => ⟨h1.blkF hk, hblk k hk⟩).same hsame fun k hk e => hk.2 e
        refine ((hsim.own h2).mono fun k hk => Or.inl hk.1).kid fun i2 y j2 t' ys _ _ => ?_
        refine hoth _ fun hp => ?_
        rw [List.prefix_concat_iff] at hp
        rcases hp with hp | hp
        · have := List.append_inj_left' hp rfl
          exact hrq this.symm
        · exact hn hp
  · rcases subR_set hs hz r1 s1 h1 with ⟨r1', rfl, hs1⟩ | ⟨hn1, s1', hs1, _⟩ <;> rcases subR_set hs hz r2 s2 h2 with ⟨r2', rfl, hs2⟩ | ⟨hn2, s2', hs2, _⟩
    · rw [hup] at h3 h4
      rw [hnew'.2 _ _ _ _ n hs1 hs2 h3 h4]
    · rw [hup] at h3; rw [hoth _ hn2] at h4
      exact (hF2 n ((hnew'.1 _ _ hs1).blkF h3) ((h.1 _ _ ((hole_iff (by simp)).2 hn2) hs2).blkF h4)).elim
    · rw [hup] at h4; rw [hoth _ hn1] at h3
      exact (hF2 n ((hnew'.1 _ _ hs2).blkF h4) ((h.1 _ _ ((hole_iff (by simp)).2 hn1) hs1).blkF h3)).elim
    · rw [hoth _ hn1] at h3; rw [hoth _ hn2] at h4
      exact h.2.1 _ _ _ _ n ((hole_iff (by simp)).2 hn1) ((hole_iff (by simp)).2 hn2) hs1 hs2 h3 h4

/-- The list that was wanting is there again. -/
theorem Inv.storeHole (I0 : Inv w0 Mf g st0 a w) (I : Inv w0 Mf g st a w) {ups : List (Nat × Rt)} {F2 : Nat → Prop} (T : Took w g st0 st ups [F2]) {id : Nat} {ro : Root} (hlive : aget st.roots id = some (.live ro))
    {q : Path} {i j : Nat} (hm : ro.md = .part (.hole (q ++ [(i, j)]))) {sq : Sl} (hsq : subR ro.t ro.xs q = some sq) (hi : i < sq.xs.length) {s : Sl} (hs : sub ro.t ro.xs (q ++ [(i, j)]) = some s) {ys : List (El s.t)} {u : Value} (hu : flatB u = true)
    (hnew : OwnSl w F2 s.t ys u) {zs : List (El ro.t)} (hz : setSub ro.t ro.xs (q ++ [(i, j)]) ⟨s.t, ys⟩ = some zs) {b oo n cap : Nat} (hav : g.rv id q = .slice (some ⟨b, oo, none⟩) n cap) (hj : j < esz sq.t) :
    ∃ us el, w.heap[b]? = some (.cells us el (0, 0)) ∧ oo + i * esz sq.t + esz sq.t ≤ us.size ∧ ∃ g' : Gh, g'.n = g.n ∧
      Inv w0 Mf g' { st with roots := aset st.roots id (.live ⟨ro.t, .deep, ro.ver, ro.log ++ [q.length], zs⟩) } a (w.setRow b (putAt us (oo + i * esz sq.t + j) #[u])) := by
  have hr := I.roots id ro hlive
  unfold RootRel at hr
  rw [hm] at hr
  have hr : TreePart w (g.rf id) (.hole (q ++ [(i, j)])) ro.t ro.xs (g.rv id) := hr
  have hat : OwnAt st id := ⟨ro, hlive, by rw [hm]; rfl⟩
  have hqa : (Pt.hole (q ++ [(i, j)])).nodeAt q = true := (hole_iff (by simp)).2 fun hp => by
    have := hp.length_le
    simp at this
    omega
  rcases hr.1 q sq hqa hsq with ⟨e0, _⟩ | ⟨b', oo', cap', us, el, e1, hFb, hb, hcap, hsize, hrows⟩
  · rw [e0] at hi; simp at hi
  rw [hav] at e1
  simp only [Value.slice.injEq, Option.some.injEq, Addr.mk.injEq, and_true] at e1
  obtain ⟨⟨rfl, rfl⟩, rfl, rfl⟩ := e1
  have hmul : i * esz sq.t + esz sq.t ≤ sq.xs.length * esz sq.t := by
    have : (i + 1) * esz sq.t ≤ sq.xs.length * esz sq.t := Nat.mul_le_mul_right _ hi
    rw [Nat.add_mul] at this; omega
  have hmul2 : sq.xs.length * esz sq.t ≤ cap * esz sq.t := Nat.mul_le_mul_right _ hcap
  have hsR : ∃ s1, subR ro.t ro.xs (q ++ [(i, j)]) = some s1 := by
    have hx := atI_lt hi
    rw [sub_of_prefix hsq] at hs
    rw [subR_append _ hsq]
    simp only [sub, subR, hx] at hs ⊢
    split at hs
    · rename_i t' ys' hc; first | exact ⟨_, rfl⟩ | (simp only [hc]; exact ⟨_, rfl⟩)
    · cases hs
  obtain ⟨s1, hs1⟩ := hsR
  have := sub_of_subR hs1
  rw [hs] at this; cases this
  have hfree : ∀ k, F2 k → Free w0 Mf g st k ∧ k < w.heap.size := fun k hk => T.free I0 (by simp) hk
  obtain ⟨av2, h0, hn2⟩ := hnew
  obtain ⟨av', h1, h2⟩ := hr.fill hs1 hz hav hsq hb hu hn2 h0 fun k hk hr' => (hfree k hk).1.r id hat hr'
  have hsame := setRow_same w b (putAt us (oo + i * esz sq.t + j) #[u])
  have hkept : Kept w0 (w.setRow b (putAt us (oo + i * esz sq.t + j) #[u])) Mf := I.kept.step rfl rfl rfl hsame (fun k e => by subst e; exact I.apart.mine_r id _ hat hFb)
  refine ⟨us, el, hb, by omega, _, by rfl, I.reroot (ro' := ⟨ro.t, .deep, ro.ver, ro.log ++ [q.length], zs⟩) (.inl hlive) hsame hkept (fun k e => by subst e; exact I.alone hat hFb) (fun _ h => h) (fun id' k h1 _ h3 => I.apart.ro_r id' k h1 h3)
    I.apart.ro_b (fun k h => Nat.lt_of_lt_of_le (I.apart.lt_ro k h) hsame.1) I.apart.mine_ro rfl rfl (l := [q.length]) rfl (av := av') (F := fun k => g.rf id k ∨ F2 k) (fun r hr' => ?_) ?_ (fun k hk => ?_)⟩
  · have hrl : r.length ≤ q.length := hr' _ (by simp)
    have hnp : ¬ (q ++ [(i, j)]) <+: r := fun hp => by
      have := hp.length_le
      simp at this
      omega
    exact ⟨h1 r hnp, fun sr hsr => subR_keepN hs1 hz r sr hnp hsr⟩
  · unfold RootRel
    simp only [Gh.setR, if_true]
    exact h2
  · rcases hk with hk | hk
    · exact ⟨(I.alone hat hk).r, (I.alone hat hk).ro, (I.alone hat hk).b, I.apart.mine_r id k hat hk, Nat.lt_of_lt_of_le (I.apart.lt_r id k hat hk) hsame.1⟩
    · obtain ⟨hf, hlt⟩ := hfree k hk
      exact ⟨fun id' h1 _ => hf.r id' h1, hf.ro, hf.b, hf.mine, Nat.lt_of_lt_of_le hlt hsame.1⟩
end Go.Gm

/- The store, the operation. -/
namespace Go.Gm
open Go

variable {R : Type} {P : Program} {E : Env} {w0 w : World} {Mf : Nat → Prop} {g : Gh} {st : St} {a : Act} {Q : Exit → Act → World → Prop}
  {o : Oper} {k : Dl → Option R} {r : R} {K : Act → World → Prop}

theorem wp_unit {w' : World} (hd : o.dst = none) (h : (execOp a.eval o).run P w = .ok .skip w') (hK : K a w') : o.wp P a w K Q := by
  unfold Oper.wp; rw [h, Oper.upon_skip, hd]; exact hK

theorem kind_at (t : Ty) (x : El t) (j : Nat) : ((enc t x)[j]?).map Cv.kind = (kinds t)[j]? := by
  rw [← kinds_eq t x, List.getElem?_map]

theorem x_store (hE : E.Ok P) (I : Inv w0 Mf g st a w) (hK : Then w0 Mf g st k r K) {T : Nat} {x y : Operand} (hop : o.op = .store T x y)
    (h : evX E o st k = some r) : o.wp P a w K Q := by
  simp only [evX, hop] at h
  replace h := condN h; obtain ⟨hdst, h⟩ := h
  have hdst := Option.isNone_iff_eq_none.1 hdst
  replace h := bindS h; obtain ⟨t, hT, h⟩ := h
  replace h := I.getC h; obtain ⟨c, h, hc⟩ := h
  replace h := I.getS h; obtain ⟨s, h, hs⟩ := h
  replace h := bindS h; obtain ⟨cs, hcs, h⟩ := h
  replace h := condN h; obtain ⟨hlen, h⟩ := h
  have hlen := beqN hlen
  obtain ⟨vs, hform, hrel⟩ := svCells_sound hcs hs
  have hvs : vs.size = cs.length := hrel.1
  have hrun : ∀ (b off : Nat) (us : Array Value) (el : Nat), a.eval x = .pointer (some ⟨b, off, none⟩) → w.heap[b]? = some (.cells us el (0, 0)) → off + esz t ≤ us.size →
      (execOp a.eval o).run P w = .ok .skip (w.setRow b (putAt us off vs)) := by
    intro b off us el hx hb hl
    have := run_storeVar hE hT (off := off) hb hform (by omega) hl hrel.flat
    rw [row_putAt (by omega)] at this
    simp [execOp, hop, Instr.storeAt, hx, Instr.sureAddr, this]
  split at h
  · -- into a variable in memory
    rename_i b off
    replace h := bindS h; obtain ⟨bx, hbx, h⟩ := h
    replace h := condN h; obtain ⟨hl, h⟩ := h
    have hl := bleN hl
    obtain ⟨us, el, hb, hcells⟩ := I.boxes b bx hbx
    have hus := hcells.1
    have hat : BoxAt st b := by simp [BoxAt, hbx]
    refine wp_unit hdst (hrun _ _ us el hc.2.1 hb (by omega)) (hK _ g _ _ h rfl ?_)
    have hsame := setRow_same w (g.bx b) (putAt us off vs)
    have hset := hcells.set hrel off (by omega)
    rw [row_putAt (by omega)] at hset
    have := I.writeBox (t := bx.t) hat hsame (I.kept.step rfl rfl rfl hsame (fun k e => by subst e; exact I.apart.mine_b b hat)) (setRow_heap w _ us _ el (0, 0) hb) hset
    simpa [St.apply, asets] using this
  · -- into an own list
    rename_i id ver iv p i off
    replace h := getRp_some h; obtain ⟨ro, hro, h⟩ := h
    split at h
    · rename_i p0 hhole
      replace h := condN h; obtain ⟨heq, h⟩ := h
      have heq := eqP_iff.1 heq
      subst heq
      split at h
      case h_2 => cases h
      rename_i c1 _
      replace h := bindS h; obtain ⟨s0, hs0, h⟩ := h
      obtain ⟨u1, hu1, hcu⟩ := hrel.2 0 c1 rfl
      have hvs1 : vs = #[u1] := by
        apply Array.ext_getElem?
        intro n
        cases n with
        | zero => simpa using hu1
        | succ n => rw [Array.getElem?_eq_none (by rw [hvs]; simp), Array.getElem?_eq_none (by simp)]
      subst hvs1
      replace h := I.absSc h hcu; obtain ⟨cv, d, st', ups, F, h, I', TK, hr, ho⟩ := h
      replace h := condN h; obtain ⟨hd, h⟩ := h
      subst hd
      replace h := getR_some h; obtain ⟨ro2, hlive, hver, h⟩ := h
      have hlive0 := TK.live id ro2 hlive
      have : ro2 = ro := by have := hlive0.symm.trans hro.1; simpa using this
      subst this
      replace h := bindS h; obtain ⟨ys, hys, h⟩ := h
      replace h := bindS h; obtain ⟨zs, hz, h⟩ := h
      obtain ⟨s', b, oo, n, cap, h1, h2, h3, hu⟩ := hc.2.2 ro2 hro.x
      have hm : ro2.md = .part (.hole (p ++ [(i, off)])) := by
        cases hq : ro2.md with
        | part k =>
          cases k with
          | cur a b => rw [hq] at hhole; cases hhole
          | hole p1 => rw [hq] at hhole; cases hhole; rfl
        | _ => rw [hq] at hhole; cases hhole
      have hj : off < esz s'.t := by
        rw [sub_of_prefix h1] at hs0
        simp only [sub] at hs0
        split at hs0
        · rename_i hcc; exact enc_lt hcc
        · cases hs0
      have hcvl := Cv.sl?_some hys
      subst hcvl
      obtain ⟨us, el, hb, hsz, g', hn, I2⟩ := I.storeHole I' TK hlive hm h1 h2 hs0 hcu.1 (ho rfl) hz h3 hj
      refine wp_unit hdst (hrun _ _ us el (by rw [hu]) hb (by simp only [List.length_cons, List.length_nil] at hlen; omega)) (hK _ g' _ _ h hn ?_)
      have hst := TK.eq
      subst hst
      simpa [St.apply, asets_append, asets] using I2
    replace h := bindS h; obtain ⟨s1, hs1, h⟩ := h
    replace h := condN h; obtain ⟨hcond, h⟩ := h
    replace h := I.absL h hrel.l; obtain ⟨cv, d, st', ups, Gs, h, I', TK, hA⟩ := h
    replace h := getR_some h; obtain ⟨ro2, hlive, hver, h⟩ := h
    have hlive0 := TK.live id ro2 hlive
    have : ro2 = ro := by have := hlive0.symm.trans hro.1; simpa using this
    subst this
    replace h := condN h; obtain ⟨hdp, h⟩ := h
    replace h := bindS h; obtain ⟨y1, hy1, h⟩ := h
    replace h := bindS h; obtain ⟨zs, hz, h⟩ := h
    obtain ⟨s', b, oo, n, cap, h1, h2, h3, hu⟩ := hc.2.2 ro2 hro.x
    have := sub_of_subR h1; rw [hs1] at this; cases this
    simp only [Bool.and_eq_true, Bool.or_eq_true, Bool.not_eq_true', List.isEmpty_iff] at hcond
    obtain ⟨hmd, hl⟩ := hcond
    have hl := bleN hl
    have hx1 := atI_lt h2
    have hey := (dec_enc hy1).symm
    have hcvl : cv.length = cs.length := by have := hA.len.1; simp [hvs] at this; omega
    have hmd' : ro2.md.isDeep = true ∨ (ro2.md.isShal = true ∧ p = []) := hmd
    have hst := TK.eq
    cases hsc : cv.all fun c => c.kind.isNone
    · -- lists go in
      simp only [hsc, cond_false] at h
      by_cases hdeep : ro2.md.isDeep = true ∧ d = true
      · obtain ⟨hm, rfl⟩ := hdeep
        have hm' : ro2.md = .deep := by cases hq : ro2.md <;> simp_all [Md.isDeep]
        obtain ⟨us, el, hb, hsz, g', hn, I2⟩ := I.storeDeep I' TK hlive h1 hm' hx1 hA hey (by omega) hz h3
        refine wp_unit hdst (hrun _ _ us el (by rw [hu]) hb (by omega)) (hK _ g' _ _ h hn ?_)
        subst hst
        rw [hm']
        simpa [St.apply, asets_append, asets, Md.meet] using I2
      · have hp : p = [] := by
          rcases hmd' with hm | hm
          · simp only [Bool.or_eq_true, List.isEmpty_iff] at hdp
            rcases hdp with hd | hp
            · exact (hdeep ⟨hm, hd⟩).elim
            · exact hp
          · exact hm.2
        have hfz : ro2.md.isFrz = false := by
          rcases hmd' with hm | hm
          · cases hq : ro2.md <;> simp_all [Md.isDeep, Md.isFrz]
          · cases hq : ro2.md <;> simp_all [Md.isShal, Md.isFrz]
        have hpt : ro2.md.isPart = false := by
          rcases hmd' with hm | hm
          · cases hq : ro2.md <;> simp_all [Md.isDeep, Md.isPart]
          · cases hq : ro2.md <;> simp_all [Md.isShal, Md.isPart]
        subst hp
        simp only [subR, Option.some.injEq] at h1
        subst h1
        have hzs := setSub_nil hz
        subst hzs
        obtain ⟨us, el, hb, hsz, g', hn, I2⟩ := I.storeShal I' TK hlive hfz hpt hx1 hA hey (by simp only at hl ⊢; omega) h3
        refine wp_unit hdst (hrun _ _ us el (by rw [hu]) hb (by simp only at hl hsz ⊢; omega)) (hK _ g' _ _ h hn ?_)
        have hmeet : ro2.md.meet d = .shal := by
          cases hq : ro2.md <;> cases d <;> simp_all [Md.meet, Md.isDeep, Md.isFrz, Md.isPart]
        rw [hmeet]
        subst hst
        simpa [St.apply, asets_append, asets] using I2
    · simp only [hsc, cond_true] at h
      rw [List.all_eq_true] at hsc
      have hcv : ∀ (j : Nat) c, cv[j]? = some c → ∃ z, vs[j]? = some z ∧ c = .v z := by
        intro j c hj
        obtain ⟨z, hz, hr⟩ := hA.rd.get j c hj
        have := hsc c (List.mem_of_getElem? hj)
        cases c with
        | v q => exact ⟨z, by simpa using hz, by simp only [CRd] at hr; rw [hr]⟩
        | l t' ys => simp [Cv.kind] at this
      obtain ⟨us, el, hb, hsz, g', hn, I2⟩ := I'.storeScal hlive h1 hmd' hx1 hcv (by omega) (fun j c hj1 hj2 hcj => by
          have e1 := kind_at s1.t (atI s1.xs i) j
          have e2 := kind_at s1.t y1 j
          rw [← e1, hey, setRange_get (by rw [enc_length]; omega), if_pos ⟨hj1, hj2⟩, hcj] at e2
          have hj3 : j - off < cv.length := by omega
          rw [List.getElem?_eq_getElem hj3] at e2
          have := hsc cv[j - off] (List.getElem_mem hj3)
          simp only [Option.map_some, Option.some.injEq] at e2
          cases c with
          | v q => exact ⟨q, rfl⟩
          | l t' ys => rw [e2] at this; simp [Cv.kind] at this) hey (by omega) hz h3
      refine wp_unit hdst (hrun _ _ us el (by rw [hu]) hb (by omega)) (hK _ g' _ _ h hn ?_)
      subst hst
      simpa [St.apply, asets_append, asets] using I2
  · cases h

end Go.Gm

/- clear, of a piece of an own list of scalars. -/
namespace Go.Gm
open Go

variable {R : Type} {P : Program} {E : Env} {w0 w : World} {Mf : Nat → Prop} {g : Gh} {st : St} {a : Act} {Q : Exit → Act → World → Prop}
  {o : Oper} {k : Dl → Option R} {r : R} {K : Act → World → Prop}

theorem run_clear_at (t e ty : TypeId) (zv : Value) (ht : P.underlying t = some (.slice e)) (hv : ∀ w, (zeroValue e).run P w = .ok zv w) (hz : ∀ v ∈ zv.cells.toList, v.oneCell' = true) (hz0 : 0 < zv.cells.size) (b o n c : Nat) (hn : 0 < n) (cs : Array Value) (el : TypeId)
    (hb : w.heap[b]? = some (.cells cs el (0, 0))) (hfit : o + n * zv.cells.size ≤ cs.size) :
    (Builtin.clear_ #[t] ty #[.slice (some ⟨b, o, none⟩) n c]).run P w = .ok (.tuple #[]) (w.setRow b (putAt cs o (Builtin.zeroCells zv.cells n))) := by
  have hone : ∀ v ∈ (Builtin.zeroCells zv.cells n).toList, v.oneCell' = true := by
    intro v hv'
    simp only [Builtin.zeroCells, Array.toList_map, List.mem_map] at hv'
    obtain ⟨i, _, rfl⟩ := hv'
    refine hz _ ?_
    have hlt : i % zv.cells.size < zv.cells.size := Nat.mod_lt _ hz0
    rw [getElem!_pos zv.cells _ hlt]
    exact Array.getElem_mem_toList hlt
  have hsz := size_zeroCells zv.cells n
  have hst := run_storeCells_at P b o el (Builtin.zeroCells zv.cells n).toList 0 cs w hb (by simp [hsz]; omega) hone
  simp only [Nat.add_zero] at hst
  rw [← row_putAt (by rw [hsz]; omega)]
  obtain ⟨m, rfl⟩ : ∃ m, n = m + 1 := ⟨n - 1, by omega⟩
  simp [Builtin.clear_, run_underlying ht, hv, hst]

theorem zvals_one {e : Ty} : ∀ v ∈ (zvals e), v.oneCell' = true := by
  intro v hv
  simp only [zvals] at hv
  obtain ⟨c, hc, rfl⟩ := List.mem_map.1 hv
  obtain ⟨m, hm⟩ := List.getElem?_of_mem hc
  cases c with
  | v x => exact flat_one (flat_of_cell (P' := fun _ => True) (w := default) hm rfl)
  | l t ys => rfl

theorem subR_flat {t : Ty} (h : (kinds t).all (fun q => q.isNone) = true) (xs : List (El t)) {p : Path} (hp : p ≠ []) : subR t xs p = none := by
  cases p with
  | nil => exact (hp rfl).elim
  | cons x p =>
    obtain ⟨i, j⟩ := x
    simp only [subR]
    split
    · split
      · rename_i hc
        obtain ⟨_, e⟩ := kinds_flat h hc
        cases e
      · rfl
    · rfl

/-- An own list of scalars, written anew where it lies. -/
theorem Inv.reown (I : Inv w0 Mf g st a w) {id : Nat} {ro : Root} (hlive : aget st.roots id = some (.live ro)) (hmd : ro.md = .deep) (hfl : (kinds ro.t).all (fun q => q.isNone) = true) {ys : List (El ro.t)} (hlen : ys.length = ro.xs.length)
    {w' : World} (h1 : w'.os = w.os) (h2 : w'.tape = w.tape) (h3 : w'.output = w.output) (hs : SameBut (g.rf id) w w') (hnode : NodeOwn w' (g.rf id) ro.t ys (g.rv id []) fun i j => g.rv id [(i, j)]) :
    ∃ g' : Gh, g'.n = g.n ∧ Inv w0 Mf g' { st with roots := aset st.roots id (.live ⟨ro.t, ro.md, ro.ver, ro.log, ys⟩) } a w' := by
  have hat : OwnAt st id := ⟨ro, hlive, by rw [hmd]; rfl⟩
  have hkept : Kept w0 w' Mf := I.kept.step h1 h2 h3 hs (fun k e => I.apart.mine_r id _ hat e)
  have hroot : RootRel w' (({ g with ro := g.ro } : Gh).setR id (g.rv id) (g.rf id)) id ⟨ro.t, ro.md, ro.ver, ro.log, ys⟩ := by
    unfold RootRel
    simp only [Gh.setR, if_true, hmd]
    refine ⟨fun p s hp => ?_, fun p q s s' b hp hq _ _ => ?_⟩
    · by_cases e : p = []
      · subst e; simp only [subR, Option.some.injEq] at hp; subst hp; exact hnode
      · rw [subR_flat hfl ys e] at hp; cases hp
    · have e1 : p = [] := Classical.byContradiction fun e => by rw [subR_flat hfl ys e] at hp; cases hp
      have e2 : q = [] := Classical.byContradiction fun e => by rw [subR_flat hfl ys e] at hq; cases hq
      rw [e1, e2]
  exact ⟨_, by rfl, I.reroot (ro' := ⟨ro.t, ro.md, ro.ver, ro.log, ys⟩) (.inl hlive) hs hkept (fun k e => I.alone hat e) (fun _ h => h) (fun id' k h1 _ h3 => I.apart.ro_r id' k h1 h3)
    I.apart.ro_b (fun k h => Nat.lt_of_lt_of_le (I.apart.lt_ro k h) hs.1) I.apart.mine_ro rfl rfl (l := []) (by simp) (fun q _ => ⟨rfl, fun sq hsq => by
      by_cases e : q = []
      · subst e; simp only [subR, Option.some.injEq] at hsq; subst hsq; exact ⟨_, rfl, rfl, hlen⟩
      · rw [subR_flat hfl ro.xs e] at hsq; cases hsq⟩) hroot
    (fun k hk => ⟨(I.alone hat hk).r, (I.alone hat hk).ro, (I.alone hat hk).b, I.apart.mine_r id k hat hk, Nat.lt_of_lt_of_le (I.apart.lt_r id k hat hk) hs.1⟩)⟩

theorem clrL_len {α : Type} (z : α) {xs : List α} {lo hi : Nat} (h1 : lo ≤ hi) (h2 : hi ≤ xs.length) : (clrL z xs lo hi).length = xs.length := by simp [clrL]; omega
theorem clrL_get {α : Type} (z : α) {xs : List α} {lo hi : Nat} (h1 : lo ≤ hi) (h2 : hi ≤ xs.length) (i : Nat) : (clrL z xs lo hi)[i]? = if lo ≤ i ∧ i < hi then some z else xs[i]? := by
  unfold clrL
  by_cases h3 : i < lo
  · rw [List.append_assoc, List.getElem?_append_left (by simp; omega), List.getElem?_take, if_pos h3, if_neg (by omega)]
  · by_cases h4 : i < hi
    · rw [List.getElem?_append_left (by simp; omega), List.getElem?_append_right (by simp; omega), if_pos (by omega), List.getElem?_replicate]
      simp; omega
    · rw [List.getElem?_append_right (by simp; omega), List.getElem?_drop, if_neg (by omega)]
      congr 1; simp; omega

theorem x_clear (hE : E.Ok P) (I : Inv w0 Mf g st a w) (hK : Then w0 Mf g st k r K) {c : Call} (hop : o.op = .call c) (hc : c.callee = .builtin .clear)
    (h : evX E o st k = some r) : o.wp P a w K Q := by
  simp only [evX, hop, hc, evBuiltin] at h
  split at h
  case h_2 => cases h
  rename_i x T hargs htys
  have hargs' : c.args = #[x] := by apply Array.ext'; simpa using hargs
  have htys' : c.argTypes = #[T] := by apply Array.ext'; simpa using htys
  replace h := condN h; obtain ⟨hdst, h⟩ := h
  have hdst := Option.isNone_iff_eq_none.1 hdst
  replace h := bindS h; obtain ⟨e, he, h⟩ := h
  obtain ⟨el, hu, hel⟩ := hE.slice (slElem_some he)
  obtain ⟨ii, zv, hi', hsz, hby, hz, hzc⟩ := hE.info el e hel
  replace h := I.getC h; obtain ⟨c', h, hcc⟩ := h
  split at h
  case h_2 => cases h
  rename_i id ver lo hi
  replace h := getR_some h; obtain ⟨ro, hv, hver, h⟩ := h
  obtain ⟨h1, h2, hx⟩ := hcc.2.2 ro ⟨.inl hv, hver, validNil _ _⟩
  replace h := condN h; obtain ⟨hcond, h⟩ := h
  simp only [Bool.and_eq_true] at hcond
  obtain ⟨hmd, hbe, hall⟩ := hcond
  have hbe := beqN hbe
  have hmd : ro.md = .deep := by cases hq : ro.md <;> simp_all [Md.isDeep]
  replace h := bindS h; obtain ⟨z, hz1, h⟩ := h
  have hez : enc ro.t z = enc e (zero e) := (dec_enc hz1).symm
  have hfl : (kinds ro.t).all (fun q => q.isNone) = true := by
    rw [← kinds_eq ro.t z, hez, List.all_map]; exact hall
  have hpos := esz_pos e
  have hzs : zv.cells.size = esz e := by rw [hzc]; simp [zvals, enc_length]
  have key : ∀ w', (Builtin.clear_ #[T] o.type #[a.eval x]).run P w = .ok (.tuple #[]) w' → (∃ g', g'.n = g.n ∧ Inv w0 Mf g' { st with roots := aset st.roots id (.live ⟨ro.t, ro.md, ro.ver, ro.log, clrL z ro.xs lo hi⟩) } a w') → o.wp P a w K Q := by
    rintro w' hr ⟨g', hn, I'⟩
    have hrun : (execOp a.eval o).run P w = .ok (.value (.tuple #[])) w' := by simp [execOp, hop, resolve, hc, invoke, builtin, hargs', htys', hr]
    unfold Oper.wp
    rw [hrun, Oper.upon_value, hdst]
    refine hK _ g' _ _ h hn ?_
    show Inv w0 Mf g' _ a w'
    simpa [St.apply, asets] using I'
  have hat : OwnAt st id := ⟨ro, hv, by rw [hmd]; rfl⟩
  have hnode := (I.roots id ro hv).node (p := []) (s := ⟨ro.t, ro.xs⟩) rfl (.inl (by rw [hmd]; rfl))
  simp only [List.nil_append] at hnode
  by_cases hlh : lo = hi
  · subst hlh
    have e : clrL z ro.xs lo lo = ro.xs := by simp [clrL]
    have hsl : ∃ ad cap, a.eval x = .slice ad 0 cap := by
      rw [hx]
      rcases hnode with ⟨_, e⟩ | ⟨b, oo, cap, cs, el', e, _⟩ <;> rw [e] <;> simp [cutV]
    obtain ⟨ad, cap, e1⟩ := hsl
    refine key w ?_ (I.reown hv hmd hfl (by rw [e]) rfl rfl rfl ⟨Nat.le_refl _, fun _ _ _ => rfl⟩ (by rw [e]; exact hnode))
    rw [e1]
    cases ad <;> simp [Builtin.clear_, run_underlying hu]
  · rcases hnode with ⟨e, _⟩ | ⟨b, oo, cap, cs, el', e1, hF, hb, hcap, hsize, hrows⟩
    · have e : ro.xs = [] := e
      rw [e] at h2; simp at h2; omega
    · have hcap : ro.xs.length ≤ cap := hcap
      have hsize : oo + cap * esz ro.t ≤ cs.size := hsize
      have hrows : RowsIn ro.t ro.xs cs oo fun i j => g.rv id [(i, j)] := hrows
      rw [← hbe] at hsize
      have e2 : a.eval x = .slice (some ⟨b, oo + lo * esz e, none⟩) (hi - lo) (cap - lo) := by
        rw [hx, e1]
        simp only [cutV]
        rw [if_neg (by omega), Option.map_some, addrAdd, ← hbe]
      have m1 : lo * esz e ≤ hi * esz e := Nat.mul_le_mul_right _ h1
      have m2 : hi * esz e ≤ cap * esz e := Nat.mul_le_mul_right _ (by omega)
      have m3 : (hi - lo) * esz e = hi * esz e - lo * esz e := Nat.sub_mul _ _ _
      have hzl : (Builtin.zeroCells zv.cells (hi - lo)).size = hi * esz e - lo * esz e := by rw [size_zeroCells, hzs, m3]
      have hfit : oo + lo * esz e + (Builtin.zeroCells zv.cells (hi - lo)).size ≤ cs.size := by rw [hzl]; omega
      have hcl := run_clear_at (P := P) T el o.type zv hu (fun w => by simp [zeroValue, typeInfo, hi', hz]) (by rw [hzc]; simpa using zvals_one) (by omega) b (oo + lo * esz e) (hi - lo) (cap - lo) (by omega) cs el' hb (by rw [hzs, m3]; omega)
      have hsame := setRow_same w b (putAt cs (oo + lo * esz e) (Builtin.zeroCells zv.cells (hi - lo)))
      have hb' := setRow_heap w b cs (putAt cs (oo + lo * esz e) (Builtin.zeroCells zv.cells (hi - lo))) el' (0, 0) hb
      generalize hW : w.setRow b (putAt cs (oo + lo * esz e) (Builtin.zeroCells zv.cells (hi - lo))) = W at hcl hsame hb'
      refine key W (by rw [e2]; exact hcl) (I.reown hv hmd hfl (clrL_len z h1 h2) (by rw [← hW]; rfl) (by rw [← hW]; rfl) (by rw [← hW]; rfl) ⟨hsame.1, fun k h3 h4 => hsame.2 k h3 fun e => h4 (by subst e; exact hF)⟩
          (.inr ⟨b, oo, cap, _, el', by rw [e1, clrL_len z h1 h2], hF, hb', by rw [clrL_len z h1 h2]; exact hcap, by rw [putAt_size hfit, ← hbe]; exact hsize, ?_⟩))
      intro i y j c0 hy hcc
      have hj := enc_lt hcc
      rw [clrL_get z h1 h2] at hy
      rw [putAt_get hfit, hzl]
      have mi : i * esz ro.t = i * esz e := by rw [hbe]
      have m4 : i < lo → i * esz ro.t + esz ro.t ≤ lo * esz e := fun hi => by
        have : (i + 1) * esz e ≤ lo * esz e := Nat.mul_le_mul_right _ hi
        rw [Nat.add_mul] at this; omega
      have m5 : hi ≤ i → hi * esz e ≤ i * esz ro.t := fun hi => by rw [← hbe]; exact Nat.mul_le_mul_right _ hi
      by_cases hin : lo ≤ i ∧ i < hi
      · rw [if_pos hin] at hy
        cases hy
        have m6 : lo * esz e ≤ i * esz ro.t := by rw [← hbe]; exact Nat.mul_le_mul_right _ hin.1
        have m7 : i * esz ro.t + esz ro.t ≤ hi * esz e := by
          have : (i + 1) * esz e ≤ hi * esz e := Nat.mul_le_mul_right _ hin.2
          rw [Nat.add_mul] at this; omega
        rw [if_pos (by omega)]
        rw [hez] at hcc
        have hj' : j < esz e := by omega
        refine ⟨zv.cells[j]'(by omega), ?_, ?_⟩
        · have hm8 : oo + i * esz ro.t + j - (oo + lo * esz e) = (i - lo) * esz e + j := by
            have : (i - lo) * esz e = i * esz e - lo * esz e := Nat.sub_mul _ _ _
            omega
          rw [hm8]
          have hlt : (i - lo) * esz e + j < (hi - lo) * zv.cells.size := by
            rw [hzs, m3]
            have : (i - lo) * esz e = i * esz e - lo * esz e := Nat.sub_mul _ _ _
            rw [← hbe] at m7 m6; omega
          unfold Builtin.zeroCells
          rw [Array.getElem?_map, Array.getElem?_range, if_pos hlt]
          simp only [Option.map_some, Option.some.injEq]
          have hmod : ((i - lo) * esz e + j) % zv.cells.size = j := by rw [hzs, Nat.mul_comm, Nat.mul_add_mod]; exact Nat.mod_eq_of_lt hj'
          rw [hmod, getElem!_pos zv.cells j (by omega)]
        · rw [List.all_eq_true] at hall
          have := hall c0 (List.mem_of_getElem? hcc)
          cases c0 with
          | v q =>
            simp only [CellIs]
            have hq : (zvals e)[j]? = some q := by simp [zvals, hcc]
            have : zv.cells[j]? = some q := by rw [hzc]; simpa using hq
            rw [Array.getElem?_eq_getElem (by omega)] at this
            exact Option.some.inj this
          | l t' ys => simp [Cv.kind] at this
      · rw [if_neg hin] at hy
        obtain ⟨u, hu', hcu⟩ := hrows i y j c0 hy hcc
        refine ⟨u, ?_, hcu⟩
        rw [if_neg ?_]
        · exact hu'
        · intro h5
          by_cases h6 : i < lo
          · have := m4 h6; omega
          · have := m5 (by omega); omega
end Go.Gm

/- What goes into a call: reading it. -/
namespace Go.Gm
open Go

variable {R : Type} {P : Program} {E : Env} {w0 w : World} {Mf : Nat → Prop} {g : Gh} {st : St} {a : Act} {Q : Exit → Act → World → Prop}
  {o : Oper} {k : Dl → Option R} {r : R} {K : Act → World → Prop}

theorem Inv.nodeP (I : Inv w0 Mf g st a w) {id : Nat} {r : Root} (h : aget st.roots id = some (.live r)) {p : Path} (hp : r.md.nodeAt p = true) {s : Sl} (hs : subR r.t r.xs p = some s) {P : Nat → Prop} (hro : ∀ k, g.ro k → P k) (hr : OwnAt st id → ∀ k, g.rf id k → P k) :
    NodeRd w P s.t s.xs (g.rv id p) fun i j => g.rv id (p ++ [(i, j)]) := by
  have hR := I.roots id r h
  unfold RootRel at hR
  split at hR
  · rename_i hm; exact (hR.rd p s hs).mono (hr ⟨r, h, by rw [hm]; rfl⟩)
  · rename_i hm; exact (hR.rd p s hs).mono fun k hk => hk.elim (hr ⟨r, h, by rw [hm]; rfl⟩ k) (hro k)
  · exact (hR p s hs).mono hro
  · rename_i hm; rw [hm, nodeAt_part] at hp; exact (hR.1 p s hp hs).rd.mono (hr ⟨r, h, by rw [hm]; rfl⟩)
theorem Inv.treeAtP (I : Inv w0 Mf g st a w) {id : Nat} {r : Root} (h : aget st.roots id = some (.live r)) {p : Path} (hp : r.md.treeAt p = true) {s : Sl} (hs : subR r.t r.xs p = some s) {P : Nat → Prop} (hro : ∀ k, g.ro k → P k) (hr : OwnAt st id → ∀ k, g.rf id k → P k) :
    TreeRd w P s.t s.xs fun q => g.rv id (p ++ q) := by
  intro q s' hs'
  have := I.nodeP h (nodeAt_app hp q) (p := p ++ q) (s := s') (by rw [subR_append q hs]; exact hs') hro hr
  simpa [List.append_assoc] using this
theorem Inv.treeP (I : Inv w0 Mf g st a w) {id : Nat} {r : Root} (h : aget st.roots id = some (.live r)) (hp : r.md.treeAt [] = true) {P : Nat → Prop} (hro : ∀ k, g.ro k → P k) (hr : OwnAt st id → ∀ k, g.rf id k → P k) : TreeRd w P r.t r.xs (g.rv id) := by
  have hR := I.roots id r h
  unfold RootRel at hR
  split at hR
  · rename_i hm; exact hR.rd.mono (hr ⟨r, h, by rw [hm]; rfl⟩)
  · rename_i hm; exact hR.rd.mono fun k hk => hk.elim (hr ⟨r, h, by rw [hm]; rfl⟩ k) (hro k)
  · exact hR.mono hro
  · rename_i k hm; rw [hm] at hp; cases k <;> cases hp

theorem Inv.rdScP (I : Inv w0 Mf g st a w) {c : Sc} {q : Option Ty} {k : Cv → Option R} {r : R} {u : Value} (h : Gm.rdSc st c q k = some r) (hc : ScRel w g st c u) {P : Nat → Prop} (hro : ∀ k, g.ro k → P k)
    (hr : ∀ id ∈ c.names.2, OwnAt st id → ∀ k, g.rf id k → P k) : ∃ cv, k cv = some r ∧ CRd w P cv u := by
  unfold Gm.rdSc at h
  split at h
  · exact ⟨_, h, hc.2⟩
  · exact ⟨_, h, rdNil _ _ _ ⟨none, 0, hc.2⟩⟩
  · exact ⟨_, h, RdSl.mono hro hc.2⟩
  · exact ⟨_, h, RdSl.mono hro (I.kro hc.2)⟩
  · rename_i id ver iv p t
    obtain ⟨ro, hv, h⟩ := getRp_some h
    obtain ⟨hta, h⟩ := condN h
    obtain ⟨s, hs, h⟩ := bindS h
    obtain ⟨hu, hsome⟩ := hc.2.2 ro hv.x
    obtain ⟨s', hs'⟩ := Option.isSome_iff_exists.1 hsome
    have := sub_of_subR hs'
    rw [hs] at this; cases this
    refine ⟨_, h, _, ?_, I.treeAtP hv.1 hta hs' hro (hr id (by simp [Sc.names]))⟩
    simpa using hu.symm
  · rename_i id ver lo hi t
    obtain ⟨ro, hv, hver, h⟩ := getR_some h
    obtain ⟨hta, h⟩ := condN h
    obtain ⟨h1, h2, hu⟩ := hc.2.2 ro ⟨.inl hv, hver, validNil _ _⟩
    refine ⟨_, h, ?_⟩
    simp only [CRd, hu]
    exact (I.treeP hv hta hro (hr id (by simp [Sc.names]))).cut h1 h2
  · cases h

theorem Inv.rdLP (I : Inv w0 Mf g st a w) {P : Nat → Prop} (hro : ∀ k, g.ro k → P k) : ∀ {cs : List Sc} {qs : List (Option Ty)} {k : List Cv → Option R} {r : R} {us : List Value}, Gm.rdL st cs qs k = some r → CsL w g st cs us →
    (∀ c ∈ cs, ∀ id ∈ c.names.2, OwnAt st id → ∀ k, g.rf id k → P k) → ∃ cv, k cv = some r ∧ RowL w P cv us
  | [], [], k, r, us, h, hc, _ => by
    cases us with
    | nil => exact ⟨[], h, trivial⟩
    | cons u us => exact hc.elim
  | c :: cs, q :: qs, k, r, us, h, hc, hr => by
    cases us with
    | nil => exact hc.elim
    | cons u us =>
      obtain ⟨cv, h1, h2⟩ := I.rdScP h hc.1 hro (hr c (by simp))
      obtain ⟨cvs, h3, h4⟩ := I.rdLP hro h1 hc.2 (fun c hc => hr c (by simp [hc]))
      exact ⟨cv :: cvs, h3, h2, h4⟩
  | [], _ :: _, k, r, us, h, hc, _ => by cases h
  | _ :: _, [], k, r, us, h, hc, _ => by cases h

theorem svCells_cells {t : Ty} {s : Sv} {cs : List Sc} (h : svCells t s = some cs) : s.cells = cs := by
  unfold svCells at h
  split at h
  · simp only [Option.some.injEq] at h; subst h; rfl
  · simp only [Option.some.injEq] at h; subst h; rfl
  · cases h

theorem Inv.readElP (I : Inv w0 Mf g st a w) {t : Ty} {s : Sv} {k : El t → Option R} {r : R} {u : Value} (h : Gm.readEl st t s k = some r) (hs : SvRel w g st s u) {P : Nat → Prop} (hro : ∀ k, g.ro k → P k)
    (hr : ∀ c ∈ s.cells, ∀ id ∈ c.names.2, OwnAt st id → ∀ k, g.rf id k → P k) : ∃ x, k x = some r ∧ ValRd w P t x u := by
  obtain ⟨cs, hcs, h⟩ := bindS h
  obtain ⟨us, hf, hc⟩ := svCells_sound hcs hs
  have := svCells_cells hcs
  subst this
  obtain ⟨cv, h1, h2⟩ := I.rdLP hro h hc.l hr
  obtain ⟨x, hx, h3⟩ := bindS h1
  refine ⟨x, h3, us, hf, ?_⟩
  rw [← dec_enc hx]
  exact h2.arr

def Sc.isDead : Sc → Bool | .dead => true | _ => false
/-- What may be read in a call: P has all that is read alone, what the named roots hold, and (where boxes are named) the boxes and what they hold. -/
structure RdP (g : Gh) (st : St) (P : Nat → Prop) (s : Sv) : Prop where
  ro : ∀ k, g.ro k → P k
  r : ∀ c ∈ s.cells, ∀ id ∈ c.names.2, OwnAt st id → ∀ k, g.rf id k → P k
  b : (∀ c ∈ s.cells, c.names.1 = []) ∨ ((∀ b x, aget st.boxes b = some x → (∃ c ∈ x.cs, c.isDead = false) → P (g.bx b)) ∧ ∀ id, OwnAt st id → ∀ k, g.rf id k → P k)

theorem RpRel.mono {P Q : Nat → Prop} (hPQ : ∀ k, P k → Q k) {t : Ty} {x : El t} {off : Nat} {u : Value} (h : RpRel w P t x off u) : RpRel w Q t x off u := by
  obtain ⟨b, oo, cs, el, fz, h1, h2, h3, h4⟩ := h
  exact ⟨b, oo, cs, el, fz, h1, hPQ _ h2, h3, fun j c hj => let ⟨z, hz, hc⟩ := h4 j c hj; ⟨z, hz, hc.mono hPQ⟩⟩

theorem rdL_live : ∀ {cs : List Sc} {qs : List (Option Ty)} {k : List Cv → Option R} {r : R}, rdL st cs qs k = some r → ∀ c ∈ cs, c.isDead = false
  | [], _, _, _, _, c, hc => by simp at hc
  | c :: cs, [], _, _, h, _, _ => by cases h
  | c :: cs, q :: qs, k, r, h, c', hc => by
    simp only [Gm.rdL] at h
    have : c.isDead = false ∧ ∃ cv, rdL st cs qs (fun xs => k (cv :: xs)) = some r := by
      unfold Gm.rdSc at h
      split at h
      · exact ⟨rfl, _, h⟩
      · exact ⟨rfl, _, h⟩
      · exact ⟨rfl, _, h⟩
      · exact ⟨rfl, _, h⟩
      · obtain ⟨ro, _, h⟩ := getRp_some h
        obtain ⟨_, h⟩ := condN h
        obtain ⟨s, _, h⟩ := bindS h
        exact ⟨rfl, _, h⟩
      · obtain ⟨ro, _, _, h⟩ := getR_some h
        obtain ⟨_, h⟩ := condN h
        exact ⟨rfl, _, h⟩
      · cases h
    obtain ⟨h1, cv, h2⟩ := this
    rcases List.mem_cons.1 hc with rfl | hc
    · exact h1
    · exact rdL_live h2 c' hc

/-- A variable in memory, read through a pointer to it. -/
theorem Inv.boxRp (I : Inv w0 Mf g st a w) {b : Nat} {x : Bx} (hb : aget st.boxes b = some x) {k : El x.t → Option R} {r : R} (h : (Gm.rdL st x.cs (kinds x.t) fun cv => (dec x.t cv).bind k) = some r) {P : Nat → Prop}
    (hP : (∀ b x, aget st.boxes b = some x → (∃ c ∈ x.cs, c.isDead = false) → P (g.bx b)) ∧ ∀ id, OwnAt st id → ∀ k, g.rf id k → P k) (hro : ∀ k, g.ro k → P k) :
    ∃ y, k y = some r ∧ RpRel w P x.t y 0 (.pointer (some ⟨g.bx b, 0, none⟩)) := by
  obtain ⟨us, el, h1, h2⟩ := I.boxes b x hb
  obtain ⟨cv, h3, h4⟩ := I.rdLP hro h h2.l (fun c _ id _ => hP.2 id)
  obtain ⟨y, hy, h5⟩ := bindS h3
  have hcv := dec_enc hy
  subst hcv
  have hpos : 0 < x.cs.length := by
    have e1 := h4.len
    have e2 := h2.1
    rw [enc_length] at e1
    have := esz_pos x.t
    simp at e1; omega
  refine ⟨y, h5, g.bx b, 0, us, el, _, rfl, hP.1 b x hb ⟨x.cs[0], List.getElem_mem hpos, ?_⟩, h1, fun j c hj => ?_⟩
  · exact rdL_live h _ (List.getElem_mem hpos)
  · obtain ⟨z, hz, hc⟩ := h4.get j c hj
    exact ⟨z, by simpa using hz, hc⟩

theorem Inv.capRow (I : Inv w0 Mf g st a w) {P : Nat → Prop} (hP : (∀ b x, aget st.boxes b = some x → (∃ c ∈ x.cs, c.isDead = false) → P (g.bx b)) ∧ ∀ id, OwnAt st id → ∀ k, g.rf id k → P k) (hro : ∀ k, g.ro k → P k) :
    ∀ {bs : List Nat} {k : List (Σ t : Ty, El t) → Option R} {r : R}, Gm.capRow st bs k = some r → ∃ ys, k ys = some r ∧ ys.length = bs.length ∧
      ∀ (i : Nat) (y : Σ t : Ty, El t) (b : Nat), ys[i]? = some y → bs[i]? = some b → RpRel w P y.1 y.2 0 (.pointer (some ⟨g.bx b, 0, none⟩))
  | [], k, r, h => ⟨[], h, rfl, fun i y b h => by simp at h⟩
  | b :: bs, k, r, h => by
    obtain ⟨x, hx, h⟩ := bindS h
    obtain ⟨y, h, hy⟩ := I.boxRp hx h hP hro
    obtain ⟨ys, h1, h2, h3⟩ := I.capRow hP hro h
    refine ⟨⟨x.t, y⟩ :: ys, h1, by simp [h2], fun i y' b' hi hb => ?_⟩
    cases i with
    | zero => simp only [List.getElem?_cons_zero, Option.some.injEq] at hi hb; subst hi; subst hb; exact hy
    | succ i => exact h3 i y' b' (by simpa using hi) (by simpa using hb)

theorem Kl.nil {wl : World} {t : Ty} {u : Value} (h : u = .slice none 0 0) : Kl wl t [] u := rdNil _ _ _ ⟨none, 0, h⟩
theorem rdK_sound {c : Sc} {q : Option Ty} {cv : Cv} {u : Value} (h : rdK c q = some cv) (hc : ScRel w g st c u) : CKl g.n.wl cv u := by
  unfold rdK at h
  split at h
  · cases h; exact hc.2
  · cases h; exact Kl.nil hc.2
  · cases h; exact hc.2
  · cases h
theorem rdKL_sound {cs : List Sc} {qs : List (Option Ty)} {cv : List Cv} {us : Array Value} (h : rdKL cs qs = some cv) (hc : CsL w g st cs us.toList) : RowKl g.n.wl cv us := by
  have key : ∀ {cs : List Sc} {qs : List (Option Ty)} {cv : List Cv} {us : List Value}, rdKL cs qs = some cv → CsL w g st cs us → us.length = cv.length ∧ ∀ (j : Nat) c, cv[j]? = some c → ∃ z, us[j]? = some z ∧ CKl g.n.wl c z := by
    intro cs
    induction cs with
    | nil =>
      intro qs cv us h hc
      cases qs with
      | cons _ _ => cases h
      | nil =>
        cases h
        cases us with
        | nil => exact ⟨rfl, fun j c hj => by simp at hj⟩
        | cons _ _ => exact hc.elim
    | cons c cs ih =>
      intro qs cv us h hc
      cases qs with
      | nil => cases h
      | cons q qs =>
        simp only [rdKL] at h
        obtain ⟨x, hx, h⟩ := bindS h
        obtain ⟨xs, hxs, h⟩ := bindS h
        cases h
        cases us with
        | nil => exact hc.elim
        | cons u us =>
          obtain ⟨h1, h2⟩ := ih hxs hc.2
          refine ⟨by simp [h1], fun j c' hj => ?_⟩
          cases j with
          | zero => simp only [List.getElem?_cons_zero, Option.some.injEq] at hj; subst hj; exact ⟨u, rfl, rdK_sound hx hc.1⟩
          | succ j => simpa using h2 j c' (by simpa using hj)
  obtain ⟨h1, h2⟩ := key h hc
  exact ⟨by simpa using h1, fun j c hj => by simpa using h2 j c hj⟩
theorem Kl.flat {wl : World} {t : Ty} {xs : List (El t)} {u : Value} (h : Kl wl t xs u) : flatB u = true := by
  obtain ⟨av, h0, hav⟩ := h
  obtain ⟨ad, cap, e, _⟩ := hav [] _ rfl
  rw [h0] at e; subst e; rfl
theorem impK_sound {cvs : List Cv} {us : Array Value} (h : RowKl g.n.wl cvs us) (hf : ∀ x, .v x ∈ cvs → flatB x = true) : CsRel w g st (impK cvs) us := by
  refine ⟨by simpa [impK] using h.1, fun j c hj => ?_⟩
  simp only [impK, List.getElem?_map] at hj
  cases hc : cvs[j]? with
  | none => simp [hc] at hj
  | some cv =>
    simp only [hc, Option.map_some, Option.some.injEq] at hj
    obtain ⟨z, hz, hk⟩ := h.2 j cv hc
    refine ⟨z, hz, ?_⟩
    cases cv with
    | v x =>
      subst hj
      have hk : z = x := hk
      subst hk
      exact ⟨hf z (List.mem_of_getElem? hc), rfl⟩
    | l t xs =>
      subst hj
      exact ⟨Kl.flat hk, hk⟩

/-- What is only read. -/
theorem Inv.passRd (I : Inv w0 Mf g st a w) {m : Am} (hm : m.reads = true) {T : Nat} {s : Sv} {u : Value} (hs : SvRel w g st s u) {k : Dt → List Bk → St → Dl → Option R} {r : R} (h : passArg E m T s st k = some r)
    {P : Nat → Prop} (hP : RdP g st P s) : ∃ d, k d [] st {} = some r ∧ ∀ F, ArgOk g.n.wl w P m d u F := by
  cases m with
  | ro =>
    obtain ⟨t, ht, h⟩ := bindS h
    obtain ⟨x, h, hx⟩ := I.readElP h hs hP.ro hP.r
    exact ⟨_, h, fun _ => hx⟩
  | pro =>
    simp only [passArg] at h
    split at h
    · rename_i b
      obtain ⟨x, hx, h⟩ := bindS h
      have hb := hP.b.resolve_left fun hn => by simpa [Sv.cells, Cm.cells, Sc.names] using hn (.pt b 0) (by simp [Sv.cells, Cm.cells])
      obtain ⟨y, h, hy⟩ := I.boxRp hx h hb hP.ro
      have hu : u = .pointer (some ⟨g.bx b, 0, none⟩) := hs.2.1
      subst hu
      exact ⟨_, h, fun _ => hy⟩
    · rename_i t x
      exact ⟨_, h, fun _ => RpRel.mono hP.ro hs.2⟩
    · cases h
  | fn =>
    simp only [passArg] at h
    split at h
    · rename_i f bs
      obtain ⟨hu, hbs⟩ := hs.2
      by_cases hbn : bs = []
      · subst hbn
        exact ⟨_, h, fun _ => ⟨[], by rw [hu]; rfl, rfl, fun i y q h => by simp at h⟩⟩
      · have hb := hP.b.resolve_left fun hn => by
          have := hn (.clo f bs) (by simp [Sv.cells, Cm.cells])
          exact hbn this
        obtain ⟨ys, h, hl, hy⟩ := I.capRow hb hP.ro h
        refine ⟨_, h, fun _ => ⟨bs.map fun b => .pointer (some ⟨g.bx b, 0, none⟩), hu, by simp [hl], fun i y q hi hq => ?_⟩⟩
        rw [List.getElem?_map] at hq
        cases hbi : bs[i]? with
        | none => simp [hbi] at hq
        | some b =>
          simp only [hbi, Option.map_some, Option.some.injEq] at hq
          subst hq
          exact hy i y b hi hbi
    · rename_i f ys
      obtain ⟨ps, h1, h2, h3⟩ := hs.2
      exact ⟨_, h, fun _ => ⟨ps, h1, h2, fun i y q hy hq => RpRel.mono hP.ro (h3 i y q hy hq)⟩⟩
    · cases h
  | skp =>
    simp only [passArg] at h
    split at h
    · rename_i c
      exact ⟨_, h, fun _ => hs.1⟩
    · cases h
  | kp =>
    obtain ⟨t, ht, h⟩ := bindS h
    obtain ⟨cs, hcs, h⟩ := bindS h
    obtain ⟨us, hf, hc⟩ := svCells_sound hcs hs
    obtain ⟨cv, hcv, h⟩ := bindS h
    obtain ⟨x, hx, h⟩ := bindS h
    have hr := rdKL_sound hcv hc.l
    refine ⟨_, h, fun _ => ⟨us, hf, ?_⟩⟩
    rw [← dec_enc hx]
    exact hr
  | «mut» => cases hm
  | mov => cases hm
  | pmut => cases hm

end Go.Gm

/- What goes into a call: what is handed over or lent. -/
namespace Go.Gm
open Go

variable {R : Type} {P : Program} {E : Env} {w0 w : World} {Mf : Nat → Prop} {g : Gh} {st : St} {a : Act} {Q : Exit → Act → World → Prop}
  {o : Oper} {k : Dl → Option R} {r : R} {K : Act → World → Prop}

theorem asets_get {α : Type} : ∀ (L : List (Nat × α)) (l : List (Nat × α)) (n : Nat), aget (asets l L) n = (aget (asets [] L) n).or (aget l n)
  | [], l, n => by simp [asets, aget]
  | (m, v) :: L, l, n => by
    simp only [asets]
    rw [asets_get L (aset l m v) n, asets_get L (aset [] m v) n]
    cases h : aget (asets [] L) n with
    | some x => simp
    | none =>
      simp only [Option.none_or, aget_aset]
      by_cases e : n = m
      · simp [e]
      · simp [e, aget]

def nd (st : St) (b : Nat) : Prop := ∃ x, aget st.boxes b = some x ∧ ∃ c ∈ x.cs, c.isDead = false
theorem nd.at {b : Nat} (h : nd st b) : BoxAt st b := by obtain ⟨x, hx, _⟩ := h; simp [BoxAt, hx]

/-- From st to st1, things are handed over or lent: H are their blocks. -/
structure Lnd (g : Gh) (w : World) (st st1 : St) (bs : List Bk) (d : Dl) (H : Nat → Prop) : Prop where
  own : ∀ id, OwnAt st1 id → OwnAt st id
  live : ∀ id r, aget st1.roots id = some (.live r) → aget st.roots id = some (.live r)
  lent : ∀ id r, aget st.roots id = some (.lent r) → aget st1.roots id = some (.lent r)
  map : ∀ c u, ScRel w g st c u → ScRel w g st1 c u
  box : ∀ b, BoxAt st1 b ↔ BoxAt st b
  nd : ∀ b, nd st1 b → nd st b
  src : ∀ k, H k → (∃ id, OwnAt st id ∧ g.rf id k) ∨ (∃ b, Gm.nd st b ∧ ¬ Gm.nd st1 b ∧ .box b ∈ bs ∧ g.bx b = k)
  off : ∀ k, H k → ∀ id, OwnAt st1 id → ¬ g.rf id k
  roots : ∀ id, (∀ r p, .root id r p ∉ bs) → aget st1.roots id = aget (asets st.roots d.roots) id
  boxes : ∀ b, aget st1.boxes b = aget (asets st.boxes d.boxes) b
  slots : st1.slots = st.slots
  noslot : d.slot = none
  keyr : ∀ id r p, .root id r p ∈ bs → OwnAt st id ∧ ¬ OwnAt st1 id
  keyb : ∀ b, .box b ∈ bs → Gm.nd st b ∧ ¬ Gm.nd st1 b

theorem Lnd.refl : Lnd g w st st [] {} (fun _ => False) :=
  ⟨fun _ h => h, fun _ _ h => h, fun _ _ h => h, fun _ _ h => h, fun _ => .rfl, fun _ h => h, fun _ h => h.elim, fun _ h => h.elim, fun _ _ => rfl, fun _ => rfl, rfl, rfl, fun _ _ _ h => by simp at h, fun _ h => by simp at h⟩
theorem Lnd.trans {s1 s2 s3 : St} {bs cs : List Bk} {d e : Dl} {H G : Nat → Prop} (h : Lnd g w s1 s2 bs d H) (k : Lnd g w s2 s3 cs e G) : Lnd g w s1 s3 (bs ++ cs) { boxes := d.boxes ++ e.boxes, roots := d.roots ++ e.roots } (fun n => H n ∨ G n) := {
  own := fun id hi => h.own id (k.own id hi)
  live := fun id r hr => h.live id r (k.live id r hr)
  lent := fun id r hr => k.lent id r (h.lent id r hr)
  map := fun c u hc => k.map c u (h.map c u hc)
  box := fun b => (k.box b).trans (h.box b)
  nd := fun b hb => h.nd b (k.nd b hb)
  src := fun n hn => by
    rcases hn with hn | hn
    · rcases h.src n hn with h1 | ⟨b, h1, h2, h3, h4⟩
      · exact .inl h1
      · exact .inr ⟨b, h1, fun h => h2 (k.nd b h), List.mem_append_left _ h3, h4⟩
    · rcases k.src n hn with ⟨id, h1, h2⟩ | ⟨b, h1, h2, h3, h4⟩
      · exact .inl ⟨id, h.own id h1, h2⟩
      · exact .inr ⟨b, h.nd b h1, h2, List.mem_append_right _ h3, h4⟩
  off := fun n hn id hi => hn.elim (fun hn => h.off n hn id (k.own id hi)) fun hn => k.off n hn id hi
  roots := fun id hid => by
    rw [k.roots id fun r p hm => hid r p (List.mem_append_right _ hm), asets_get, h.roots id fun r p hm => hid r p (List.mem_append_left _ hm)]
    simp only [asets_append]
    exact (asets_get e.roots _ id).symm
  boxes := fun b => by
    rw [k.boxes b, asets_get, h.boxes b]
    simp only [asets_append]
    exact (asets_get e.boxes _ b).symm
  slots := k.slots.trans h.slots
  noslot := rfl
  keyr := fun id r p hm => by
    rcases List.mem_append.1 hm with hm | hm
    · exact ⟨(h.keyr id r p hm).1, fun h2 => (h.keyr id r p hm).2 (k.own id h2)⟩
    · exact ⟨h.own id (k.keyr id r p hm).1, (k.keyr id r p hm).2⟩
  keyb := fun b hm => by
    rcases List.mem_append.1 hm with hm | hm
    · exact ⟨(h.keyb b hm).1, fun h2 => (h.keyb b hm).2 (k.nd b h2)⟩
    · exact ⟨h.nd b (k.keyb b hm).1, (k.keyb b hm).2⟩ }
theorem Took.lnd {st1 : St} {ups : List (Nat × Rt)} {Fs : List (Nat → Prop)} (T : Took w g st st1 ups Fs) : Lnd g w st st1 [] { roots := ups } (Any Fs) := {
  own := T.own
  live := T.live
  lent := T.lent
  map := T.map
  box := fun b => by rw [T.eq]; exact .rfl
  nd := fun b h => by rw [T.eq] at h; exact h
  src := fun k ⟨F, hF, hk⟩ => .inl (T.src F hF k hk)
  off := fun k ⟨F, hF, hk⟩ => T.off F hF k hk
  roots := fun id _ => by rw [T.eq]
  boxes := fun b => by rw [T.eq]; rfl
  slots := by rw [T.eq]
  noslot := rfl
  keyr := fun _ _ _ h => by simp at h
  keyb := fun _ h => by simp at h }
/-- What is kept back of an argument until the call is over. -/
def HeldOne (w : World) (g : Gh) (st1 : St) (m : Am) (u : Value) (F : Nat → Prop) (bk : List Bk) (H : Nat → Prop) : Prop :=
  match m with
  | .mut => ∃ id r p s, bk = [.root id r p] ∧ aget st1.roots id = some (.lent r) ∧ r.md = .deep ∧ TreeOwn w (g.rf id) r.t r.xs (g.rv id) ∧ subR r.t r.xs p = some s ∧ u = g.rv id p ∧ (∀ k, F k ↔ Under r.t r.xs (g.rv id) p k) ∧ H = g.rf id
  | .pmut => ∃ b, bk = [.box b] ∧ ¬ nd st1 b ∧ BoxAt st1 b ∧ u = .pointer (some ⟨g.bx b, 0, none⟩) ∧ H = F ∧ F (g.bx b)
  | _ => bk = [] ∧ H = F

theorem HeldOne.keep {st1 st2 : St} (hl : ∀ id r, aget st1.roots id = some (.lent r) → aget st2.roots id = some (.lent r)) (hn : ∀ b, nd st2 b → nd st1 b) (hb : ∀ b, BoxAt st1 b → BoxAt st2 b) {m : Am} {u : Value} {F : Nat → Prop} {bk : List Bk} {H : Nat → Prop}
    (h : HeldOne w g st1 m u F bk H) : HeldOne w g st2 m u F bk H := by
  cases m with
  | «mut» => obtain ⟨id, r, p, s, h1, h2, h3⟩ := h; exact ⟨id, r, p, s, h1, hl _ _ h2, h3⟩
  | pmut => obtain ⟨b, h1, h2, h3, h4⟩ := h; exact ⟨b, h1, fun h => h2 (hn b h), hb b h3, h4⟩
  | _ => exact h

theorem Inv.passMov (I : Inv w0 Mf g st a w) {T : Nat} {s : Sv} {u : Value} (hs : SvRel w g st s u) {k : Dt → List Bk → St → Dl → Option R} {r : R} (h : passArg E .mov T s st k = some r) :
    ∃ d bk st1 δ F H, k d bk st1 δ = some r ∧ Inv w0 Mf g st1 a w ∧ (∀ P, ArgOk g.n.wl w P .mov d u F) ∧ HeldOne w g st1 .mov u F bk H ∧ Lnd g w st st1 bk δ H := by
  obtain ⟨t, ht, h⟩ := bindS h
  obtain ⟨x, us, d, st1, ups, Gs, h, hf, I1, T, hA⟩ := I.absEl h hs
  obtain ⟨hd, h⟩ := condN h
  exact ⟨_, _, _, _, Any Gs, Any Gs, h, I1, fun P => ⟨us, hf, by simpa using hA.row hd T.apart⟩, ⟨rfl, rfl⟩, T.lnd⟩

theorem lendMap {id : Nat} {ro : Root} (h : aget st.roots id = some (.live ro)) : ∀ c u, ScRel w g st c u → ScRel w g { st with roots := aset st.roots id (.lent ro) } c u := by
  have hv : ∀ id' ver iv, verOk st id' ver iv → verOk { st with roots := aset st.roots id (.lent ro) } id' ver iv := by
    intro id' ver iv hv
    by_cases hid : id' = id
    · subst hid
      rw [verOk_at (.inr (aget_aset_self _ _ _))]
      exact (verOk_at (.inl h)).1 hv
    · unfold verOk at hv ⊢
      simp only [aget_aset_ne _ _ hid]; exact hv
  have hx : ∀ id' ver iv p r', Vx { st with roots := aset st.roots id (.lent ro) } id' ver iv p r' → Vx st id' ver iv p r' := by
    intro id' ver iv p r' ⟨h1, h2, h3⟩
    simp only [aget_aset] at h1
    by_cases hid : id' = id
    · subst hid
      simp only [if_true, Option.some.injEq, reduceCtorEq, Rt.lent.injEq, false_or] at h1
      subst h1; exact ⟨.inl h, h2, h3⟩
    · simp only [hid, if_false] at h1; exact ⟨h1, h2, h3⟩
  exact fun c u hc => ⟨hc.1, ScR.roots (st := st) (fun b hb => hb) hv (fun _ _ _ _ _ _ h => hx _ _ _ _ _ h) hc.2⟩

theorem Inv.passMut (I : Inv w0 Mf g st a w) {T : Nat} {s : Sv} {u : Value} (hs : SvRel w g st s u) {k : Dt → List Bk → St → Dl → Option R} {r : R} (h : passArg E .mut T s st k = some r) :
    ∃ d bk st1 δ F H, k d bk st1 δ = some r ∧ Inv w0 Mf g st1 a w ∧ (∀ P, ArgOk g.n.wl w P .mut d u F) ∧ HeldOne w g st1 .mut u F bk H ∧ Lnd g w st st1 bk δ H := by
  simp only [passArg] at h
  split at h
  case h_2 => cases h
  rename_i id ver iv p
  obtain ⟨ro, hro, h⟩ := getRp_some h
  obtain ⟨hdeep, h⟩ := condN h
  obtain ⟨s1, hs1, h⟩ := bindS h
  obtain ⟨hu, hsome⟩ := hs.2.2 ro hro.x
  obtain ⟨s', hs'⟩ := Option.isSome_iff_exists.1 hsome
  have := sub_of_subR hs'
  rw [hs1] at this; cases this
  have hmd : ro.md = .deep := by cases hq : ro.md <;> simp_all [Md.isDeep]
  have htr : TreeOwn w (g.rf id) ro.t ro.xs (g.rv id) := by have := I.roots id ro hro.1; unfold RootRel at this; rw [hmd] at this; exact this
  have hat : OwnAt st id := ⟨ro, hro.1, by rw [hmd]; rfl⟩
  have I1 := I.lend hro.1
  have ho : ∀ id', OwnAt { st with roots := aset st.roots id (.lent ro) } id' → id' ≠ id ∧ OwnAt st id' := fun id' ⟨r', h1, h2⟩ => by
    simp only [aget_aset] at h1
    by_cases hid : id' = id
    · simp [hid] at h1
    · exact ⟨hid, r', by simpa [hid] using h1, h2⟩
  refine ⟨_, _, _, _, Under ro.t ro.xs (g.rv id) p, g.rf id, h, I1, fun P => ⟨s1.t, s1.xs, rfl, fun q => g.rv id (p ++ q), by simpa using hu.symm, htr.at hs'⟩,
    ⟨id, ro, p, s1, rfl, aget_aset_self _ _ _, hmd, htr, hs', hu, fun _ => .rfl, rfl⟩, ?_⟩
  exact {
    own := fun id' h => (ho id' h).2
    live := fun id' r' h => by
      simp only [aget_aset] at h
      by_cases hid : id' = id
      · simp [hid] at h
      · simpa [hid] using h
    lent := fun id' r' hlent => by
      simp only [aget_aset]
      by_cases hid : id' = id
      · rw [hid, hro.1] at hlent; cases hlent
      · simpa [hid] using hlent
    map := lendMap hro.1
    box := fun _ => .rfl
    nd := fun _ h => h
    src := fun k hk => .inl ⟨id, hat, hk⟩
    off := fun k hk id' h h3 => (ho id' h).1 (I.apart.rr id' id k (ho id' h).2 hat h3 hk)
    roots := fun id' hid => by
      have : id' ≠ id := fun e => hid ro p (by rw [e]; simp)
      simp only [asets]
      rw [aget_aset_ne _ _ this]
    boxes := fun _ => rfl
    slots := rfl
    noslot := rfl
    keyr := fun id' r' p' hm => by
      simp only [List.mem_singleton, Bk.root.injEq] at hm
      rw [hm.1]
      exact ⟨hat, fun h => (ho id h).1 rfl⟩
    keyb := fun _ h => by simp at h }

end Go.Gm

/- What goes into a call: all of it. -/
namespace Go.Gm
open Go

variable {R : Type} {P : Program} {E : Env} {w0 w : World} {Mf : Nat → Prop} {g : Gh} {st : St} {a : Act} {Q : Exit → Act → World → Prop}
  {o : Oper} {k : Dl → Option R} {r : R} {K : Act → World → Prop}

theorem absL_live : ∀ {cs : List Sc} {st : St} {qs : List (Option Ty)} {k : List Cv → Bool → St → List (Nat × Rt) → Option R} {r : R}, absL st cs qs k = some r → ∀ c ∈ cs, c.isDead = false
  | [], _, _, _, _, _, c, hc => by simp at hc
  | c :: cs, _, [], _, _, h, _, _ => by cases h
  | c :: cs, st, q :: qs, k, r, h, c', hc => by
    simp only [Gm.absL] at h
    have : c.isDead = false ∧ ∃ st' d cv u, absL st' cs qs (fun xs d' st'' u' => k (cv :: xs) (d && d') st'' (u ++ u')) = some r := by
      unfold Gm.absSc at h
      split at h
      · exact ⟨rfl, _, _, _, _, h⟩
      · exact ⟨rfl, _, _, _, _, h⟩
      · exact ⟨rfl, _, _, _, _, h⟩
      · exact ⟨rfl, _, _, _, _, h⟩
      · obtain ⟨ro, _, _, h⟩ := getR_some h
        obtain ⟨_, h⟩ := condN h
        cases hf : ro.md.isFrz
        · simp only [hf, cond_false] at h; exact ⟨rfl, _, _, _, _, h⟩
        · simp only [hf, cond_true] at h; exact ⟨rfl, _, _, _, _, h⟩
      · obtain ⟨ro, _, _, h⟩ := getR_some h
        obtain ⟨_, h⟩ := condN h
        cases hf : ro.md.isFrz
        · simp only [hf, cond_false] at h; exact ⟨rfl, _, _, _, _, h⟩
        · simp only [hf, cond_true] at h; exact ⟨rfl, _, _, _, _, h⟩
      · cases h
    obtain ⟨h1, _, _, _, _, h2⟩ := this
    rcases List.mem_cons.1 hc with rfl | hc
    · exact h1
    · exact absL_live h2 c' hc

theorem rdKL_live : ∀ {cs : List Sc} {qs : List (Option Ty)} {cv : List Cv}, rdKL cs qs = some cv → ∀ c ∈ cs, c.isDead = false
  | [], _, _, _, c, hc => by simp at hc
  | _ :: _, [], _, h, _, _ => by cases h
  | c :: cs, q :: qs, cv, h, c', hc => by
    simp only [rdKL] at h
    obtain ⟨x, hx, h⟩ := bindS h
    obtain ⟨xs, hxs, h⟩ := bindS h
    rcases List.mem_cons.1 hc with rfl | hc
    · cases c' <;> first | rfl | (cases q <;> cases hx)
    · exact rdKL_live hxs c' hc

theorem RowOwn.mono {F G : Nat → Prop} (hFG : ∀ k, F k → G k) {cs : List Cv} {us : Array Value} (h : RowOwn w F cs us) : RowOwn w G cs us := by
  obtain ⟨Fs, h1, h2, h3, h4⟩ := h
  exact ⟨Fs, fun j k hk => hFG k (h1 j k hk), h2, h3, h4⟩

theorem Inv.passPmut (I : Inv w0 Mf g st a w) {T : Nat} {s : Sv} {u : Value} (hs : SvRel w g st s u) {k : Dt → List Bk → St → Dl → Option R} {r : R} (h : passArg E .pmut T s st k = some r) :
    ∃ d bk st1 δ F H, k d bk st1 δ = some r ∧ Inv w0 Mf g st1 a w ∧ (∀ P, ArgOk g.n.wl w P .pmut d u F) ∧ HeldOne w g st1 .pmut u F bk H ∧ Lnd g w st st1 bk δ H := by
  simp only [passArg] at h
  split at h
  case h_2 => cases h
  rename_i b
  obtain ⟨x, hx, h⟩ := bindS h
  obtain ⟨us, el, hb, hcs⟩ := I.boxes b x hx
  have core : ∃ cv st1 ups Gs y, k (.d x.t y) [.box b] { st1 with boxes := aset st1.boxes b ⟨x.t, x.cs.map fun _ => .dead⟩ } { boxes := [(b, ⟨x.t, x.cs.map fun _ => .dead⟩)], roots := ups } = some r ∧ Inv w0 Mf g st1 a w ∧ Took w g st st1 ups Gs ∧ cv = enc x.t y ∧
      us.size = cv.length ∧ RowPt g.n.wl (shr x.t) w (Any Gs) cv us ∧ ∀ c ∈ x.cs, c.isDead = false := by
    unfold absB at h
    cases hsh : shr x.t
    · rw [hsh] at h
      simp only [cond_false] at h
      have h0 := h
      obtain ⟨cv, d, st1, ups, Gs, h, I1, T, hA⟩ := I.absL h hcs.l
      obtain ⟨hd, h⟩ := condN h
      obtain ⟨y, hy, hfin⟩ := bindS h
      have hrow := hA.row hd T.apart
      rw [Array.toArray_toList] at hrow
      have := hA.len.1
      exact ⟨cv, st1, ups, Gs, y, hfin, I1, T, (dec_enc hy), by simpa using this, hrow, absL_live h0⟩
    · rw [hsh] at h
      simp only [cond_true] at h
      obtain ⟨cv, hcv, h⟩ := bindS h
      obtain ⟨y, hy, hfin⟩ := bindS h
      have hr := rdKL_sound hcv hcs.l
      exact ⟨cv, st, [], [], y, hfin, I, Took.refl _ _ _, (dec_enc hy), hr.1, hr, rdKL_live hcv⟩
  clear h
  obtain ⟨cv, st1, ups, Gs, y, hfin, I1, T, hcv, hlen0, hrow, hlv⟩ := core
  subst hcv
  have hu : u = .pointer (some ⟨g.bx b, 0, none⟩) := hs.2.1
  have hat : BoxAt st b := by simp [BoxAt, hx]
  have hat1 : BoxAt st1 b := by rw [T.eq]; exact hat
  have hus : us.size = x.cs.length := hcs.1
  have hsame : SameBut (fun k => k = g.bx b) w w := ⟨Nat.le_refl _, fun _ _ _ => rfl⟩
  have hdead : CsRel w g st1 (x.cs.map fun _ => Sc.dead) us := ⟨by simpa using hus, fun j c hj => by
    rw [List.getElem?_map] at hj
    cases hc : x.cs[j]? with
    | none => simp [hc] at hj
    | some c0 =>
      simp only [hc, Option.map_some, Option.some.injEq] at hj
      subst hj
      obtain ⟨z, hz, hr⟩ := hcs.2 j c0 hc
      exact ⟨z, hz, hr.1, trivial⟩⟩
  have I2 := I1.writeBox (t := x.t) hat1 hsame I1.kept hb hdead
  have hlen : 0 < x.cs.length := by
    rw [enc_length] at hlen0
    have := esz_pos x.t
    omega
  have hgs : ∀ k, Any Gs k → k ≠ g.bx b := fun k ⟨F, hF, hk⟩ e => by
    obtain ⟨id, h1, h2⟩ := T.src F hF k hk
    exact I.apart.rb id b h1 hat (e ▸ h2)
  have hnd : ¬ nd { st1 with boxes := aset st1.boxes b ⟨x.t, x.cs.map fun _ => .dead⟩ } b := by
    rintro ⟨x', hx', c, hc, hcd⟩
    simp only [aget_aset_self, Option.some.injEq] at hx'
    subst hx'
    simp only [List.mem_map] at hc
    obtain ⟨_, _, rfl⟩ := hc
    cases hcd
  have hbox : ∀ b', BoxAt { st1 with boxes := aset st1.boxes b ⟨x.t, x.cs.map fun _ => .dead⟩ } b' ↔ BoxAt st b' := fun b' => by
    have e : st1.boxes = st.boxes := by rw [T.eq]
    simp only [BoxAt, aget_aset, e]
    by_cases hbb : b' = b
    · subst hbb; simpa [BoxAt] using hat
    · simp [hbb]
  have L := T.lnd
  refine ⟨_, _, _, _, fun k => k = g.bx b ∨ Any Gs k, fun k => k = g.bx b ∨ Any Gs k, hfin, I2, fun P => ⟨g.bx b, us, el, hu, .inl rfl, hb, ?_⟩, ⟨b, rfl, hnd, (hbox b).2 hat, hu, rfl, .inl rfl⟩, ?_⟩
  · revert hrow
    cases shr x.t
    · exact fun hrow => RowOwn.mono (fun k hk => ⟨.inr hk, hgs k hk⟩) hrow
    · exact fun hrow => hrow
  · exact {
      own := T.own
      live := T.live
      lent := T.lent
      map := fun c u hc => by
        have := T.map c u hc
        exact ⟨this.1, ScR.roots (st := st1) (fun b' hb' => by
          simp only [aget_aset]; split
          · rfl
          · exact hb') (fun _ _ _ h => h) (fun _ _ _ _ _ _ h => h) this.2⟩
      box := hbox
      nd := fun b' hb' => by
        by_cases e : b' = b
        · subst e; exact (hnd hb').elim
        · obtain ⟨x', hx', hh⟩ := hb'
          simp only [aget_aset, e, if_false] at hx'
          rw [T.eq] at hx'
          exact ⟨x', hx', hh⟩
      src := fun k hk => by
        rcases hk with rfl | hk
        · exact .inr ⟨b, ⟨x, hx, x.cs[0], List.getElem_mem hlen, hlv _ (List.getElem_mem hlen)⟩, hnd, by simp, rfl⟩
        · rcases L.src k hk with h1 | ⟨_, _, _, h3, _⟩
          · exact .inl h1
          · simp at h3
      off := fun k hk id hi h3 => by
        rcases hk with rfl | hk
        · exact I.apart.rb id b (T.own id hi) hat h3
        · exact L.off k hk id hi h3
      roots := fun id _ => by simp only; rw [T.eq]
      boxes := fun b' => by simp only [asets]; rw [T.eq]
      slots := by simp only; rw [T.eq]
      noslot := rfl
      keyr := fun _ _ _ h => by simp at h
      keyb := fun b' hm => by
        simp only [List.mem_singleton, Bk.box.injEq] at hm
        subst hm
        exact ⟨⟨x, hx, x.cs[0], List.getElem_mem hlen, hlv _ (List.getElem_mem hlen)⟩, hnd⟩ }

/-- The arguments, each with what is kept back of it. -/
inductive Held (w : World) (g : Gh) (st1 : St) : List Am → List Value → List (Nat → Prop) → List Bk → List (Nat → Prop) → Prop where
  | nil : Held w g st1 [] [] [] [] []
  | cons {m ms u us F Fs b bs H Hs} (h : HeldOne w g st1 m u F b H) (hs : Held w g st1 ms us Fs bs Hs) : Held w g st1 (m :: ms) (u :: us) (F :: Fs) (b ++ bs) (H :: Hs)

theorem Held.keep {st1 st2 : St} (hl : ∀ id r, aget st1.roots id = some (.lent r) → aget st2.roots id = some (.lent r)) (hn : ∀ b, nd st2 b → nd st1 b) (hb : ∀ b, BoxAt st1 b → BoxAt st2 b) {ms : List Am} {us : List Value} {Fs : List (Nat → Prop)} {bs : List Bk}
    {Hs : List (Nat → Prop)} (h : Held w g st1 ms us Fs bs Hs) : Held w g st2 ms us Fs bs Hs := by
  induction h with
  | nil => exact .nil
  | cons h hs ih => exact .cons (h.keep hl hn hb) ih

theorem HeldOne.sub {st1 : St} {m : Am} {u : Value} {F : Nat → Prop} {bk : List Bk} {H : Nat → Prop} (h : HeldOne w g st1 m u F bk H) : ∀ k, F k → H k := by
  intro k hk
  cases m with
  | «mut» => obtain ⟨id, r, p, s, h1, h2, h3, h4, h5, h6, h7, rfl⟩ := h; exact h4.under_F ((h7 k).1 hk)
  | pmut => obtain ⟨b, h1, h2, h3, h4, rfl, _⟩ := h; exact hk
  | _ => obtain ⟨_, rfl⟩ := h; exact hk

def Bk.key : Bk → Bool × Nat | .root id _ _ => (true, id) | .box b => (false, b)
def ArgRel (w : World) (g : Gh) (st : St) : List (Am × Nat × Sv) → List Value → Prop
  | [], [] => True
  | (_, _, s) :: l, u :: us => SvRel w g st s u ∧ ArgRel w g st l us
  | _, _ => False
theorem ArgRel.map {st1 : St} (hm : ∀ c u, ScRel w g st c u → ScRel w g st1 c u) : ∀ {l : List (Am × Nat × Sv)} {us : List Value}, ArgRel w g st l us → ArgRel w g st1 l us
  | [], [], _ => trivial
  | [], _ :: _, h => h.elim
  | _ :: _, [], h => h.elim
  | (_, _, _) :: _, _ :: _, h => ⟨h.1.map hm, ArgRel.map hm h.2⟩

theorem Inv.passArgs : ∀ {l : List (Am × Nat × Sv)} {us : List Value} {st : St} {k : List Dt → List Bk → St → Dl → Option R} {r : R}, Inv w0 Mf g st a w → ArgRel w g st l us → passArgs E l st k = some r →
    ∃ st1, Inv w0 Mf g st1 a w ∧ ∀ Pr, (∀ x ∈ l, x.1.reads = true → RdP g st1 Pr x.2.2) → ∃ ds bs d Fs Hs, k ds bs st1 d = some r ∧ ArgsOk g.n.wl w Pr (l.map (·.1)) ds us Fs ∧ Held w g st1 (l.map (·.1)) us Fs bs Hs ∧ Lnd g w st st1 bs d (Any Hs) ∧ PairApart Hs ∧ bs.Pairwise fun b c => b.key ≠ c.key
  | [], us, st, k, r, I, hu, h => by
    cases us with
    | cons u us => exact hu.elim
    | nil =>
      refine ⟨st, I, fun Pr _ => ⟨[], [], {}, [], [], h, .nil, .nil, ?_, List.Pairwise.nil, List.Pairwise.nil⟩⟩
      have : (fun _ => False : Nat → Prop) = Any [] := by funext k; exact propext ⟨fun h => h.elim, Any_nil⟩
      rw [← this]; exact Lnd.refl
  | (m, T, s) :: l, us, st, k, r, I, hu, h => by
    cases us with
    | nil => exact hu.elim
    | cons u us =>
      simp only [Gm.passArgs] at h
      split at h
      · rename_i hm
        obtain ⟨st1, I1, hh⟩ := Inv.passArgs I hu.2 h
        refine ⟨st1, I1, fun Pr hP => ?_⟩
        obtain ⟨ds, bs, d, Fs, Hs, h1, h2, h3, h4, h5, hkey⟩ := hh Pr fun x hx => hP x (by simp [hx])
        obtain ⟨x, h6, h7⟩ := I1.passRd hm (hu.1.map h4.map) h1 (hP (m, T, s) (by simp) hm)
        have hnone : HeldOne w g st1 m u (fun _ => False) [] (fun _ => False) := by cases m <;> first | exact ⟨rfl, rfl⟩ | cases hm
        refine ⟨_, bs, d, (fun _ => False) :: Fs, (fun _ => False) :: Hs, h6, .cons (h7 _) h2, by simpa using Held.cons hnone h3, ?_, List.pairwise_cons.2 ⟨fun _ _ _ h => h.elim, h5⟩, hkey⟩
        have : Any ((fun _ => False) :: Hs) = Any Hs := by
          funext k
          refine propext ⟨fun ⟨F, hF, hk⟩ => ?_, fun ⟨F, hF, hk⟩ => ⟨F, List.mem_cons_of_mem _ hF, hk⟩⟩
          rcases List.mem_cons.1 hF with rfl | hF
          · exact hk.elim
          · exact ⟨F, hF, hk⟩
        rw [this]; exact h4
      · rename_i hm
        have key : ∃ d bk st1 δ F H, (Gm.passArgs E l st1 fun xs bs st2 d' => k (d :: xs) (bk ++ bs) st2 { boxes := δ.boxes ++ d'.boxes, roots := δ.roots ++ d'.roots }) = some r ∧ Inv w0 Mf g st1 a w ∧ (∀ P, ArgOk g.n.wl w P m d u F) ∧ HeldOne w g st1 m u F bk H ∧ Lnd g w st st1 bk δ H := by
          cases m with
          | mov => exact I.passMov hu.1 h
          | «mut» => exact I.passMut hu.1 h
          | pmut => exact I.passPmut hu.1 h
          | ro => cases hm
          | pro => cases hm
          | fn => cases hm
          | skp => cases hm
          | kp => cases hm
        obtain ⟨x, bk, s1, δ, F, H, h1, I1, hA, hH, L1⟩ := key
        obtain ⟨st1, I2, hh⟩ := Inv.passArgs I1 (hu.2.map L1.map) h1
        refine ⟨st1, I2, fun Pr hP => ?_⟩
        obtain ⟨ds, bs, d, Fs, Hs, h2, h3, h4, h5, h6, hkey⟩ := hh Pr fun x hx => hP x (by simp [hx])
        refine ⟨_, _, _, F :: Fs, H :: Hs, h2, .cons (hA _) h3, .cons (hH.keep h5.lent h5.nd fun b hb => (h5.box b).2 hb) h4, ?_, List.pairwise_cons.2 ⟨fun G hG n h7 h8 => ?_, h6⟩, List.pairwise_append.2 ⟨?_, hkey, fun b hb c hc => ?_⟩⟩
        · have : Any (H :: Hs) = fun n => H n ∨ Any Hs n := by
            funext n
            refine propext ⟨fun ⟨F, hF, hk⟩ => ?_, fun h => ?_⟩
            · rcases List.mem_cons.1 hF with rfl | hF
              · exact .inl hk
              · exact .inr ⟨F, hF, hk⟩
            · rcases h with h | ⟨F, hF, hk⟩
              · exact ⟨H, by simp, h⟩
              · exact ⟨F, by simp [hF], hk⟩
          rw [this]; exact L1.trans h5
        · rcases h5.src n ⟨G, hG, h8⟩ with ⟨id, h9, h10⟩ | ⟨b, h9, _, _, h10⟩
          · exact L1.off n h7 id h9 h10
          · have hb := (L1.nd b h9).at
            rcases L1.src n h7 with ⟨id, h11, h12⟩ | ⟨b', h11, h12, _, h13⟩
            · exact I.apart.rb id b h11 hb (h10 ▸ h12)
            · have := I.apart.bb b b' hb h11.at (by rw [h10, h13])
              subst this
              exact h12 h9
        · cases m with
          | «mut» => obtain ⟨id, r, p, s, rfl, _⟩ := hH; exact List.pairwise_singleton _ _
          | pmut => obtain ⟨b, rfl, _⟩ := hH; exact List.pairwise_singleton _ _
          | _ => obtain ⟨rfl, _⟩ := hH; exact List.Pairwise.nil
        · cases b <;> cases c <;> simp only [Bk.key, ne_eq, Prod.mk.injEq, Bool.true_eq_false, Bool.false_eq_true, false_and, not_false_eq_true, true_and]
          · rename_i id r p id' r' p'
            intro e; subst e
            exact (L1.keyr _ _ _ hb).2 (h5.keyr _ _ _ hc).1
          · rename_i b b'
            intro e; subst e
            exact (L1.keyb _ hb).2 (h5.keyb _ hc).1

end Go.Gm

/- The G-machine, part 2: an evaluator of translated code on typed values, and that it is sound. No conditions. -/
import Derived.Test.YtalnkjjnohgjkaaGm1
import Derived.Laws.Tables
namespace Go.Gm
open Go
variable {R : Type} {P : Program} {E : Env} {w0 w : World} {Mf : Nat → Prop} {g : Gh} {st : St} {a : Act} {Q : Exit → Act → World → Prop}
  {o : Oper} {k : Dl → Option R} {r : R} {K : Act → World → Prop}
theorem aset_aset {α : Type} (l : List (Nat × α)) (n : Nat) (x y : α) : aset (aset l n x) n y = aset l n y := by
 induction l with
 | nil => simp [aset, Nat.beq_refl]
 | cons kv l ih =>
  obtain ⟨k, u⟩ := kv
  simp only [aset]
  cases h1 : Nat.beq n k
  ·cases h2 : Nat.blt n k
   ·simp only [cond_false, aset, h1, h2, ih]
   ·simp only [cond_false, cond_true, aset, Nat.beq_refl]
  ·simp only [cond_true, aset, Nat.beq_refl]
theorem RowsIn.size {t : Ty} {ys : List (El t)} {cs : Array Value} {o : Nat} {kid : Nat → Nat → Value} (h : RowsIn t ys cs o kid) (hn : ys ≠ []) : o + ys.length * esz t ≤ cs.size := by
 have hpos := esz_pos t
 have hl : 0 < ys.length := List.length_pos_iff.2 hn
 have hi : ys.length - 1 < ys.length := by omega
 obtain ⟨u, hu, _⟩ := h (ys.length - 1) ys[ys.length - 1] (esz t - 1) _ (List.getElem?_eq_getElem hi) (List.getElem?_eq_getElem (by rw [enc_length]; omega))
 have hlt : o + (ys.length - 1) * esz t + (esz t - 1) < cs.size := by
  rcases Nat.lt_or_ge (o + (ys.length - 1) * esz t + (esz t - 1)) cs.size with h' | h'
  ·exact h'
  ·simp [Array.getElem?_eq_none h'] at hu
 have : ys.length * esz t = (ys.length - 1) * esz t + esz t := by
  have e : ys.length = (ys.length - 1) + 1 := by omega
  conv => lhs; rw [e, Nat.add_mul, Nat.one_mul]
 omega
theorem NodeRd.news {F : Nat → Prop} {t : Ty} {ys : List (El t)} {v : Value} {kid : Nat → Nat → Value} (h : NodeRd w F t ys v kid) :
    ∃ xa cap news, v = .slice xa ys.length cap ∧ ys.length ≤ cap ∧ news.length = ys.length * esz t ∧ Lies w xa news ∧
      ∀ i y j c, ys[i]? = some y → (enc t y)[j]? = some c → ∃ u, news[i * esz t + j]? = some u ∧ CellIs c u (kid i j) := by
 obtain ⟨xa, cap, e, hle, hh⟩ := h
 by_cases hn : ys = []
 ·subst hn
  exact ⟨xa, cap, [], e, hle, by simp, .inl rfl, fun i y j c h => by simp at h⟩
 ·obtain ⟨b, oo, cs, el, fz, rfl, hF, hb, hr⟩ := hh hn
  have hsz := hr.size hn
  refine ⟨_, cap, (cs.toList.drop oo).take (ys.length * esz t), e, hle, by simp; omega, .inr ⟨b, oo, cs, el, fz, rfl, hb, fun j v hj => ?_⟩, fun i y j c hy hc => ?_⟩
  ·rw [List.getElem?_take] at hj
   split at hj
   ·rw [List.getElem?_drop] at hj; simpa using hj
   ·cases hj
  ·obtain ⟨u, hu, hcu⟩ := hr i y j c hy hc
   refine ⟨u, ?_, hcu⟩
   have hi : i < ys.length := by
    rcases Nat.lt_or_ge i ys.length with h' | h'
    ·exact h'
    ·simp [List.getElem?_eq_none h'] at hy
   have hj : j < esz t := by
    rw [← enc_length t y]
    rcases Nat.lt_or_ge j (enc t y).length with h' | h'
    ·exact h'
    ·simp [List.getElem?_eq_none h'] at hc
   have : i * esz t + j < ys.length * esz t := by
    have : (i + 1) * esz t ≤ ys.length * esz t := Nat.mul_le_mul_right _ hi
    rw [Nat.add_mul] at this; omega
   rw [List.getElem?_take, if_pos this, List.getElem?_drop]
   simpa [Nat.add_assoc] using hu
structure Src (w : World) (ro : Nat → Prop) (d : Bool) (F : Nat → Prop) (e : Ty) (ys : List (El e)) (u : Value) (xa : Option Addr) (cap : Nat) (news : List Value) (G : Nat → Nat → Nat → Prop) : Prop where
 eq : u = .slice xa ys.length cap
 len : news.length = ys.length * esz e
 lies : Lies w xa news
 rows : ∀ i y j c, ys[i]? = some y → (enc e y)[j]? = some c → ∃ z, news[i * esz e + j]? = some z ∧ CRd w (fun k => F k ∨ ro k) c z ∧ (d = true → COwn w (G i j) c z)
 dis : ∀ i j i' j' k, G i j k → G i' j' k → i = i' ∧ j = j'
 sub : ∀ i j k, G i j k → F k
theorem Src.flat {ro : Nat → Prop} {d : Bool} {F : Nat → Prop} {e : Ty} {ys : List (El e)} {u : Value} {xa : Option Addr} {cap : Nat} {news : List Value} {G : Nat → Nat → Nat → Prop}
 (h : Src w ro d F e ys u xa cap news G) : ∀ v ∈ news, v.oneCell' = true := by
 intro v hv
 obtain ⟨n, hn⟩ := List.getElem?_of_mem hv
 have hpos := esz_pos e
 have hlt : n < news.length := by
  rcases Nat.lt_or_ge n news.length with h' | h'
  ·exact h'
  ·simp [List.getElem?_eq_none h'] at hn
 rw [h.len] at hlt
 have hi : n / esz e < ys.length := Nat.div_lt_of_lt_mul (by rw [Nat.mul_comm]; exact hlt)
 have hj : n % esz e < esz e := Nat.mod_lt _ hpos
 obtain ⟨z, hz, hr, _⟩ := h.rows (n / esz e) ys[n / esz e] (n % esz e) _ (List.getElem?_eq_getElem hi) (List.getElem?_eq_getElem (by rw [enc_length]; exact hj))
 have : n / esz e * esz e + n % esz e = n := by rw [Nat.mul_comm]; exact Nat.div_add_mod n (esz e)
 rw [this, hn] at hz; cases hz
 exact flat_one (flat_of_cell (List.getElem?_eq_getElem (by rw [enc_length]; exact hj)) hr)
theorem kinds_flat {e : Ty} (h : (kinds e).all (fun q => q.isNone) = true) {y : El e} {j : Nat} {c : Cv} (hc : (enc e y)[j]? = some c) : ∃ x, c = .v x := by
 have h1 := kinds_eq e y
 rw [← h1, List.all_map, List.all_eq_true] at h
 have := h _ (List.mem_of_getElem? hc)
 cases c with
 | v x => exact ⟨x, rfl⟩
 | l t ys => simp [Cv.kind] at this
theorem subR_one' {t : Ty} {xs : List (El t)} {i j : Nat} {s : Sl} (h : subR t xs [(i, j)] = some s) : ∃ x, xs[i]? = some x ∧ (enc t x)[j]? = some (.l s.t s.xs) := by
 simp only [subR] at h
 split at h
 ·rename_i x hx
  split at h
  ·rename_i t' ys hc
   simp only [Option.some.injEq] at h; subst h
   exact ⟨x, hx, hc⟩
  ·cases h
 ·cases h
theorem srcTook {g : Gh} {st st' : St} {rf : Nat → Nat → Prop} {ups : List (Nat × Rt)} {F : Nat → Prop} {e : Ty} {xs : List (El e)} {d : Bool} {u : Value} (I' : Inv w0 Mf (g.wrf rf) st' a w) (T' : TookP w g rf st st' ups [F])
 (hr : CRd w (fun k => F k ∨ g.ro k) (.l e xs) u) (ho : d = true → COwn w F (.l e xs) u) : ∃ xa cap news G, Inv w0 Mf (g.wrf rf) st' a w ∧ TookP w g rf st st' ups [F] ∧ Src w g.ro d F e xs u xa cap news G := by
 cases d
 ·obtain ⟨av, h0, hav⟩ := hr
  obtain ⟨xa, cap, news, e1, _, h2, h3, h4⟩ := (hav [] _ rfl).news
  refine ⟨xa, cap, news, fun _ _ _ => False, I', T', ⟨by rw [← h0]; exact e1, h2, h3, fun i y j c hy hcc => ?_, fun _ _ _ _ _ h => h.elim, fun _ _ _ h => h.elim⟩⟩
  obtain ⟨z, hz, hcz⟩ := h4 i y j c hy hcc
  refine ⟨z, hz, ?_, fun h => by cases h⟩
  cases c with
  | v x => exact hcz
  | l t ys => exact ⟨fun q => av ([(i, j)] ++ q), by simpa [CellIs] using hcz.symm, hav.at (subR_one hy hcc)⟩
 ·obtain ⟨av, h0, hav⟩ := ho rfl
  obtain ⟨xa, cap, news, e1, _, h2, h3, h4⟩ := (hav.1 [] _ rfl).rd.news
  refine ⟨xa, cap, news, fun i j => Under e xs av [(i, j)], I', T', ⟨by rw [← h0]; exact e1, h2, h3, fun i y j c hy hcc => ?_, fun i j i' j' n ⟨q, s, h1, h2⟩ ⟨q', s', h3, h4⟩ => ?_,
   fun i j n ⟨q, s, h1, h2⟩ => (hav.1 _ s h1).blkF h2⟩⟩
  ·obtain ⟨z, hz, hcz⟩ := h4 i y j c hy hcc
   refine ⟨z, hz, ?_, fun _ => ?_⟩
   ·cases c with
    | v x => exact hcz
    | l t ys => exact ⟨fun q => av ([(i, j)] ++ q), by simpa [CellIs] using hcz.symm, (hav.rd.at (subR_one hy hcc)).mono fun n => .inl⟩
   ·cases c with
    | v x => exact hcz
    | l t ys => exact ⟨fun q => av ([(i, j)] ++ q), by simpa [CellIs] using hcz.symm, hav.at (subR_one hy hcc)⟩
  ·have := hav.2 _ _ _ _ n h1 h3 h2 h4
   simp only [List.singleton_append, List.cons.injEq, Prod.mk.injEq] at this
   exact this.1
theorem Inv.srcPiece (I : Inv w0 Mf g st a w) {id ver lo hi : Nat} {ro : Root} (hv : aget st.roots id = some (.live ro)) (ht : ro.md.takes lo 0 = true) (h1 : lo ≤ hi) (h2 : hi ≤ ro.xs.length) :
    ∃ F rf xa cap news G, Inv w0 Mf (g.wrf rf) (st.taken id ro hi 0) a w ∧ TookP w g rf st (st.taken id ro hi 0) [(id, .live ⟨ro.t, .part (.cur hi 0), ro.ver, ro.log, ro.xs⟩)] [F] ∧
      Src w g.ro true F ro.t ((ro.xs.take hi).drop lo) (cutV (esz ro.t) (g.rv id []) lo hi) xa cap news G := by
 have hp := I.asPart hv ht
 obtain ⟨rf, I1, T1⟩ := I.take hv ht (leC_iff.2 (show lo < hi ∨ (lo = hi ∧ 0 ≤ 0) by omega)) (fun _ => Iff.rfl)
 have hnode := NodeOwn.cut (hp.1 [] ⟨ro.t, ro.xs⟩ rfl rfl) h1 h2
 obtain ⟨xa, cap, news, e1, _, h3, h4, h5⟩ := hnode.rd.news
 have hle : ∀ i j, leC lo 0 (i + lo) j = true := fun i j => leC_iff.2 (by omega)
 refine ⟨_, rf, xa, cap, news, fun i j k => i + lo < hi ∧ Under ro.t ro.xs (g.rv id) [(i + lo, j)] k, I1, T1, ⟨e1, h3, h4, fun i y j c hy hc => ?_, ?_, ?_⟩⟩
 ·obtain ⟨z, hz, hcz⟩ := h5 i y j c hy hc
  have hi' : i + lo < hi := by
   rw [getElem?_cut] at hy
   split at hy
   ·omega
   ·cases hy
  have own : COwn w (fun k => i + lo < hi ∧ Under ro.t ro.xs (g.rv id) [(i + lo, j)] k) c z := by
   cases c with
   | v x => exact hcz
   | l t ys =>
    have hs : subR ro.t ro.xs [(i + lo, j)] = some ⟨t, ys⟩ := by
     have := subR_cut (subR_one hy hc); exact this
    exact ⟨fun q => g.rv id ([(i + lo, j)] ++ q), by simpa [CellIs] using hcz.symm, (hp.at (hle i j) hs).mono fun k hk => ⟨hi', hk⟩⟩
  refine ⟨z, hz, ?_, fun _ => own⟩
  cases c with
  | v x => exact hcz
  | l t ys =>
   obtain ⟨av, h6, h7⟩ := own
   refine ⟨av, h6, h7.rd.mono fun k hk => .inl ?_⟩
   obtain ⟨_, q, s, h8, h9⟩ := hk
   refine ⟨[(i + lo, j)] ++ q, s, hle i j, ?_, h8, h9⟩
   show leC hi 0 (i + lo) j = false
   cases hh : leC hi 0 (i + lo) j with
   | false => rfl
   | true => rw [leC_iff] at hh; omega
 ·rintro i j i' j' n ⟨_, q, s, h6, h7⟩ ⟨_, q', s', h8, h9⟩
  have := hp.2.1 ([(i + lo, j)] ++ q) ([(i' + lo, j')] ++ q') _ _ n (hle i j) (hle i' j') h6 h8 h7 h9
  simp only [List.singleton_append, List.cons.injEq, Prod.mk.injEq] at this
  exact ⟨by omega, this.1.2⟩
 ·rintro i j k ⟨hi', q, s, h8, h9⟩
  refine ⟨[(i + lo, j)] ++ q, s, hle i j, ?_, h8, h9⟩
  show leC hi 0 (i + lo) j = false
  cases hh : leC hi 0 (i + lo) j with
  | false => rfl
  | true => rw [leC_iff] at hh; omega
theorem Inv.srcOf (I : Inv w0 Mf g st a w) {e : Ty} {c : Sc} {k : List (El e) → Bool → St → List (Nat × Rt) → Option R} {r : R} {u : Value} (h : srcOf st e c k = some r) (hc : ScRel w g st c u) :
    ∃ ys d st' ups F rf xa cap news G, k ys d st' ups = some r ∧ Inv w0 Mf (g.wrf rf) st' a w ∧ TookP w g rf st st' ups [F] ∧ Src w g.ro d F e ys u xa cap news G := by
  have T0 : Took w g st st [] [fun _ => False] :=
    ⟨rfl, fun _ h => h, fun _ _ h => h, List.pairwise_singleton _ _, fun F hF k hk => by simp only [List.mem_singleton] at hF; subst hF; exact hk.elim,
      fun F hF k hk => by simp only [List.mem_singleton] at hF; subst hF; exact hk.elim, fun _ _ h => h, fun _ _ h => h⟩
  unfold Gm.srcOf at h
  split at h
  · rename_i hfl
    replace h := I.rdSc h hc; obtain ⟨cv, h, hcv⟩ := h
    replace h := bindS h; obtain ⟨xs, hxs, h⟩ := h
    have := dec_enc hxs
    simp only [enc, List.cons.injEq, and_true] at this
    subst this
    obtain ⟨av, h0, hav⟩ := hcv
    obtain ⟨xa, cap, news, e1, _, h2, h3, h4⟩ := (hav [] _ rfl).news
    refine ⟨xs, true, st, [], _, g.rf, xa, cap, news, fun _ _ _ => False, h, I, T0.P, ⟨by rw [← h0]; exact e1, h2, h3, fun i y j c hy hcc => ?_, fun _ _ _ _ _ h => h.elim, fun _ _ _ h => h⟩⟩
    obtain ⟨z, hz, hcz⟩ := h4 i y j c hy hcc
    obtain ⟨x, rfl⟩ := kinds_flat hfl hcc
    exact ⟨z, hz, hcz, fun _ => hcz⟩
  · have fin : ∀ {rf : Nat → Nat → Prop} {cv : Cv} {d : Bool} {st' : St} {ups : List (Nat × Rt)} {F : Nat → Prop}, ((dec (.sl e) [cv]).bind fun xs => k xs d st' ups) = some r → Inv w0 Mf (g.wrf rf) st' a w → TookP w g rf st st' ups [F] →
        CRd w (fun k => F k ∨ g.ro k) cv u → (d = true → COwn w F cv u) → ∃ ys d st' ups F rf xa cap news G, k ys d st' ups = some r ∧ Inv w0 Mf (g.wrf rf) st' a w ∧ TookP w g rf st st' ups [F] ∧ Src w g.ro d F e ys u xa cap news G := by
      intro rf cv d st' ups F h I' T' hr ho
      replace h := bindS h; obtain ⟨xs, hxs, h⟩ := h
      have := dec_enc hxs
      simp only [enc, List.cons.injEq, and_true] at this
      subst this
      obtain ⟨xa, cap, news, G, h1, h2, h3⟩ := srcTook I' T' hr ho
      exact ⟨xs, d, st', ups, F, rf, xa, cap, news, G, h, h1, h2, h3⟩
    unfold Gm.absVw at h
    split at h
    · rename_i id ver lo hi t _
      replace h := getR_some h; obtain ⟨ro, hv, hver, h⟩ := h
      cases ht : ro.md.takes lo 0
      · rw [ht] at h
        simp only [cond_false] at h
        replace h := I.absSc h hc; obtain ⟨cv, d, st', ups, F, h, I', T', hr, ho⟩ := h
        exact fin h I' T'.P hr ho
      · rw [ht] at h
        simp only [cond_true] at h
        obtain ⟨h1, h2, hu⟩ := hc.2.2 ro ⟨.inl hv, hver, validNil _ _⟩
        obtain ⟨F, rf, xa, cap, news, G, h3, h4, h5⟩ := I.srcPiece (ver := ver) hv ht h1 h2
        replace h := bindS h; obtain ⟨xs, hxs, h⟩ := h
        have := dec_enc hxs
        simp only [enc, List.cons.injEq, and_true, Cv.l.injEq] at this
        obtain ⟨e1, e2⟩ := this
        obtain ⟨t0, md0, v0, l0, x0⟩ := ro
        simp only at e1 e2
        subst e1
        have e2 := eq_of_heq e2
        subst e2
        exact ⟨_, _, _, _, F, rf, xa, cap, news, G, h, h3, h4, by rw [hu]; exact h5⟩
    · replace h := I.absScP h hc; obtain ⟨cv, d, st', ups, F, rf, h, I', T', hr, ho⟩ := h
      exact fin h I' T' hr ho
structure Free (w0 : World) (Mf : Nat → Prop) (g : Gh) (st : St) (n : Nat) : Prop where
 r : ∀ id, OwnAt st id → ¬ g.rf id n
 ro : ¬ g.ro n
 b : ∀ b, BoxAt st b → g.bx b ≠ n
 mine : w0.heap.size ≤ n ∨ Mf n
theorem Inv.freeNew (I : Inv w0 Mf g st a w) : Free w0 Mf g st w.heap.size := {
 r := fun id h1 h2 => by have := I.apart.lt_r id _ h1 h2; omega
 ro := fun h => by have := I.apart.lt_ro _ h; omega
 b := fun b h e => by
  obtain ⟨x, hx⟩ := Option.isSome_iff_exists.1 h
  obtain ⟨us', el', h1, _⟩ := I.boxes b x hx
  have := (Array.getElem?_eq_some_iff.1 h1).1
  omega
 mine := .inl I.kept.same.1 }
theorem COwn.same {w w' : World} {X F : Nat → Prop} (hs : SameBut X w w') (hd : ∀ k, F k → ¬ X k) {c : Cv} {u : Value} (h : COwn w F c u) : COwn w' F c u := by
 cases c with
 | v x => exact h
 | l t xs => obtain ⟨av, h0, h1⟩ := h; exact ⟨av, h0, h1.same hs hd⟩
theorem Pieces.same {w w' : World} {X ro : Nat → Prop} {d : Bool} {t : Ty} {xs : List (El t)} {cs : Array Value} {o : Nat} {G : Nat → Nat → Nat → Prop} (hs : SameBut X w w')
 (hG : ∀ i j k, G i j k → ¬ X k) (hro : ∀ k, ro k → ¬ X k) (h : Pieces w ro d t xs cs o G) : Pieces w' ro d t xs cs o G :=
 ⟨fun i x j c hx hc => let ⟨u, hu, hr, ho⟩ := h.rows i x j c hx hc
 ⟨u, hu, hr.same hs (fun k hk => hk.elim (hG i j k) (hro k)), fun hd => (ho hd).same hs (hG i j)⟩, h.dis⟩
theorem Inv.build (I : Inv w0 Mf g st a w) {w' : World} {b o cap el : Nat} {cs : Array Value} (hs : SameBut (fun k => k = b) w w') (hos : w'.os = w.os) (htape : w'.tape = w.tape) (hout : w'.output = w.output)
 (hb : w'.heap[b]? = some (.cells cs el (0, 0))) (hfree : Free w0 Mf g st b) {e : Ty} {xs : List (El e)} {G : Nat → Nat → Nat → Prop} {F : Nat → Prop} {d : Bool}
 (hp : Pieces w (fun k => g.ro k ∨ F k) d e xs cs o G) (hG : ∀ i j k, G i j k → k ≠ b ∧ Free w0 Mf g st k ∧ k < w.heap.size) (hF : ∀ k, F k → k ≠ b ∧ Free w0 Mf g st k ∧ k < w.heap.size)
 (hcap : xs.length ≤ cap) (hsz : o + cap * esz e ≤ cs.size) {id ver : Nat} {md : Md} (hfit : FitVer st id ⟨e, md, ver, [], xs⟩) (hmd : md.isFrz = false ∧ md.isPart = false) (hdd : md.isDeep = true → d = true) :
    ∃ g' : Gh, g'.n = g.n ∧ Inv w0 Mf g' { st with roots := aset st.roots id (.live ⟨e, md, ver, [], xs⟩) } a w' ∧ g'.rv id [] = .slice (some ⟨b, o, none⟩) xs.length cap := by
 have hblt : b < w'.heap.size := (Array.getElem?_eq_some_iff.1 hb).1
 have hk' : Kept w0 w' Mf := I.kept.step hos htape hout hs (fun k hk => by subst hk; exact hfree.mine)
 have I1 : Inv w0 Mf g st a w' := I.world hs (fun k h1 h2 => hfree.ro (h2 ▸ h1)) (fun id k h1 h2 h3 => hfree.r id h1 (h3 ▸ h2)) (fun b' h1 h2 => hfree.b b' h1 h2) hk'
 have hp' : Pieces w' (fun k => g.ro k ∨ F k) d e xs cs o G := hp.same hs (fun i j k h => (hG i j k h).1) (fun k h => h.elim (fun h1 h2 => hfree.ro (h2 ▸ h1)) (fun h1 => (hF k h1).1))
 cases hdeep : md.isDeep
 ·-- what it is built of is read alone from now on
  have hsh : md = .shal := by cases md <;> simp_all [Md.isDeep, Md.isFrz, Md.isPart]
  subst hsh
  let RO' : Nat → Prop := fun k => (g.ro k ∨ F k) ∨ ∃ i j, G i j k
  obtain ⟨av, h0, hav⟩ := hp'.shal hb hcap hsz (ro' := RO') (fun k => .inl) (fun i j k h => .inr ⟨i, j, h⟩)
  have hnot : ∀ k, RO' k → k ≠ b := fun k h => h.elim (fun h => h.elim (fun h1 h2 => hfree.ro (h2 ▸ h1)) fun h1 => (hF k h1).1) fun ⟨i, j, h1⟩ => (hG i j k h1).1
  have I2 : Inv w0 Mf { g with ro := RO' } st a w' := I1.growRO (G := RO') (fun k h => .inl (.inl h))
   (fun id k h1 h2 h3 => h3.elim (fun h => h.elim (I1.apart.ro_r id k h1 h2) (fun h => (hF k h).2.1.r id h1 h2)) fun ⟨i, j, h⟩ => (hG i j k h).2.1.r id h1 h2)
   (fun b' h1 h3 => h3.elim (fun h => h.elim (I1.apart.ro_b b' h1) (fun h => (hF _ h).2.1.b b' h1 rfl)) fun ⟨i, j, h⟩ => (hG i j _ h).2.1.b b' h1 rfl)
   (fun k h => h.elim (fun h => h.elim (I1.apart.lt_ro k) fun h => Nat.lt_of_lt_of_le (hF k h).2.2 hs.1) fun ⟨i, j, h⟩ => Nat.lt_of_lt_of_le (hG i j k h).2.2 hs.1)
   (fun k h => h.elim (fun h => h.elim (I1.apart.mine_ro k) fun h => .inr (hF k h).2.1.mine) fun ⟨i, j, h⟩ => .inr (hG i j k h).2.1.mine)
  have I3 := I2.setR (id := id) (r := ⟨e, .shal, ver, [], xs⟩) hfit (av := av) (F := fun k => k = b)
   (by simp only [RootRel, Gh.setR, if_true]; exact hav)
   (fun k hk => by subst hk; exact ⟨fun id' h1 _ => hfree.r id' h1, fun h => hnot _ h rfl, hfree.b, hfree.mine, hblt⟩)
  exact ⟨_, by rfl, I3, by simp [Gh.setR, h0]⟩
 ·have hd := hdd hdeep
  subst hd
  have hmdd : md = .deep := by cases md <;> simp_all [Md.isDeep]
  subst hmdd
  obtain ⟨av, h0, hav⟩ := hp'.own hb hcap hsz (fun i j h => (hG i j b h).1 rfl)
  have I3 := I1.setR (id := id) (r := ⟨e, .deep, ver, [], xs⟩) hfit (av := av) (F := fun k => k = b ∨ ∃ i j, G i j k)
   (by simp only [RootRel, Gh.setR, if_true]; exact hav)
   (fun k hk => by
    rcases hk with rfl | ⟨i, j, h⟩
    ·exact ⟨fun id' h1 _ => hfree.r id' h1, hfree.ro, hfree.b, hfree.mine, hblt⟩
    ·obtain ⟨_, h2, h3⟩ := hG i j k h
     exact ⟨fun id' h1 _ => h2.r id' h1, h2.ro, h2.b, h2.mine, Nat.lt_of_lt_of_le h3 hs.1⟩)
  exact ⟨_, by rfl, I3, by simp [Gh.setR, h0]⟩
theorem Inv.buildNil (I : Inv w0 Mf g st a w) {e : Ty} {id ver : Nat} {md : Md} (hfit : FitVer st id ⟨e, md, ver, [], []⟩) (hmd : md.isFrz = false ∧ md.isPart = false) :
    ∃ g' : Gh, g'.n = g.n ∧ Inv w0 Mf g' { st with roots := aset st.roots id (.live ⟨e, md, ver, [], []⟩) } a w ∧ g'.rv id [] = .slice none 0 0 := by
 have hno : ∀ p s, subR e [] p = some s → p = [] ∧ s = ⟨e, []⟩ := by
  intro p s hs
  cases p with
  | nil => simp only [subR, Option.some.injEq] at hs; exact ⟨rfl, hs.symm⟩
  | cons ij p => simp [subR] at hs
 have hown : TreeOwn w (fun _ => False) e [] (fun _ => .slice none 0 0) :=
  ⟨fun p s hs => by obtain ⟨rfl, rfl⟩ := hno p s hs; exact .inl ⟨rfl, rfl⟩, fun p q s s' b _ _ h _ => by simp [blk] at h⟩
 have I3 := I.setR (id := id) (r := ⟨e, md, ver, [], []⟩) hfit (av := fun _ => .slice none 0 0) (F := fun _ => False)
  (by
   cases md with
   | deep => simp only [RootRel, Gh.setR, if_true]; exact hown
   | shal =>
    simp only [RootRel, Gh.setR, if_true]
    exact ⟨.inl ⟨rfl, rfl⟩, fun p s hp hs => (hp (hno p s hs).1).elim⟩
   | frz => simp [Md.isFrz] at hmd
   | part k => simp [Md.isPart] at hmd)
  (fun k hk => hk.elim)
 exact ⟨_, by rfl, I3, by simp [Gh.setR]⟩
structure Old (w0 w : World) (Mf : Nat → Prop) (g : Gh) (st : St) (d : Bool) (e : Ty) (xs : List (El e)) (sa : Option Addr) (cap : Nat) (olds : List Value) (G : Nat → Nat → Nat → Prop) : Prop where
 len : olds.length = xs.length * esz e
 lies : Lies w sa olds
 fits : xs.length ≤ cap
 room : ∀ b o, sa = some ⟨b, o, none⟩ → ∃ cs el, w.heap[b]? = some (.cells cs el (0, 0)) ∧ o + cap * esz e ≤ cs.size
 nocap : sa = none → cap = 0
 spot : ∀ ad, sa = some ad → ad.spot = none
 rows : ∀ i x j c, xs[i]? = some x → (enc e x)[j]? = some c → ∃ u, olds[i * esz e + j]? = some u ∧ CRd w (fun k => G i j k ∨ g.ro k) c u ∧ (d = true → COwn w (G i j) c u)
 dis : ∀ i j i' j' k, G i j k → G i' j' k → i = i' ∧ j = j'
 free : ∀ b o, sa = some ⟨b, o, none⟩ → Free w0 Mf g st b ∧ (∀ i j, ¬ G i j b)
 gfree : ∀ i j k, G i j k → Free w0 Mf g st k ∧ k < w.heap.size
theorem Inv.appendCore (hE : E.Ok P) (I : Inv w0 Mf g st a w) {T T' ty : Nat} {e e' : Ty} (hT : E.code T = some (.sl e)) (hT' : E.code T' = some (.sl e')) {d1 d2 : Bool} {xs ys : List (El e)} {sa xa : Option Addr} {cap c2 : Nat}
    {olds news : List Value} {G1 G2 : Nat → Nat → Nat → Prop} {F : Nat → Prop} {x : Value} (hold : Old w0 w Mf g st d1 e xs sa cap olds G1) (hsrc : Src w g.ro d2 F e ys x xa c2 news G2)
 (hF : ∀ k, F k → Free w0 Mf g st k ∧ k < w.heap.size ∧ (∀ o b, sa = some ⟨b, o, none⟩ → k ≠ b) ∧ ∀ i j, ¬ G1 i j k) (hlim : xs.length + ys.length ≤ LIM) {id ver : Nat} {md : Md}
 (hfit : FitVer st id ⟨e, md, ver, [], xs ++ ys⟩) (hmd : md.isFrz = false ∧ md.isPart = false) (hdd : md.isDeep = true → d1 = true ∧ d2 = true) :
    ∃ v' w' g', (Builtin.append_ #[T, T'] ty #[.slice sa xs.length cap, x]).run P w = .ok v' w' ∧ g'.n = g.n ∧ Inv w0 Mf g' { st with roots := aset st.roots id (.live ⟨e, md, ver, [], xs ++ ys⟩) } a w' ∧ g'.rv id [] = v' := by
 obtain ⟨v', w', hrun, hos, htape, hout, hres⟩ := run_append (P := P) (ty := ty) hE hT hT' hold.len hold.lies hsrc.len hsrc.lies hsrc.flat hold.fits hold.room hold.nocap hold.spot hlim (c := c2)
 rw [← hsrc.eq] at hrun
 rcases hres with ⟨rfl, _, hn, hm, rfl⟩ | ⟨b, oo, cap', cs, el, rfl, hb, hcap', hsz', hcells, hsame, hwhere⟩
 ·have hx : xs = [] := List.eq_nil_of_length_eq_zero hn
  have hy : ys = [] := List.eq_nil_of_length_eq_zero hm
  subst hx; subst hy
  obtain ⟨g', h1, h2, h3⟩ := I.buildNil (e := e) (id := id) (ver := ver) (md := md) (by simpa using hfit) hmd
  exact ⟨_, _, g', hrun, h1, by simpa using h2, h3⟩
 ·have hpos := esz_pos e
  have hfb : Free w0 Mf g st b ∧ (∀ i j, ¬ G1 i j b) ∧ ¬ F b := by
   rcases hwhere with ⟨o', ho'⟩ | rfl
   ·obtain ⟨h1, h2⟩ := hold.free b o' ho'
    exact ⟨h1, h2, fun h => (hF b h).2.2.1 o' b ho' rfl⟩
   ·exact ⟨I.freeNew, fun i j h => by have := (hold.gfree i j _ h).2; omega, fun h => by have := (hF _ h).2.1; omega⟩
  let G : Nat → Nat → Nat → Prop := fun i j k => (i < xs.length ∧ G1 i j k) ∨ (xs.length ≤ i ∧ G2 (i - xs.length) j k)
  have hp : Pieces w (fun k => g.ro k ∨ F k) (d1 && d2) e (xs ++ ys) cs oo G := by
   refine ⟨fun i y j c hy hc => ?_, fun i j i' j' k h1 h2 => ?_⟩
   ·have hj : j < esz e := by
     rw [← enc_length e y]
     rcases Nat.lt_or_ge j (enc e y).length with h' | h'
     ·exact h'
     ·simp [List.getElem?_eq_none h'] at hc
    by_cases hi : i < xs.length
    ·rw [List.getElem?_append_left hi] at hy
     obtain ⟨u, hu, hr, ho⟩ := hold.rows i y j c hy hc
     have hlt : i * esz e + j < olds.length := by
      rcases Nat.lt_or_ge (i * esz e + j) olds.length with h' | h'
      ·exact h'
      ·simp [List.getElem?_eq_none h'] at hu
     refine ⟨u, ?_, hr.mono fun k hk => hk.elim (fun h => .inl (.inl ⟨hi, h⟩)) (fun h => .inr (.inl h)), fun hd => ?_⟩
     ·rw [Nat.add_assoc]; exact hcells _ u (by rw [List.getElem?_append_left hlt]; exact hu)
     ·simp only [Bool.and_eq_true] at hd
      have := ho hd.1
      cases c with
      | v q => exact this
      | l t zs => obtain ⟨f, h0, h1⟩ := this; exact ⟨f, h0, h1.mono fun k hk => .inl ⟨hi, hk⟩⟩
    ·rw [List.getElem?_append_right (by omega)] at hy
     obtain ⟨u, hu, hr, ho⟩ := hsrc.rows (i - xs.length) y j c hy hc
     have hlt : (i - xs.length) * esz e + j < news.length := by
      rcases Nat.lt_or_ge ((i - xs.length) * esz e + j) news.length with h' | h'
      ·exact h'
      ·simp [List.getElem?_eq_none h'] at hu
     refine ⟨u, ?_, hr.mono fun k hk => hk.elim (fun h => .inr (.inr h)) (fun h => .inr (.inl h)), fun hd => ?_⟩
     ·have e1 : i * esz e = xs.length * esz e + (i - xs.length) * esz e := by rw [← Nat.add_mul]; congr 1; omega
      rw [Nat.add_assoc]
      refine hcells _ u ?_
      rw [List.getElem?_append_right (by rw [hold.len]; omega), hold.len]
      rw [show i * esz e + j - xs.length * esz e = (i - xs.length) * esz e + j by omega]
      exact hu
     ·simp only [Bool.and_eq_true] at hd
      have := ho hd.2
      cases c with
      | v q => exact this
      | l t zs => obtain ⟨f, h0, h1⟩ := this; exact ⟨f, h0, h1.mono fun k hk => .inr ⟨by omega, hk⟩⟩
   ·rcases h1 with ⟨hi, h1⟩ | ⟨hi, h1⟩ <;> rcases h2 with ⟨hi', h2⟩ | ⟨hi', h2⟩
    ·exact hold.dis _ _ _ _ k h1 h2
    ·exact ((hF k (hsrc.sub _ _ _ h2)).2.2.2 i j h1).elim
    ·exact ((hF k (hsrc.sub _ _ _ h1)).2.2.2 i' j' h2).elim
    ·obtain ⟨h3, h4⟩ := hsrc.dis _ _ _ _ k h1 h2
     exact ⟨by omega, h4⟩
  obtain ⟨g', h1, h2, h3⟩ := I.build hsame hos htape hout hb hfb.1 hp (fun i j k h => by
    rcases h with ⟨hi, h⟩ | ⟨hi, h⟩
    ·exact ⟨fun e => hfb.2.1 i j (e ▸ h), (hold.gfree i j k h).1, (hold.gfree i j k h).2⟩
    ·have hk := hsrc.sub _ _ _ h
     exact ⟨fun e => hfb.2.2 (e ▸ hk), (hF k hk).1, (hF k hk).2.1⟩)
   (fun k h => ⟨fun e => hfb.2.2 (e ▸ h), (hF k h).1, (hF k h).2.1⟩) (by simpa using hcap') hsz' hfit hmd (fun h => by simp [hdd h])
  exact ⟨_, w', g', hrun, h1, h2, by simpa using h3⟩
theorem mkRoot_some {id : Nat} {t : Ty} {md : Md} {xs : List (El t)} {k : Root → Option R} {r : R} (h : mkRootP st id t md xs k = some r) :
    ∃ ver, FitVer st id ⟨t, md, ver, [], xs⟩ ∧ k ⟨t, md, ver, [], xs⟩ = some r := by
 unfold mkRootP at h
 split at h
 ·rename_i r' hn; obtain ⟨_, h⟩ := condN h; exact ⟨r'.ver + 1, by unfold FitVer; rw [hn]; simp, h⟩
 unfold mkRoot at h
 split at h
 ·rename_i hn; exact ⟨0, by unfold FitVer; rw [hn]; trivial, h⟩
 ·rename_i v hn; exact ⟨v + 1, by unfold FitVer; rw [hn]; simp, h⟩
 ·cases h
theorem mkRoot_fit {id : Nat} {t : Ty} {md : Md} {xs : List (El t)} {k : Root → Option R} {r : R} (h : mkRoot st id t md xs k = some r) :
    ∃ ver, FitVer st id ⟨t, md, ver, [], xs⟩ ∧ k ⟨t, md, ver, [], xs⟩ = some r ∧ ∀ ro, aget st.roots id ≠ some (.live ro) := by
 unfold mkRoot at h
 split at h
 ·rename_i hn; exact ⟨0, by unfold FitVer; rw [hn]; trivial, h, fun ro => by rw [hn]; simp⟩
 ·rename_i v hn; exact ⟨v + 1, by unfold FitVer; rw [hn]; simp, h, fun ro => by rw [hn]; simp⟩
 ·cases h
theorem Inv.putRoot {g' : Gh} {w' : World} {id : Nat} {r : Root} (I : Inv w0 Mf g' { st with roots := aset st.roots id (.live r) } a w') (hl : r.log = []) {dst : Option Nat} (hd : ∀ d, dst = some d → d < g'.n.sz) (hf : flatB (g'.rv id []) = true) :
    Inv w0 Mf g' (({ st with roots := aset st.roots id (.live r) } : St).apply { slot := dst.map fun d => (d, .c (.one (.h id r.ver 0 []))) }) (a.put dst (g'.rv id [])) w' :=
  I.putS hd ⟨hf, by unfold verOk; simp only [aget_aset_self]; exact .inr ⟨trivial, Nat.zero_le _⟩, fun r' hr' => by
    have := hr'.1
    simp only [aget_aset_self, Option.some.injEq, Rt.live.injEq, reduceCtorEq, or_false] at this
    subst this
    exact ⟨rfl, by simp [subR]⟩⟩
theorem meet_deep {m : Md} {d : Bool} (h : (m.meet d).isDeep = true) : m.isDeep = true ∧ d = true := by
 cases m <;> cases d <;> simp_all [Md.meet, Md.isDeep]
theorem meet_frz {m : Md} {d : Bool} (h : m.isFrz = false) : (m.meet d).isFrz = false := by
 cases m <;> cases d <;> simp_all [Md.meet, Md.isFrz]
theorem meet_part {m : Md} {d : Bool} (h : m.isPart = false) : (m.meet d).isPart = false := by
 cases m <;> cases d <;> simp_all [Md.meet, Md.isPart]
theorem Took.free (I : Inv w0 Mf g st a w) {st' : St} {ups : List (Nat × Rt)} {Fs : List (Nat → Prop)} (T : Took w g st st' ups Fs) {F : Nat → Prop} (hF : F ∈ Fs) {k : Nat} (hk : F k) : Free w0 Mf g st' k ∧ k < w.heap.size := by
 obtain ⟨id, h1, h2⟩ := T.src F hF k hk
 exact ⟨⟨fun id' h => T.off F hF k hk id' h, I.apart.ro_r id k h1 h2, fun b hb e => I.apart.rb id b h1 (by rw [T.eq] at hb; exact hb) (e ▸ h2), I.apart.mine_r id k h1 h2⟩, I.apart.lt_r id k h1 h2⟩
theorem TookP.free (I : Inv w0 Mf g st a w) {rf : Nat → Nat → Prop} {st' : St} {ups : List (Nat × Rt)} {Fs : List (Nat → Prop)} (T : TookP w g rf st st' ups Fs) {F : Nat → Prop} (hF : F ∈ Fs) {k : Nat} (hk : F k) : Free w0 Mf (g.wrf rf) st' k ∧ k < w.heap.size := by
 obtain ⟨id, h1, h2⟩ := T.src F hF k hk
 exact ⟨⟨fun id' h => T.off F hF k hk id' h, I.apart.ro_r id k h1 h2, fun b hb e => I.apart.rb id b h1 (by rw [T.eq] at hb; exact hb) (e ▸ h2), I.apart.mine_r id k h1 h2⟩, I.apart.lt_r id k h1 h2⟩
theorem Free.drop {id : Nat} {v : Nat} {n : Nat} (h : ∀ id', OwnAt st id' → id' ≠ id → ¬ g.rf id' n) (hro : ¬ g.ro n) (hb : ∀ b, BoxAt st b → g.bx b ≠ n) (hm : w0.heap.size ≤ n ∨ Mf n) :
    Free w0 Mf g { st with roots := aset st.roots id (.gone v) } n :=
 ⟨fun id' ⟨r', h1, h2⟩ => by
    simp only [aget_aset] at h1
    by_cases e : id' = id
    · simp [e] at h1
    · exact h id' ⟨r', by simpa [e] using h1, h2⟩ e, hro, hb, hm⟩
theorem Inv.oldOf (I : Inv w0 Mf g st a w) {id : Nat} {e : Ty} {xs : List (El e)} {md : Md} {ver : Nat} {log : List Nat} (h : aget st.roots id = some (.live ⟨e, md, ver, log, xs⟩)) (hm : md.isFrz = false) (hmp : md.isPart = false) :
    ∃ sa cap olds G, g.rv id [] = .slice sa xs.length cap ∧ Old w0 w Mf g { st with roots := aset st.roots id (.gone ver) } md.isDeep e xs sa cap olds G ∧ (∀ i j n, G i j n → g.rf id n) ∧ (∀ b o, sa = some ⟨b, o, none⟩ → g.rf id b) := by
 have hat : OwnAt st id := ⟨_, h, hm⟩
 have hfree : ∀ n, g.rf id n → Free w0 Mf g { st with roots := aset st.roots id (.gone ver) } n := fun n hn =>
  Free.drop (fun id' h1 h2 h3 => h2 (I.apart.rr id' id n h1 hat h3 hn)) (I.apart.ro_r id n hat hn) (fun b hb e => I.apart.rb id b hat hb (e ▸ hn)) (I.apart.mine_r id n hat hn)
 have hr := I.roots id _ h
 -- the node itself
 have hnode : NodeOwn w (g.rf id) e xs (g.rv id []) fun i j => g.rv id [(i, j)] := by
  unfold RootRel at hr
  split at hr
  ·exact hr.1 [] _ rfl
  ·exact hr.1
  ·rename_i hmd; simp only at hmd; simp [hmd, Md.isFrz] at hm
  ·rename_i hmd; simp only at hmd; simp [hmd, Md.isPart] at hmp
 let G : Nat → Nat → Nat → Prop := fun i j n => md.isDeep = true ∧ Under e xs (g.rv id) [(i, j)] n
 have hsub : ∀ i j n, G i j n → g.rf id n := by
  intro i j n ⟨hd, q, s, h1, h2⟩
  unfold RootRel at hr
  split at hr
  ·exact (hr.1 _ s h1).blkF h2
  ·rename_i hmd; simp only at hmd; simp [hmd, Md.isDeep] at hd
  ·rename_i hmd; simp only at hmd; simp [hmd, Md.isDeep] at hd
  ·rename_i hmd; simp only at hmd; simp [hmd, Md.isDeep] at hd
 have hdis : ∀ i j i' j' n, G i j n → G i' j' n → i = i' ∧ j = j' := by
  intro i j i' j' n ⟨hd, q, s, h1, h2⟩ ⟨_, q', s', h3, h4⟩
  unfold RootRel at hr
  split at hr
  ·have := hr.2 _ _ _ _ n h1 h3 h2 h4
   simp only [List.singleton_append, List.cons.injEq, Prod.mk.injEq] at this
   exact this.1
  ·rename_i hmd; simp only at hmd; simp [hmd, Md.isDeep] at hd
  ·rename_i hmd; simp only at hmd; simp [hmd, Md.isDeep] at hd
  ·rename_i hmd; simp only at hmd; simp [hmd, Md.isDeep] at hd
 have hpiece : ∀ {us : Array Value} {oo : Nat}, RowsIn e xs us oo (fun i j => g.rv id [(i, j)]) → ∀ i x j c, xs[i]? = some x → (enc e x)[j]? = some c →
   ∃ u, us[oo + i * esz e + j]? = some u ∧ CRd w (fun k => G i j k ∨ g.ro k) c u ∧ (md.isDeep = true → COwn w (G i j) c u) := by
  intro us oo hrows i x j c hx hc
  unfold RootRel at hr
  split at hr
  ·rename_i hmd
   simp only at hmd
   obtain ⟨u, h1, h2, h3⟩ := (hr.pieces (ro := g.ro) hrows).rows i x j c hx hc
   have hG : ∀ n, Under e xs (g.rv id) [(i, j)] n → G i j n := fun n hn => ⟨by simp [hmd, Md.isDeep], hn⟩
   refine ⟨u, h1, h2.mono fun k hk => hk.imp (hG k) (fun h => h), fun _ => ?_⟩
   cases c with
   | v q => exact h3 rfl
   | l t zs => obtain ⟨f, h0, h4⟩ := h3 rfl; exact ⟨f, h0, h4.mono hG⟩
  ·rename_i hmd
   simp only at hmd
   obtain ⟨u, h1, h2, h3⟩ := (hr.pieces hrows).rows i x j c hx hc
   exact ⟨u, h1, h2.mono fun k hk => hk.elim (fun h => h.elim) .inr, fun h => by simp [hmd, Md.isDeep] at h⟩
  ·rename_i hmd; simp only at hmd; simp [hmd, Md.isFrz] at hm
  ·rename_i hmd; simp only at hmd; simp [hmd, Md.isPart] at hmp
 rcases hnode with ⟨rfl, hv⟩ | ⟨b, oo, cap, us, el, hv, hFb, hb, hle, hsz, hrows⟩
 ·exact ⟨none, 0, [], G, hv, ⟨by simp, .inl rfl, Nat.le_refl _, fun b o h => by simp at h, fun _ => rfl, fun ad h => by simp at h, fun i x j c h => by simp at h, hdis, fun b o h => by simp at h,
   fun i j n h => ⟨hfree n (hsub i j n h), I.apart.lt_r id n hat (hsub i j n h)⟩⟩, hsub, fun b o h => by simp at h⟩
 ·have hll : oo + xs.length * esz e ≤ us.size := Nat.le_trans (Nat.add_le_add_left (Nat.mul_le_mul_right _ hle) _) hsz
  refine ⟨some ⟨b, oo, none⟩, cap, (us.toList.drop oo).take (xs.length * esz e), G, hv, ⟨by simp; omega, .inr ⟨b, oo, us, el, (0, 0), rfl, hb, fun j v hj => ?_⟩, hle, fun b' o' h => ?_, fun h => by simp at h, fun ad h => ?_,
   fun i x j c hx hc => ?_, hdis, fun b' o' h => ?_, fun i j n h => ⟨hfree n (hsub i j n h), I.apart.lt_r id n hat (hsub i j n h)⟩⟩, hsub, fun b' o' h => ?_⟩
  ·rw [List.getElem?_take] at hj
   split at hj
   ·rw [List.getElem?_drop] at hj; simpa using hj
   ·cases hj
  ·simp only [Option.some.injEq, Addr.mk.injEq, and_true] at h; obtain ⟨rfl, rfl⟩ := h
   exact ⟨us, el, hb, hsz⟩
  ·simp only [Option.some.injEq] at h; subst h; rfl
  ·obtain ⟨u, h1, h2, h3⟩ := hpiece hrows i x j c hx hc
   refine ⟨u, ?_, h2, h3⟩
   have hi : i < xs.length := by
    rcases Nat.lt_or_ge i xs.length with h' | h'
    ·exact h'
    ·simp [List.getElem?_eq_none h'] at hx
   have hj : j < esz e := by
    rw [← enc_length e x]
    rcases Nat.lt_or_ge j (enc e x).length with h' | h'
    ·exact h'
    ·simp [List.getElem?_eq_none h'] at hc
   have : i * esz e + j < xs.length * esz e := by
    have : (i + 1) * esz e ≤ xs.length * esz e := Nat.mul_le_mul_right _ hi
    rw [Nat.add_mul] at this; omega
   rw [List.getElem?_take, if_pos this, List.getElem?_drop]
   simpa [Nat.add_assoc] using h1
  ·simp only [Option.some.injEq, Addr.mk.injEq, and_true] at h; obtain ⟨rfl, rfl⟩ := h
   refine ⟨hfree b hFb, fun i j hG => ?_⟩
   obtain ⟨hd, q, s, h1, h2⟩ := hG
   unfold RootRel at hr
   split at hr
   ·have := hr.2 _ [] s ⟨e, xs⟩ b h1 rfl h2 (by rw [hv]; rfl)
    simp at this
   ·rename_i hmd; simp only at hmd; simp [hmd, Md.isDeep] at hd
   ·rename_i hmd; simp only at hmd; simp [hmd, Md.isDeep] at hd
   ·rename_i hmd; simp only at hmd; simp [hmd, Md.isDeep] at hd
  ·simp only [Option.some.injEq, Addr.mk.injEq, and_true] at h; obtain ⟨rfl, rfl⟩ := h
   exact hFb
theorem Inv.rvFlat (I : Inv w0 Mf g st a w) {id : Nat} {r : Root} (h : aget st.roots id = some (.live r)) : flatB (g.rv id []) = true := by
 exact I.rvFlatAt h (p := []) (s := ⟨r.t, r.xs⟩) rfl
theorem x_append (hE : E.Ok P) (I : Inv w0 Mf g st a w) (hd : ∀ d, o.dst = some d → d < g.n.sz) (hK : Then w0 Mf g st k r K) {c : Call} (hop : o.op = .call c) (hcal : c.callee = .builtin .append)
 (h : evX E o st k = some r) : o.wp P a w K Q := by
 simp only [evX, hop, hcal, evBuiltin] at h
 split at h
 case h_2 => cases h
 rename_i s x T T' hargs htys
 have hargs' : c.args = #[s, x] := by apply Array.ext'; simpa using hargs
 have htys' : c.argTypes = #[T, T'] := by apply Array.ext'; simpa using htys
 have key : ∀ v w', (Builtin.append_ #[T, T'] o.type #[a.eval s, a.eval x]).run P w = .ok v w' → (execOp a.eval o).run P w = .ok (.value v) w' := by
  intro v w' hv
  simp [execOp, hop, resolve, hcal, invoke, builtin, hargs', htys', hv]
 replace h := bindS h; obtain ⟨e', he', h⟩ := h
 have hT' := slElem_some he'
 replace h := I.getC h; obtain ⟨cs, h, hcs⟩ := h
 replace h := I.getC h; obtain ⟨cx, h, hcx⟩ := h
 unfold evAppend at h
 split at h
 case h_2 => cases h
 rename_i e hT
 split at h
 ·-- onto nil
  replace h := I.srcOf h hcx; obtain ⟨ys, d, st', ups, F, rf, xa, cap, news, G, h, I', TK, hsrc⟩ := h
  replace h := condN h; obtain ⟨hlim, h⟩ := h
  replace h := mkRoot_some h; obtain ⟨ver, hfit, h⟩ := h
  have hs := hcs.2; simp only [ScR] at hs
  have hold : Old w0 w Mf (g.wrf rf) st' true e ([] : List (El e)) none 0 [] (fun _ _ _ => False) :=
   ⟨by simp, .inl rfl, Nat.le_refl _, fun b o h => by simp at h, fun _ => rfl, fun ad h => by simp at h, fun i x j c h => by simp at h, fun _ _ _ _ _ h => h.elim, fun b o h => by simp at h, fun _ _ _ h => h.elim⟩
  obtain ⟨v', w', g', hrun, hn, I2, hv⟩ := I'.appendCore (ty := o.type) hE hT hT' hold hsrc
   (fun k hk => ⟨(TK.free I (by simp) hk).1, (TK.free I (by simp) hk).2, fun o b h => by simp at h, fun _ _ h => h⟩) (by have := bleN hlim; simpa using this) (id := 64 * o.dst.getD 0) (ver := ver) (md := Md.deep.meet d)
   (by simpa using hfit) ⟨meet_frz rfl, meet_part rfl⟩ (fun h => ⟨rfl, (meet_deep h).2⟩)
  refine wp_val (key v' w' (by rw [hs]; exact hrun)) (hK _ g' _ _ h hn ?_)
  have hfl := I2.rvFlat (id := 64 * o.dst.getD 0) (aget_aset_self _ _ _)
  have := I2.putRoot rfl (dst := o.dst) (fun d h => by rw [hn]; exact hd d h) hfl
  rw [hv] at this
  have hst := TK.eq
  subst hst
  simpa [St.apply, asets_append, asets] using this
 ·-- onto an own list
  rename_i id ver iv
  replace h := I.srcOf h hcx; obtain ⟨ys, d, st', ups, F, rf, xa, cap, news, G, h, I', TK, hsrc⟩ := h
  replace h := getR_some h; obtain ⟨ro, hlive, hver, h⟩ := h
  obtain ⟨hfz, hpt, h⟩ : ro.md.isFrz = false ∧ ro.md.isPart = false ∧ _ := by
   cases hfz : ro.md.isFrz
   case true => simp [hfz] at h
   cases hpt : ro.md.isPart
   case true => simp [hfz, hpt] at h
   simp only [hfz, hpt, Bool.or_self, cond_false] at h
   exact ⟨rfl, rfl, h⟩
  replace h := bindS h; obtain ⟨xs, hxs, h⟩ := h
  replace h := condN h; obtain ⟨hlim, h⟩ := h
  obtain ⟨t, md, ver', log, xs0⟩ := ro
  have := dec_enc hxs
  simp only [enc, List.cons.injEq, and_true, Cv.l.injEq] at this
  obtain ⟨rfl, hxx⟩ := this
  have hxx := eq_of_heq hxx
  subst hxx
  simp only at hver hfz hpt
  subst hver
  have hcs' := (TK.map _ _ hcs).rf rf
  obtain ⟨hu, _⟩ := hcs'.2.2 _ ⟨.inl hlive, rfl, validNil _ _⟩
  obtain ⟨sa, cap1, olds, G1, hrv, hold, hG1, hsab⟩ := I'.oldOf hlive hfz hpt
  have I'' := I'.drop hlive
  have hfreeF : ∀ n, F n → Free w0 Mf (g.wrf rf) { st' with roots := aset st'.roots id (.gone ver') } n ∧ n < w.heap.size ∧ (∀ o b, sa = some ⟨b, o, none⟩ → n ≠ b) ∧ ∀ i j, ¬ G1 i j n := by
   intro n hn
   obtain ⟨hf, hlt⟩ := TK.free I (by simp) hn
   have hoff := TK.off F (by simp) n hn id ⟨_, hlive, hfz⟩
   exact ⟨Free.drop (fun id' h1 _ => hf.r id' h1) hf.ro hf.b hf.mine, hlt, fun o b h e => hoff (e ▸ hsab b o h), fun i j h => hoff (hG1 i j n h)⟩
  obtain ⟨v', w', g', hrun, hn, I2, hv⟩ := I''.appendCore (ty := o.type) hE hT hT' hold hsrc hfreeF (bleN hlim) (id := id) (ver := ver' + 1) (md := md.meet d)
   (by unfold FitVer; simp [aget_aset_self]) ⟨meet_frz hfz, meet_part hpt⟩ meet_deep
  refine wp_val (key v' w' (by rw [hu, hrv]; exact hrun)) (hK _ g' _ _ h hn ?_)
  have hfl := I2.rvFlat (id := id) (aget_aset_self _ _ _)
  have := I2.putRoot rfl (dst := o.dst) (fun d h => by rw [hn]; exact hd d h) hfl
  rw [hv] at this
  have hst := TK.eq
  subst hst
  simp only [aset_aset] at this
  simpa [St.apply, asets_append, asets] using this
 ·-- onto a list within an own one
  rename_i id ver iv p hnp
  have hp0 : p ≠ [] := hnp
  replace h := I.srcOf h hcx; obtain ⟨ys, d, st', ups, F, rf, xa, cap, news, G, h, I', TK, hsrc⟩ := h
  replace h := getRp_some h; obtain ⟨ro, hro, h⟩ := h
  replace h := condN h; obtain ⟨hdeep, h⟩ := h
  have hmd : ro.md = .deep := by cases hq : ro.md <;> simp_all [Md.isDeep]
  replace h := bindS h; obtain ⟨s1, hs1, h⟩ := h
  replace h := bindS h; obtain ⟨xs, hxs, h⟩ := h
  replace h := condN h; obtain ⟨hlim, h⟩ := h
  replace h := mkRoot_fit h; obtain ⟨ver2, hfit, h, hnl⟩ := h
  have hne : 64 * o.dst.getD 0 ≠ id := fun e => hnl ro (by rw [e]; exact hro.1)
  obtain ⟨t1, xs1⟩ := s1
  have := dec_enc hxs
  simp only [enc, List.cons.injEq, and_true, Cv.l.injEq] at this
  obtain ⟨e1, e2⟩ := this
  subst e1
  have e2 := eq_of_heq e2
  subst e2
  have hcs' := (TK.map _ _ hcs).rf rf
  obtain ⟨hu, hsome⟩ := hcs'.2.2 ro hro.x
  obtain ⟨s', hs'⟩ := Option.isSome_iff_exists.1 hsome
  have := sub_of_subR hs'
  rw [hs1] at this; cases this
  obtain ⟨g2, n1, n2, _, n4, I2, hown⟩ := I'.detach hro.1 hmd hp0 hs' hne hfit
  obtain ⟨sa, cap1, olds, G1, hrv, hold, hG1, hsab⟩ := I2.oldOf (aget_aset_self _ _ _) rfl rfl
  have I3 := I2.drop (aget_aset_self _ _ _)
  have hoff : ∀ n, F n → ∀ i, OwnAt { st' with roots := aset (aset st'.roots id (.live ⟨ro.t, .part (.hole p), ro.ver, ro.log, ro.xs⟩)) (64 * o.dst.getD 0) (.live ⟨t1, .deep, ver2, [], xs1⟩) } i → ¬ g2.rf i n := fun n hn i hi hr => by
   obtain ⟨i0, h1, h2⟩ := hown i n hi hr
   exact (TK.free I (by simp) hn).1.r i0 h1 h2
  have hat2 : OwnAt { st' with roots := aset (aset st'.roots id (.live ⟨ro.t, .part (.hole p), ro.ver, ro.log, ro.xs⟩)) (64 * o.dst.getD 0) (.live ⟨t1, .deep, ver2, [], xs1⟩) } (64 * o.dst.getD 0) := ⟨_, aget_aset_self _ _ _, rfl⟩
  have hfreeF : ∀ n, F n → Free w0 Mf g2 { st' with roots := aset (aset (aset st'.roots id (.live ⟨ro.t, .part (.hole p), ro.ver, ro.log, ro.xs⟩)) (64 * o.dst.getD 0) (.live ⟨t1, .deep, ver2, [], xs1⟩)) (64 * o.dst.getD 0) (.gone ver2) } n ∧ n < w.heap.size ∧ (∀ o b, sa = some ⟨b, o, none⟩ → n ≠ b) ∧ ∀ i j, ¬ G1 i j n := by
   intro n hn
   obtain ⟨hf, hlt⟩ := TK.free I (by simp) hn
   refine ⟨Free.drop (st := { st' with roots := aset (aset st'.roots id (.live ⟨ro.t, .part (.hole p), ro.ver, ro.log, ro.xs⟩)) (64 * o.dst.getD 0) (.live ⟨t1, .deep, ver2, [], xs1⟩) }) (fun i h1 _ => hoff n hn i h1) ?_ (fun b hb => ?_) hf.mine, hlt, fun o b h e => hoff n hn _ hat2 (e ▸ hsab b o h), fun i j h => hoff n hn _ hat2 (hG1 i j n h)⟩
   ·rw [n2]; exact hf.ro
   ·rw [‹∀ b, g2.bx b = _› b]; exact hf.b b hb
  rw [n4] at hrv
  obtain ⟨v', w', g', hrun, hn, I4, hv⟩ := I3.appendCore (ty := o.type) hE hT hT' hold (by rw [n2]; exact hsrc) hfreeF (bleN hlim) (id := 64 * o.dst.getD 0) (ver := ver2 + 1) (md := Md.deep.meet d)
   (by unfold FitVer; simp [aget_aset_self]) ⟨meet_frz rfl, meet_part rfl⟩ meet_deep
  have hgn : g'.n = g.n := hn.trans n1
  refine wp_val (key v' w' (by rw [hu, hrv]; exact hrun)) (hK _ g' _ _ h hgn ?_)
  have hfl := I4.rvFlat (id := 64 * o.dst.getD 0) (aget_aset_self _ _ _)
  have := I4.putRoot rfl (dst := o.dst) (fun d h => by rw [hgn]; exact hd d h) hfl
  rw [hv] at this
  have hst := TK.eq
  subst hst
  simp only [aset_aset] at this
  simpa [St.apply, asets_append, asets] using this
 ·cases h
theorem put_get (off : Nat) : ∀ (l : List Value) (n : Nat) (cells : Array Value), off + n + l.length ≤ cells.size →
 ((l.zipIdx n).foldl (fun cs (p : Value × Nat) => cs.setIfInBounds (off + p.2) p.1) cells).size = cells.size ∧
    ∀ m, ((l.zipIdx n).foldl (fun cs (p : Value × Nat) => cs.setIfInBounds (off + p.2) p.1) cells)[m]? = if off + n ≤ m ∧ m < off + n + l.length then l[m - (off + n)]? else cells[m]?
 | [], n, cells, h => ⟨rfl, fun m => by rw [if_neg (by simp)]; rfl⟩
 | v :: l, n, cells, h => by
  simp only [List.length_cons] at h
  obtain ⟨h1, h2⟩ := put_get off l (n + 1) (cells.setIfInBounds (off + n) v) (by simp; omega)
  simp only [List.zipIdx_cons, List.foldl_cons]
  refine ⟨by rw [h1]; simp, fun m => ?_⟩
  rw [h2 m]
  by_cases hm : m = off + n
  ·subst hm
   rw [if_neg (by omega), if_pos (by simp), Array.getElem?_setIfInBounds_self_of_lt (by omega)]
   simp
  ·by_cases hr : off + n ≤ m ∧ m < off + n + (v :: l).length
   ·simp only [List.length_cons] at hr
    rw [if_pos (by omega), if_pos (by simp; omega)]
    rw [show m - (off + n) = (m - (off + (n + 1))) + 1 by omega, List.getElem?_cons_succ]
   ·simp only [List.length_cons] at hr
    rw [if_neg (by omega), if_neg (by simp; omega), Array.getElem?_setIfInBounds_ne (by omega)]
def putAt (cells : Array Value) (off : Nat) (vs : Array Value) : Array Value := vs.zipIdx.foldl (fun cs (p : Value × Nat) => cs.setIfInBounds (off + p.2) p.1) cells
theorem putAt_size {cells : Array Value} {off : Nat} {vs : Array Value} (h : off + vs.size ≤ cells.size) : (putAt cells off vs).size = cells.size := by
 have := (put_get off vs.toList 0 cells (by simpa using h)).1
 unfold putAt
 rw [← Array.foldl_toList, Array.toList_zipIdx]
 exact this
theorem putAt_get {cells : Array Value} {off : Nat} {vs : Array Value} (h : off + vs.size ≤ cells.size) (m : Nat) : (putAt cells off vs)[m]? = if off ≤ m ∧ m < off + vs.size then vs[m - off]? else cells[m]? := by
 have := (put_get off vs.toList 0 cells (by simpa using h)).2 m
 unfold putAt
 rw [← Array.foldl_toList, Array.toList_zipIdx]
 simpa using this
theorem fill_cons {place : Nat → Option (Nat × Nat)} {cells : Array Value} {i off : Nat} {v : Value} {rest : List (Nat × Value)} (hp : place i = some (off, v.cells.size)) (h : off + v.cells.size ≤ cells.size) :
    Instr.fill place cells ((i, v) :: rest) = Instr.fill place (putAt cells off v.cells) rest := by
 simp only [Instr.fill, hp]
 rw [if_neg (by simp; omega)]
 rfl
theorem zero_nil {t : Ty} {j : Nat} {t' : Ty} {ys : List (El t')} (h : (enc t (zero t))[j]? = some (.l t' ys)) : ys = [] := by
 have key : (enc t (zero t)).all (fun c => match c with | .v _ => true | .l _ ys => ys.isEmpty) = true := by cases t <;> rfl
 have := List.all_eq_true.1 key _ (List.mem_of_getElem? h)
 simpa using this
theorem nilOwn (w : World) (F : Nat → Prop) (t : Ty) : OwnSl w F t [] (.slice none 0 0) :=
 ⟨fun _ => .slice none 0 0, rfl, fun p s hs => by
      cases p with
      | nil => simp only [subR, Option.some.injEq] at hs; subst hs; exact .inl ⟨rfl, rfl⟩
      | cons ij p => simp [subR] at hs,
    fun p q s s' b _ _ h _ => by simp [blk] at h⟩
theorem COwn.rd {F : Nat → Prop} {c : Cv} {u : Value} (h : COwn w F c u) : CRd w F c u := by
 cases c with
 | v x => exact h
 | l t ys => obtain ⟨av, h0, h1⟩ := h; exact ⟨av, h0, h1.rd⟩
theorem COwn.mono {F G : Nat → Prop} (hFG : ∀ k, F k → G k) {c : Cv} {u : Value} (h : COwn w F c u) : COwn w G c u := by
 cases c with
 | v x => exact h
 | l t ys => obtain ⟨av, h0, h1⟩ := h; exact ⟨av, h0, h1.mono hFG⟩
def zrow (t : Ty) (n : Nat) : Array Value := (Array.range (n * esz t)).map fun i => (zvals t).getD (i % esz t) (.bool false)
theorem zrow_size (t : Ty) (n : Nat) : (zrow t n).size = n * esz t := by simp [zrow]
theorem zrow_pieces (w : World) (ro : Nat → Prop) (t : Ty) (n : Nat) : Pieces w ro true t (List.replicate n (zero t)) (zrow t n) 0 (fun _ _ _ => False) := by
 refine ⟨fun i x j c hx hc => ?_, fun _ _ _ _ _ h => h.elim⟩
 have hi : i < n := by
  rcases Nat.lt_or_ge i n with h' | h'
  ·exact h'
  ·rw [List.getElem?_eq_none (by simpa using h')] at hx; cases hx
 simp only [List.getElem?_replicate, hi, if_true, Option.some.injEq] at hx
 subst hx
 have hj : j < esz t := by
  rw [← enc_length t (zero t)]
  rcases Nat.lt_or_ge j (enc t (zero t)).length with h' | h'
  ·exact h'
  ·simp [List.getElem?_eq_none h'] at hc
 have hlt : i * esz t + j < n * esz t := by
  have : (i + 1) * esz t ≤ n * esz t := Nat.mul_le_mul_right _ hi
  rw [Nat.add_mul] at this; omega
 have hmod : (i * esz t + j) % esz t = j := by rw [Nat.mul_comm, Nat.mul_add_mod, Nat.mod_eq_of_lt hj]
 have hz : (zrow t n)[0 + i * esz t + j]? = some ((zvals t).getD j (.bool false)) := by
  rw [Nat.zero_add]
  simp only [zrow, Array.getElem?_map]
  rw [Array.getElem?_eq_getElem (by simpa using hlt)]
  simp [hmod]
 refine ⟨_, hz, ?_⟩
 cases c with
 | v x =>
  have hzv : (zvals t).getD j (.bool false) = x := by simp only [zvals, List.getD, List.getElem?_map, hc, Option.map_some, Option.getD_some]
  exact ⟨hzv, fun _ => hzv⟩
 | l t' ys =>
  have := zero_nil hc
  subst this
  have hzv : (zvals t).getD j (.bool false) = .slice none 0 0 := by simp only [zvals, List.getD, List.getElem?_map, hc, Option.map_some, Option.getD_some]
  rw [hzv]
  have hown : COwn w (fun _ => False) (.l t' []) (.slice none 0 0) := nilOwn w _ t'
  exact ⟨hown.rd.mono fun _ h => h.elim, fun _ => hown⟩
theorem Any_nil {k : Nat} : ¬ Any [] k := fun ⟨_, h, _⟩ => by simp at h
theorem Any_append {Fs Gs : List (Nat → Prop)} {k : Nat} : Any (Fs ++ Gs) k ↔ Any Fs k ∨ Any Gs k := by
 simp only [Any, List.mem_append]
 constructor
 ·rintro ⟨F, h | h, hk⟩
  ·exact .inl ⟨F, h, hk⟩
  ·exact .inr ⟨F, h, hk⟩
 ·rintro (⟨F, h, hk⟩ | ⟨F, h, hk⟩)
  ·exact ⟨F, .inl h, hk⟩
  ·exact ⟨F, .inr h, hk⟩
theorem Inv.absEl (I : Inv w0 Mf g st a w) {t : Ty} {s : Sv} {k : El t → Bool → St → List (Nat × Rt) → Option R} {r : R} {u : Value} (h : absEl st t s k = some r) (hs : SvRel w g st s u) :
    ∃ x us d st' ups Fs, k x d st' ups = some r ∧ Form t u us ∧ Inv w0 Mf g st' a w ∧ Took w g st st' ups Fs ∧ AbsL w g.ro (enc t x) us.toList Fs d := by
 obtain ⟨cs, hcs, h⟩ := bindS h
 obtain ⟨us, hf, hc⟩ := svCells_sound hcs hs
 obtain ⟨cv, d, st', ups, Fs, h1, I', T, hA⟩ := I.absL h hc.l
 obtain ⟨x, hx, h3⟩ := bindS h1
 have hcv := dec_enc hx
 subst hcv
 exact ⟨x, us, d, st', ups, Fs, h3, hf, I', T, hA⟩
theorem Inv.absElP (I : Inv w0 Mf g st a w) {t : Ty} {s : Sv} {k : El t → Bool → St → List (Nat × Rt) → Option R} {r : R} {u : Value} (h : absElP st t s k = some r) (hs : SvRel w g st s u) :
    ∃ x us d st' ups Fs rf, k x d st' ups = some r ∧ Form t u us ∧ Inv w0 Mf (g.wrf rf) st' a w ∧ TookP w g rf st st' ups Fs ∧ AbsL w g.ro (enc t x) us.toList Fs d := by
 obtain ⟨cs, hcs, h⟩ := bindS h
 obtain ⟨us, hf, hc⟩ := svCells_sound hcs hs
 obtain ⟨cv, d, st', ups, Fs, rf, h1, I', T, hA⟩ := I.absLP h hc.l
 obtain ⟨x, hx, h3⟩ := bindS h1
 have hcv := dec_enc hx
 subst hcv
 exact ⟨x, us, d, st', ups, Fs, rf, h3, hf, I', T, hA⟩
theorem enc_lt {t : Ty} {x : El t} {j : Nat} {c : Cv} (h : (enc t x)[j]? = some c) : j < esz t := by
 rw [← enc_length t x]
 rcases Nat.lt_or_ge j (enc t x).length with h' | h'
 ·exact h'
 ·simp [List.getElem?_eq_none h'] at h
theorem el_lt {α : Type} {xs : List α} {i : Nat} {x : α} (h : xs[i]? = some x) : i < xs.length := by
 rcases Nat.lt_or_ge i xs.length with h' | h'
 ·exact h'
 ·simp [List.getElem?_eq_none h'] at h
theorem Pieces.put {ro gr : Nat → Prop} {dd d : Bool} {e : Ty} {xs : List (El e)} {cs : Array Value} {o : Nat} {G : Nat → Nat → Nat → Prop} {Fs Gs : List (Nat → Prop)} (hp : Pieces w (fun k => ro k ∨ Any Fs k) dd e xs cs o G)
 (hG : ∀ i j k, G i j k → Any Fs k) {y : El e} {vs : List Value} (hA : AbsL w gr (enc e y) vs Gs d) (hro : ∀ k, gr k → ro k) (hpair : PairApart (Fs ++ Gs)) {i : Nat} (hi : i < xs.length) (hsz : o + xs.length * esz e ≤ cs.size) :
    ∃ G', Pieces w (fun k => ro k ∨ Any (Fs ++ Gs) k) (dd && d) e (xs.set i y) (putAt cs (o + i * esz e) vs.toArray) o G' ∧ ∀ i j k, G' i j k → Any (Fs ++ Gs) k := by
 have hlen : vs.length = esz e := by rw [hA.len.1, enc_length]
 have hmul : i * esz e + esz e ≤ xs.length * esz e := by
  have : (i + 1) * esz e ≤ xs.length * esz e := Nat.mul_le_mul_right _ hi
  rw [Nat.add_mul] at this; omega
 have hget := fun m => putAt_get (cells := cs) (off := o + i * esz e) (vs := vs.toArray) (by simp [hlen]; omega) m
 have hrow := hA.rd
 let G' : Nat → Nat → Nat → Prop := fun i' j k => (i' = i ∧ ∃ F, Gs[j]? = some F ∧ F k) ∨ (i' ≠ i ∧ G i' j k)
 have hG' : ∀ i j k, G' i j k → Any (Fs ++ Gs) k := by
  rintro i' j k (⟨rfl, F, h1, h2⟩ | ⟨_, h⟩)
  ·exact Any_append.2 (.inr ⟨F, List.mem_of_getElem? h1, h2⟩)
  ·exact Any_append.2 (.inl (hG _ _ _ h))
 refine ⟨G', ⟨fun i' x j c hx hc => ?_, ?_⟩, hG'⟩
 ·have hj := enc_lt hc
  by_cases hii : i' = i
  ·subst hii
   rw [List.getElem?_set_self hi] at hx
   cases hx
   obtain ⟨z, hz, hr⟩ := hrow.get j c hc
   refine ⟨z, ?_, hr.mono fun k hk => ?_, fun hd => ?_⟩
   ·rw [hget, if_pos (by simp [hlen]; omega), show o + i' * esz e + j - (o + i' * esz e) = j by omega]
    simpa using hz
   ·rcases hk with hk | hk
    ·exact .inr (.inr (Any_append.2 (.inr hk)))
    ·exact .inr (.inl (hro k hk))
   ·simp only [Bool.and_eq_true] at hd
    obtain ⟨z', F, h1, h2, h3⟩ := hA.own hd.2 j c hc
    rw [hz] at h1; cases h1
    exact h3.mono fun k hk => .inl ⟨rfl, F, h2, hk⟩
  ·rw [List.getElem?_set_ne (Ne.symm hii)] at hx
   obtain ⟨z, hz, hr, ho⟩ := hp.rows i' x j c hx hc
   refine ⟨z, ?_, hr.mono fun k hk => ?_, fun hd => ?_⟩
   ·rw [hget, if_neg ?_]
    ·exact hz
    ·simp only [List.size_toArray, hlen]
     rcases Nat.lt_or_gt_of_ne hii with hlt | hlt
     ·have : (i' + 1) * esz e ≤ i * esz e := Nat.mul_le_mul_right _ hlt
      rw [Nat.add_mul] at this; omega
     ·have : (i + 1) * esz e ≤ i' * esz e := Nat.mul_le_mul_right _ hlt
      rw [Nat.add_mul] at this; omega
   ·rcases hk with hk | hk | hk
    ·exact .inl (.inr ⟨hii, hk⟩)
    ·exact .inr (.inl hk)
    ·exact .inr (.inr (Any_append.2 (.inl hk)))
   ·simp only [Bool.and_eq_true] at hd
    exact (ho hd.1).mono fun k hk => .inr ⟨hii, hk⟩
 ·have hx : ∀ k, Any Fs k → Any Gs k → False := fun k ⟨F, hF, h1⟩ ⟨F', hF', h2⟩ => (List.pairwise_append.1 hpair).2.2 F hF F' hF' k h1 h2
  rintro i1 j1 i2 j2 k (⟨rfl, F, h1, h2⟩ | ⟨hn, h⟩) (⟨rfl, F', h1', h2'⟩ | ⟨hn', h'⟩)
  ·refine ⟨rfl, ?_⟩
   have hgp := List.pairwise_iff_getElem.1 (List.pairwise_append.1 hpair).2.1
   obtain ⟨hj, rfl⟩ := List.getElem?_eq_some_iff.1 h1
   obtain ⟨hj', rfl⟩ := List.getElem?_eq_some_iff.1 h1'
   rcases Nat.lt_trichotomy j1 j2 with hlt | heq | hlt
   ·exact (hgp j1 j2 hj hj' hlt k h2 h2').elim
   ·exact heq
   ·exact (hgp j2 j1 hj' hj hlt k h2' h2).elim
  ·exact (hx k (hG _ _ _ h') ⟨F, List.mem_of_getElem? h1, h2⟩).elim
  ·exact (hx k (hG _ _ _ h) ⟨F', List.mem_of_getElem? h1', h2'⟩).elim
  ·exact hp.dis _ _ _ _ k h h'
theorem Inv.elemsAt {g : Gh} {st0 : St} {e : Ty} : ∀ {ps : List (Nat × Operand)} {rf : Nat → Nat → Prop} {st : St} {ups : List (Nat × Rt)} {Fs : List (Nat → Prop)} {xs : List (El e)} {cs : Array Value} {G : Nat → Nat → Nat → Prop} {dd : Bool}
    {k : List (El e) → Bool → St → List (Nat × Rt) → Option R} {r : R}, Inv w0 Mf (g.wrf rf) st a w → TookP w g rf st0 st ups Fs → Pieces w (fun k => g.ro k ∨ Any Fs k) dd e xs cs 0 G → (∀ i j k, G i j k → Any Fs k) →
    cs.size = xs.length * esz e → elemsAt e st ps xs k = some r →
    ∃ ys d st' ups' Fs' cs' G' rf', k ys d st' ups' = some r ∧ Inv w0 Mf (g.wrf rf') st' a w ∧ TookP w g rf' st0 st' (ups ++ ups') Fs' ∧ Pieces w (fun k => g.ro k ∨ Any Fs' k) (dd && d) e ys cs' 0 G' ∧ (∀ i j k, G' i j k → Any Fs' k) ∧
      cs'.size = cs.size ∧ ys.length = xs.length ∧ Instr.fill (fun i => some (i * esz e, esz e)) cs (ps.map fun p => (p.1, a.eval p.2)) = some cs'
  | [], rf, st, ups, Fs, xs, cs, G, dd, k, r, I, T, hp, hG, hsz, h => ⟨xs, true, st, [], Fs, cs, G, rf, h, I, by simpa using T, by simpa using hp, hG, rfl, rfl, rfl⟩
  | (i, x) :: ps, rf, st, ups, Fs, xs, cs, G, dd, k, r, I, T, hp, hG, hsz, h => by
    simp only [Gm.elemsAt] at h
    obtain ⟨s, h, hs⟩ := I.getS h
    obtain ⟨y, us, d, s1, u1, Gs, rf1, h, hf, I1, T1, hA⟩ := I.absElP h hs
    obtain ⟨hi, h⟩ := condN h
    have hi : i < xs.length := Nat.lt_of_succ_le (bleN hi)
    have T2 := T.trans T1
    obtain ⟨G1, hp1, hG1⟩ := hp.put hG hA (fun _ h => h) T2.apart hi (by omega)
    have hus : us.size = esz e := by
      have := hA.len.1
      rw [enc_length] at this; simpa using this
    have hmul : i * esz e + esz e ≤ xs.length * esz e := by
      have : (i + 1) * esz e ≤ xs.length * esz e := Nat.mul_le_mul_right _ hi
      rw [Nat.add_mul] at this; omega
    have hcell := hf.cells
    obtain ⟨ys, d', st', u', Fs', cs', G', rf', h1, h2, h3, h4, h5, h6, h7, h8⟩ := Inv.elemsAt (g := g) (rf := rf1) I1 T2 hp1 hG1 (by rw [putAt_size (by simp [hus]; omega)]; simpa using hsz) h
    refine ⟨ys, d && d', st', u1 ++ u', Fs', cs', G', rf', h1, h2, by rw [← List.append_assoc]; exact h3, by rw [← Bool.and_assoc]; exact h4, h5, ?_, by simpa using h7, ?_⟩
    · rw [h6, putAt_size (by simp [hus]; omega)]
    · simp only [List.map_cons]
      rw [fill_cons (off := i * esz e) (by rw [hcell, hus]) (by rw [hcell, hus]; omega)]
      simpa [hcell] using h8
theorem run_newRow {T : Nat} {cs : Array Value} (w : World) : (newRow T cs).run P w = .ok ⟨w.heap.size, 0, none⟩ (pushW w (.cells cs T)) := by
 simp [newRow, pushW]
theorem Inv.newRoot {rf : Nat → Nat → Prop} {st0 : St} (I0 : Inv w0 Mf g st0 a w) (I : Inv w0 Mf (g.wrf rf) st a w) {ups : List (Nat × Rt)} {Fs : List (Nat → Prop)} (T : TookP w g rf st0 st ups Fs) {e : Ty} {xs : List (El e)} {cs : Array Value} {G : Nat → Nat → Nat → Prop} {d : Bool}
 (hp : Pieces w (fun k => g.ro k ∨ Any Fs k) d e xs cs 0 G) (hG : ∀ i j k, G i j k → Any Fs k) (hsz : cs.size = xs.length * esz e) {el id ver : Nat} {md : Md} (hfit : FitVer st id ⟨e, md, ver, [], xs⟩) (hmd : md.isFrz = false ∧ md.isPart = false)
 (hdd : md.isDeep = true → d = true) {dst : Option Nat} (hd : ∀ d, dst = some d → d < g.n.sz) :
    ∃ g' : Gh, g'.n = g.n ∧ Inv w0 Mf g' (({ st with roots := aset st.roots id (.live ⟨e, md, ver, [], xs⟩) } : St).apply { slot := dst.map fun d => (d, .c (.one (.h id ver 0 []))) })
 (a.put dst (.slice (some ⟨w.heap.size, 0, none⟩) xs.length xs.length)) (pushW w (.cells cs el)) := by
 have hs : SameBut (fun k => k = w.heap.size) w (pushW w (.cells cs el)) := ⟨(push_same w _).1, fun b h _ => (push_same w (.cells cs el)).2 b h (fun h => h)⟩
 have hfr : ∀ k, Any Fs k → k ≠ w.heap.size ∧ Free w0 Mf (g.wrf rf) st k ∧ k < w.heap.size := fun k ⟨F, hF, hk⟩ => by
  obtain ⟨h1, h2⟩ := T.free I0 hF hk
  exact ⟨by omega, h1, h2⟩
 obtain ⟨g', h1, h2, h3⟩ := I.build (w' := pushW w (.cells cs el)) (b := w.heap.size) (o := 0) (cap := xs.length) (el := el) (cs := cs) hs rfl rfl rfl (push_new _ _) I.freeNew hp (fun i j k h => hfr k (hG i j k h)) hfr (Nat.le_refl _)
  (by omega) hfit hmd hdd
 refine ⟨g', h1, ?_⟩
 have := h2.putRoot rfl (dst := dst) (fun d h => by rw [h1]; exact hd d h) (by rw [h3]; rfl)
 rw [h3] at this
 exact this
theorem zrow_eq {zv : Array Value} {t : Ty} (h : zv = (zvals t).toArray) (n : Nat) : (Array.range (n * esz t)).map (fun i => (if n * esz t = 0 then #[] else zv)[i % (if n * esz t = 0 then (#[] : Array Value) else zv).size]!) = zrow t n := by
 subst h
 by_cases hn : n * esz t = 0
 ·simp [zrow, hn]
 ·simp only [hn, if_false, zrow]
  apply Array.ext
  ·simp
  ·intro i h1 h2
   simp only [Array.getElem_map, Array.getElem_range]
   have hl : (zvals t).length = esz t := by simp [zvals, enc_length]
   have hlt : i % esz t < (zvals t).length := by rw [hl]; exact Nat.mod_lt _ (esz_pos t)
   simp [hl, List.getD, List.getElem?_eq_getElem hlt]
theorem run_buildSlice {T n el : Nat} {e : Ty} {zv : Value} {cs : Array Value} {parts : Array (Nat × Value)} (hu : P.underlying T = some (.slice el)) (hs : (sizeOf el).run P w = .ok (esz e) w)
 (hz : (zeroValue el).run P w = .ok zv w) (hzc : zv.cells = (zvals e).toArray) (hlim : n * esz e ≤ 16777216)
 (hfill : Instr.fill (fun i => some (i * esz e, esz e)) (zrow e n) parts.toList = some cs) : (Instr.buildSlice T n parts).run P w = .ok (.slice (some ⟨w.heap.size, 0, none⟩) n n) (pushW w (.cells cs el)) := by
 have hlim' : ¬ (2 ^ 24 < n * esz e) := by omega
 have hzr := zrow_eq hzc n
 by_cases hn0 : n * esz e = 0
 ·simp only [hn0, if_true] at hzr
  rw [← hzr] at hfill
  simp only [Instr.buildSlice, Sem.run_bind, run_underlying hu, Result.andThen_ok, hs, gt_iff_lt, hn0, if_true, Sem.run_pure]
  simp only [Nat.not_lt_zero, if_false, Sem.run_bind, Sem.run_pure, Result.andThen_ok, hfill, run_newRow]
 ·simp only [hn0, if_false] at hzr
  rw [← hzr] at hfill
  simp only [Instr.buildSlice, Sem.run_bind, run_underlying hu, Result.andThen_ok, hs, gt_iff_lt, hlim', hn0, if_false, Sem.run_pure, hz, hfill, run_newRow]
theorem x_buildSlice (hE : E.Ok P) (I : Inv w0 Mf g st a w) (hd : ∀ d, o.dst = some d → d < g.n.sz) (hK : Then w0 Mf g st k r K) {T n : Nat} {ps : Array (Nat × Operand)} (hop : o.op = .buildSlice T n ps)
 (h : evX E o st k = some r) : o.wp P a w K Q := by
 simp only [evX, hop] at h
 split at h
 case h_2 => cases h
 rename_i e hT
 obtain ⟨hlim, h⟩ := condN h
 have hlim := bleN hlim
 obtain ⟨ys, d, st', ups, Fs, cs, G, rf, h, I', TK, hp, hG, hsz, hlen, hfill⟩ := Inv.elemsAt (rf := g.rf) (G := fun _ _ _ => False) (dd := true) I (TookP.refl _ _ _) (zrow_pieces w _ e n) (fun _ _ _ h => h.elim) (by simp [zrow_size]) h
 obtain ⟨ver, hfit, h⟩ := mkRoot_some h
 obtain ⟨el, hu, hel⟩ := hE.slice hT
 obtain ⟨zv, hz, hzc⟩ := hE.zero hel w
 have hys : ys.length = n := by simpa using hlen
 obtain ⟨g', hn, I2⟩ := Inv.newRoot (el := el) I I' (by simpa using TK) hp hG (by rw [hsz, zrow_size, hys]) hfit ⟨meet_frz rfl, meet_part rfl⟩ (fun h => by simpa using (meet_deep h).2) hd
 refine wp_val (v := .slice (some ⟨w.heap.size, 0, none⟩) ys.length ys.length) (w' := pushW w (.cells cs el)) ?_ (hK _ g' _ _ h hn ?_)
 ·have hfill' : Instr.fill (fun i => some (i * esz e, esz e)) (zrow e n) (ps.map fun p => (p.1, a.eval p.2)).toList = some cs := by simpa using hfill
  have := run_buildSlice (n := n) hu (hE.size hel w) hz hzc hlim hfill'
  rw [hys]
  simp only [execOp, hop, Sem.run_bind, this, Result.andThen_ok, Sem.run_pure]
 ·have hst := TK.eq
  subst hst
  simpa [St.apply, asets_append, asets] using I2
theorem run_makeSlice (hE : E.Ok P) {T el : Nat} {e : Ty} {zv : Value} {n : Int} (hu : P.underlying T = some (.slice el)) (hel : E.code el = some e) (hz : (zeroValue el).run P w = .ok zv w) (hzc : zv.cells = (zvals e).toArray)
 (h0 : 0 ≤ n) (h1 : n ≤ (LIM : Int)) : (Instr.makeSlice T (.int .i64 n) (.int .i64 n)).run P w = .ok (.slice (some ⟨w.heap.size, 0, none⟩) n.toNat n.toNat) (pushW w (.cells (zrow e n.toNat) el)) := by
 obtain ⟨i, zv', hi, hsz, hby, _, _⟩ := hE.info el e hel
 have hw : IntKind.i64.wrap n = n := by
  unfold LIM at h1
  simp only [IntKind.wrap, IntKind.signed, IntKind.bits]
  simp
  omega
 have hbytes : ¬ (281474976710656 < (i.bytes : Int) * n) := by
  have h3 : (i.bytes : Int) * n ≤ 1024 * n := Int.mul_le_mul_of_nonneg_right (by omega) h0
  unfold LIM at h1; omega
 have hzr := zrow_eq hzc n.toNat
 have hs := hE.size hel w
 have hn : ¬ n < 0 := by omega
 by_cases hn0 : n.toNat * esz e = 0
 ·simp only [hn0, if_true] at hzr
  simp [Instr.makeSlice, run_underlying hu, asInt, asIntOf, typeInfo, hi, hw, hn, hbytes, hs, hn0, run_newRow, ← hzr]
 ·simp only [hn0, if_false] at hzr
  simp [Instr.makeSlice, run_underlying hu, asInt, asIntOf, typeInfo, hi, hw, hn, hbytes, hs, hn0, run_newRow, ← hzr, hz]
theorem x_makeSlice (hE : E.Ok P) (I : Inv w0 Mf g st a w) (hd : ∀ d, o.dst = some d → d < g.n.sz) (hK : Then w0 Mf g st k r K) {T : Nat} {n m : Operand} (hop : o.op = .makeSlice T n m)
 (h : evX E o st k = some r) : o.wp P a w K Q := by
 simp only [evX, hop] at h
 split at h
 case h_2 => cases h
 rename_i e hT
 replace h := I.getInt h; obtain ⟨n', h, hn'⟩ := h
 replace h := I.getInt h; obtain ⟨m', h, hm'⟩ := h
 replace h := condN h; obtain ⟨hc, h⟩ := h
 simp only [Bool.and_eq_true, decide_eq_true_eq] at hc
 obtain ⟨rfl, h0, h1⟩ := hc
 replace h := mkRoot_some h; obtain ⟨ver, hfit, h⟩ := h
 obtain ⟨el, hu, hel⟩ := hE.slice hT
 obtain ⟨zv, hz, hzc⟩ := hE.zero hel w
 obtain ⟨g', hn, I2⟩ := Inv.newRoot (el := el) (G := fun _ _ _ => False) (rf := g.rf) I I (TookP.refl _ _ _) ((zrow_pieces w (fun k => g.ro k ∨ Any [] k) e n'.toNat)) (fun _ _ _ h => h.elim) (by simp [zrow_size]) hfit ⟨rfl, rfl⟩ (fun _ => rfl) hd
 refine wp_val (v := .slice (some ⟨w.heap.size, 0, none⟩) n'.toNat n'.toNat) (w' := pushW w (.cells (zrow e n'.toNat) el)) ?_ (hK _ g' _ _ h hn ?_)
 ·simp only [execOp, hop, Sem.run_bind, hn', hm', run_makeSlice hE hu hel hz hzc h0 h1, Result.andThen_ok, Sem.run_pure]
 ·simpa [St.apply, asets] using I2
theorem Inv.partsAt (hE : E.Ok P) (I : Inv w0 Mf g st a w) {T : Nat} {fs : Array Field} (hu : P.underlying T = some (.struct fs)) {pl : List (Nat × Nat)}
 (hpl : fs.toList.mapM (fun f => (P.info? f.type).map fun i => (f.offset, i.size)) = some pl) : ∀ {ps : List (Nat × Operand)} {row : List Sc} {us : Array Value} {k : List Sc → Option R} {r : R}, CsRel w g st row us →
    partsAt E T st ps row k = some r → ∃ row' us', k row' = some r ∧ CsRel w g st row' us' ∧ Instr.fill (pl.toArray[·]?) us (ps.map fun p => (p.1, a.eval p.2)) = some us'
  | [], row, us, k, r, hr, h => ⟨row, us, h, hr, rfl⟩
  | (i, x) :: ps, row, us, k, r, hr, h => by
    simp only [Gm.partsAt] at h
    obtain ⟨⟨off, ft⟩, hfld, h⟩ := bindS h
    obtain ⟨t, ht, h⟩ := bindS h
    obtain ⟨s, h, hs⟩ := I.getS h
    obtain ⟨cs, hcs, h⟩ := bindS h
    obtain ⟨hb, h⟩ := condN h
    simp only [Bool.and_eq_true] at hb
    have hlen := beqN hb.1
    have hle := bleN hb.2
    obtain ⟨vs, hf, hc⟩ := svCells_sound hcs hs
    obtain ⟨fs', fd, t', hu', hfd, rfl, rfl, hcode⟩ := hE.fld T i _ _ hfld
    rw [hu] at hu'; cases hu'
    rw [ht] at hcode; cases hcode
    obtain ⟨inf, zv, hi, hsz, _⟩ := hE.info _ _ ht
    have hvs : vs.size = cs.length := hc.1
    have hus : us.size = row.length := hr.1
    have hplace : pl.toArray[i]? = some (fd.offset, esz t) := by
      have : ∀ (l : List Field) (pl : List (Nat × Nat)), l.mapM (fun f => (P.info? f.type).map fun i => (f.offset, i.size)) = some pl → ∀ (n : Nat) f, l[n]? = some f → ∃ inf, P.info? f.type = some inf ∧ pl[n]? = some (f.offset, inf.size) := by
        intro l
        induction l with
        | nil => intro pl _ n f hn; simp at hn
        | cons f0 l ih =>
          intro pl hm n f hn
          simp only [List.mapM_cons, Option.bind_eq_bind, Option.pure_def] at hm
          obtain ⟨b, hb, hm⟩ := bindS hm
          obtain ⟨bs, hbs, hm⟩ := bindS hm
          simp only [Option.some.injEq] at hm; subst hm
          cases n with
          | zero =>
            simp only [List.getElem?_cons_zero, Option.some.injEq] at hn; subst hn
            simp only [Option.map_eq_some_iff] at hb
            obtain ⟨inf, h1, rfl⟩ := hb
            exact ⟨inf, h1, rfl⟩
          | succ n => simpa using ih bs hbs n f (by simpa using hn)
      obtain ⟨inf', h1, h2⟩ := this fs.toList pl hpl i fd (by simpa using hfd)
      rw [hi] at h1; cases h1
      simpa [hsz] using h2
    have hset := hr.set hc fd.offset (by omega)
    obtain ⟨row', us', h1, h2, h3⟩ := Inv.partsAt hE I hu hpl hset h
    refine ⟨row', us', h1, h2, ?_⟩
    have hcell := hf.cells
    simp only [List.map_cons]
    rw [fill_cons (off := fd.offset) (by rw [hcell, hvs, hlen]; exact hplace) (by rw [hcell, hvs, hus]; omega), hcell]
    rw [← h3]
    congr 1
    apply Array.ext
    · rw [putAt_size (by omega)]; simp; omega
    · intro n h1 h2
      apply Option.some.inj
      rw [← Array.getElem?_eq_getElem, ← Array.getElem?_eq_getElem, putAt_get (by omega)]
      simp only [List.getElem?_toArray]
      by_cases hn1 : n < fd.offset
      · rw [if_neg (by omega), List.append_assoc, List.getElem?_append_left (by simp; omega), List.getElem?_take, if_pos hn1]; simp
      · by_cases hn2 : n < fd.offset + vs.size
        · rw [if_pos (by omega), List.getElem?_append_left (by simp; omega), List.getElem?_append_right (by simp; omega)]
          have : min fd.offset us.size = fd.offset := by omega
          simp [this]
        · rw [if_neg (by omega), List.getElem?_append_right (by simp; omega)]
          have : min fd.offset us.size = fd.offset := by omega
          simp only [List.length_append, List.length_take, Array.length_toList, this, List.getElem?_drop]
          rw [show fd.offset + vs.size + (n - (fd.offset + vs.size)) = n by omega]
          simp
theorem x_build (hE : E.Ok P) (I : Inv w0 Mf g st a w) (hd : ∀ d, o.dst = some d → d < g.n.sz) (hK : Then w0 Mf g st k r K) {T : Nat} {ps : Array (Nat × Operand)} (hop : o.op = .build T ps)
 (h : evX E o st k = some r) : o.wp P a w K Q := by
 simp only [evX, hop] at h
 replace h := bindS h; obtain ⟨t, hT, h⟩ := h
 replace h := condN h; obtain ⟨hst, h⟩ := h
 have hu := hE.und T t hT
 have hu' : ∃ fs, P.underlying T = some (.struct fs) := by
  unfold UndOk at hu
  cases t <;> first | exact hu | (simp only [isSt, Bool.false_eq_true] at hst)
 obtain ⟨fs, hfs⟩ := hu'
 obtain ⟨pl, hpl⟩ := hE.sts T fs hfs (by simp [hT])
 obtain ⟨row', us', h, hr, hfill⟩ := I.partsAt hE hfs hpl (zeroRel t) h
 obtain ⟨i, zv, hi, _, _, hz, hzc⟩ := hE.info T t hT
 have hb : P.built T (ps.map fun (i, x) => (i, a.eval x)).toList = some us' := by
  unfold Program.built
  simp only [hi, hfs, hz, hpl, hzc]
  rw [show (ps.map fun (i, x) => (i, a.eval x)).toList = ps.toList.map (fun p => (p.1, a.eval p.2)) from by simp]
  exact hfill
 refine I.val hd hK (v := .agg us') ?_ h ⟨us', rfl, hr⟩
 simp only [execOp, hop, Sem.run_bind, run_build w T _ _ hb, Result.andThen_ok, Sem.run_pure]
theorem verOk_at {id ver iv : Nat} {ro : Root} (h : aget st.roots id = some (.live ro) ∨ aget st.roots id = some (.lent ro)) : verOk st id ver iv ↔ (ver < ro.ver ∨ (ver = ro.ver ∧ iv ≤ ro.log.length)) := by
 unfold verOk
 rcases h with h | h <;> simp only [h]
structure Alone (g : Gh) (st : St) (id k : Nat) : Prop where
 r : ∀ id', OwnAt st id' → id' ≠ id → ¬ g.rf id' k
 ro : ¬ g.ro k
 b : ∀ b, BoxAt st b → g.bx b ≠ k
theorem ScR.reroot {id : Nat} {ro ro' : Root} (h : aget st.roots id = some (.live ro) ∨ aget st.roots id = some (.lent ro)) (ht : ro'.t = ro.t) (hver : ro'.ver = ro.ver) {l : List Nat} (hlog : ro'.log = ro.log ++ l)
    {av : Path → Value} {F : Nat → Prop}
 (hav : ∀ q, (∀ D ∈ l, q.length ≤ D) → av q = g.rv id q ∧ ∀ s, subR ro.t ro.xs q = some s → ∃ s', subR ro'.t ro'.xs q = some s' ∧ s'.t = s.t ∧ s'.xs.length = s.xs.length)
    {c : Sc} {u : Value} (hc : ScR w g st c u) : ScR w (g.setR id av F) { st with roots := aset st.roots id (.live ro') } c u := by
 have hat : aget ({ st with roots := aset st.roots id (.live ro') } : St).roots id = some (.live ro') := aget_aset_self _ _ _
 have hv : ∀ id' ver iv, verOk st id' ver iv → verOk { st with roots := aset st.roots id (.live ro') } id' ver iv := by
  intro id' ver iv hv
  by_cases hid : id' = id
  ·subst hid
   rw [verOk_at (.inl hat), hver, hlog]
   rw [verOk_at h] at hv
   rcases hv with hv | ⟨hv, hi⟩
   ·exact .inl hv
   ·exact .inr ⟨hv, by simp; omega⟩
  ·unfold verOk at hv ⊢
   simp only [aget_aset_ne _ _ hid]; exact hv
 have hx : ∀ id' ver iv p r', verOk st id' ver iv → Vx { st with roots := aset st.roots id (.live ro') } id' ver iv p r' →
   (id' ≠ id ∧ Vx st id' ver iv p r') ∨ (id' = id ∧ r' = ro' ∧ Vx st id ver iv p ro ∧ ∀ D ∈ l, p.length ≤ D) := by
  intro id' ver iv p r' hvo hvx
  by_cases hid : id' = id
  ·subst hid
   have e := hvx.is hat
   subst e
   refine .inr ⟨rfl, rfl, ?_⟩
   obtain ⟨_, h2, h3⟩ := hvx
   rw [verOk_at h] at hvo
   have hiv : iv ≤ ro.log.length := by omega
   unfold validAt at h3
   rw [hlog, List.drop_append_of_le_length hiv, List.all_append, Bool.and_eq_true] at h3
   exact ⟨⟨h, by omega, h3.1⟩, fun D hD => bleN (List.all_eq_true.1 h3.2 D hD)⟩
  ·refine .inl ⟨hid, ?_⟩
   obtain ⟨h1, h2, h3⟩ := hvx
   simp only [aget_aset_ne _ _ hid] at h1
   exact ⟨h1, h2, h3⟩
 cases c with
 | h id' ver iv p =>
  refine ⟨hv _ _ _ hc.1, fun r' hr' => ?_⟩
  rcases hx _ _ _ _ _ hc.1 hr' with ⟨hid, hvx⟩ | ⟨rfl, rfl, hvx, hl⟩
  ·simpa [Gh.setR, hid] using hc.2 r' hvx
  ·obtain ⟨h1, h2⟩ := hc.2 ro hvx
   obtain ⟨h3, h4⟩ := hav p hl
   obtain ⟨s, hs⟩ := Option.isSome_iff_exists.1 h2
   obtain ⟨s', hs', _⟩ := h4 s hs
   simp only [Gh.setR, if_true]
   exact ⟨by rw [h3, h1], by rw [hs']; rfl⟩
 | vw id' ver lo hi =>
  refine ⟨hv _ _ _ hc.1, fun r' hr' => ?_⟩
  rcases hx _ _ _ _ _ hc.1 hr' with ⟨hid, hvx⟩ | ⟨rfl, rfl, hvx, hl⟩
  ·simpa [Gh.setR, hid] using hc.2 r' hvx
  ·obtain ⟨h1, h2, h5⟩ := hc.2 ro hvx
   obtain ⟨h3, h4⟩ := hav [] hl
   obtain ⟨s', hs', e1, e2⟩ := h4 _ rfl
   simp only [subR, Option.some.injEq] at hs'
   subst hs'
   simp only at e1 e2
   simp only [Gh.setR, if_true]
   exact ⟨h1, by rw [e2]; exact h2, by rw [h3, ht]; exact h5⟩
 | pe id' ver iv p i off =>
  refine ⟨hv _ _ _ hc.1, fun r' hr' => ?_⟩
  rcases hx _ _ _ _ _ hc.1 hr' with ⟨hid, hvx⟩ | ⟨rfl, rfl, hvx, hl⟩
  ·simpa [Gh.setR, hid] using hc.2 r' hvx
  ·obtain ⟨s, b, oo, n, cap, h1, h2, h5, h6⟩ := hc.2 ro hvx
   obtain ⟨h3, h4⟩ := hav p hl
   obtain ⟨s', hs', e1, e2⟩ := h4 s h1
   simp only [Gh.setR, if_true]
   exact ⟨s', b, oo, n, cap, hs', by rw [e2]; exact h2, by rw [h3]; exact h5, by rw [e1]; exact h6⟩
 | _ => exact hc
theorem Inv.reroot (I : Inv w0 Mf g st a w) {id : Nat} {ro ro' : Root} (h : aget st.roots id = some (.live ro) ∨ aget st.roots id = some (.lent ro)) {w' : World} {X : Nat → Prop} (hs : SameBut X w w') (hk : Kept w0 w' Mf)
 (hX : ∀ k, X k → Alone g st id k) {G : Nat → Prop} (hG : ∀ k, g.ro k → G k) (hGr : ∀ id' k, OwnAt st id' → id' ≠ id → g.rf id' k → ¬ G k) (hGb : ∀ b, BoxAt st b → ¬ G (g.bx b)) (hGlt : ∀ k, G k → k < w'.heap.size) (hGm : ∀ k, G k → g.n.r0 k ∨ w0.heap.size ≤ k ∨ Mf k)
 (ht : ro'.t = ro.t) (hver : ro'.ver = ro.ver) {l : List Nat} (hlog : ro'.log = ro.log ++ l) {av : Path → Value} {F : Nat → Prop}
 (hav : ∀ q, (∀ D ∈ l, q.length ≤ D) → av q = g.rv id q ∧ ∀ s, subR ro.t ro.xs q = some s → ∃ s', subR ro'.t ro'.xs q = some s' ∧ s'.t = s.t ∧ s'.xs.length = s.xs.length)
    (hr : RootRel w' (({ g with ro := G } : Gh).setR id av F) id ro')
 (hF : ∀ k, F k → (∀ id', OwnAt st id' → id' ≠ id → ¬ g.rf id' k) ∧ ¬ G k ∧ (∀ b, BoxAt st b → g.bx b ≠ k) ∧ (w0.heap.size ≤ k ∨ Mf k) ∧ k < w'.heap.size) :
    Inv w0 Mf (({ g with ro := G } : Gh).setR id av F) { st with roots := aset st.roots id (.live ro') } a w' := by
 have hro : ∀ k, g.ro k → ¬ X k := fun k h1 h2 => (hX k h2).ro h1
 have hm : ∀ c u, ScRel w g st c u → ScRel w' (({ g with ro := G } : Gh).setR id av F) { st with roots := aset st.roots id (.live ro') } c u := fun c u hc =>
  ⟨hc.1, ScR.reroot (g := { g with ro := G }) h ht hver hlog hav ((hc.2.world hs hro).ro hG)⟩
 have ho : ∀ id', OwnAt { st with roots := aset st.roots id (.live ro') } id' → id' ≠ id → OwnAt st id' := fun id' ⟨r', h1, h2⟩ hid =>
  ⟨r', by simpa [aget_aset, hid] using h1, h2⟩
 exact {
  slots := fun s sv h => let ⟨u, hu, hr⟩ := I.slots s sv h; ⟨u, hu, hr.map hm⟩
  boxes := fun b x h => let ⟨us, el, h1, h2⟩ := I.boxes b x h; ⟨us, el, hs.get h1 (fun hx => (hX _ hx).b b (by simp [BoxAt, h]) rfl), h2.map hm⟩
  roots := fun id' r' h => by
   simp only [aget_aset] at h
   by_cases hid : id' = id
   ·subst hid; simp only [if_true, Option.some.injEq, Rt.live.injEq] at h; subst h; exact hr
   ·simp only [hid, if_false] at h
    have := I.roots id' r' h
    have hoff : r'.md.isFrz = false → ∀ k, g.rf id' k → ¬ X k := fun hm k h1 h2 => (hX k h2).r id' ⟨r', h, hm⟩ hid h1
    unfold RootRel at this ⊢
    simp only [Gh.setR, hid, if_false]
    split at this
    ·rename_i hmd; exact this.same hs (hoff (by rw [hmd]; rfl))
    ·rename_i hmd
     have := this.same hs (hoff (by rw [hmd]; rfl)) hro
     exact ⟨this.1, fun p s hp hs => (this.2 p s hp hs).mono hG⟩
    ·exact (this.same hs hro).mono hG
    ·rename_i hmd; exact this.same hs (hoff (by rw [hmd]; rfl))
  apart := {
   rr := fun i i' k h1 h2 h3 h4 => by
    by_cases hi : i = id <;> by_cases hi' : i' = id
    ·rw [hi, hi']
    ·simp only [Gh.setR, hi, hi', if_true, if_false] at h3 h4
     exact ((hF k h3).1 i' (ho _ h2 hi') hi' h4).elim
    ·simp only [Gh.setR, hi, hi', if_true, if_false] at h3 h4
     exact ((hF k h4).1 i (ho _ h1 hi) hi h3).elim
    ·simp only [Gh.setR, hi, hi', if_false] at h3 h4
     exact I.apart.rr i i' k (ho _ h1 hi) (ho _ h2 hi') h3 h4
   rb := fun i b h1 h2 h3 => by
    by_cases hi : i = id
    ·simp only [Gh.setR, hi, if_true] at h3
     exact (hF _ h3).2.2.1 b h2 rfl
    ·simp only [Gh.setR, hi, if_false] at h3
     exact I.apart.rb i b (ho _ h1 hi) h2 h3
   bb := I.apart.bb
   ro_r := fun i k h1 h3 => by
    by_cases hi : i = id
    ·simp only [Gh.setR, hi, if_true] at h3; exact (hF _ h3).2.1
    ·simp only [Gh.setR, hi, if_false] at h3; exact hGr i k (ho _ h1 hi) hi h3
   ro_b := hGb
   mine_r := fun i k h1 h3 => by
    by_cases hi : i = id
    ·simp only [Gh.setR, hi, if_true] at h3; exact (hF _ h3).2.2.2.1
    ·simp only [Gh.setR, hi, if_false] at h3; exact I.apart.mine_r i k (ho _ h1 hi) h3
   mine_b := I.apart.mine_b
   lt_r := fun i k h1 h3 => by
    by_cases hi : i = id
    ·simp only [Gh.setR, hi, if_true] at h3; exact (hF _ h3).2.2.2.2
    ·simp only [Gh.setR, hi, if_false] at h3; exact Nat.lt_of_lt_of_le (I.apart.lt_r i k (ho _ h1 hi) h3) hs.1
   lt_ro := hGlt
   mine_ro := hGm }
  kept := hk
  defers := I.defers
  size := I.size
  base := ⟨I.base.wl, I.base.ap, fun k h => hG k (I.base.ro k h)⟩ }
theorem Inv.lend (I : Inv w0 Mf g st a w) {id : Nat} {ro : Root} (h : aget st.roots id = some (.live ro)) : Inv w0 Mf g { st with roots := aset st.roots id (.lent ro) } a w := by
 have hv : ∀ id' ver iv, verOk st id' ver iv → verOk { st with roots := aset st.roots id (.lent ro) } id' ver iv := by
  intro id' ver iv hv
  by_cases hid : id' = id
  ·subst hid
   rw [verOk_at (.inr (aget_aset_self _ _ _))]
   exact (verOk_at (.inl h)).1 hv
  ·unfold verOk at hv ⊢
   simp only [aget_aset_ne _ _ hid]; exact hv
 have hx : ∀ id' ver iv p r', Vx { st with roots := aset st.roots id (.lent ro) } id' ver iv p r' → Vx st id' ver iv p r' := by
  intro id' ver iv p r' ⟨h1, h2, h3⟩
  simp only [aget_aset] at h1
  by_cases hid : id' = id
  ·subst hid
   simp only [if_true, Option.some.injEq, reduceCtorEq, Rt.lent.injEq, false_or] at h1
   subst h1; exact ⟨.inl h, h2, h3⟩
  ·simp only [hid, if_false] at h1; exact ⟨h1, h2, h3⟩
 have hm : ∀ c u, ScRel w g st c u → ScRel w g { st with roots := aset st.roots id (.lent ro) } c u := fun c u hc =>
  ⟨hc.1, ScR.roots (st := st) (fun b hb => hb) hv (fun _ _ _ _ _ _ h => hx _ _ _ _ _ h) hc.2⟩
 have ho : ∀ id', OwnAt { st with roots := aset st.roots id (.lent ro) } id' → OwnAt st id' := fun id' ⟨r', h1, h2⟩ => by
  simp only [aget_aset] at h1
  by_cases hid : id' = id
  ·simp [hid] at h1
  ·exact ⟨r', by simpa [hid] using h1, h2⟩
 exact {
  slots := fun s sv hs => let ⟨u, hu, hr⟩ := I.slots s sv hs; ⟨u, hu, hr.map hm⟩
  boxes := fun b x hb => let ⟨us, el, h1, h2⟩ := I.boxes b x hb; ⟨us, el, h1, h2.map hm⟩
  roots := fun id' r' hr => I.roots id' r' (by
   simp only [aget_aset] at hr
   by_cases hid : id' = id
   ·simp [hid] at hr
   ·simpa [hid] using hr)
  apart := {
   rr := fun i i' k h1 h2 => I.apart.rr i i' k (ho _ h1) (ho _ h2)
   rb := fun i b h1 h2 => I.apart.rb i b (ho _ h1) h2
   bb := I.apart.bb
   ro_r := fun i k h1 => I.apart.ro_r i k (ho _ h1)
   ro_b := I.apart.ro_b
   mine_r := fun i k h1 => I.apart.mine_r i k (ho _ h1)
   mine_b := I.apart.mine_b
   lt_r := fun i k h1 => I.apart.lt_r i k (ho _ h1)
   lt_ro := I.apart.lt_ro
   mine_ro := I.apart.mine_ro }
  kept := I.kept
  defers := I.defers
  size := I.size
  base := ⟨I.base.wl, I.base.ap, I.base.ro⟩ }
end Go.Gm
namespace Go.Gm
open Go
variable {w : World}
theorem setSub_type : ∀ {p : Path} {t : Ty} {xs zs : List (El t)} {s s' : Sl}, subR t xs p = some s → setSub t xs p s' = some zs → s'.t = s.t
  | [], t, xs, zs, s, s', h, hz => by
    simp only [setSub] at hz
    have := dec_enc hz
    simp only [enc, List.cons.injEq, and_true] at this
    simp only [subR, Option.some.injEq] at h
    cases s' with | mk t' xs' => cases this; subst h; rfl
  | (i, j) :: p, t, xs, zs, s, s', h, hz => by
    simp only [subR] at h
    split at h
    case h_2 => cases h
    rename_i x hx
    split at h
    case h_2 => cases h
    rename_i t1 ys hc
    simp only [setSub, atI_of hx, hc, Option.bind_eq_some_iff, Option.some.injEq] at hz
    obtain ⟨z1, hz1, y, hy, rfl⟩ := hz
    exact setSub_type h hz1
theorem subR_keep : ∀ {p : Path} {t : Ty} {xs zs : List (El t)} {s s' : Sl}, subR t xs p = some s → setSub t xs p s' = some zs → s'.xs.length = s.xs.length →
    ∀ q sq, (p <+: q → q = p) → subR t xs q = some sq → ∃ sq', subR t zs q = some sq' ∧ sq'.t = sq.t ∧ sq'.xs.length = sq.xs.length
  | [], t, xs, zs, s, s', h, hz, hl, q, sq, hq, hsq => by
    have e := hq (List.nil_prefix)
    subst e
    have ht := setSub_type h hz
    simp only [setSub] at hz
    have := dec_enc hz
    simp only [enc, List.cons.injEq, and_true] at this
    simp only [subR, Option.some.injEq] at h hsq
    subst h; subst hsq
    cases s' with | mk t' xs' => cases this; exact ⟨_, rfl, rfl, hl⟩
  | (i, j) :: p, t, xs, zs, s, s', h, hz, hl, q, sq, hq, hsq => by
    simp only [subR] at h
    split at h
    case h_2 => cases h
    rename_i x hx
    split at h
    case h_2 => cases h
    rename_i t1 ys hc
    simp only [setSub, atI_of hx, hc, Option.bind_eq_some_iff, Option.some.injEq] at hz
    obtain ⟨z1, hz1, y, hy, rfl⟩ := hz
    have hey := dec_enc hy
    have hlt := el_lt hx
    have hj : j < (enc t x).length := by rw [enc_length]; exact enc_lt hc
    cases q with
    | nil =>
      simp only [subR, Option.some.injEq] at hsq
      subst hsq
      exact ⟨⟨t, xs.set i y⟩, rfl, rfl, by simp⟩
    | cons ij q =>
      obtain ⟨i', j'⟩ := ij
      simp only [subR] at hsq ⊢
      by_cases hii : i = i'
      · subst hii
        simp only [List.getElem?_set_self hlt, ← hey]
        rw [hx] at hsq
        simp only at hsq
        by_cases hjj : j = j'
        · subst hjj
          simp only [hc, List.getElem?_set_self hj] at hsq ⊢
          exact subR_keep h hz1 hl q sq (fun hp => by simpa using hq (by simpa using hp)) hsq
        · rw [List.getElem?_set_ne hjj]
          exact ⟨sq, hsq, rfl, rfl⟩
      · simp only [List.getElem?_set_ne hii]
        exact ⟨sq, hsq, rfl, rfl⟩
def Beside (t : Ty) (xs : List (El t)) (av : Path → Value) (p : Path) (k : Nat) : Prop := ∃ q s, ¬ p <+: q ∧ subR t xs q = some s ∧ blk (av q) = some k
theorem TreeOwn.graft {F : Nat → Prop} {t : Ty} {xs zs : List (El t)} {av : Path → Value} (h : TreeOwn w F t xs av) {p : Path} {s s' : Sl} (hs : subR t xs p = some s) (hz : setSub t xs p s' = some zs)
    {w' : World} {X : Nat → Prop} (hsame : SameBut X w w') (hX : ∀ k, X k → ¬ Beside t xs av p k) {B : Nat → Prop} {av2 : Path → Value} (hnew : TreeOwn w' B s'.t s'.xs av2) (h0 : av2 [] = av p) (hB : ∀ k, B k → ¬ Beside t xs av p k) :
    ∃ av' : Path → Value, (∀ q, (p <+: q → q = p) → av' q = av q) ∧ (∀ q, av' (p ++ q) = av2 q) ∧ TreeOwn w' (fun k => B k ∨ Beside t xs av p k) t zs av' := by
 let av' : Path → Value := fun q => if p <+: q then av2 (q.drop p.length) else av q
 have hu : ∀ q, av' (p ++ q) = av2 q := fun q => by simp [av']
 have ho : ∀ q, ¬ p <+: q → av' q = av q := fun q hq => by simp [av', hq]
 have hk : ∀ q, (p <+: q → q = p) → av' q = av q := fun q hq => by
  by_cases hp : p <+: q
  ·have := hq hp; subst this
   have := hu []; rw [List.append_nil] at this; rw [this, h0]
  ·exact ho q hp
 refine ⟨av', hk, hu, ?_, ?_⟩
 ·intro q s2' hs2
  rcases subR_set hs hz q s2' hs2 with ⟨q', rfl, hs3⟩ | ⟨hn, s2, hs3, hsim⟩
  ·rw [hu]
   have := (hnew.1 q' s2' hs3).mono (Q := fun k => B k ∨ Beside t xs av p k) fun k => .inl
   refine this.kid fun i y j t' ys _ _ => ?_
   rw [List.append_assoc, hu]
  ·rw [ho q hn]
   have h1 := (h.1 q s2 hs3).toF (G := fun k => B k ∨ Beside t xs av p k) fun k hk => .inr ⟨q, s2, hn, hs3, hk⟩
   have h2 := h1.here hsame fun k hk hx => hX k hx ⟨q, s2, hn, hs3, hk⟩
   refine (hsim.own h2).kid fun i y j t' ys _ _ => ?_
   refine hk _ fun hp => ?_
   rw [List.prefix_concat_iff] at hp
   exact hp.elim (fun h => h.symm) (fun h => (hn h).elim)
 ·intro q1 q2 s1 s2 b h1 h2 h3 h4
  rcases subR_set hs hz q1 s1 h1 with ⟨q1', rfl, hs1⟩ | ⟨hn1, s1', hs1, _⟩ <;> rcases subR_set hs hz q2 s2 h2 with ⟨q2', rfl, hs2⟩ | ⟨hn2, s2', hs2, _⟩
  ·rw [hu] at h3 h4
   rw [hnew.2 _ _ _ _ b hs1 hs2 h3 h4]
  ·rw [hu] at h3; rw [ho _ hn2] at h4
   exact (hB b ((hnew.1 _ _ hs1).blkF h3) ⟨_, _, hn2, hs2, h4⟩).elim
  ·rw [hu] at h4; rw [ho _ hn1] at h3
   exact (hB b ((hnew.1 _ _ hs2).blkF h4) ⟨_, _, hn1, hs1, h3⟩).elim
  ·rw [ho _ hn1] at h3; rw [ho _ hn2] at h4
   exact h.2 _ _ _ _ b hs1 hs2 h3 h4
theorem TreeOwn.under_beside {F : Nat → Prop} {t : Ty} {xs : List (El t)} {av : Path → Value} (h : TreeOwn w F t xs av) {p : Path} {k : Nat} (hu : Under t xs av p k) : ¬ Beside t xs av p k := by
 rintro ⟨q, s, hn, hs, hb⟩
 obtain ⟨q', s', hs', hb'⟩ := hu
 have := h.2 _ _ _ _ k hs hs' hb hb'
 subst this
 exact hn (List.prefix_append _ _)
theorem TreeOwn.beside_F {F : Nat → Prop} {t : Ty} {xs : List (El t)} {av : Path → Value} (h : TreeOwn w F t xs av) {p : Path} {k : Nat} (hu : Beside t xs av p k) : F k := by
 obtain ⟨q, s, hn, hs, hb⟩ := hu
 exact (h.1 q s hs).blkF hb
theorem TreeOwn.under_F {F : Nat → Prop} {t : Ty} {xs : List (El t)} {av : Path → Value} (h : TreeOwn w F t xs av) {p : Path} {k : Nat} (hu : Under t xs av p k) : F k := by
 obtain ⟨q, s, hs, hb⟩ := hu
 exact (h.1 _ s hs).blkF hb
theorem subR_scal {t : Ty} {xs : List (El t)} {i : Nat} {x y : El t} (hx : xs[i]? = some x) (hy : ∀ (j : Nat) t' (ys : List (El t')), (enc t y)[j]? = some (.l t' ys) ↔ (enc t x)[j]? = some (.l t' ys)) :
    ∀ q, q ≠ [] → subR t (xs.set i y) q = subR t xs q := by
 intro q hq
 cases q with
 | nil => exact (hq rfl).elim
 | cons ij q =>
  obtain ⟨i', j⟩ := ij
  have hlt := el_lt hx
  simp only [subR]
  by_cases hii : i = i'
  ·subst hii
   simp only [List.getElem?_set_self hlt, hx]
   cases hc : (enc t x)[j]? with
   | none =>
    cases hc' : (enc t y)[j]? with
    | none => rfl
    | some c =>
     cases c with
     | v z => rfl
     | l t' ys => rw [(hy j t' ys).1 hc'] at hc; cases hc
   | some c =>
    cases c with
    | v z =>
     cases hc' : (enc t y)[j]? with
     | none => rfl
     | some c' =>
      cases c' with
      | v z' => rfl
      | l t' ys => rw [(hy j t' ys).1 hc'] at hc; cases hc
    | l t' ys => rw [(hy j t' ys).2 hc]
  ·simp only [List.getElem?_set_ne hii]
end Go.Gm
namespace Go.Gm
open Go
variable {R : Type} {P : Program} {E : Env} {w0 w : World} {Mf : Nat → Prop} {g : Gh} {st : St} {a : Act} {Q : Exit → Act → World → Prop}
  {o : Oper} {k : Dl → Option R} {r : R} {K : Act → World → Prop}
theorem row_putAt {us vs : Array Value} {at_ : Nat} (h : at_ + vs.size ≤ us.size) : (us.toList.take at_ ++ vs.toList ++ us.toList.drop (at_ + vs.toList.length)).toArray = putAt us at_ vs := by
 apply Array.ext
 ·rw [putAt_size h]; simp; omega
 ·intro n h1 h2
  apply Option.some.inj
  rw [← Array.getElem?_eq_getElem, ← Array.getElem?_eq_getElem, putAt_get h]
  simp only [List.getElem?_toArray]
  by_cases hn1 : n < at_
  ·rw [if_neg (by omega), List.append_assoc, List.getElem?_append_left (by simp; omega), List.getElem?_take, if_pos hn1]; simp
  ·by_cases hn2 : n < at_ + vs.size
   ·rw [if_pos (by omega), List.getElem?_append_left (by simp; omega), List.getElem?_append_right (by simp; omega)]
    have : min at_ us.size = at_ := by omega
    simp [this]
   ·rw [if_neg (by omega), List.getElem?_append_right (by simp; omega)]
    have : min at_ us.size = at_ := by omega
    simp only [List.length_append, List.length_take, Array.length_toList, this, List.getElem?_drop]
    rw [show at_ + vs.size + (n - (at_ + vs.size)) = n by omega]
    simp
theorem setRange_get {α : Type} {l ys : List α} {off : Nat} (h : off + ys.length ≤ l.length) (n : Nat) : (setRange l off ys)[n]? = if off ≤ n ∧ n < off + ys.length then ys[n - off]? else l[n]? := by
 simp only [setRange]
 by_cases hn1 : n < off
 ·rw [if_neg (by omega), List.append_assoc, List.getElem?_append_left (by simp; omega), List.getElem?_take, if_pos hn1]
 ·by_cases hn2 : n < off + ys.length
  ·rw [if_pos (by omega), List.getElem?_append_left (by simp; omega), List.getElem?_append_right (by simp; omega)]
   have : min off l.length = off := by omega
   simp [this]
  ·rw [if_neg (by omega), List.getElem?_append_right (by simp; omega)]
   have : min off l.length = off := by omega
   simp only [List.length_append, List.length_take, this, List.getElem?_drop]
   rw [show off + ys.length + (n - (off + ys.length)) = n by omega]
theorem Pieces.poke {ro gr : Nat → Prop} {dd d : Bool} {e : Ty} {xs : List (El e)} {us : Array Value} {oo : Nat} {G : Nat → Nat → Nat → Prop} {Gs : List (Nat → Prop)} (hp : Pieces w ro dd e xs us oo G)
    {i : Nat} {x y : El e} (hx : xs[i]? = some x) {cv : List Cv} {vs : Array Value} {off : Nat} (hA : AbsL w gr cv vs.toList Gs d) (hy : enc e y = setRange (enc e x) off cv) (hle : off + cv.length ≤ esz e) (hro : ∀ k, gr k → ro k)
 (hpair : PairApart Gs) (hdis : ∀ i j k, G i j k → Any Gs k → False) (hsz : oo + xs.length * esz e ≤ us.size) :
    ∃ G', Pieces w (fun k => ro k ∨ Any Gs k) (dd && d) e (xs.set i y) (putAt us (oo + i * esz e + off) vs) oo G' ∧ ∀ i j k, G' i j k → Any Gs k ∨ G i j k := by
 have hi := el_lt hx
 have hlen : vs.size = cv.length := by have := hA.len.1; simpa using this
 have hmul : i * esz e + esz e ≤ xs.length * esz e := by
  have : (i + 1) * esz e ≤ xs.length * esz e := Nat.mul_le_mul_right _ hi
  rw [Nat.add_mul] at this; omega
 have hget := fun m => putAt_get (cells := us) (off := oo + i * esz e + off) (vs := vs) (by omega) m
 have hrow := hA.rd
 let In : Nat → Nat → Prop := fun i' j => i' = i ∧ off ≤ j ∧ j < off + cv.length
 let G' : Nat → Nat → Nat → Prop := fun i' j k => (In i' j ∧ ∃ F, Gs[j - off]? = some F ∧ F k) ∨ (¬ In i' j ∧ G i' j k)
 have hG' : ∀ i j k, G' i j k → Any Gs k ∨ G i j k := by
  rintro i' j k (⟨_, F, h1, h2⟩ | ⟨_, h⟩)
  ·exact .inl ⟨F, List.mem_of_getElem? h1, h2⟩
  ·exact .inr h
 -- a cell that stays
 have stays : ∀ i' x' j c, xs[i']? = some x' → (enc e x')[j]? = some c → ¬ In i' j → ∃ u, (putAt us (oo + i * esz e + off) vs)[oo + i' * esz e + j]? = some u ∧ CRd w (fun k => G' i' j k ∨ ro k ∨ Any Gs k) c u ∧ ((dd && d) = true → COwn w (G' i' j) c u) := by
  intro i' x' j c hx' hc hn
  have hj := enc_lt hc
  obtain ⟨z, hz, hr, ho⟩ := hp.rows i' x' j c hx' hc
  refine ⟨z, ?_, hr.mono fun k hk => ?_, fun hd => ?_⟩
  ·rw [hget, if_neg ?_]
   ·exact hz
   ·intro ⟨h1, h2⟩
    rw [hlen] at h2
    rcases Nat.lt_trichotomy i' i with hlt | heq | hlt
    ·have : (i' + 1) * esz e ≤ i * esz e := Nat.mul_le_mul_right _ hlt
     rw [Nat.add_mul] at this; omega
    ·subst heq; exact hn ⟨rfl, by omega, by omega⟩
    ·have : (i + 1) * esz e ≤ i' * esz e := Nat.mul_le_mul_right _ hlt
     rw [Nat.add_mul] at this; omega
  ·rcases hk with hk | hk
   ·exact .inl (.inr ⟨hn, hk⟩)
   ·exact .inr (.inl hk)
  ·simp only [Bool.and_eq_true] at hd
   exact (ho hd.1).mono fun k hk => .inr ⟨hn, hk⟩
 refine ⟨G', ⟨fun i' x' j c hx' hc => ?_, ?_⟩, hG'⟩
 ·by_cases hii : i' = i
  ·subst hii
   rw [List.getElem?_set_self hi] at hx'
   cases hx'
   rw [hy, setRange_get (by rw [enc_length]; exact hle)] at hc
   by_cases hin : off ≤ j ∧ j < off + cv.length
   ·rw [if_pos hin] at hc
    obtain ⟨z, hz, hr⟩ := hrow.get (j - off) c hc
    refine ⟨z, ?_, hr.mono fun k hk => ?_, fun hd => ?_⟩
    ·rw [hget, if_pos (by omega), show oo + i' * esz e + j - (oo + i' * esz e + off) = j - off by omega]
     simpa using hz
    ·rcases hk with hk | hk
     ·exact .inr (.inr hk)
     ·exact .inr (.inl (hro k hk))
    ·simp only [Bool.and_eq_true] at hd
     obtain ⟨z', F, h1, h2, h3⟩ := hA.own hd.2 (j - off) c hc
     rw [hz] at h1; cases h1
     exact h3.mono fun k hk => .inl ⟨⟨rfl, hin.1, hin.2⟩, F, h2, hk⟩
   ·rw [if_neg hin] at hc
    exact stays i' x j c hx hc fun h => hin h.2
  ·rw [List.getElem?_set_ne (Ne.symm hii)] at hx'
   exact stays i' x' j c hx' hc fun h => hii h.1
 ·rintro i1 j1 i2 j2 k (⟨⟨rfl, ha, hb⟩, F, h1, h2⟩ | ⟨hn, h⟩) (⟨⟨rfl, ha', hb'⟩, F', h1', h2'⟩ | ⟨hn', h'⟩)
  ·refine ⟨rfl, ?_⟩
   have hgp := List.pairwise_iff_getElem.1 hpair
   obtain ⟨hj, rfl⟩ := List.getElem?_eq_some_iff.1 h1
   obtain ⟨hj', rfl⟩ := List.getElem?_eq_some_iff.1 h1'
   rcases Nat.lt_trichotomy (j1 - off) (j2 - off) with hlt | heq | hlt
   ·exact (hgp _ _ hj hj' hlt k h2 h2').elim
   ·omega
   ·exact (hgp _ _ hj' hj hlt k h2' h2).elim
  ·exact (hdis _ _ k h' ⟨F, List.mem_of_getElem? h1, h2⟩).elim
  ·exact (hdis _ _ k h ⟨F', List.mem_of_getElem? h1', h2'⟩).elim
  ·exact hp.dis _ _ _ _ k h h'
theorem subR_at : ∀ {p : Path} {t : Ty} {xs zs : List (El t)} {s s' : Sl}, subR t xs p = some s → setSub t xs p s' = some zs → subR t zs p = some s'
  | [], t, xs, zs, s, s', h, hz => by
    simp only [setSub] at hz
    have := dec_enc hz
    simp only [enc, List.cons.injEq, and_true] at this
    cases s' with | mk t' xs' => cases this; rfl
  | (i, j) :: p, t, xs, zs, s, s', h, hz => by
    simp only [subR] at h
    split at h
    case h_2 => cases h
    rename_i x hx
    split at h
    case h_2 => cases h
    rename_i t1 ys hc
    simp only [setSub, atI_of hx, hc, Option.bind_eq_some_iff, Option.some.injEq] at hz
    obtain ⟨z1, hz1, y, hy, rfl⟩ := hz
    have hey := dec_enc hy
    have hlt := el_lt hx
    have hj : j < (enc t x).length := by rw [enc_length]; exact enc_lt hc
    simp only [subR, List.getElem?_set_self hlt, ← hey, List.getElem?_set_self hj]
    exact subR_at h hz1
theorem RootRel.node {id : Nat} {ro : Root} (h : RootRel w g id ro) {p : Path} {s : Sl} (hs : subR ro.t ro.xs p = some s) (hm : ro.md.isDeep = true ∨ (ro.md.isShal = true ∧ p = [])) :
    NodeOwn w (g.rf id) s.t s.xs (g.rv id p) fun i j => g.rv id (p ++ [(i, j)]) := by
 unfold RootRel at h
 split at h
 ·exact h.1 p s hs
 ·rename_i hmd
  rcases hm with hm | ⟨_, rfl⟩
  ·simp [hmd, Md.isDeep] at hm
  ·simp only [subR, Option.some.injEq] at hs; subst hs; exact h.1
 ·rename_i hmd; simp [hmd, Md.isDeep, Md.isShal] at hm
 ·rename_i hmd; simp [hmd, Md.isDeep, Md.isShal] at hm
theorem rows_pieces {t : Ty} {xs : List (El t)} {us : Array Value} {oo : Nat} {kid : Nat → Nat → Value} (h : RowsIn t xs us oo kid) {i : Nat} {x y : El t} (hx : xs[i]? = some x) {cv : List Cv} {vs : Array Value} {off : Nat}
 (hc : ∀ (j : Nat) c, cv[j]? = some c → ∃ z, vs[j]? = some z ∧ c = .v z) (hv : vs.size = cv.length) (hy : enc t y = setRange (enc t x) off cv) (hle : off + cv.length ≤ esz t) (hsz : oo + xs.length * esz t ≤ us.size) :
    RowsIn t (xs.set i y) (putAt us (oo + i * esz t + off) vs) oo kid := by
 have hi := el_lt hx
 have hmul : i * esz t + esz t ≤ xs.length * esz t := by
  have : (i + 1) * esz t ≤ xs.length * esz t := Nat.mul_le_mul_right _ hi
  rw [Nat.add_mul] at this; omega
 have hget := fun m => putAt_get (cells := us) (off := oo + i * esz t + off) (vs := vs) (by omega) m
 have stays : ∀ i' x' j c, xs[i']? = some x' → (enc t x')[j]? = some c → ¬ (i' = i ∧ off ≤ j ∧ j < off + cv.length) → ∃ u, (putAt us (oo + i * esz t + off) vs)[oo + i' * esz t + j]? = some u ∧ CellIs c u (kid i' j) := by
  intro i' x' j c hx' hcc hn
  have hj := enc_lt hcc
  obtain ⟨z, hz, hr⟩ := h i' x' j c hx' hcc
  refine ⟨z, ?_, hr⟩
  rw [hget, if_neg ?_]
  ·exact hz
  ·intro ⟨h1, h2⟩
   rw [hv] at h2
   rcases Nat.lt_trichotomy i' i with hlt | heq | hlt
   ·have : (i' + 1) * esz t ≤ i * esz t := Nat.mul_le_mul_right _ hlt
    rw [Nat.add_mul] at this; omega
   ·subst heq; exact hn ⟨rfl, by omega, by omega⟩
   ·have : (i + 1) * esz t ≤ i' * esz t := Nat.mul_le_mul_right _ hlt
    rw [Nat.add_mul] at this; omega
 intro i' x' j c hx' hcc
 by_cases hii : i' = i
 ·subst hii
  rw [List.getElem?_set_self hi] at hx'
  cases hx'
  rw [hy, setRange_get (by rw [enc_length]; exact hle)] at hcc
  by_cases hin : off ≤ j ∧ j < off + cv.length
  ·rw [if_pos hin] at hcc
   obtain ⟨z, hz, rfl⟩ := hc (j - off) c hcc
   refine ⟨z, ?_, rfl⟩
   rw [hget, if_pos (by omega), show oo + i' * esz t + j - (oo + i' * esz t + off) = j - off by omega]
   exact hz
  ·rw [if_neg hin] at hcc
   exact stays i' x j c hx hcc fun h => hin h.2
 ·rw [List.getElem?_set_ne (Ne.symm hii)] at hx'
  exact stays i' x' j c hx' hcc fun h => hii h.1
theorem scal_iff {t : Ty} {x y : El t} {cv : List Cv} {off : Nat} (hc : ∀ (j : Nat) c, cv[j]? = some c → ∃ z, c = .v z) (hk : ∀ (j : Nat) c, off ≤ j → j < off + cv.length → (enc t x)[j]? = some c → ∃ z, c = .v z)
 (hy : enc t y = setRange (enc t x) off cv) (hle : off + cv.length ≤ esz t) : ∀ (j : Nat) t' (ys : List (El t')), (enc t y)[j]? = some (.l t' ys) ↔ (enc t x)[j]? = some (.l t' ys) := by
 intro j t' ys
 rw [hy, setRange_get (by rw [enc_length]; exact hle)]
 by_cases hin : off ≤ j ∧ j < off + cv.length
 ·rw [if_pos hin]
  constructor
  ·intro h; obtain ⟨z, hz⟩ := hc _ _ h; cases hz
  ·intro h; obtain ⟨z, hz⟩ := hk _ _ hin.1 hin.2 h; cases hz
 ·rw [if_neg hin]
theorem TreeOwn.scal {F : Nat → Prop} {t : Ty} {xs : List (El t)} {av : Path → Value} (h : TreeOwn w F t xs av) {i : Nat} {x y : El t} (hx : xs[i]? = some x) (hy : ∀ (j : Nat) t' (ys : List (El t')), (enc t y)[j]? = some (.l t' ys) ↔ (enc t x)[j]? = some (.l t' ys))
    {w' : World} {b oo cap el : Nat} {us' : Array Value} (hsame : SameBut (fun k => k = b) w w') (hav : av [] = .slice (some ⟨b, oo, none⟩) xs.length cap) (hb : w'.heap[b]? = some (.cells us' el (0, 0))) (hcap : xs.length ≤ cap)
 (hsz : oo + cap * esz t ≤ us'.size) (hr : RowsIn t (xs.set i y) us' oo fun i j => av [(i, j)]) : TreeOwn w' F t (xs.set i y) av := by
 have hsub := subR_scal hx hy
 have hbF : F b := (h.1 [] _ rfl).blkF (by rw [hav]; rfl)
 refine ⟨fun p s hs => ?_, fun p q s s' k h1 h2 h3 h4 => ?_⟩
 ·by_cases hp : p = []
  ·subst hp
   simp only [subR, Option.some.injEq] at hs
   subst hs
   exact .inr ⟨b, oo, cap, us', el, by simpa using hav, hbF, hb, by simpa using hcap, hsz, hr⟩
  ·rw [hsub p hp] at hs
   refine (h.1 p s hs).here hsame fun k hk e => ?_
   subst e
   exact hp (h.2 p [] s ⟨t, xs⟩ k hs rfl hk (by rw [hav]; rfl))
 ·have fix : ∀ p s, subR t (xs.set i y) p = some s → ∃ s0, subR t xs p = some s0 := fun p s hs => by
   by_cases hp : p = []
   ·subst hp; exact ⟨_, rfl⟩
   ·rw [hsub p hp] at hs; exact ⟨s, hs⟩
  obtain ⟨s1, hs1⟩ := fix p s h1
  obtain ⟨s2, hs2⟩ := fix q s' h2
  exact h.2 _ _ _ _ k hs1 hs2 h3 h4
theorem Inv.alone (I : Inv w0 Mf g st a w) {id : Nat} (h : OwnAt st id) {k : Nat} (hk : g.rf id k) : Alone g st id k :=
 ⟨fun id' h1 h2 h3 => h2 (I.apart.rr id' id k h1 h h3 hk), I.apart.ro_r id k h hk, fun b hb e => I.apart.rb id b h hb (e ▸ hk)⟩
theorem setSub_nil {t : Ty} {xs zs ys : List (El t)} (h : setSub t xs [] ⟨t, ys⟩ = some zs) : zs = ys := by
 simp only [setSub] at h
 have := dec_enc h
 simp only [enc, List.cons.injEq, and_true, Cv.l.injEq, heq_eq_eq, true_and] at this
 exact this.symm
theorem Inv.storeScal (I : Inv w0 Mf g st a w) {id : Nat} {ro : Root} (hlive : aget st.roots id = some (.live ro)) {p : Path} {s : Sl} (hs : subR ro.t ro.xs p = some s) (hm : ro.md.isDeep = true ∨ (ro.md.isShal = true ∧ p = []))
    {i : Nat} {x y : El s.t} (hx : s.xs[i]? = some x) {cv : List Cv} {vs : Array Value} {off : Nat} (hcv : ∀ (j : Nat) c, cv[j]? = some c → ∃ z, vs[j]? = some z ∧ c = .v z) (hv : vs.size = cv.length)
 (hk : ∀ (j : Nat) c, off ≤ j → j < off + cv.length → (enc s.t x)[j]? = some c → ∃ z, c = .v z) (hy : enc s.t y = setRange (enc s.t x) off cv) (hle : off + cv.length ≤ esz s.t)
    {zs : List (El ro.t)} (hz : setSub ro.t ro.xs p ⟨s.t, s.xs.set i y⟩ = some zs) {b oo n cap : Nat} (hav : g.rv id p = .slice (some ⟨b, oo, none⟩) n cap) :
    ∃ us el, w.heap[b]? = some (.cells us el (0, 0)) ∧ oo + i * esz s.t + esz s.t ≤ us.size ∧ ∃ g' : Gh, g'.n = g.n ∧
      Inv w0 Mf g' { st with roots := aset st.roots id (.live ⟨ro.t, ro.md, ro.ver, ro.log, zs⟩) } a (w.setRow b (putAt us (oo + i * esz s.t + off) vs)) := by
  have hi := el_lt hx
  have hfz : ro.md.isFrz = false := by
    rcases hm with hm | hm
    · cases h : ro.md <;> simp_all [Md.isDeep, Md.isFrz]
    · cases h : ro.md <;> simp_all [Md.isShal, Md.isFrz]
  have hat : OwnAt st id := ⟨ro, hlive, hfz⟩
  have hr := I.roots id ro hlive
  have hnode := hr.node hs hm
  rcases hnode with ⟨h0, _⟩ | ⟨b', oo', cap', us, el, e1, hF, hb, hcap, hsize, hrows⟩
  · rw [h0] at hi; simp at hi
  rw [hav] at e1
  simp only [Value.slice.injEq, Option.some.injEq, Addr.mk.injEq, and_true] at e1
  obtain ⟨⟨rfl, rfl⟩, rfl, rfl⟩ := e1
  have hmul : i * esz s.t + esz s.t ≤ s.xs.length * esz s.t := by
    have : (i + 1) * esz s.t ≤ s.xs.length * esz s.t := Nat.mul_le_mul_right _ hi
    rw [Nat.add_mul] at this; omega
  have hmul2 : s.xs.length * esz s.t ≤ cap * esz s.t := Nat.mul_le_mul_right _ hcap
  refine ⟨us, el, hb, by omega, ?_⟩
  have hsame := setRow_same w b (putAt us (oo + i * esz s.t + off) vs)
  have hb' := setRow_heap w b us (putAt us (oo + i * esz s.t + off) vs) el (0, 0) hb
  have hrows' := rows_pieces hrows hx hcv hv hy hle (by omega)
  have hiff := scal_iff (fun j c h => let ⟨z, _, e⟩ := hcv j c h; ⟨z, e⟩) hk hy hle
  have hsz' : oo + cap * esz s.t ≤ (putAt us (oo + i * esz s.t + off) vs).size := by rw [putAt_size (by omega)]; exact hsize
  have hkept : Kept w0 (w.setRow b (putAt us (oo + i * esz s.t + off) vs)) Mf := I.kept.step rfl rfl rfl hsame (fun k e => by subst e; exact I.apart.mine_r id _ hat hF)
  have hroot : RootRel (w.setRow b (putAt us (oo + i * esz s.t + off) vs)) (({ g with ro := g.ro } : Gh).setR id (g.rv id) (g.rf id)) id ⟨ro.t, ro.md, ro.ver, ro.log, zs⟩ := by
    unfold RootRel at hr ⊢
    simp only [Gh.setR, if_true]
    split at hr
    · rename_i hmd
      try simp only [hmd]
      have htr := (hr.at hs).scal hx hiff hsame (b := b) (oo := oo) (cap := cap) (el := el) (us' := putAt us (oo + i * esz s.t + off) vs) (by simpa using hav) hb' hcap hsz' hrows'
      have hund : Under ro.t ro.xs (g.rv id) p b := ⟨[], s, by rw [List.append_nil]; exact hs, by rw [List.append_nil, hav]; rfl⟩
      obtain ⟨av', h1, h2, h3⟩ := hr.graft hs hz hsame (fun k e => by subst e; exact hr.under_beside hund) htr (by simp) (fun k hk => hr.under_beside hk)
      have : av' = g.rv id := by
        funext q
        by_cases hp : p <+: q
        · obtain ⟨q', rfl⟩ := hp; exact h2 q'
        · exact h1 q fun h => (hp h).elim
      subst this
      exact h3.mono fun k hk => hk.elim hr.under_F hr.beside_F
    · rename_i hmd
      have hp : p = [] := by rcases hm with hm | hm; simp [hmd, Md.isDeep] at hm; exact hm.2
      subst hp
      simp only [subR, Option.some.injEq] at hs
      subst hs
      have := setSub_nil hz
      subst this
      try simp only [hmd]
      refine ⟨.inr ⟨b, oo, cap, _, el, by simpa using hav, hF, hb', by simpa using hcap, hsz', hrows'⟩, fun q s' hq hs' => ?_⟩
      rw [subR_scal hx hiff q hq] at hs'
      exact (hr.2 q s' hq hs').same hsame fun k hk e => I.apart.ro_r id k hat (e ▸ hF) hk
    · rename_i hmd; simp [hmd, Md.isFrz] at hfz
    · rename_i hmd; simp [hmd, Md.isDeep, Md.isShal] at hm
  refine ⟨_, by rfl, I.reroot (ro' := ⟨ro.t, ro.md, ro.ver, ro.log, zs⟩) (.inl hlive) hsame hkept (fun k e => by subst e; exact I.alone hat hF) (fun _ h => h) (fun id' k h1 _ h3 => I.apart.ro_r id' k h1 h3)
    I.apart.ro_b (fun k h => Nat.lt_of_lt_of_le (I.apart.lt_ro k h) hsame.1) I.apart.mine_ro rfl rfl (l := []) (by simp) (fun q _ => ⟨rfl, fun sq hsq => ?_⟩) hroot
    (fun k hk => ⟨(I.alone hat hk).r, (I.alone hat hk).ro, (I.alone hat hk).b, I.apart.mine_r id k hat hk, Nat.lt_of_lt_of_le (I.apart.lt_r id k hat hk) hsame.1⟩)⟩
  by_cases hq : p <+: q → q = p
  · exact subR_keep hs hz (by simp) q sq hq hsq
  · have hp : p <+: q := by
      by_cases h : p <+: q
      · exact h
      · exact (hq fun h' => (h h').elim).elim
    obtain ⟨q', rfl⟩ := hp
    have hq' : q' ≠ [] := fun e => hq fun _ => by rw [e, List.append_nil]
    rw [subR_append q' hs] at hsq
    refine ⟨sq, ?_, rfl, rfl⟩
    simp only
    rw [subR_append q' (subR_at hs hz), subR_scal hx hiff q' hq']
    exact hsq
end Go.Gm
namespace Go.Gm
open Go
variable {R : Type} {P : Program} {E : Env} {w0 w : World} {Mf : Nat → Prop} {g : Gh} {st0 st : St} {a : Act} {Q : Exit → Act → World → Prop}
  {o : Oper} {k : Dl → Option R} {r : R} {K : Act → World → Prop}
theorem Inv.storeDeep (I0 : Inv w0 Mf g st0 a w) (I : Inv w0 Mf g st a w) {ups : List (Nat × Rt)} {Gs : List (Nat → Prop)} (T : Took w g st0 st ups Gs) {id : Nat} {ro : Root} (hlive : aget st.roots id = some (.live ro))
    {p : Path} {s : Sl} (hs : subR ro.t ro.xs p = some s) (hm : ro.md = .deep)
    {i : Nat} {x y : El s.t} (hx : s.xs[i]? = some x) {cv : List Cv} {vs : Array Value} {off : Nat} (hA : AbsL w g.ro cv vs.toList Gs true) (hy : enc s.t y = setRange (enc s.t x) off cv) (hle : off + cv.length ≤ esz s.t)
    {zs : List (El ro.t)} (hz : setSub ro.t ro.xs p ⟨s.t, s.xs.set i y⟩ = some zs) {b oo n cap : Nat} (hav : g.rv id p = .slice (some ⟨b, oo, none⟩) n cap) :
    ∃ us el, w.heap[b]? = some (.cells us el (0, 0)) ∧ oo + i * esz s.t + esz s.t ≤ us.size ∧ ∃ g' : Gh, g'.n = g.n ∧
      Inv w0 Mf g' { st with roots := aset st.roots id (.live ⟨ro.t, .deep, ro.ver, ro.log ++ [p.length], zs⟩) } a (w.setRow b (putAt us (oo + i * esz s.t + off) vs)) := by
 have hi := el_lt hx
 have hat : OwnAt st id := ⟨ro, hlive, by rw [hm]; rfl⟩
 have hr := I.roots id ro hlive
 have hnode := hr.node hs (.inl (by rw [hm]; rfl))
 have hv : vs.size = cv.length := by have := hA.len.1; simpa using this
 rcases hnode with ⟨h0, _⟩ | ⟨b', oo', cap', us, el, e1, hF, hb, hcap, hsize, hrows⟩
 ·rw [h0] at hi; simp at hi
 rw [hav] at e1
 simp only [Value.slice.injEq, Option.some.injEq, Addr.mk.injEq, and_true] at e1
 obtain ⟨⟨rfl, rfl⟩, rfl, rfl⟩ := e1
 have hmul : i * esz s.t + esz s.t ≤ s.xs.length * esz s.t := by
  have : (i + 1) * esz s.t ≤ s.xs.length * esz s.t := Nat.mul_le_mul_right _ hi
  rw [Nat.add_mul] at this; omega
 have hmul2 : s.xs.length * esz s.t ≤ cap * esz s.t := Nat.mul_le_mul_right _ hcap
 refine ⟨us, el, hb, by omega, ?_⟩
 have hsame := setRow_same w b (putAt us (oo + i * esz s.t + off) vs)
 have hb' := setRow_heap w b us (putAt us (oo + i * esz s.t + off) vs) el (0, 0) hb
 have hsz' : oo + cap * esz s.t ≤ (putAt us (oo + i * esz s.t + off) vs).size := by rw [putAt_size (by omega)]; exact hsize
 have hkept : Kept w0 (w.setRow b (putAt us (oo + i * esz s.t + off) vs)) Mf := I.kept.step rfl rfl rfl hsame (fun k e => by subst e; exact I.apart.mine_r id _ hat hF)
 have htr : TreeOwn w (g.rf id) ro.t ro.xs (g.rv id) := by unfold RootRel at hr; rw [hm] at hr; exact hr
 have hsub := htr.at hs
 have hfree : ∀ k, Any Gs k → Free w0 Mf g st k ∧ k < w.heap.size := fun k ⟨F, hF, hk⟩ => T.free I0 hF hk
 have hoff : ∀ k, Any Gs k → ¬ g.rf id k := fun k ⟨F, hF, hk⟩ => T.off F hF k hk id hat
 have hund : Under ro.t ro.xs (g.rv id) p b := ⟨[], s, by rw [List.append_nil]; exact hs, by rw [List.append_nil, hav]; rfl⟩
 have hunder : ∀ i j k, Under s.t s.xs (fun q => g.rv id (p ++ q)) [(i, j)] k → Under ro.t ro.xs (g.rv id) p k ∧ k ≠ b := by
  rintro i j k ⟨q, s2, h1, h2⟩
  have h3 : subR ro.t ro.xs (p ++ ([(i, j)] ++ q)) = some s2 := by rw [subR_append _ hs]; exact h1
  refine ⟨⟨[(i, j)] ++ q, s2, h3, h2⟩, fun e => ?_⟩
  subst e
  have := htr.2 _ p s2 s k h3 hs h2 (by rw [hav]; rfl)
  simp at this
 obtain ⟨G', hp', hG'⟩ := (hsub.pieces (ro := g.ro) (by simpa using hrows)).poke hx hA hy hle (fun _ h => h) T.apart (fun i j k h1 h2 => hoff k h2 (htr.under_F (hunder i j k h1).1)) (by omega)
 have hnb : ∀ i j k, G' i j k → k ≠ b := fun i j k h => (hG' i j k h).elim (fun h e => hoff k h (e ▸ hF)) fun h => (hunder i j k h).2
 have hp2 := hp'.same hsame hnb (fun k h e => by
  subst e
  exact h.elim (fun h => I.apart.ro_r id _ hat hF h) (fun h => hoff _ h hF))
 simp only [Bool.and_self] at hp2
 obtain ⟨av2, h0, hnew⟩ := hp2.own hb' (by simpa using hcap) hsz' (fun i j h => hnb i j b h rfl)
 have hbes : ∀ k, (k = b ∨ ∃ i j, G' i j k) → ¬ Beside ro.t ro.xs (g.rv id) p k := by
  rintro k (rfl | ⟨i, j, h⟩)
  ·exact htr.under_beside hund
  ·rcases hG' i j k h with h | h
   ·exact fun h' => hoff k h (htr.beside_F h')
   ·exact htr.under_beside (hunder i j k h).1
 obtain ⟨av', h1, h2, h3⟩ := htr.graft hs hz hsame (fun k e => by subst e; exact htr.under_beside hund) hnew (by rw [h0, hav]; simp) hbes
 refine ⟨_, by rfl, I.reroot (ro' := ⟨ro.t, .deep, ro.ver, ro.log ++ [p.length], zs⟩) (.inl hlive) hsame hkept (fun k e => by subst e; exact I.alone hat hF) (fun _ h => h) (fun id' k h1 _ h3 => I.apart.ro_r id' k h1 h3)
  I.apart.ro_b (fun k h => Nat.lt_of_lt_of_le (I.apart.lt_ro k h) hsame.1) I.apart.mine_ro rfl rfl (l := [p.length]) rfl (av := av') (F := fun k => (k = b ∨ ∃ i j, G' i j k) ∨ Beside ro.t ro.xs (g.rv id) p k) (fun q hq => ?_) ?_ (fun k hk => ?_)⟩
 ·have hql : q.length ≤ p.length := hq _ (by simp)
  have hqp : p <+: q → q = p := fun h => (h.eq_of_length_le hql).symm
  exact ⟨h1 q hqp, fun sq hsq => subR_keep hs hz (by simp) q sq hqp hsq⟩
 ·unfold RootRel
  simp only [Gh.setR, if_true]
  exact h3
 ·have hold : g.rf id k → (∀ id', OwnAt st id' → id' ≠ id → ¬ g.rf id' k) ∧ ¬ g.ro k ∧ (∀ b, BoxAt st b → g.bx b ≠ k) ∧ (w0.heap.size ≤ k ∨ Mf k) ∧ k < (w.setRow b (putAt us (oo + i * esz s.t + off) vs)).heap.size := fun hk =>
   ⟨(I.alone hat hk).r, (I.alone hat hk).ro, (I.alone hat hk).b, I.apart.mine_r id k hat hk, Nat.lt_of_lt_of_le (I.apart.lt_r id k hat hk) hsame.1⟩
  rcases hk with (rfl | ⟨i', j', h⟩) | h
  ·exact hold hF
  ·rcases hG' i' j' k h with h | h
   ·obtain ⟨hf, hlt⟩ := hfree k h
    exact ⟨fun id' h1 _ => hf.r id' h1, hf.ro, hf.b, hf.mine, Nat.lt_of_lt_of_le hlt hsame.1⟩
   ·exact hold (htr.under_F (hunder i' j' k h).1)
  ·exact hold (htr.beside_F h)
theorem Inv.storeShal (I0 : Inv w0 Mf g st0 a w) (I : Inv w0 Mf g st a w) {ups : List (Nat × Rt)} {Gs : List (Nat → Prop)} (T : Took w g st0 st ups Gs) {id : Nat} {ro : Root} (hlive : aget st.roots id = some (.live ro))
 (hm : ro.md.isFrz = false) (hmp : ro.md.isPart = false) {i : Nat} {x y : El ro.t} (hx : ro.xs[i]? = some x) {cv : List Cv} {vs : Array Value} {off : Nat} {d : Bool} (hA : AbsL w g.ro cv vs.toList Gs d) (hy : enc ro.t y = setRange (enc ro.t x) off cv) (hle : off + cv.length ≤ esz ro.t)
    {b oo n cap : Nat} (hav : g.rv id [] = .slice (some ⟨b, oo, none⟩) n cap) :
    ∃ us el, w.heap[b]? = some (.cells us el (0, 0)) ∧ oo + i * esz ro.t + esz ro.t ≤ us.size ∧ ∃ g' : Gh, g'.n = g.n ∧
      Inv w0 Mf g' { st with roots := aset st.roots id (.live ⟨ro.t, .shal, ro.ver, ro.log ++ [0], ro.xs.set i y⟩) } a (w.setRow b (putAt us (oo + i * esz ro.t + off) vs)) := by
 have hi := el_lt hx
 have hat : OwnAt st id := ⟨ro, hlive, hm⟩
 have hr := I.roots id ro hlive
 have hnode := hr.node (p := []) (s := ⟨ro.t, ro.xs⟩) rfl (by cases h : ro.md <;> simp_all [Md.isDeep, Md.isShal, Md.isFrz, Md.isPart])
 have hv : vs.size = cv.length := by have := hA.len.1; simpa using this
 rcases hnode with ⟨h0, _⟩ | ⟨b', oo', cap', us, el, e1, hF, hb, hcap, hsize, hrows⟩
 ·simp only at h0; rw [h0] at hi; simp at hi
 rw [hav] at e1
 simp only [Value.slice.injEq, Option.some.injEq, Addr.mk.injEq, and_true] at e1
 obtain ⟨⟨rfl, rfl⟩, rfl, rfl⟩ := e1
 simp only at hcap hsize hrows
 have hmul : i * esz ro.t + esz ro.t ≤ ro.xs.length * esz ro.t := by
  have : (i + 1) * esz ro.t ≤ ro.xs.length * esz ro.t := Nat.mul_le_mul_right _ hi
  rw [Nat.add_mul] at this; omega
 have hmul2 : ro.xs.length * esz ro.t ≤ cap * esz ro.t := Nat.mul_le_mul_right _ hcap
 refine ⟨us, el, hb, by omega, ?_⟩
 have hsame := setRow_same w b (putAt us (oo + i * esz ro.t + off) vs)
 have hb' := setRow_heap w b us (putAt us (oo + i * esz ro.t + off) vs) el (0, 0) hb
 have hsz' : oo + cap * esz ro.t ≤ (putAt us (oo + i * esz ro.t + off) vs).size := by rw [putAt_size (by omega)]; exact hsize
 have hkept : Kept w0 (w.setRow b (putAt us (oo + i * esz ro.t + off) vs)) Mf := I.kept.step rfl rfl rfl hsame (fun k e => by subst e; exact I.apart.mine_r id _ hat hF)
 have hfree : ∀ k, Any Gs k → Free w0 Mf g st k ∧ k < w.heap.size := fun k ⟨F, hF, hk⟩ => T.free I0 hF hk
 have hoff : ∀ k, Any Gs k → ¬ g.rf id k := fun k ⟨F, hF, hk⟩ => T.off F hF k hk id hat
 -- what was there, in pieces
 have hpc : ∃ dd G, Pieces w g.ro dd ro.t ro.xs us oo G ∧ ∀ i j k, G i j k → g.rf id k ∧ k ≠ b := by
  unfold RootRel at hr
  split at hr
  ·refine ⟨true, _, hr.pieces (ro := g.ro) (by simpa using hrows), ?_⟩
   rintro i j k ⟨q, s2, h1, h2⟩
   refine ⟨(hr.1 _ s2 h1).blkF h2, fun e => ?_⟩
   subst e
   have := hr.2 _ [] s2 ⟨ro.t, ro.xs⟩ k h1 rfl h2 (by rw [hav]; rfl)
   simp at this
  ·exact ⟨false, _, hr.pieces (by simpa using hrows), fun _ _ _ h => h.elim⟩
  ·rename_i hmd; simp [hmd, Md.isFrz] at hm
  ·rename_i hmd; simp [hmd, Md.isPart] at hmp
 obtain ⟨dd, G, hpc, hG⟩ := hpc
 obtain ⟨G', hp', hG'⟩ := hpc.poke hx hA hy hle (fun _ h => h) T.apart (fun i j k h1 h2 => hoff k h2 (hG i j k h1).1) (by omega)
 have hnb : ∀ i j k, G' i j k → k ≠ b := fun i j k h => (hG' i j k h).elim (fun h e => hoff k h (e ▸ hF)) fun h => (hG i j k h).2
 let RO' : Nat → Prop := fun k => (g.ro k ∨ Any Gs k) ∨ ∃ i j, G' i j k
 have hp2 := hp'.same hsame hnb (fun k h e => by
  subst e
  exact h.elim (fun h => I.apart.ro_r id _ hat hF h) (fun h => hoff _ h hF))
 obtain ⟨av2, h0, hnew⟩ := hp2.shal hb' (by simpa using hcap) hsz' (ro' := RO') (fun k => .inl) (fun i j k h => .inr ⟨i, j, h⟩)
 -- who holds what is read from now on
 have hRO : ∀ k, RO' k → (∀ id', OwnAt st id' → id' ≠ id → ¬ g.rf id' k) ∧ (∀ b, BoxAt st b → g.bx b ≠ k) ∧ k < w.heap.size ∧ k ≠ b := by
  have hgs : ∀ k, Any Gs k → (∀ id', OwnAt st id' → id' ≠ id → ¬ g.rf id' k) ∧ (∀ b, BoxAt st b → g.bx b ≠ k) ∧ k < w.heap.size ∧ k ≠ b := fun k h => by
   obtain ⟨hf, hlt⟩ := hfree k h
   exact ⟨fun id' h1 _ => hf.r id' h1, hf.b, hlt, fun e => hoff k h (e ▸ hF)⟩
  rintro k ((h | h) | ⟨i', j', h⟩)
  ·exact ⟨fun id' h1 _ h3 => I.apart.ro_r id' k h1 h3 h, fun b' hb' e => I.apart.ro_b b' hb' (e ▸ h), I.apart.lt_ro k h, fun e => I.apart.ro_r id b hat hF (e ▸ h)⟩
  ·exact hgs k h
  ·rcases hG' i' j' k h with h | h
   ·exact hgs k h
   ·have hk := (hG i' j' k h).1
    exact ⟨(I.alone hat hk).r, (I.alone hat hk).b, I.apart.lt_r id k hat hk, (hG i' j' k h).2⟩
 have hROm : ∀ k, RO' k → g.n.r0 k ∨ w0.heap.size ≤ k ∨ Mf k := by
  rintro k ((h | h) | ⟨i', j', h⟩)
  ·exact I.apart.mine_ro k h
  ·exact .inr (hfree k h).1.mine
  ·rcases hG' i' j' k h with h | h
   ·exact .inr (hfree k h).1.mine
   ·exact .inr (I.apart.mine_r id k hat (hG i' j' k h).1)
 refine ⟨_, by rfl, I.reroot (ro' := ⟨ro.t, .shal, ro.ver, ro.log ++ [0], ro.xs.set i y⟩) (G := RO') (.inl hlive) hsame hkept (fun k e => by subst e; exact I.alone hat hF) (fun _ h => .inl (.inl h)) (fun id' k h1 h2 h3 h4 => (hRO k h4).1 id' h1 h2 h3)
  (fun b' hb' h => (hRO _ h).2.1 b' hb' rfl) (fun k h => Nat.lt_of_lt_of_le (hRO k h).2.2.1 hsame.1) hROm rfl rfl (l := [0]) rfl (av := av2) (F := fun k => k = b) (fun q hq => ?_) ?_ (fun k hk => ?_)⟩
 ·have hq0 : q = [] := List.eq_nil_of_length_eq_zero (Nat.le_zero.1 (hq 0 (by simp)))
  subst hq0
  refine ⟨by rw [h0, hav]; simp, fun sq hsq => ?_⟩
  simp only [subR, Option.some.injEq] at hsq
  subst hsq
  exact ⟨_, rfl, rfl, by simp⟩
 ·unfold RootRel
  simp only [Gh.setR, if_true]
  exact hnew
 ·subst hk
  exact ⟨(I.alone hat hF).r, fun h => (hRO _ h).2.2.2 rfl, (I.alone hat hF).b, I.apart.mine_r id _ hat hF, Nat.lt_of_lt_of_le (I.apart.lt_r id _ hat hF) hsame.1⟩
theorem subR_keepN : ∀ {p : Path} {t : Ty} {xs zs : List (El t)} {s s' : Sl}, subR t xs p = some s → setSub t xs p s' = some zs →
    ∀ q sq, ¬ p <+: q → subR t xs q = some sq → ∃ sq', subR t zs q = some sq' ∧ sq'.t = sq.t ∧ sq'.xs.length = sq.xs.length
  | [], t, xs, zs, s, s', h, hz, q, sq, hq, hsq => absurd List.nil_prefix hq
  | (i, j) :: p, t, xs, zs, s, s', h, hz, q, sq, hq, hsq => by
    simp only [subR] at h
    split at h
    case h_2 => cases h
    rename_i x hx
    split at h
    case h_2 => cases h
    rename_i t1 ys hc
    simp only [setSub, atI_of hx, hc, Option.bind_eq_some_iff, Option.some.injEq] at hz
    obtain ⟨z1, hz1, y, hy, rfl⟩ := hz
    have hey := dec_enc hy
    have hlt := el_lt hx
    have hj : j < (enc t x).length := by rw [enc_length]; exact enc_lt hc
    cases q with
    | nil =>
      simp only [subR, Option.some.injEq] at hsq
      subst hsq
      exact ⟨⟨t, xs.set i y⟩, rfl, rfl, by simp⟩
    | cons ij q =>
      obtain ⟨i', j'⟩ := ij
      simp only [subR] at hsq ⊢
      by_cases hii : i = i'
      · subst hii
        simp only [List.getElem?_set_self hlt, ← hey]
        rw [hx] at hsq
        simp only at hsq
        by_cases hjj : j = j'
        · subst hjj
          simp only [hc, List.getElem?_set_self hj] at hsq ⊢
          exact subR_keepN h hz1 q sq (fun hp => hq (by simpa using hp)) hsq
        · rw [List.getElem?_set_ne hjj]
          exact ⟨sq, hsq, rfl, rfl⟩
      · simp only [List.getElem?_set_ne hii]
        exact ⟨sq, hsq, rfl, rfl⟩
theorem sub_of_prefix : ∀ {q : Path} {t : Ty} {xs : List (El t)} {s : Sl}, subR t xs q = some s → ∀ p, sub t xs (q ++ p) = sub s.t s.xs p
  | [], t, xs, s, h, p => by simp only [subR, Option.some.injEq] at h; subst h; rfl
  | (i, j) :: q, t, xs, s, h, p => by
    simp only [subR] at h
    split at h
    · rename_i x hx
      split at h
      · rename_i t' ys hc
        simp only [List.cons_append, sub, atI_of hx, hc]
        exact sub_of_prefix h p
      · cases h
    · cases h
theorem putAt_one {us : Array Value} {off : Nat} {u : Value} (h : off < us.size) (m : Nat) : (putAt us off #[u])[m]? = if m = off then some u else us[m]? := by
 rw [putAt_get (by simp; omega)]
 by_cases e : m = off
 ·subst e; rw [if_pos ⟨Nat.le_refl _, by simp⟩, if_pos rfl, Nat.sub_self]; rfl
 ·rw [if_neg (by simp; omega), if_neg e]
theorem TreePart.fill {F F2 : Nat → Prop} {t : Ty} {xs zs : List (El t)} {av : Path → Value} {q : Path} {i j : Nat} (h : TreePart w F (.hole (q ++ [(i, j)])) t xs av) {s s' : Sl} (hs : subR t xs (q ++ [(i, j)]) = some s)
 (hz : setSub t xs (q ++ [(i, j)]) s' = some zs) {b oo n cap : Nat} (hav : av q = .slice (some ⟨b, oo, none⟩) n cap) {sq : Sl} (hsq : subR t xs q = some sq) {us : Array Value} {el : TypeId} {fz : Nat × Nat} (hb : w.heap[b]? = some (.cells us el fz))
    {u : Value} (hu : flatB u = true) {av2 : Path → Value} (hnew : TreeOwn w F2 s'.t s'.xs av2) (h0 : av2 [] = u) (hF2 : ∀ k, F2 k → ¬ F k) :
    ∃ av' : Path → Value, (∀ r, ¬ (q ++ [(i, j)]) <+: r → av' r = av r) ∧ TreeOwn (w.setRow b (putAt us (oo + i * esz sq.t + j) #[u])) (fun k => F k ∨ F2 k) t zs av' := by
 have hqa : (Pt.hole (q ++ [(i, j)])).nodeAt q = true := (hole_iff (by simp)).2 fun hp => by
  have := hp.length_le
  simp at this
  omega
 obtain ⟨xq, hxq, hcq⟩ : ∃ xq, sq.xs[i]? = some xq ∧ (enc sq.t xq)[j]? = some (.l s.t s.xs) := by
  rw [subR_append _ hsq] at hs
  exact subR_one' hs
 have hi := el_lt hxq
 have hj := enc_lt hcq
 rcases h.1 q sq hqa hsq with ⟨e0, _⟩ | ⟨b', oo', cap', us', el', e1, hFb, hb', hcap, hsize, hrows⟩
 ·rw [e0] at hi; simp at hi
 rw [hav] at e1
 simp only [Value.slice.injEq, Option.some.injEq, Addr.mk.injEq, and_true] at e1
 obtain ⟨⟨rfl, rfl⟩, rfl, rfl⟩ := e1
 rw [hb] at hb'
 simp only [Option.some.injEq, Obj.cells.injEq] at hb'
 obtain ⟨rfl, rfl, rfl⟩ := hb'
 have hmul : i * esz sq.t + esz sq.t ≤ sq.xs.length * esz sq.t := by
  have : (i + 1) * esz sq.t ≤ sq.xs.length * esz sq.t := Nat.mul_le_mul_right _ hi
  rw [Nat.add_mul] at this; omega
 have hmul2 : sq.xs.length * esz sq.t ≤ cap * esz sq.t := Nat.mul_le_mul_right _ hcap
 have hoff : oo + i * esz sq.t + j < us.size := by omega
 have hsame := setRow_same w b (putAt us (oo + i * esz sq.t + j) #[u])
 have hbn := setRow_heap w b us (putAt us (oo + i * esz sq.t + j) #[u]) el (0, 0) hb
 have hsz2 : (putAt us (oo + i * esz sq.t + j) #[u]).size = us.size := putAt_size (by simp; omega)
 let av' : Path → Value := fun r => if (q ++ [(i, j)]) <+: r then av2 (r.drop (q ++ [(i, j)]).length) else av r
 have hup : ∀ r, av' ((q ++ [(i, j)]) ++ r) = av2 r := fun r => by simp only [av']; rw [if_pos (List.prefix_append _ _), List.drop_left]
 have hoth : ∀ r, ¬ (q ++ [(i, j)]) <+: r → av' r = av r := fun r hr => by simp only [av']; rw [if_neg hr]
 have hnew' : TreeOwn (w.setRow b (putAt us (oo + i * esz sq.t + j) #[u])) F2 s'.t s'.xs av2 := hnew.same hsame fun k hk e => by subst e; exact hF2 _ hk hFb
 refine ⟨av', hoth, fun r s2' hs2 => ?_, fun r1 r2 s1 s2 n h1 h2 h3 h4 => ?_⟩
 ·rcases subR_set hs hz r s2' hs2 with ⟨r', rfl, hs3⟩ | ⟨hn, s2, hs3, hsim⟩
  ·rw [hup]
   have := (hnew'.1 r' s2' hs3).mono (Q := fun k => F k ∨ F2 k) fun k => .inr
   refine this.kid fun i y j t' ys _ _ => ?_
   rw [List.append_assoc, hup]
  ·rw [hoth r hn]
   have ha := (hole_iff (by simp)).2 hn
   have h1 := h.1 r s2 ha hs3
   by_cases hrq : r = q
   ·subst hrq
    rw [hsq] at hs3; cases hs3
    refine .inr ⟨b, oo, cap, _, el, by rw [hav, hsim.2.1], .inl hFb, hbn, by rw [hsim.2.1]; exact hcap, by rw [hsz2, hsim.1]; exact hsize, ?_⟩
    have hrow2 := hsim.rows hrows
    intro i2 y j2 c hy hc
    obtain ⟨z, hz2, hcz⟩ := hrow2 i2 y j2 c hy hc
    rw [hsim.1] at hz2 ⊢
    rw [putAt_one hoff]
    have hj2 : j2 < esz sq.t := by rw [← hsim.1]; exact enc_lt hc
    by_cases e : oo + i2 * esz sq.t + j2 = oo + i * esz sq.t + j
    ·rw [if_pos e]
     have : i2 = i ∧ j2 = j := by
      rcases Nat.lt_trichotomy i2 i with hlt | heq | hlt
      ·have : (i2 + 1) * esz sq.t ≤ i * esz sq.t := Nat.mul_le_mul_right _ hlt
       rw [Nat.add_mul] at this; omega
      ·subst heq; exact ⟨rfl, by omega⟩
      ·have : (i + 1) * esz sq.t ≤ i2 * esz sq.t := Nat.mul_le_mul_right _ hlt
       rw [Nat.add_mul] at this; omega
     obtain ⟨rfl, rfl⟩ := this
     refine ⟨u, rfl, ?_⟩
     have hk1 : c.kind.isSome = true := by
      obtain ⟨y0, c0, h5, h6, h7⟩ := hsim.2.2 i2 y j2 c hy hc
      rw [hxq] at h5; cases h5
      rw [hcq] at h6; cases h6
      cases c with
      | v x => exact h7.elim
      | l t' ys => rfl
     cases c with
     | v x => cases hk1
     | l t' ys =>
      show u = av' (r ++ [(i2, j2)])
      have := hup []
      rw [List.append_nil] at this
      rw [this, h0]
    ·rw [if_neg e]
     refine ⟨z, hz2, ?_⟩
     cases c with
     | v x => exact hcz
     | l t' ys =>
      have hcz : z = av (r ++ [(i2, j2)]) := hcz
      show z = av' (r ++ [(i2, j2)])
      rw [hcz, hoth]
      intro hp
      have hl := hp.eq_of_length (by simp)
      have := List.append_cancel_left hl
      simp only [List.cons.injEq, Prod.mk.injEq, and_true] at this
      exact e (by rw [this.1, this.2])
   ·have hblk : ∀ k, blk (av r) = some k → k ≠ b := fun k hk e => by
     subst e
     exact hrq (h.2.1 r q s2 sq k ha hqa hs3 hsq hk (by rw [hav]; rfl))
    have h2 := (h1.toF (G := fun k => F k ∧ k ≠ b) fun k hk => ⟨h1.blkF hk, hblk k hk⟩).same hsame fun k hk e => hk.2 e
    refine ((hsim.own h2).mono fun k hk => Or.inl hk.1).kid fun i2 y j2 t' ys _ _ => ?_
    refine hoth _ fun hp => ?_
    rw [List.prefix_concat_iff] at hp
    rcases hp with hp | hp
    ·have := List.append_inj_left' hp rfl
     exact hrq this.symm
    ·exact hn hp
 ·rcases subR_set hs hz r1 s1 h1 with ⟨r1', rfl, hs1⟩ | ⟨hn1, s1', hs1, _⟩ <;> rcases subR_set hs hz r2 s2 h2 with ⟨r2', rfl, hs2⟩ | ⟨hn2, s2', hs2, _⟩
  ·rw [hup] at h3 h4
   rw [hnew'.2 _ _ _ _ n hs1 hs2 h3 h4]
  ·rw [hup] at h3; rw [hoth _ hn2] at h4
   exact (hF2 n ((hnew'.1 _ _ hs1).blkF h3) ((h.1 _ _ ((hole_iff (by simp)).2 hn2) hs2).blkF h4)).elim
  ·rw [hup] at h4; rw [hoth _ hn1] at h3
   exact (hF2 n ((hnew'.1 _ _ hs2).blkF h4) ((h.1 _ _ ((hole_iff (by simp)).2 hn1) hs1).blkF h3)).elim
  ·rw [hoth _ hn1] at h3; rw [hoth _ hn2] at h4
   exact h.2.1 _ _ _ _ n ((hole_iff (by simp)).2 hn1) ((hole_iff (by simp)).2 hn2) hs1 hs2 h3 h4
theorem Inv.storeHole (I0 : Inv w0 Mf g st0 a w) (I : Inv w0 Mf g st a w) {ups : List (Nat × Rt)} {F2 : Nat → Prop} (T : Took w g st0 st ups [F2]) {id : Nat} {ro : Root} (hlive : aget st.roots id = some (.live ro))
    {q : Path} {i j : Nat} (hm : ro.md = .part (.hole (q ++ [(i, j)]))) {sq : Sl} (hsq : subR ro.t ro.xs q = some sq) (hi : i < sq.xs.length) {s : Sl} (hs : sub ro.t ro.xs (q ++ [(i, j)]) = some s) {ys : List (El s.t)} {u : Value} (hu : flatB u = true)
 (hnew : OwnSl w F2 s.t ys u) {zs : List (El ro.t)} (hz : setSub ro.t ro.xs (q ++ [(i, j)]) ⟨s.t, ys⟩ = some zs) {b oo n cap : Nat} (hav : g.rv id q = .slice (some ⟨b, oo, none⟩) n cap) (hj : j < esz sq.t) :
    ∃ us el, w.heap[b]? = some (.cells us el (0, 0)) ∧ oo + i * esz sq.t + esz sq.t ≤ us.size ∧ ∃ g' : Gh, g'.n = g.n ∧
      Inv w0 Mf g' { st with roots := aset st.roots id (.live ⟨ro.t, .deep, ro.ver, ro.log ++ [q.length], zs⟩) } a (w.setRow b (putAt us (oo + i * esz sq.t + j) #[u])) := by
 have hr := I.roots id ro hlive
 unfold RootRel at hr
 rw [hm] at hr
 have hr : TreePart w (g.rf id) (.hole (q ++ [(i, j)])) ro.t ro.xs (g.rv id) := hr
 have hat : OwnAt st id := ⟨ro, hlive, by rw [hm]; rfl⟩
 have hqa : (Pt.hole (q ++ [(i, j)])).nodeAt q = true := (hole_iff (by simp)).2 fun hp => by
  have := hp.length_le
  simp at this
  omega
 rcases hr.1 q sq hqa hsq with ⟨e0, _⟩ | ⟨b', oo', cap', us, el, e1, hFb, hb, hcap, hsize, hrows⟩
 ·rw [e0] at hi; simp at hi
 rw [hav] at e1
 simp only [Value.slice.injEq, Option.some.injEq, Addr.mk.injEq, and_true] at e1
 obtain ⟨⟨rfl, rfl⟩, rfl, rfl⟩ := e1
 have hmul : i * esz sq.t + esz sq.t ≤ sq.xs.length * esz sq.t := by
  have : (i + 1) * esz sq.t ≤ sq.xs.length * esz sq.t := Nat.mul_le_mul_right _ hi
  rw [Nat.add_mul] at this; omega
 have hmul2 : sq.xs.length * esz sq.t ≤ cap * esz sq.t := Nat.mul_le_mul_right _ hcap
 have hsR : ∃ s1, subR ro.t ro.xs (q ++ [(i, j)]) = some s1 := by
  have hx := atI_lt hi
  rw [sub_of_prefix hsq] at hs
  rw [subR_append _ hsq]
  simp only [sub, subR, hx] at hs ⊢
  split at hs
  ·rename_i t' ys' hc; first | exact ⟨_, rfl⟩ | (simp only [hc]; exact ⟨_, rfl⟩)
  ·cases hs
 obtain ⟨s1, hs1⟩ := hsR
 have := sub_of_subR hs1
 rw [hs] at this; cases this
 have hfree : ∀ k, F2 k → Free w0 Mf g st k ∧ k < w.heap.size := fun k hk => T.free I0 (by simp) hk
 obtain ⟨av2, h0, hn2⟩ := hnew
 obtain ⟨av', h1, h2⟩ := hr.fill hs1 hz hav hsq hb hu hn2 h0 fun k hk hr' => (hfree k hk).1.r id hat hr'
 have hsame := setRow_same w b (putAt us (oo + i * esz sq.t + j) #[u])
 have hkept : Kept w0 (w.setRow b (putAt us (oo + i * esz sq.t + j) #[u])) Mf := I.kept.step rfl rfl rfl hsame (fun k e => by subst e; exact I.apart.mine_r id _ hat hFb)
 refine ⟨us, el, hb, by omega, _, by rfl, I.reroot (ro' := ⟨ro.t, .deep, ro.ver, ro.log ++ [q.length], zs⟩) (.inl hlive) hsame hkept (fun k e => by subst e; exact I.alone hat hFb) (fun _ h => h) (fun id' k h1 _ h3 => I.apart.ro_r id' k h1 h3)
  I.apart.ro_b (fun k h => Nat.lt_of_lt_of_le (I.apart.lt_ro k h) hsame.1) I.apart.mine_ro rfl rfl (l := [q.length]) rfl (av := av') (F := fun k => g.rf id k ∨ F2 k) (fun r hr' => ?_) ?_ (fun k hk => ?_)⟩
 ·have hrl : r.length ≤ q.length := hr' _ (by simp)
  have hnp : ¬ (q ++ [(i, j)]) <+: r := fun hp => by
   have := hp.length_le
   simp at this
   omega
  exact ⟨h1 r hnp, fun sr hsr => subR_keepN hs1 hz r sr hnp hsr⟩
 ·unfold RootRel
  simp only [Gh.setR, if_true]
  exact h2
 ·rcases hk with hk | hk
  ·exact ⟨(I.alone hat hk).r, (I.alone hat hk).ro, (I.alone hat hk).b, I.apart.mine_r id k hat hk, Nat.lt_of_lt_of_le (I.apart.lt_r id k hat hk) hsame.1⟩
  ·obtain ⟨hf, hlt⟩ := hfree k hk
   exact ⟨fun id' h1 _ => hf.r id' h1, hf.ro, hf.b, hf.mine, Nat.lt_of_lt_of_le hlt hsame.1⟩
end Go.Gm
namespace Go.Gm
open Go
variable {R : Type} {P : Program} {E : Env} {w0 w : World} {Mf : Nat → Prop} {g : Gh} {st : St} {a : Act} {Q : Exit → Act → World → Prop}
  {o : Oper} {k : Dl → Option R} {r : R} {K : Act → World → Prop}
theorem wp_unit {w' : World} (hd : o.dst = none) (h : (execOp a.eval o).run P w = .ok .skip w') (hK : K a w') : o.wp P a w K Q := by
 unfold Oper.wp; rw [h, Oper.upon_skip, hd]; exact hK
theorem kind_at (t : Ty) (x : El t) (j : Nat) : ((enc t x)[j]?).map Cv.kind = (kinds t)[j]? := by
 rw [← kinds_eq t x, List.getElem?_map]
theorem x_store (hE : E.Ok P) (I : Inv w0 Mf g st a w) (hK : Then w0 Mf g st k r K) {T : Nat} {x y : Operand} (hop : o.op = .store T x y)
 (h : evX E o st k = some r) : o.wp P a w K Q := by
 simp only [evX, hop] at h
 replace h := condN h; obtain ⟨hdst, h⟩ := h
 have hdst := Option.isNone_iff_eq_none.1 hdst
 replace h := bindS h; obtain ⟨t, hT, h⟩ := h
 replace h := I.getC h; obtain ⟨c, h, hc⟩ := h
 replace h := I.getS h; obtain ⟨s, h, hs⟩ := h
 replace h := bindS h; obtain ⟨cs, hcs, h⟩ := h
 replace h := condN h; obtain ⟨hlen, h⟩ := h
 have hlen := beqN hlen
 obtain ⟨vs, hform, hrel⟩ := svCells_sound hcs hs
 have hvs : vs.size = cs.length := hrel.1
 have hrun : ∀ (b off : Nat) (us : Array Value) (el : Nat), a.eval x = .pointer (some ⟨b, off, none⟩) → w.heap[b]? = some (.cells us el (0, 0)) → off + esz t ≤ us.size →
   (execOp a.eval o).run P w = .ok .skip (w.setRow b (putAt us off vs)) := by
  intro b off us el hx hb hl
  have := run_storeVar hE hT (off := off) hb hform (by omega) hl hrel.flat
  rw [row_putAt (by omega)] at this
  simp [execOp, hop, Instr.storeAt, hx, Instr.sureAddr, this]
 split at h
 ·-- into a variable in memory
  rename_i b off
  replace h := bindS h; obtain ⟨bx, hbx, h⟩ := h
  replace h := condN h; obtain ⟨hl, h⟩ := h
  have hl := bleN hl
  obtain ⟨us, el, hb, hcells⟩ := I.boxes b bx hbx
  have hus := hcells.1
  have hat : BoxAt st b := by simp [BoxAt, hbx]
  refine wp_unit hdst (hrun _ _ us el hc.2.1 hb (by omega)) (hK _ g _ _ h rfl ?_)
  have hsame := setRow_same w (g.bx b) (putAt us off vs)
  have hset := hcells.set hrel off (by omega)
  rw [row_putAt (by omega)] at hset
  have := I.writeBox (t := bx.t) hat hsame (I.kept.step rfl rfl rfl hsame (fun k e => by subst e; exact I.apart.mine_b b hat)) (setRow_heap w _ us _ el (0, 0) hb) hset
  simpa [St.apply, asets] using this
 ·-- into an own list
  rename_i id ver iv p i off
  replace h := getRp_some h; obtain ⟨ro, hro, h⟩ := h
  split at h
  ·rename_i p0 hhole
   replace h := condN h; obtain ⟨heq, h⟩ := h
   have heq := eqP_iff.1 heq
   subst heq
   split at h
   case h_2 => cases h
   rename_i c1 _
   replace h := bindS h; obtain ⟨s0, hs0, h⟩ := h
   obtain ⟨u1, hu1, hcu⟩ := hrel.2 0 c1 rfl
   have hvs1 : vs = #[u1] := by
    apply Array.ext_getElem?
    intro n
    cases n with
    | zero => simpa using hu1
    | succ n => rw [Array.getElem?_eq_none (by rw [hvs]; simp), Array.getElem?_eq_none (by simp)]
   subst hvs1
   replace h := I.absSc h hcu; obtain ⟨cv, d, st', ups, F, h, I', TK, hr, ho⟩ := h
   replace h := condN h; obtain ⟨hd, h⟩ := h
   subst hd
   replace h := getR_some h; obtain ⟨ro2, hlive, hver, h⟩ := h
   have hlive0 := TK.live id ro2 hlive
   have : ro2 = ro := by have := hlive0.symm.trans hro.1; simpa using this
   subst this
   replace h := bindS h; obtain ⟨ys, hys, h⟩ := h
   replace h := bindS h; obtain ⟨zs, hz, h⟩ := h
   obtain ⟨s', b, oo, n, cap, h1, h2, h3, hu⟩ := hc.2.2 ro2 hro.x
   have hm : ro2.md = .part (.hole (p ++ [(i, off)])) := by
    cases hq : ro2.md with
    | part k =>
     cases k with
     | cur a b => rw [hq] at hhole; cases hhole
     | hole p1 => rw [hq] at hhole; cases hhole; rfl
    | _ => rw [hq] at hhole; cases hhole
   have hj : off < esz s'.t := by
    rw [sub_of_prefix h1] at hs0
    simp only [sub] at hs0
    split at hs0
    ·rename_i hcc; exact enc_lt hcc
    ·cases hs0
   have hcvl := Cv.sl?_some hys
   subst hcvl
   obtain ⟨us, el, hb, hsz, g', hn, I2⟩ := I.storeHole I' TK hlive hm h1 h2 hs0 hcu.1 (ho rfl) hz h3 hj
   refine wp_unit hdst (hrun _ _ us el (by rw [hu]) hb (by simp only [List.length_cons, List.length_nil] at hlen; omega)) (hK _ g' _ _ h hn ?_)
   have hst := TK.eq
   subst hst
   simpa [St.apply, asets_append, asets] using I2
  replace h := bindS h; obtain ⟨s1, hs1, h⟩ := h
  replace h := condN h; obtain ⟨hcond, h⟩ := h
  replace h := I.absL h hrel.l; obtain ⟨cv, d, st', ups, Gs, h, I', TK, hA⟩ := h
  replace h := getR_some h; obtain ⟨ro2, hlive, hver, h⟩ := h
  have hlive0 := TK.live id ro2 hlive
  have : ro2 = ro := by have := hlive0.symm.trans hro.1; simpa using this
  subst this
  replace h := condN h; obtain ⟨hdp, h⟩ := h
  replace h := bindS h; obtain ⟨y1, hy1, h⟩ := h
  replace h := bindS h; obtain ⟨zs, hz, h⟩ := h
  obtain ⟨s', b, oo, n, cap, h1, h2, h3, hu⟩ := hc.2.2 ro2 hro.x
  have := sub_of_subR h1; rw [hs1] at this; cases this
  simp only [Bool.and_eq_true, Bool.or_eq_true, Bool.not_eq_true', List.isEmpty_iff] at hcond
  obtain ⟨hmd, hl⟩ := hcond
  have hl := bleN hl
  have hx1 := atI_lt h2
  have hey := (dec_enc hy1).symm
  have hcvl : cv.length = cs.length := by have := hA.len.1; simp [hvs] at this; omega
  have hmd' : ro2.md.isDeep = true ∨ (ro2.md.isShal = true ∧ p = []) := hmd
  have hst := TK.eq
  cases hsc : cv.all fun c => c.kind.isNone
  ·-- lists go in
   simp only [hsc, cond_false] at h
   by_cases hdeep : ro2.md.isDeep = true ∧ d = true
   ·obtain ⟨hm, rfl⟩ := hdeep
    have hm' : ro2.md = .deep := by cases hq : ro2.md <;> simp_all [Md.isDeep]
    obtain ⟨us, el, hb, hsz, g', hn, I2⟩ := I.storeDeep I' TK hlive h1 hm' hx1 hA hey (by omega) hz h3
    refine wp_unit hdst (hrun _ _ us el (by rw [hu]) hb (by omega)) (hK _ g' _ _ h hn ?_)
    subst hst
    rw [hm']
    simpa [St.apply, asets_append, asets, Md.meet] using I2
   ·have hp : p = [] := by
     rcases hmd' with hm | hm
     ·simp only [Bool.or_eq_true, List.isEmpty_iff] at hdp
      rcases hdp with hd | hp
      ·exact (hdeep ⟨hm, hd⟩).elim
      ·exact hp
     ·exact hm.2
    have hfz : ro2.md.isFrz = false := by
     rcases hmd' with hm | hm
     ·cases hq : ro2.md <;> simp_all [Md.isDeep, Md.isFrz]
     ·cases hq : ro2.md <;> simp_all [Md.isShal, Md.isFrz]
    have hpt : ro2.md.isPart = false := by
     rcases hmd' with hm | hm
     ·cases hq : ro2.md <;> simp_all [Md.isDeep, Md.isPart]
     ·cases hq : ro2.md <;> simp_all [Md.isShal, Md.isPart]
    subst hp
    simp only [subR, Option.some.injEq] at h1
    subst h1
    have hzs := setSub_nil hz
    subst hzs
    obtain ⟨us, el, hb, hsz, g', hn, I2⟩ := I.storeShal I' TK hlive hfz hpt hx1 hA hey (by simp only at hl ⊢; omega) h3
    refine wp_unit hdst (hrun _ _ us el (by rw [hu]) hb (by simp only at hl hsz ⊢; omega)) (hK _ g' _ _ h hn ?_)
    have hmeet : ro2.md.meet d = .shal := by
     cases hq : ro2.md <;> cases d <;> simp_all [Md.meet, Md.isDeep, Md.isFrz, Md.isPart]
    rw [hmeet]
    subst hst
    simpa [St.apply, asets_append, asets] using I2
  ·simp only [hsc, cond_true] at h
   rw [List.all_eq_true] at hsc
   have hcv : ∀ (j : Nat) c, cv[j]? = some c → ∃ z, vs[j]? = some z ∧ c = .v z := by
    intro j c hj
    obtain ⟨z, hz, hr⟩ := hA.rd.get j c hj
    have := hsc c (List.mem_of_getElem? hj)
    cases c with
    | v q => exact ⟨z, by simpa using hz, by simp only [CRd] at hr; rw [hr]⟩
    | l t' ys => simp [Cv.kind] at this
   obtain ⟨us, el, hb, hsz, g', hn, I2⟩ := I'.storeScal hlive h1 hmd' hx1 hcv (by omega) (fun j c hj1 hj2 hcj => by
     have e1 := kind_at s1.t (atI s1.xs i) j
     have e2 := kind_at s1.t y1 j
     rw [← e1, hey, setRange_get (by rw [enc_length]; omega), if_pos ⟨hj1, hj2⟩, hcj] at e2
     have hj3 : j - off < cv.length := by omega
     rw [List.getElem?_eq_getElem hj3] at e2
     have := hsc cv[j - off] (List.getElem_mem hj3)
     simp only [Option.map_some, Option.some.injEq] at e2
     cases c with
     | v q => exact ⟨q, rfl⟩
     | l t' ys => rw [e2] at this; simp [Cv.kind] at this) hey (by omega) hz h3
   refine wp_unit hdst (hrun _ _ us el (by rw [hu]) hb (by omega)) (hK _ g' _ _ h hn ?_)
   subst hst
   simpa [St.apply, asets_append, asets] using I2
 ·cases h
theorem run_clear_at (t e ty : TypeId) (zv : Value) (ht : P.underlying t = some (.slice e)) (hv : ∀ w, (zeroValue e).run P w = .ok zv w) (hz : ∀ v ∈ zv.cells.toList, v.oneCell' = true) (hz0 : 0 < zv.cells.size) (b o n c : Nat) (hn : 0 < n) (cs : Array Value) (el : TypeId)
 (hb : w.heap[b]? = some (.cells cs el (0, 0))) (hfit : o + n * zv.cells.size ≤ cs.size) :
 (Builtin.clear_ #[t] ty #[.slice (some ⟨b, o, none⟩) n c]).run P w = .ok (.tuple #[]) (w.setRow b (putAt cs o (Builtin.zeroCells zv.cells n))) := by
 have hone : ∀ v ∈ (Builtin.zeroCells zv.cells n).toList, v.oneCell' = true := by
  intro v hv'
  simp only [Builtin.zeroCells, Array.toList_map, List.mem_map] at hv'
  obtain ⟨i, _, rfl⟩ := hv'
  refine hz _ ?_
  have hlt : i % zv.cells.size < zv.cells.size := Nat.mod_lt _ hz0
  rw [getElem!_pos zv.cells _ hlt]
  exact Array.getElem_mem_toList hlt
 have hsz := size_zeroCells zv.cells n
 have hst := run_storeCells_at P b o el (Builtin.zeroCells zv.cells n).toList 0 cs w hb (by simp [hsz]; omega) hone
 simp only [Nat.add_zero] at hst
 rw [← row_putAt (by rw [hsz]; omega)]
 obtain ⟨m, rfl⟩ : ∃ m, n = m + 1 := ⟨n - 1, by omega⟩
 simp [Builtin.clear_, run_underlying ht, hv, hst]
theorem zvals_one {e : Ty} : ∀ v ∈ (zvals e), v.oneCell' = true := by
 intro v hv
 simp only [zvals] at hv
 obtain ⟨c, hc, rfl⟩ := List.mem_map.1 hv
 obtain ⟨m, hm⟩ := List.getElem?_of_mem hc
 cases c with
 | v x => exact flat_one (flat_of_cell (P' := fun _ => True) (w := default) hm rfl)
 | l t ys => rfl
theorem subR_flat {t : Ty} (h : (kinds t).all (fun q => q.isNone) = true) (xs : List (El t)) {p : Path} (hp : p ≠ []) : subR t xs p = none := by
 cases p with
 | nil => exact (hp rfl).elim
 | cons x p =>
  obtain ⟨i, j⟩ := x
  simp only [subR]
  split
  ·split
   ·rename_i hc
    obtain ⟨_, e⟩ := kinds_flat h hc
    cases e
   ·rfl
  ·rfl
theorem Inv.reown (I : Inv w0 Mf g st a w) {id : Nat} {ro : Root} (hlive : aget st.roots id = some (.live ro)) (hmd : ro.md = .deep) (hfl : (kinds ro.t).all (fun q => q.isNone) = true) {ys : List (El ro.t)} (hlen : ys.length = ro.xs.length)
    {w' : World} (h1 : w'.os = w.os) (h2 : w'.tape = w.tape) (h3 : w'.output = w.output) (hs : SameBut (g.rf id) w w') (hnode : NodeOwn w' (g.rf id) ro.t ys (g.rv id []) fun i j => g.rv id [(i, j)]) :
    ∃ g' : Gh, g'.n = g.n ∧ Inv w0 Mf g' { st with roots := aset st.roots id (.live ⟨ro.t, ro.md, ro.ver, ro.log, ys⟩) } a w' := by
 have hat : OwnAt st id := ⟨ro, hlive, by rw [hmd]; rfl⟩
 have hkept : Kept w0 w' Mf := I.kept.step h1 h2 h3 hs (fun k e => I.apart.mine_r id _ hat e)
 have hroot : RootRel w' (({ g with ro := g.ro } : Gh).setR id (g.rv id) (g.rf id)) id ⟨ro.t, ro.md, ro.ver, ro.log, ys⟩ := by
  unfold RootRel
  simp only [Gh.setR, if_true, hmd]
  refine ⟨fun p s hp => ?_, fun p q s s' b hp hq _ _ => ?_⟩
  ·by_cases e : p = []
   ·subst e; simp only [subR, Option.some.injEq] at hp; subst hp; exact hnode
   ·rw [subR_flat hfl ys e] at hp; cases hp
  ·have e1 : p = [] := Classical.byContradiction fun e => by rw [subR_flat hfl ys e] at hp; cases hp
   have e2 : q = [] := Classical.byContradiction fun e => by rw [subR_flat hfl ys e] at hq; cases hq
   rw [e1, e2]
 exact ⟨_, by rfl, I.reroot (ro' := ⟨ro.t, ro.md, ro.ver, ro.log, ys⟩) (.inl hlive) hs hkept (fun k e => I.alone hat e) (fun _ h => h) (fun id' k h1 _ h3 => I.apart.ro_r id' k h1 h3)
  I.apart.ro_b (fun k h => Nat.lt_of_lt_of_le (I.apart.lt_ro k h) hs.1) I.apart.mine_ro rfl rfl (l := []) (by simp) (fun q _ => ⟨rfl, fun sq hsq => by
   by_cases e : q = []
   ·subst e; simp only [subR, Option.some.injEq] at hsq; subst hsq; exact ⟨_, rfl, rfl, hlen⟩
   ·rw [subR_flat hfl ro.xs e] at hsq; cases hsq⟩) hroot
  (fun k hk => ⟨(I.alone hat hk).r, (I.alone hat hk).ro, (I.alone hat hk).b, I.apart.mine_r id k hat hk, Nat.lt_of_lt_of_le (I.apart.lt_r id k hat hk) hs.1⟩)⟩
theorem clrL_len {α : Type} (z : α) {xs : List α} {lo hi : Nat} (h1 : lo ≤ hi) (h2 : hi ≤ xs.length) : (clrL z xs lo hi).length = xs.length := by simp [clrL]; omega
theorem clrL_get {α : Type} (z : α) {xs : List α} {lo hi : Nat} (h1 : lo ≤ hi) (h2 : hi ≤ xs.length) (i : Nat) : (clrL z xs lo hi)[i]? = if lo ≤ i ∧ i < hi then some z else xs[i]? := by
 unfold clrL
 by_cases h3 : i < lo
 ·rw [List.append_assoc, List.getElem?_append_left (by simp; omega), List.getElem?_take, if_pos h3, if_neg (by omega)]
 ·by_cases h4 : i < hi
  ·rw [List.getElem?_append_left (by simp; omega), List.getElem?_append_right (by simp; omega), if_pos (by omega), List.getElem?_replicate]
   simp; omega
  ·rw [List.getElem?_append_right (by simp; omega), List.getElem?_drop, if_neg (by omega)]
   congr 1; simp; omega
theorem x_clear (hE : E.Ok P) (I : Inv w0 Mf g st a w) (hK : Then w0 Mf g st k r K) {c : Call} (hop : o.op = .call c) (hc : c.callee = .builtin .clear)
 (h : evX E o st k = some r) : o.wp P a w K Q := by
 simp only [evX, hop, hc, evBuiltin] at h
 split at h
 case h_2 => cases h
 rename_i x T hargs htys
 have hargs' : c.args = #[x] := by apply Array.ext'; simpa using hargs
 have htys' : c.argTypes = #[T] := by apply Array.ext'; simpa using htys
 replace h := condN h; obtain ⟨hdst, h⟩ := h
 have hdst := Option.isNone_iff_eq_none.1 hdst
 replace h := bindS h; obtain ⟨e, he, h⟩ := h
 obtain ⟨el, hu, hel⟩ := hE.slice (slElem_some he)
 obtain ⟨ii, zv, hi', hsz, hby, hz, hzc⟩ := hE.info el e hel
 replace h := I.getC h; obtain ⟨c', h, hcc⟩ := h
 split at h
 case h_2 => cases h
 rename_i id ver lo hi
 replace h := getR_some h; obtain ⟨ro, hv, hver, h⟩ := h
 obtain ⟨h1, h2, hx⟩ := hcc.2.2 ro ⟨.inl hv, hver, validNil _ _⟩
 replace h := condN h; obtain ⟨hcond, h⟩ := h
 simp only [Bool.and_eq_true] at hcond
 obtain ⟨hmd, hbe, hall⟩ := hcond
 have hbe := beqN hbe
 have hmd : ro.md = .deep := by cases hq : ro.md <;> simp_all [Md.isDeep]
 replace h := bindS h; obtain ⟨z, hz1, h⟩ := h
 have hez : enc ro.t z = enc e (zero e) := (dec_enc hz1).symm
 have hfl : (kinds ro.t).all (fun q => q.isNone) = true := by
  rw [← kinds_eq ro.t z, hez, List.all_map]; exact hall
 have hpos := esz_pos e
 have hzs : zv.cells.size = esz e := by rw [hzc]; simp [zvals, enc_length]
 have key : ∀ w', (Builtin.clear_ #[T] o.type #[a.eval x]).run P w = .ok (.tuple #[]) w' → (∃ g', g'.n = g.n ∧ Inv w0 Mf g' { st with roots := aset st.roots id (.live ⟨ro.t, ro.md, ro.ver, ro.log, clrL z ro.xs lo hi⟩) } a w') → o.wp P a w K Q := by
  rintro w' hr ⟨g', hn, I'⟩
  have hrun : (execOp a.eval o).run P w = .ok (.value (.tuple #[])) w' := by simp [execOp, hop, resolve, hc, invoke, builtin, hargs', htys', hr]
  unfold Oper.wp
  rw [hrun, Oper.upon_value, hdst]
  refine hK _ g' _ _ h hn ?_
  show Inv w0 Mf g' _ a w'
  simpa [St.apply, asets] using I'
 have hat : OwnAt st id := ⟨ro, hv, by rw [hmd]; rfl⟩
 have hnode := (I.roots id ro hv).node (p := []) (s := ⟨ro.t, ro.xs⟩) rfl (.inl (by rw [hmd]; rfl))
 simp only [List.nil_append] at hnode
 by_cases hlh : lo = hi
 ·subst hlh
  have e : clrL z ro.xs lo lo = ro.xs := by simp [clrL]
  have hsl : ∃ ad cap, a.eval x = .slice ad 0 cap := by
   rw [hx]
   rcases hnode with ⟨_, e⟩ | ⟨b, oo, cap, cs, el', e, _⟩ <;> rw [e] <;> simp [cutV]
  obtain ⟨ad, cap, e1⟩ := hsl
  refine key w ?_ (I.reown hv hmd hfl (by rw [e]) rfl rfl rfl ⟨Nat.le_refl _, fun _ _ _ => rfl⟩ (by rw [e]; exact hnode))
  rw [e1]
  cases ad <;> simp [Builtin.clear_, run_underlying hu]
 ·rcases hnode with ⟨e, _⟩ | ⟨b, oo, cap, cs, el', e1, hF, hb, hcap, hsize, hrows⟩
  ·have e : ro.xs = [] := e
   rw [e] at h2; simp at h2; omega
  ·have hcap : ro.xs.length ≤ cap := hcap
   have hsize : oo + cap * esz ro.t ≤ cs.size := hsize
   have hrows : RowsIn ro.t ro.xs cs oo fun i j => g.rv id [(i, j)] := hrows
   rw [← hbe] at hsize
   have e2 : a.eval x = .slice (some ⟨b, oo + lo * esz e, none⟩) (hi - lo) (cap - lo) := by
    rw [hx, e1]
    simp only [cutV]
    rw [if_neg (by omega), Option.map_some, addrAdd, ← hbe]
   have m1 : lo * esz e ≤ hi * esz e := Nat.mul_le_mul_right _ h1
   have m2 : hi * esz e ≤ cap * esz e := Nat.mul_le_mul_right _ (by omega)
   have m3 : (hi - lo) * esz e = hi * esz e - lo * esz e := Nat.sub_mul _ _ _
   have hzl : (Builtin.zeroCells zv.cells (hi - lo)).size = hi * esz e - lo * esz e := by rw [size_zeroCells, hzs, m3]
   have hfit : oo + lo * esz e + (Builtin.zeroCells zv.cells (hi - lo)).size ≤ cs.size := by rw [hzl]; omega
   have hcl := run_clear_at (P := P) T el o.type zv hu (fun w => by simp [zeroValue, typeInfo, hi', hz]) (by rw [hzc]; simpa using zvals_one) (by omega) b (oo + lo * esz e) (hi - lo) (cap - lo) (by omega) cs el' hb (by rw [hzs, m3]; omega)
   have hsame := setRow_same w b (putAt cs (oo + lo * esz e) (Builtin.zeroCells zv.cells (hi - lo)))
   have hb' := setRow_heap w b cs (putAt cs (oo + lo * esz e) (Builtin.zeroCells zv.cells (hi - lo))) el' (0, 0) hb
   generalize hW : w.setRow b (putAt cs (oo + lo * esz e) (Builtin.zeroCells zv.cells (hi - lo))) = W at hcl hsame hb'
   refine key W (by rw [e2]; exact hcl) (I.reown hv hmd hfl (clrL_len z h1 h2) (by rw [← hW]; rfl) (by rw [← hW]; rfl) (by rw [← hW]; rfl) ⟨hsame.1, fun k h3 h4 => hsame.2 k h3 fun e => h4 (by subst e; exact hF)⟩
     (.inr ⟨b, oo, cap, _, el', by rw [e1, clrL_len z h1 h2], hF, hb', by rw [clrL_len z h1 h2]; exact hcap, by rw [putAt_size hfit, ← hbe]; exact hsize, ?_⟩))
   intro i y j c0 hy hcc
   have hj := enc_lt hcc
   rw [clrL_get z h1 h2] at hy
   rw [putAt_get hfit, hzl]
   have mi : i * esz ro.t = i * esz e := by rw [hbe]
   have m4 : i < lo → i * esz ro.t + esz ro.t ≤ lo * esz e := fun hi => by
    have : (i + 1) * esz e ≤ lo * esz e := Nat.mul_le_mul_right _ hi
    rw [Nat.add_mul] at this; omega
   have m5 : hi ≤ i → hi * esz e ≤ i * esz ro.t := fun hi => by rw [← hbe]; exact Nat.mul_le_mul_right _ hi
   by_cases hin : lo ≤ i ∧ i < hi
   ·rw [if_pos hin] at hy
    cases hy
    have m6 : lo * esz e ≤ i * esz ro.t := by rw [← hbe]; exact Nat.mul_le_mul_right _ hin.1
    have m7 : i * esz ro.t + esz ro.t ≤ hi * esz e := by
     have : (i + 1) * esz e ≤ hi * esz e := Nat.mul_le_mul_right _ hin.2
     rw [Nat.add_mul] at this; omega
    rw [if_pos (by omega)]
    rw [hez] at hcc
    have hj' : j < esz e := by omega
    refine ⟨zv.cells[j]'(by omega), ?_, ?_⟩
    ·have hm8 : oo + i * esz ro.t + j - (oo + lo * esz e) = (i - lo) * esz e + j := by
      have : (i - lo) * esz e = i * esz e - lo * esz e := Nat.sub_mul _ _ _
      omega
     rw [hm8]
     have hlt : (i - lo) * esz e + j < (hi - lo) * zv.cells.size := by
      rw [hzs, m3]
      have : (i - lo) * esz e = i * esz e - lo * esz e := Nat.sub_mul _ _ _
      rw [← hbe] at m7 m6; omega
     unfold Builtin.zeroCells
     rw [Array.getElem?_map, Array.getElem?_range, if_pos hlt]
     simp only [Option.map_some, Option.some.injEq]
     have hmod : ((i - lo) * esz e + j) % zv.cells.size = j := by rw [hzs, Nat.mul_comm, Nat.mul_add_mod]; exact Nat.mod_eq_of_lt hj'
     rw [hmod, getElem!_pos zv.cells j (by omega)]
    ·rw [List.all_eq_true] at hall
     have := hall c0 (List.mem_of_getElem? hcc)
     cases c0 with
     | v q =>
      simp only [CellIs]
      have hq : (zvals e)[j]? = some q := by simp [zvals, hcc]
      have : zv.cells[j]? = some q := by rw [hzc]; simpa using hq
      rw [Array.getElem?_eq_getElem (by omega)] at this
      exact Option.some.inj this
     | l t' ys => simp [Cv.kind] at this
   ·rw [if_neg hin] at hy
    obtain ⟨u, hu', hcu⟩ := hrows i y j c0 hy hcc
    refine ⟨u, ?_, hcu⟩
    rw [if_neg ?_]
    ·exact hu'
    ·intro h5
     by_cases h6 : i < lo
     ·have := m4 h6; omega
     ·have := m5 (by omega); omega
theorem Inv.nodeP (I : Inv w0 Mf g st a w) {id : Nat} {r : Root} (h : aget st.roots id = some (.live r)) {p : Path} (hp : r.md.nodeAt p = true) {s : Sl} (hs : subR r.t r.xs p = some s) {P : Nat → Prop} (hro : ∀ k, g.ro k → P k) (hr : OwnAt st id → ∀ k, g.rf id k → P k) :
    NodeRd w P s.t s.xs (g.rv id p) fun i j => g.rv id (p ++ [(i, j)]) := by
 have hR := I.roots id r h
 unfold RootRel at hR
 split at hR
 ·rename_i hm; exact (hR.rd p s hs).mono (hr ⟨r, h, by rw [hm]; rfl⟩)
 ·rename_i hm; exact (hR.rd p s hs).mono fun k hk => hk.elim (hr ⟨r, h, by rw [hm]; rfl⟩ k) (hro k)
 ·exact (hR p s hs).mono hro
 ·rename_i hm; rw [hm, nodeAt_part] at hp; exact (hR.1 p s hp hs).rd.mono (hr ⟨r, h, by rw [hm]; rfl⟩)
theorem Inv.treeAtP (I : Inv w0 Mf g st a w) {id : Nat} {r : Root} (h : aget st.roots id = some (.live r)) {p : Path} (hp : r.md.treeAt p = true) {s : Sl} (hs : subR r.t r.xs p = some s) {P : Nat → Prop} (hro : ∀ k, g.ro k → P k) (hr : OwnAt st id → ∀ k, g.rf id k → P k) :
    TreeRd w P s.t s.xs fun q => g.rv id (p ++ q) := by
 intro q s' hs'
 have := I.nodeP h (nodeAt_app hp q) (p := p ++ q) (s := s') (by rw [subR_append q hs]; exact hs') hro hr
 simpa [List.append_assoc] using this
theorem Inv.treeP (I : Inv w0 Mf g st a w) {id : Nat} {r : Root} (h : aget st.roots id = some (.live r)) (hp : r.md.treeAt [] = true) {P : Nat → Prop} (hro : ∀ k, g.ro k → P k) (hr : OwnAt st id → ∀ k, g.rf id k → P k) : TreeRd w P r.t r.xs (g.rv id) := by
 have hR := I.roots id r h
 unfold RootRel at hR
 split at hR
 ·rename_i hm; exact hR.rd.mono (hr ⟨r, h, by rw [hm]; rfl⟩)
 ·rename_i hm; exact hR.rd.mono fun k hk => hk.elim (hr ⟨r, h, by rw [hm]; rfl⟩ k) (hro k)
 ·exact hR.mono hro
 ·rename_i k hm; rw [hm] at hp; cases k <;> cases hp
theorem Inv.rdScP (I : Inv w0 Mf g st a w) {c : Sc} {q : Option Ty} {k : Cv → Option R} {r : R} {u : Value} (h : Gm.rdSc st c q k = some r) (hc : ScRel w g st c u) {P : Nat → Prop} (hro : ∀ k, g.ro k → P k)
 (hr : ∀ id ∈ c.names.2, OwnAt st id → ∀ k, g.rf id k → P k) : ∃ cv, k cv = some r ∧ CRd w P cv u := by
 unfold Gm.rdSc at h
 split at h
 ·exact ⟨_, h, hc.2⟩
 ·exact ⟨_, h, rdNil _ _ _ ⟨none, 0, hc.2⟩⟩
 ·exact ⟨_, h, RdSl.mono hro hc.2⟩
 ·exact ⟨_, h, RdSl.mono hro (I.kro hc.2)⟩
 ·rename_i id ver iv p t
  obtain ⟨ro, hv, h⟩ := getRp_some h
  obtain ⟨hta, h⟩ := condN h
  obtain ⟨s, hs, h⟩ := bindS h
  obtain ⟨hu, hsome⟩ := hc.2.2 ro hv.x
  obtain ⟨s', hs'⟩ := Option.isSome_iff_exists.1 hsome
  have := sub_of_subR hs'
  rw [hs] at this; cases this
  refine ⟨_, h, _, ?_, I.treeAtP hv.1 hta hs' hro (hr id (by simp [Sc.names]))⟩
  simpa using hu.symm
 ·rename_i id ver lo hi t
  obtain ⟨ro, hv, hver, h⟩ := getR_some h
  obtain ⟨hta, h⟩ := condN h
  obtain ⟨h1, h2, hu⟩ := hc.2.2 ro ⟨.inl hv, hver, validNil _ _⟩
  refine ⟨_, h, ?_⟩
  simp only [CRd, hu]
  exact (I.treeP hv hta hro (hr id (by simp [Sc.names]))).cut h1 h2
 ·cases h
theorem Inv.rdLP (I : Inv w0 Mf g st a w) {P : Nat → Prop} (hro : ∀ k, g.ro k → P k) : ∀ {cs : List Sc} {qs : List (Option Ty)} {k : List Cv → Option R} {r : R} {us : List Value}, Gm.rdL st cs qs k = some r → CsL w g st cs us →
 (∀ c ∈ cs, ∀ id ∈ c.names.2, OwnAt st id → ∀ k, g.rf id k → P k) → ∃ cv, k cv = some r ∧ RowL w P cv us
 | [], [], k, r, us, h, hc, _ => by
  cases us with
  | nil => exact ⟨[], h, trivial⟩
  | cons u us => exact hc.elim
 | c :: cs, q :: qs, k, r, us, h, hc, hr => by
  cases us with
  | nil => exact hc.elim
  | cons u us =>
   obtain ⟨cv, h1, h2⟩ := I.rdScP h hc.1 hro (hr c (by simp))
   obtain ⟨cvs, h3, h4⟩ := I.rdLP hro h1 hc.2 (fun c hc => hr c (by simp [hc]))
   exact ⟨cv :: cvs, h3, h2, h4⟩
 | [], _ :: _, k, r, us, h, hc, _ => by cases h
 | _ :: _, [], k, r, us, h, hc, _ => by cases h
theorem svCells_cells {t : Ty} {s : Sv} {cs : List Sc} (h : svCells t s = some cs) : s.cells = cs := by
 unfold svCells at h
 split at h
 ·simp only [Option.some.injEq] at h; subst h; rfl
 ·simp only [Option.some.injEq] at h; subst h; rfl
 ·cases h
theorem Inv.readElP (I : Inv w0 Mf g st a w) {t : Ty} {s : Sv} {k : El t → Option R} {r : R} {u : Value} (h : Gm.readEl st t s k = some r) (hs : SvRel w g st s u) {P : Nat → Prop} (hro : ∀ k, g.ro k → P k)
 (hr : ∀ c ∈ s.cells, ∀ id ∈ c.names.2, OwnAt st id → ∀ k, g.rf id k → P k) : ∃ x, k x = some r ∧ ValRd w P t x u := by
 obtain ⟨cs, hcs, h⟩ := bindS h
 obtain ⟨us, hf, hc⟩ := svCells_sound hcs hs
 have := svCells_cells hcs
 subst this
 obtain ⟨cv, h1, h2⟩ := I.rdLP hro h hc.l hr
 obtain ⟨x, hx, h3⟩ := bindS h1
 refine ⟨x, h3, us, hf, ?_⟩
 rw [← dec_enc hx]
 exact h2.arr
def Sc.isDead : Sc → Bool | .dead => true | _ => false
structure RdP (g : Gh) (st : St) (P : Nat → Prop) (s : Sv) : Prop where
 ro : ∀ k, g.ro k → P k
 r : ∀ c ∈ s.cells, ∀ id ∈ c.names.2, OwnAt st id → ∀ k, g.rf id k → P k
 b : (∀ c ∈ s.cells, c.names.1 = []) ∨ ((∀ b x, aget st.boxes b = some x → (∃ c ∈ x.cs, c.isDead = false) → P (g.bx b)) ∧ ∀ id, OwnAt st id → ∀ k, g.rf id k → P k)
theorem RpRel.mono {P Q : Nat → Prop} (hPQ : ∀ k, P k → Q k) {t : Ty} {x : El t} {off : Nat} {u : Value} (h : RpRel w P t x off u) : RpRel w Q t x off u := by
 obtain ⟨b, oo, cs, el, fz, h1, h2, h3, h4⟩ := h
 exact ⟨b, oo, cs, el, fz, h1, hPQ _ h2, h3, fun j c hj => let ⟨z, hz, hc⟩ := h4 j c hj; ⟨z, hz, hc.mono hPQ⟩⟩
theorem rdL_live : ∀ {cs : List Sc} {qs : List (Option Ty)} {k : List Cv → Option R} {r : R}, rdL st cs qs k = some r → ∀ c ∈ cs, c.isDead = false
 | [], _, _, _, _, c, hc => by simp at hc
 | c :: cs, [], _, _, h, _, _ => by cases h
 | c :: cs, q :: qs, k, r, h, c', hc => by
  simp only [Gm.rdL] at h
  have : c.isDead = false ∧ ∃ cv, rdL st cs qs (fun xs => k (cv :: xs)) = some r := by
   unfold Gm.rdSc at h
   split at h
   ·exact ⟨rfl, _, h⟩
   ·exact ⟨rfl, _, h⟩
   ·exact ⟨rfl, _, h⟩
   ·exact ⟨rfl, _, h⟩
   ·obtain ⟨ro, _, h⟩ := getRp_some h
    obtain ⟨_, h⟩ := condN h
    obtain ⟨s, _, h⟩ := bindS h
    exact ⟨rfl, _, h⟩
   ·obtain ⟨ro, _, _, h⟩ := getR_some h
    obtain ⟨_, h⟩ := condN h
    exact ⟨rfl, _, h⟩
   ·cases h
  obtain ⟨h1, cv, h2⟩ := this
  rcases List.mem_cons.1 hc with rfl | hc
  ·exact h1
  ·exact rdL_live h2 c' hc
theorem Inv.boxRp (I : Inv w0 Mf g st a w) {b : Nat} {x : Bx} (hb : aget st.boxes b = some x) {k : El x.t → Option R} {r : R} (h : (Gm.rdL st x.cs (kinds x.t) fun cv => (dec x.t cv).bind k) = some r) {P : Nat → Prop}
 (hP : (∀ b x, aget st.boxes b = some x → (∃ c ∈ x.cs, c.isDead = false) → P (g.bx b)) ∧ ∀ id, OwnAt st id → ∀ k, g.rf id k → P k) (hro : ∀ k, g.ro k → P k) :
    ∃ y, k y = some r ∧ RpRel w P x.t y 0 (.pointer (some ⟨g.bx b, 0, none⟩)) := by
 obtain ⟨us, el, h1, h2⟩ := I.boxes b x hb
 obtain ⟨cv, h3, h4⟩ := I.rdLP hro h h2.l (fun c _ id _ => hP.2 id)
 obtain ⟨y, hy, h5⟩ := bindS h3
 have hcv := dec_enc hy
 subst hcv
 have hpos : 0 < x.cs.length := by
  have e1 := h4.len
  have e2 := h2.1
  rw [enc_length] at e1
  have := esz_pos x.t
  simp at e1; omega
 refine ⟨y, h5, g.bx b, 0, us, el, _, rfl, hP.1 b x hb ⟨x.cs[0], List.getElem_mem hpos, ?_⟩, h1, fun j c hj => ?_⟩
 ·exact rdL_live h _ (List.getElem_mem hpos)
 ·obtain ⟨z, hz, hc⟩ := h4.get j c hj
  exact ⟨z, by simpa using hz, hc⟩
theorem Inv.capRow (I : Inv w0 Mf g st a w) {P : Nat → Prop} (hP : (∀ b x, aget st.boxes b = some x → (∃ c ∈ x.cs, c.isDead = false) → P (g.bx b)) ∧ ∀ id, OwnAt st id → ∀ k, g.rf id k → P k) (hro : ∀ k, g.ro k → P k) :
    ∀ {bs : List Nat} {k : List (Σ t : Ty, El t) → Option R} {r : R}, Gm.capRow st bs k = some r → ∃ ys, k ys = some r ∧ ys.length = bs.length ∧
      ∀ (i : Nat) (y : Σ t : Ty, El t) (b : Nat), ys[i]? = some y → bs[i]? = some b → RpRel w P y.1 y.2 0 (.pointer (some ⟨g.bx b, 0, none⟩))
 | [], k, r, h => ⟨[], h, rfl, fun i y b h => by simp at h⟩
 | b :: bs, k, r, h => by
  obtain ⟨x, hx, h⟩ := bindS h
  obtain ⟨y, h, hy⟩ := I.boxRp hx h hP hro
  obtain ⟨ys, h1, h2, h3⟩ := I.capRow hP hro h
  refine ⟨⟨x.t, y⟩ :: ys, h1, by simp [h2], fun i y' b' hi hb => ?_⟩
  cases i with
  | zero => simp only [List.getElem?_cons_zero, Option.some.injEq] at hi hb; subst hi; subst hb; exact hy
  | succ i => exact h3 i y' b' (by simpa using hi) (by simpa using hb)
theorem Kl.nil {wl : World} {t : Ty} {u : Value} (h : u = .slice none 0 0) : Kl wl t [] u := rdNil _ _ _ ⟨none, 0, h⟩
theorem rdK_sound {c : Sc} {q : Option Ty} {cv : Cv} {u : Value} (h : rdK c q = some cv) (hc : ScRel w g st c u) : CKl g.n.wl cv u := by
 unfold rdK at h
 split at h
 ·cases h; exact hc.2
 ·cases h; exact Kl.nil hc.2
 ·cases h; exact hc.2
 ·cases h
theorem rdKL_sound {cs : List Sc} {qs : List (Option Ty)} {cv : List Cv} {us : Array Value} (h : rdKL cs qs = some cv) (hc : CsL w g st cs us.toList) : RowKl g.n.wl cv us := by
 have key : ∀ {cs : List Sc} {qs : List (Option Ty)} {cv : List Cv} {us : List Value}, rdKL cs qs = some cv → CsL w g st cs us → us.length = cv.length ∧ ∀ (j : Nat) c, cv[j]? = some c → ∃ z, us[j]? = some z ∧ CKl g.n.wl c z := by
  intro cs
  induction cs with
  | nil =>
   intro qs cv us h hc
   cases qs with
   | cons _ _ => cases h
   | nil =>
    cases h
    cases us with
    | nil => exact ⟨rfl, fun j c hj => by simp at hj⟩
    | cons _ _ => exact hc.elim
  | cons c cs ih =>
   intro qs cv us h hc
   cases qs with
   | nil => cases h
   | cons q qs =>
    simp only [rdKL] at h
    obtain ⟨x, hx, h⟩ := bindS h
    obtain ⟨xs, hxs, h⟩ := bindS h
    cases h
    cases us with
    | nil => exact hc.elim
    | cons u us =>
     obtain ⟨h1, h2⟩ := ih hxs hc.2
     refine ⟨by simp [h1], fun j c' hj => ?_⟩
     cases j with
     | zero => simp only [List.getElem?_cons_zero, Option.some.injEq] at hj; subst hj; exact ⟨u, rfl, rdK_sound hx hc.1⟩
     | succ j => simpa using h2 j c' (by simpa using hj)
 obtain ⟨h1, h2⟩ := key h hc
 exact ⟨by simpa using h1, fun j c hj => by simpa using h2 j c hj⟩
theorem Kl.flat {wl : World} {t : Ty} {xs : List (El t)} {u : Value} (h : Kl wl t xs u) : flatB u = true := by
 obtain ⟨av, h0, hav⟩ := h
 obtain ⟨ad, cap, e, _⟩ := hav [] _ rfl
 rw [h0] at e; subst e; rfl
theorem impK_sound {cvs : List Cv} {us : Array Value} (h : RowKl g.n.wl cvs us) (hf : ∀ x, .v x ∈ cvs → flatB x = true) : CsRel w g st (impK cvs) us := by
 refine ⟨by simpa [impK] using h.1, fun j c hj => ?_⟩
 simp only [impK, List.getElem?_map] at hj
 cases hc : cvs[j]? with
 | none => simp [hc] at hj
 | some cv =>
  simp only [hc, Option.map_some, Option.some.injEq] at hj
  obtain ⟨z, hz, hk⟩ := h.2 j cv hc
  refine ⟨z, hz, ?_⟩
  cases cv with
  | v x =>
   subst hj
   have hk : z = x := hk
   subst hk
   exact ⟨hf z (List.mem_of_getElem? hc), rfl⟩
  | l t xs =>
   subst hj
   exact ⟨Kl.flat hk, hk⟩
theorem Inv.passRd (I : Inv w0 Mf g st a w) {m : Am} (hm : m.reads = true) {T : Nat} {s : Sv} {u : Value} (hs : SvRel w g st s u) {k : Dt → List Bk → St → Dl → Option R} {r : R} (h : passArg E m T s st k = some r)
    {P : Nat → Prop} (hP : RdP g st P s) : ∃ d, k d [] st {} = some r ∧ ∀ F, ArgOk g.n.wl w P m d u F := by
 cases m with
 | ro =>
  obtain ⟨t, ht, h⟩ := bindS h
  obtain ⟨x, h, hx⟩ := I.readElP h hs hP.ro hP.r
  exact ⟨_, h, fun _ => hx⟩
 | pro =>
  simp only [passArg] at h
  split at h
  ·rename_i b
   obtain ⟨x, hx, h⟩ := bindS h
   have hb := hP.b.resolve_left fun hn => by simpa [Sv.cells, Cm.cells, Sc.names] using hn (.pt b 0) (by simp [Sv.cells, Cm.cells])
   obtain ⟨y, h, hy⟩ := I.boxRp hx h hb hP.ro
   have hu : u = .pointer (some ⟨g.bx b, 0, none⟩) := hs.2.1
   subst hu
   exact ⟨_, h, fun _ => hy⟩
  ·rename_i t x
   exact ⟨_, h, fun _ => RpRel.mono hP.ro hs.2⟩
  ·cases h
 | fn =>
  simp only [passArg] at h
  split at h
  ·rename_i f bs
   obtain ⟨hu, hbs⟩ := hs.2
   by_cases hbn : bs = []
   ·subst hbn
    exact ⟨_, h, fun _ => ⟨[], by rw [hu]; rfl, rfl, fun i y q h => by simp at h⟩⟩
   ·have hb := hP.b.resolve_left fun hn => by
     have := hn (.clo f bs) (by simp [Sv.cells, Cm.cells])
     exact hbn this
    obtain ⟨ys, h, hl, hy⟩ := I.capRow hb hP.ro h
    refine ⟨_, h, fun _ => ⟨bs.map fun b => .pointer (some ⟨g.bx b, 0, none⟩), hu, by simp [hl], fun i y q hi hq => ?_⟩⟩
    rw [List.getElem?_map] at hq
    cases hbi : bs[i]? with
    | none => simp [hbi] at hq
    | some b =>
     simp only [hbi, Option.map_some, Option.some.injEq] at hq
     subst hq
     exact hy i y b hi hbi
  ·rename_i f ys
   obtain ⟨ps, h1, h2, h3⟩ := hs.2
   exact ⟨_, h, fun _ => ⟨ps, h1, h2, fun i y q hy hq => RpRel.mono hP.ro (h3 i y q hy hq)⟩⟩
  ·cases h
 | skp =>
  simp only [passArg] at h
  split at h
  ·rename_i c
   exact ⟨_, h, fun _ => hs.1⟩
  ·cases h
 | kp =>
  obtain ⟨t, ht, h⟩ := bindS h
  obtain ⟨cs, hcs, h⟩ := bindS h
  obtain ⟨us, hf, hc⟩ := svCells_sound hcs hs
  obtain ⟨cv, hcv, h⟩ := bindS h
  obtain ⟨x, hx, h⟩ := bindS h
  have hr := rdKL_sound hcv hc.l
  refine ⟨_, h, fun _ => ⟨us, hf, ?_⟩⟩
  rw [← dec_enc hx]
  exact hr
 | «mut» => cases hm
 | mov => cases hm
 | pmut => cases hm
theorem asets_get {α : Type} : ∀ (L : List (Nat × α)) (l : List (Nat × α)) (n : Nat), aget (asets l L) n = (aget (asets [] L) n).or (aget l n)
  | [], l, n => by simp [asets, aget]
  | (m, v) :: L, l, n => by
    simp only [asets]
    rw [asets_get L (aset l m v) n, asets_get L (aset [] m v) n]
    cases h : aget (asets [] L) n with
    | some x => simp
    | none =>
      simp only [Option.none_or, aget_aset]
      by_cases e : n = m
      · simp [e]
      · simp [e, aget]
def nd (st : St) (b : Nat) : Prop := ∃ x, aget st.boxes b = some x ∧ ∃ c ∈ x.cs, c.isDead = false
theorem nd.at {b : Nat} (h : nd st b) : BoxAt st b := by obtain ⟨x, hx, _⟩ := h; simp [BoxAt, hx]
structure Lnd (g : Gh) (w : World) (st st1 : St) (bs : List Bk) (d : Dl) (H : Nat → Prop) : Prop where
 own : ∀ id, OwnAt st1 id → OwnAt st id
 live : ∀ id r, aget st1.roots id = some (.live r) → aget st.roots id = some (.live r)
 lent : ∀ id r, aget st.roots id = some (.lent r) → aget st1.roots id = some (.lent r)
 map : ∀ c u, ScRel w g st c u → ScRel w g st1 c u
 box : ∀ b, BoxAt st1 b ↔ BoxAt st b
 nd : ∀ b, nd st1 b → nd st b
 src : ∀ k, H k → (∃ id, OwnAt st id ∧ g.rf id k) ∨ (∃ b, Gm.nd st b ∧ ¬ Gm.nd st1 b ∧ .box b ∈ bs ∧ g.bx b = k)
 off : ∀ k, H k → ∀ id, OwnAt st1 id → ¬ g.rf id k
 roots : ∀ id, (∀ r p, .root id r p ∉ bs) → aget st1.roots id = aget (asets st.roots d.roots) id
 boxes : ∀ b, aget st1.boxes b = aget (asets st.boxes d.boxes) b
 slots : st1.slots = st.slots
 noslot : d.slot = none
 keyr : ∀ id r p, .root id r p ∈ bs → OwnAt st id ∧ ¬ OwnAt st1 id
 keyb : ∀ b, .box b ∈ bs → Gm.nd st b ∧ ¬ Gm.nd st1 b
theorem Lnd.refl : Lnd g w st st [] {} (fun _ => False) :=
 ⟨fun _ h => h, fun _ _ h => h, fun _ _ h => h, fun _ _ h => h, fun _ => .rfl, fun _ h => h, fun _ h => h.elim, fun _ h => h.elim, fun _ _ => rfl, fun _ => rfl, rfl, rfl, fun _ _ _ h => by simp at h, fun _ h => by simp at h⟩
theorem Lnd.trans {s1 s2 s3 : St} {bs cs : List Bk} {d e : Dl} {H G : Nat → Prop} (h : Lnd g w s1 s2 bs d H) (k : Lnd g w s2 s3 cs e G) : Lnd g w s1 s3 (bs ++ cs) { boxes := d.boxes ++ e.boxes, roots := d.roots ++ e.roots } (fun n => H n ∨ G n) := {
 own := fun id hi => h.own id (k.own id hi)
 live := fun id r hr => h.live id r (k.live id r hr)
 lent := fun id r hr => k.lent id r (h.lent id r hr)
 map := fun c u hc => k.map c u (h.map c u hc)
 box := fun b => (k.box b).trans (h.box b)
 nd := fun b hb => h.nd b (k.nd b hb)
 src := fun n hn => by
  rcases hn with hn | hn
  ·rcases h.src n hn with h1 | ⟨b, h1, h2, h3, h4⟩
   ·exact .inl h1
   ·exact .inr ⟨b, h1, fun h => h2 (k.nd b h), List.mem_append_left _ h3, h4⟩
  ·rcases k.src n hn with ⟨id, h1, h2⟩ | ⟨b, h1, h2, h3, h4⟩
   ·exact .inl ⟨id, h.own id h1, h2⟩
   ·exact .inr ⟨b, h.nd b h1, h2, List.mem_append_right _ h3, h4⟩
 off := fun n hn id hi => hn.elim (fun hn => h.off n hn id (k.own id hi)) fun hn => k.off n hn id hi
 roots := fun id hid => by
  rw [k.roots id fun r p hm => hid r p (List.mem_append_right _ hm), asets_get, h.roots id fun r p hm => hid r p (List.mem_append_left _ hm)]
  simp only [asets_append]
  exact (asets_get e.roots _ id).symm
 boxes := fun b => by
  rw [k.boxes b, asets_get, h.boxes b]
  simp only [asets_append]
  exact (asets_get e.boxes _ b).symm
 slots := k.slots.trans h.slots
 noslot := rfl
 keyr := fun id r p hm => by
  rcases List.mem_append.1 hm with hm | hm
  ·exact ⟨(h.keyr id r p hm).1, fun h2 => (h.keyr id r p hm).2 (k.own id h2)⟩
  ·exact ⟨h.own id (k.keyr id r p hm).1, (k.keyr id r p hm).2⟩
 keyb := fun b hm => by
  rcases List.mem_append.1 hm with hm | hm
  ·exact ⟨(h.keyb b hm).1, fun h2 => (h.keyb b hm).2 (k.nd b h2)⟩
  ·exact ⟨h.nd b (k.keyb b hm).1, (k.keyb b hm).2⟩ }
theorem Took.lnd {st1 : St} {ups : List (Nat × Rt)} {Fs : List (Nat → Prop)} (T : Took w g st st1 ups Fs) : Lnd g w st st1 [] { roots := ups } (Any Fs) := {
 own := T.own
 live := T.live
 lent := T.lent
 map := T.map
 box := fun b => by rw [T.eq]; exact .rfl
 nd := fun b h => by rw [T.eq] at h; exact h
 src := fun k ⟨F, hF, hk⟩ => .inl (T.src F hF k hk)
 off := fun k ⟨F, hF, hk⟩ => T.off F hF k hk
 roots := fun id _ => by rw [T.eq]
 boxes := fun b => by rw [T.eq]; rfl
 slots := by rw [T.eq]
 noslot := rfl
 keyr := fun _ _ _ h => by simp at h
 keyb := fun _ h => by simp at h }
def HeldOne (w : World) (g : Gh) (st1 : St) (m : Am) (u : Value) (F : Nat → Prop) (bk : List Bk) (H : Nat → Prop) : Prop :=
  match m with
 | .mut => ∃ id r p s, bk = [.root id r p] ∧ aget st1.roots id = some (.lent r) ∧ r.md = .deep ∧ TreeOwn w (g.rf id) r.t r.xs (g.rv id) ∧ subR r.t r.xs p = some s ∧ u = g.rv id p ∧ (∀ k, F k ↔ Under r.t r.xs (g.rv id) p k) ∧ H = g.rf id
 | .pmut => ∃ b, bk = [.box b] ∧ ¬ nd st1 b ∧ BoxAt st1 b ∧ u = .pointer (some ⟨g.bx b, 0, none⟩) ∧ H = F ∧ F (g.bx b)
 | _ => bk = [] ∧ H = F
theorem HeldOne.keep {st1 st2 : St} (hl : ∀ id r, aget st1.roots id = some (.lent r) → aget st2.roots id = some (.lent r)) (hn : ∀ b, nd st2 b → nd st1 b) (hb : ∀ b, BoxAt st1 b → BoxAt st2 b) {m : Am} {u : Value} {F : Nat → Prop} {bk : List Bk} {H : Nat → Prop}
 (h : HeldOne w g st1 m u F bk H) : HeldOne w g st2 m u F bk H := by
 cases m with
 | «mut» => obtain ⟨id, r, p, s, h1, h2, h3⟩ := h; exact ⟨id, r, p, s, h1, hl _ _ h2, h3⟩
 | pmut => obtain ⟨b, h1, h2, h3, h4⟩ := h; exact ⟨b, h1, fun h => h2 (hn b h), hb b h3, h4⟩
 | _ => exact h
theorem Inv.passMov (I : Inv w0 Mf g st a w) {T : Nat} {s : Sv} {u : Value} (hs : SvRel w g st s u) {k : Dt → List Bk → St → Dl → Option R} {r : R} (h : passArg E .mov T s st k = some r) :
    ∃ d bk st1 δ F H, k d bk st1 δ = some r ∧ Inv w0 Mf g st1 a w ∧ (∀ P, ArgOk g.n.wl w P .mov d u F) ∧ HeldOne w g st1 .mov u F bk H ∧ Lnd g w st st1 bk δ H := by
 obtain ⟨t, ht, h⟩ := bindS h
 obtain ⟨x, us, d, st1, ups, Gs, h, hf, I1, T, hA⟩ := I.absEl h hs
 obtain ⟨hd, h⟩ := condN h
 exact ⟨_, _, _, _, Any Gs, Any Gs, h, I1, fun P => ⟨us, hf, by simpa using hA.row hd T.apart⟩, ⟨rfl, rfl⟩, T.lnd⟩
theorem lendMap {id : Nat} {ro : Root} (h : aget st.roots id = some (.live ro)) : ∀ c u, ScRel w g st c u → ScRel w g { st with roots := aset st.roots id (.lent ro) } c u := by
 have hv : ∀ id' ver iv, verOk st id' ver iv → verOk { st with roots := aset st.roots id (.lent ro) } id' ver iv := by
  intro id' ver iv hv
  by_cases hid : id' = id
  ·subst hid
   rw [verOk_at (.inr (aget_aset_self _ _ _))]
   exact (verOk_at (.inl h)).1 hv
  ·unfold verOk at hv ⊢
   simp only [aget_aset_ne _ _ hid]; exact hv
 have hx : ∀ id' ver iv p r', Vx { st with roots := aset st.roots id (.lent ro) } id' ver iv p r' → Vx st id' ver iv p r' := by
  intro id' ver iv p r' ⟨h1, h2, h3⟩
  simp only [aget_aset] at h1
  by_cases hid : id' = id
  ·subst hid
   simp only [if_true, Option.some.injEq, reduceCtorEq, Rt.lent.injEq, false_or] at h1
   subst h1; exact ⟨.inl h, h2, h3⟩
  ·simp only [hid, if_false] at h1; exact ⟨h1, h2, h3⟩
 exact fun c u hc => ⟨hc.1, ScR.roots (st := st) (fun b hb => hb) hv (fun _ _ _ _ _ _ h => hx _ _ _ _ _ h) hc.2⟩
theorem Inv.passMut (I : Inv w0 Mf g st a w) {T : Nat} {s : Sv} {u : Value} (hs : SvRel w g st s u) {k : Dt → List Bk → St → Dl → Option R} {r : R} (h : passArg E .mut T s st k = some r) :
    ∃ d bk st1 δ F H, k d bk st1 δ = some r ∧ Inv w0 Mf g st1 a w ∧ (∀ P, ArgOk g.n.wl w P .mut d u F) ∧ HeldOne w g st1 .mut u F bk H ∧ Lnd g w st st1 bk δ H := by
 simp only [passArg] at h
 split at h
 case h_2 => cases h
 rename_i id ver iv p
 obtain ⟨ro, hro, h⟩ := getRp_some h
 obtain ⟨hdeep, h⟩ := condN h
 obtain ⟨s1, hs1, h⟩ := bindS h
 obtain ⟨hu, hsome⟩ := hs.2.2 ro hro.x
 obtain ⟨s', hs'⟩ := Option.isSome_iff_exists.1 hsome
 have := sub_of_subR hs'
 rw [hs1] at this; cases this
 have hmd : ro.md = .deep := by cases hq : ro.md <;> simp_all [Md.isDeep]
 have htr : TreeOwn w (g.rf id) ro.t ro.xs (g.rv id) := by have := I.roots id ro hro.1; unfold RootRel at this; rw [hmd] at this; exact this
 have hat : OwnAt st id := ⟨ro, hro.1, by rw [hmd]; rfl⟩
 have I1 := I.lend hro.1
 have ho : ∀ id', OwnAt { st with roots := aset st.roots id (.lent ro) } id' → id' ≠ id ∧ OwnAt st id' := fun id' ⟨r', h1, h2⟩ => by
  simp only [aget_aset] at h1
  by_cases hid : id' = id
  ·simp [hid] at h1
  ·exact ⟨hid, r', by simpa [hid] using h1, h2⟩
 refine ⟨_, _, _, _, Under ro.t ro.xs (g.rv id) p, g.rf id, h, I1, fun P => ⟨s1.t, s1.xs, rfl, fun q => g.rv id (p ++ q), by simpa using hu.symm, htr.at hs'⟩,
  ⟨id, ro, p, s1, rfl, aget_aset_self _ _ _, hmd, htr, hs', hu, fun _ => .rfl, rfl⟩, ?_⟩
 exact {
  own := fun id' h => (ho id' h).2
  live := fun id' r' h => by
   simp only [aget_aset] at h
   by_cases hid : id' = id
   ·simp [hid] at h
   ·simpa [hid] using h
  lent := fun id' r' hlent => by
   simp only [aget_aset]
   by_cases hid : id' = id
   ·rw [hid, hro.1] at hlent; cases hlent
   ·simpa [hid] using hlent
  map := lendMap hro.1
  box := fun _ => .rfl
  nd := fun _ h => h
  src := fun k hk => .inl ⟨id, hat, hk⟩
  off := fun k hk id' h h3 => (ho id' h).1 (I.apart.rr id' id k (ho id' h).2 hat h3 hk)
  roots := fun id' hid => by
   have : id' ≠ id := fun e => hid ro p (by rw [e]; simp)
   simp only [asets]
   rw [aget_aset_ne _ _ this]
  boxes := fun _ => rfl
  slots := rfl
  noslot := rfl
  keyr := fun id' r' p' hm => by
   simp only [List.mem_singleton, Bk.root.injEq] at hm
   rw [hm.1]
   exact ⟨hat, fun h => (ho id h).1 rfl⟩
  keyb := fun _ h => by simp at h }
theorem absL_live : ∀ {cs : List Sc} {st : St} {qs : List (Option Ty)} {k : List Cv → Bool → St → List (Nat × Rt) → Option R} {r : R}, absL st cs qs k = some r → ∀ c ∈ cs, c.isDead = false
 | [], _, _, _, _, _, c, hc => by simp at hc
 | c :: cs, _, [], _, _, h, _, _ => by cases h
 | c :: cs, st, q :: qs, k, r, h, c', hc => by
  simp only [Gm.absL] at h
  have : c.isDead = false ∧ ∃ st' d cv u, absL st' cs qs (fun xs d' st'' u' => k (cv :: xs) (d && d') st'' (u ++ u')) = some r := by
   unfold Gm.absSc at h
   split at h
   ·exact ⟨rfl, _, _, _, _, h⟩
   ·exact ⟨rfl, _, _, _, _, h⟩
   ·exact ⟨rfl, _, _, _, _, h⟩
   ·exact ⟨rfl, _, _, _, _, h⟩
   ·obtain ⟨ro, _, _, h⟩ := getR_some h
    obtain ⟨_, h⟩ := condN h
    cases hf : ro.md.isFrz
    ·simp only [hf, cond_false] at h; exact ⟨rfl, _, _, _, _, h⟩
    ·simp only [hf, cond_true] at h; exact ⟨rfl, _, _, _, _, h⟩
   ·obtain ⟨ro, _, _, h⟩ := getR_some h
    obtain ⟨_, h⟩ := condN h
    cases hf : ro.md.isFrz
    ·simp only [hf, cond_false] at h; exact ⟨rfl, _, _, _, _, h⟩
    ·simp only [hf, cond_true] at h; exact ⟨rfl, _, _, _, _, h⟩
   ·cases h
  obtain ⟨h1, _, _, _, _, h2⟩ := this
  rcases List.mem_cons.1 hc with rfl | hc
  ·exact h1
  ·exact absL_live h2 c' hc
theorem rdKL_live : ∀ {cs : List Sc} {qs : List (Option Ty)} {cv : List Cv}, rdKL cs qs = some cv → ∀ c ∈ cs, c.isDead = false
 | [], _, _, _, c, hc => by simp at hc
 | _ :: _, [], _, h, _, _ => by cases h
 | c :: cs, q :: qs, cv, h, c', hc => by
  simp only [rdKL] at h
  obtain ⟨x, hx, h⟩ := bindS h
  obtain ⟨xs, hxs, h⟩ := bindS h
  rcases List.mem_cons.1 hc with rfl | hc
  ·cases c' <;> first | rfl | (cases q <;> cases hx)
  ·exact rdKL_live hxs c' hc
theorem RowOwn.mono {F G : Nat → Prop} (hFG : ∀ k, F k → G k) {cs : List Cv} {us : Array Value} (h : RowOwn w F cs us) : RowOwn w G cs us := by
 obtain ⟨Fs, h1, h2, h3, h4⟩ := h
 exact ⟨Fs, fun j k hk => hFG k (h1 j k hk), h2, h3, h4⟩
theorem Inv.passPmut (I : Inv w0 Mf g st a w) {T : Nat} {s : Sv} {u : Value} (hs : SvRel w g st s u) {k : Dt → List Bk → St → Dl → Option R} {r : R} (h : passArg E .pmut T s st k = some r) :
    ∃ d bk st1 δ F H, k d bk st1 δ = some r ∧ Inv w0 Mf g st1 a w ∧ (∀ P, ArgOk g.n.wl w P .pmut d u F) ∧ HeldOne w g st1 .pmut u F bk H ∧ Lnd g w st st1 bk δ H := by
 simp only [passArg] at h
 split at h
 case h_2 => cases h
 rename_i b
 obtain ⟨x, hx, h⟩ := bindS h
 obtain ⟨us, el, hb, hcs⟩ := I.boxes b x hx
 have core : ∃ cv st1 ups Gs y, k (.d x.t y) [.box b] { st1 with boxes := aset st1.boxes b ⟨x.t, x.cs.map fun _ => .dead⟩ } { boxes := [(b, ⟨x.t, x.cs.map fun _ => .dead⟩)], roots := ups } = some r ∧ Inv w0 Mf g st1 a w ∧ Took w g st st1 ups Gs ∧ cv = enc x.t y ∧
   us.size = cv.length ∧ RowPt g.n.wl (shr x.t) w (Any Gs) cv us ∧ ∀ c ∈ x.cs, c.isDead = false := by
  unfold absB at h
  cases hsh : shr x.t
  ·rw [hsh] at h
   simp only [cond_false] at h
   have h0 := h
   obtain ⟨cv, d, st1, ups, Gs, h, I1, T, hA⟩ := I.absL h hcs.l
   obtain ⟨hd, h⟩ := condN h
   obtain ⟨y, hy, hfin⟩ := bindS h
   have hrow := hA.row hd T.apart
   rw [Array.toArray_toList] at hrow
   have := hA.len.1
   exact ⟨cv, st1, ups, Gs, y, hfin, I1, T, (dec_enc hy), by simpa using this, hrow, absL_live h0⟩
  ·rw [hsh] at h
   simp only [cond_true] at h
   obtain ⟨cv, hcv, h⟩ := bindS h
   obtain ⟨y, hy, hfin⟩ := bindS h
   have hr := rdKL_sound hcv hcs.l
   exact ⟨cv, st, [], [], y, hfin, I, Took.refl _ _ _, (dec_enc hy), hr.1, hr, rdKL_live hcv⟩
 clear h
 obtain ⟨cv, st1, ups, Gs, y, hfin, I1, T, hcv, hlen0, hrow, hlv⟩ := core
 subst hcv
 have hu : u = .pointer (some ⟨g.bx b, 0, none⟩) := hs.2.1
 have hat : BoxAt st b := by simp [BoxAt, hx]
 have hat1 : BoxAt st1 b := by rw [T.eq]; exact hat
 have hus : us.size = x.cs.length := hcs.1
 have hsame : SameBut (fun k => k = g.bx b) w w := ⟨Nat.le_refl _, fun _ _ _ => rfl⟩
 have hdead : CsRel w g st1 (x.cs.map fun _ => Sc.dead) us := ⟨by simpa using hus, fun j c hj => by
  rw [List.getElem?_map] at hj
  cases hc : x.cs[j]? with
  | none => simp [hc] at hj
  | some c0 =>
   simp only [hc, Option.map_some, Option.some.injEq] at hj
   subst hj
   obtain ⟨z, hz, hr⟩ := hcs.2 j c0 hc
   exact ⟨z, hz, hr.1, trivial⟩⟩
 have I2 := I1.writeBox (t := x.t) hat1 hsame I1.kept hb hdead
 have hlen : 0 < x.cs.length := by
  rw [enc_length] at hlen0
  have := esz_pos x.t
  omega
 have hgs : ∀ k, Any Gs k → k ≠ g.bx b := fun k ⟨F, hF, hk⟩ e => by
  obtain ⟨id, h1, h2⟩ := T.src F hF k hk
  exact I.apart.rb id b h1 hat (e ▸ h2)
 have hnd : ¬ nd { st1 with boxes := aset st1.boxes b ⟨x.t, x.cs.map fun _ => .dead⟩ } b := by
  rintro ⟨x', hx', c, hc, hcd⟩
  simp only [aget_aset_self, Option.some.injEq] at hx'
  subst hx'
  simp only [List.mem_map] at hc
  obtain ⟨_, _, rfl⟩ := hc
  cases hcd
 have hbox : ∀ b', BoxAt { st1 with boxes := aset st1.boxes b ⟨x.t, x.cs.map fun _ => .dead⟩ } b' ↔ BoxAt st b' := fun b' => by
  have e : st1.boxes = st.boxes := by rw [T.eq]
  simp only [BoxAt, aget_aset, e]
  by_cases hbb : b' = b
  ·subst hbb; simpa [BoxAt] using hat
  ·simp [hbb]
 have L := T.lnd
 refine ⟨_, _, _, _, fun k => k = g.bx b ∨ Any Gs k, fun k => k = g.bx b ∨ Any Gs k, hfin, I2, fun P => ⟨g.bx b, us, el, hu, .inl rfl, hb, ?_⟩, ⟨b, rfl, hnd, (hbox b).2 hat, hu, rfl, .inl rfl⟩, ?_⟩
 ·revert hrow
  cases shr x.t
  ·exact fun hrow => RowOwn.mono (fun k hk => ⟨.inr hk, hgs k hk⟩) hrow
  ·exact fun hrow => hrow
 ·exact {
   own := T.own
   live := T.live
   lent := T.lent
   map := fun c u hc => by
    have := T.map c u hc
    exact ⟨this.1, ScR.roots (st := st1) (fun b' hb' => by
     simp only [aget_aset]; split
     ·rfl
     ·exact hb') (fun _ _ _ h => h) (fun _ _ _ _ _ _ h => h) this.2⟩
   box := hbox
   nd := fun b' hb' => by
    by_cases e : b' = b
    ·subst e; exact (hnd hb').elim
    ·obtain ⟨x', hx', hh⟩ := hb'
     simp only [aget_aset, e, if_false] at hx'
     rw [T.eq] at hx'
     exact ⟨x', hx', hh⟩
   src := fun k hk => by
    rcases hk with rfl | hk
    ·exact .inr ⟨b, ⟨x, hx, x.cs[0], List.getElem_mem hlen, hlv _ (List.getElem_mem hlen)⟩, hnd, by simp, rfl⟩
    ·rcases L.src k hk with h1 | ⟨_, _, _, h3, _⟩
     ·exact .inl h1
     ·simp at h3
   off := fun k hk id hi h3 => by
    rcases hk with rfl | hk
    ·exact I.apart.rb id b (T.own id hi) hat h3
    ·exact L.off k hk id hi h3
   roots := fun id _ => by simp only; rw [T.eq]
   boxes := fun b' => by simp only [asets]; rw [T.eq]
   slots := by simp only; rw [T.eq]
   noslot := rfl
   keyr := fun _ _ _ h => by simp at h
   keyb := fun b' hm => by
    simp only [List.mem_singleton, Bk.box.injEq] at hm
    subst hm
    exact ⟨⟨x, hx, x.cs[0], List.getElem_mem hlen, hlv _ (List.getElem_mem hlen)⟩, hnd⟩ }
inductive Held (w : World) (g : Gh) (st1 : St) : List Am → List Value → List (Nat → Prop) → List Bk → List (Nat → Prop) → Prop where
 | nil : Held w g st1 [] [] [] [] []
 | cons {m ms u us F Fs b bs H Hs} (h : HeldOne w g st1 m u F b H) (hs : Held w g st1 ms us Fs bs Hs) : Held w g st1 (m :: ms) (u :: us) (F :: Fs) (b ++ bs) (H :: Hs)
theorem Held.keep {st1 st2 : St} (hl : ∀ id r, aget st1.roots id = some (.lent r) → aget st2.roots id = some (.lent r)) (hn : ∀ b, nd st2 b → nd st1 b) (hb : ∀ b, BoxAt st1 b → BoxAt st2 b) {ms : List Am} {us : List Value} {Fs : List (Nat → Prop)} {bs : List Bk}
    {Hs : List (Nat → Prop)} (h : Held w g st1 ms us Fs bs Hs) : Held w g st2 ms us Fs bs Hs := by
 induction h with
 | nil => exact .nil
 | cons h hs ih => exact .cons (h.keep hl hn hb) ih
theorem HeldOne.sub {st1 : St} {m : Am} {u : Value} {F : Nat → Prop} {bk : List Bk} {H : Nat → Prop} (h : HeldOne w g st1 m u F bk H) : ∀ k, F k → H k := by
 intro k hk
 cases m with
 | «mut» => obtain ⟨id, r, p, s, h1, h2, h3, h4, h5, h6, h7, rfl⟩ := h; exact h4.under_F ((h7 k).1 hk)
 | pmut => obtain ⟨b, h1, h2, h3, h4, rfl, _⟩ := h; exact hk
 | _ => obtain ⟨_, rfl⟩ := h; exact hk
def Bk.key : Bk → Bool × Nat | .root id _ _ => (true, id) | .box b => (false, b)
def ArgRel (w : World) (g : Gh) (st : St) : List (Am × Nat × Sv) → List Value → Prop
  | [], [] => True
  | (_, _, s) :: l, u :: us => SvRel w g st s u ∧ ArgRel w g st l us
  | _, _ => False
theorem ArgRel.map {st1 : St} (hm : ∀ c u, ScRel w g st c u → ScRel w g st1 c u) : ∀ {l : List (Am × Nat × Sv)} {us : List Value}, ArgRel w g st l us → ArgRel w g st1 l us
  | [], [], _ => trivial
  | [], _ :: _, h => h.elim
  | _ :: _, [], h => h.elim
  | (_, _, _) :: _, _ :: _, h => ⟨h.1.map hm, ArgRel.map hm h.2⟩
theorem Inv.passArgs : ∀ {l : List (Am × Nat × Sv)} {us : List Value} {st : St} {k : List Dt → List Bk → St → Dl → Option R} {r : R}, Inv w0 Mf g st a w → ArgRel w g st l us → passArgs E l st k = some r →
    ∃ st1, Inv w0 Mf g st1 a w ∧ ∀ Pr, (∀ x ∈ l, x.1.reads = true → RdP g st1 Pr x.2.2) → ∃ ds bs d Fs Hs, k ds bs st1 d = some r ∧ ArgsOk g.n.wl w Pr (l.map (·.1)) ds us Fs ∧ Held w g st1 (l.map (·.1)) us Fs bs Hs ∧ Lnd g w st st1 bs d (Any Hs) ∧ PairApart Hs ∧ bs.Pairwise fun b c => b.key ≠ c.key
  | [], us, st, k, r, I, hu, h => by
    cases us with
    | cons u us => exact hu.elim
    | nil =>
      refine ⟨st, I, fun Pr _ => ⟨[], [], {}, [], [], h, .nil, .nil, ?_, List.Pairwise.nil, List.Pairwise.nil⟩⟩
      have : (fun _ => False : Nat → Prop) = Any [] := by funext k; exact propext ⟨fun h => h.elim, Any_nil⟩
      rw [← this]; exact Lnd.refl
  | (m, T, s) :: l, us, st, k, r, I, hu, h => by
    cases us with
    | nil => exact hu.elim
    | cons u us =>
      simp only [Gm.passArgs] at h
      split at h
      · rename_i hm
        obtain ⟨st1, I1, hh⟩ := Inv.passArgs I hu.2 h
        refine ⟨st1, I1, fun Pr hP => ?_⟩
        obtain ⟨ds, bs, d, Fs, Hs, h1, h2, h3, h4, h5, hkey⟩ := hh Pr fun x hx => hP x (by simp [hx])
        obtain ⟨x, h6, h7⟩ := I1.passRd hm (hu.1.map h4.map) h1 (hP (m, T, s) (by simp) hm)
        have hnone : HeldOne w g st1 m u (fun _ => False) [] (fun _ => False) := by cases m <;> first | exact ⟨rfl, rfl⟩ | cases hm
        refine ⟨_, bs, d, (fun _ => False) :: Fs, (fun _ => False) :: Hs, h6, .cons (h7 _) h2, by simpa using Held.cons hnone h3, ?_, List.pairwise_cons.2 ⟨fun _ _ _ h => h.elim, h5⟩, hkey⟩
        have : Any ((fun _ => False) :: Hs) = Any Hs := by
          funext k
          refine propext ⟨fun ⟨F, hF, hk⟩ => ?_, fun ⟨F, hF, hk⟩ => ⟨F, List.mem_cons_of_mem _ hF, hk⟩⟩
          rcases List.mem_cons.1 hF with rfl | hF
          · exact hk.elim
          · exact ⟨F, hF, hk⟩
        rw [this]; exact h4
      · rename_i hm
        have key : ∃ d bk st1 δ F H, (Gm.passArgs E l st1 fun xs bs st2 d' => k (d :: xs) (bk ++ bs) st2 { boxes := δ.boxes ++ d'.boxes, roots := δ.roots ++ d'.roots }) = some r ∧ Inv w0 Mf g st1 a w ∧ (∀ P, ArgOk g.n.wl w P m d u F) ∧ HeldOne w g st1 m u F bk H ∧ Lnd g w st st1 bk δ H := by
          cases m with
          | mov => exact I.passMov hu.1 h
          | «mut» => exact I.passMut hu.1 h
          | pmut => exact I.passPmut hu.1 h
          | ro => cases hm
          | pro => cases hm
          | fn => cases hm
          | skp => cases hm
          | kp => cases hm
        obtain ⟨x, bk, s1, δ, F, H, h1, I1, hA, hH, L1⟩ := key
        obtain ⟨st1, I2, hh⟩ := Inv.passArgs I1 (hu.2.map L1.map) h1
        refine ⟨st1, I2, fun Pr hP => ?_⟩
        obtain ⟨ds, bs, d, Fs, Hs, h2, h3, h4, h5, h6, hkey⟩ := hh Pr fun x hx => hP x (by simp [hx])
        refine ⟨_, _, _, F :: Fs, H :: Hs, h2, .cons (hA _) h3, .cons (hH.keep h5.lent h5.nd fun b hb => (h5.box b).2 hb) h4, ?_, List.pairwise_cons.2 ⟨fun G hG n h7 h8 => ?_, h6⟩, List.pairwise_append.2 ⟨?_, hkey, fun b hb c hc => ?_⟩⟩
        · have : Any (H :: Hs) = fun n => H n ∨ Any Hs n := by
            funext n
            refine propext ⟨fun ⟨F, hF, hk⟩ => ?_, fun h => ?_⟩
            · rcases List.mem_cons.1 hF with rfl | hF
              · exact .inl hk
              · exact .inr ⟨F, hF, hk⟩
            · rcases h with h | ⟨F, hF, hk⟩
              · exact ⟨H, by simp, h⟩
              · exact ⟨F, by simp [hF], hk⟩
          rw [this]; exact L1.trans h5
        · rcases h5.src n ⟨G, hG, h8⟩ with ⟨id, h9, h10⟩ | ⟨b, h9, _, _, h10⟩
          · exact L1.off n h7 id h9 h10
          · have hb := (L1.nd b h9).at
            rcases L1.src n h7 with ⟨id, h11, h12⟩ | ⟨b', h11, h12, _, h13⟩
            · exact I.apart.rb id b h11 hb (h10 ▸ h12)
            · have := I.apart.bb b b' hb h11.at (by rw [h10, h13])
              subst this
              exact h12 h9
        · cases m with
          | «mut» => obtain ⟨id, r, p, s, rfl, _⟩ := hH; exact List.pairwise_singleton _ _
          | pmut => obtain ⟨b, rfl, _⟩ := hH; exact List.pairwise_singleton _ _
          | _ => obtain ⟨rfl, _⟩ := hH; exact List.Pairwise.nil
        · cases b <;> cases c <;> simp only [Bk.key, ne_eq, Prod.mk.injEq, Bool.true_eq_false, Bool.false_eq_true, false_and, not_false_eq_true, true_and]
          · rename_i id r p id' r' p'
            intro e; subst e
            exact (L1.keyr _ _ _ hb).2 (h5.keyr _ _ _ hc).1
          · rename_i b b'
            intro e; subst e
            exact (L1.keyb _ hb).2 (h5.keyb _ hc).1
theorem mkRoot_new {id : Nat} {t : Ty} {md : Md} {xs : List (El t)} {k : Root → Option R} {r : R} (h : mkRoot st id t md xs k = some r) :
    ∃ ver, FitVer st id ⟨t, md, ver, [], xs⟩ ∧ k ⟨t, md, ver, [], xs⟩ = some r ∧ ∀ ro, aget st.roots id ≠ some (.live ro) ∧ aget st.roots id ≠ some (.lent ro) := by
 unfold mkRoot at h
 split at h
 ·rename_i hn; exact ⟨0, by unfold FitVer; rw [hn]; trivial, h, fun ro => by rw [hn]; simp⟩
 ·rename_i v hn; exact ⟨v + 1, by unfold FitVer; rw [hn]; simp, h, fun ro => by rw [hn]; simp⟩
 ·cases h
def OwnL (w : World) : List Cv → List Value → List (Nat → Prop) → Prop
 | [], [], [] => True
 | c :: cs, u :: us, F :: Fs => COwn w F c u ∧ OwnL w cs us Fs
 | _, _, _ => False
theorem OwnL.of : ∀ {cs : List Cv} {us : List Value} {Fs : Nat → Nat → Prop}, us.length = cs.length → (∀ (j : Nat) c, cs[j]? = some c → ∃ z, us[j]? = some z ∧ COwn w (Fs j) c z) → OwnL w cs us ((List.range cs.length).map Fs)
 | [], [], _, _, _ => trivial
 | [], _ :: _, _, h, _ => by simp at h
 | _ :: _, [], _, h, _ => by simp at h
 | c :: cs, u :: us, Fs, h, hr => by
  rw [List.length_cons, List.range_succ_eq_map, List.map_cons, List.map_map]
  refine ⟨?_, OwnL.of (Fs := Fs ∘ Nat.succ) (by simpa using h) fun j c' hj => by simpa using hr (j + 1) c' (by simpa using hj)⟩
  obtain ⟨z, hz, hc⟩ := hr 0 c rfl
  simp only [List.getElem?_cons_zero, Option.some.injEq] at hz; subst hz; exact hc
theorem RowOwn.list {F : Nat → Prop} {cs : List Cv} {us : Array Value} (h : RowOwn w F cs us) : ∃ Gs, OwnL w cs us.toList Gs ∧ PairApart Gs ∧ ∀ G ∈ Gs, ∀ k, G k → F k := by
 obtain ⟨Fs, h1, h2, h3, h4⟩ := h
 refine ⟨_, OwnL.of (Fs := Fs) (by simpa using h3) (fun j c hj => by simpa using h4 j c hj), ?_, fun G hG k hk => ?_⟩
 ·unfold PairApart
  rw [List.pairwise_map]
  refine List.pairwise_lt_range.imp fun {i j} hij k hi hj => ?_
  have := h2 i j k hi hj
  omega
 ·simp only [List.mem_map] at hG
  obtain ⟨j, _, rfl⟩ := hG
  exact h1 j k hk
structure Grow (w : World) (g : Gh) (st : St) (g' : Gh) (st' : St) (u : List (Nat × Rt)) (F : Nat → Prop) : Prop where
 n : g'.n = g.n
 ro : g'.ro = g.ro
 bx : g'.bx = g.bx
 eq : st' = { st with roots := asets st.roots u }
 live : ∀ id r, aget st.roots id = some (.live r) → aget st'.roots id = some (.live r) ∧ g'.rf id = g.rf id ∧ g'.rv id = g.rv id
 lent : ∀ id r, aget st.roots id = some (.lent r) → aget st'.roots id = some (.lent r) ∧ g'.rf id = g.rf id ∧ g'.rv id = g.rv id
 own : ∀ id, OwnAt st' id → (OwnAt st id ∧ g'.rf id = g.rf id) ∨ ∀ k, g'.rf id k → F k
 map : ∀ c v, ScRel w g st c v → ScRel w g' st' c v
theorem Grow.refl (F : Nat → Prop) : Grow w g st g st [] F := ⟨rfl, rfl, rfl, rfl, fun _ _ h => ⟨h, rfl, rfl⟩, fun _ _ h => ⟨h, rfl, rfl⟩, fun _ h => .inl ⟨h, rfl⟩, fun _ _ h => h⟩
theorem Grow.trans {g1 g2 : Gh} {s1 s2 : St} {u v : List (Nat × Rt)} {F G H : Nat → Prop} (h : Grow w g st g1 s1 u F) (k : Grow w g1 s1 g2 s2 v G) (hF : ∀ n, F n → H n) (hG : ∀ n, G n → H n) : Grow w g st g2 s2 (u ++ v) H := {
 n := k.n.trans h.n
 ro := k.ro.trans h.ro
 bx := k.bx.trans h.bx
 eq := by rw [k.eq, h.eq, asets_append]
 live := fun id r hr => by
  obtain ⟨h1, h2, h3⟩ := h.live id r hr
  obtain ⟨h4, h5, h6⟩ := k.live id r h1
  exact ⟨h4, h5.trans h2, h6.trans h3⟩
 lent := fun id r hr => by
  obtain ⟨h1, h2, h3⟩ := h.lent id r hr
  obtain ⟨h4, h5, h6⟩ := k.lent id r h1
  exact ⟨h4, h5.trans h2, h6.trans h3⟩
 own := fun id hi => by
  rcases k.own id hi with ⟨h1, h2⟩ | h1
  ·rcases h.own id h1 with ⟨h3, h4⟩ | h3
   ·exact .inl ⟨h3, h2.trans h4⟩
   ·exact .inr fun n hn => hF n (h3 n (by rw [← h2]; exact hn))
  ·exact .inr fun n hn => hG n (h1 n hn)
 map := fun c v hc => k.map c v (h.map c v hc) }
theorem OwnSl.flat {F : Nat → Prop} {t : Ty} {xs : List (El t)} {u : Value} (h : OwnSl w F t xs u) : flatB u = true := by
 obtain ⟨av, h0, h1⟩ := h
 rcases h1.1 [] _ rfl with ⟨_, e⟩ | ⟨b, o, cap, cs, el, e, _⟩ <;> · rw [h0] at e; subst e; rfl
theorem Inv.newOwn (I : Inv w0 Mf g st a w) {id : Nat} {t : Ty} {xs : List (El t)} {ver : Nat} (hfit : FitVer st id ⟨t, .deep, ver, [], xs⟩) (hnew : ∀ ro, aget st.roots id ≠ some (.live ro) ∧ aget st.roots id ≠ some (.lent ro))
    {F : Nat → Prop} {u : Value} (h : OwnSl w F t xs u) (hF : ∀ k, F k → Free w0 Mf g st k ∧ k < w.heap.size) :
    ∃ g', Inv w0 Mf g' { st with roots := aset st.roots id (.live ⟨t, .deep, ver, [], xs⟩) } a w ∧ Grow w g st g' { st with roots := aset st.roots id (.live ⟨t, .deep, ver, [], xs⟩) } [(id, .live ⟨t, .deep, ver, [], xs⟩)] F ∧
      ScRel w g' { st with roots := aset st.roots id (.live ⟨t, .deep, ver, [], xs⟩) } (.h id ver 0 []) u := by
 obtain ⟨av, h0, h1⟩ := h
 have I1 := I.setR (id := id) (r := ⟨t, .deep, ver, [], xs⟩) hfit (av := av) (F := F) (by unfold RootRel; simp only [Gh.setR, if_true]; exact h1)
  (fun k hk => ⟨fun id' h2 _ => (hF k hk).1.r id' h2, (hF k hk).1.ro, (hF k hk).1.b, (hF k hk).1.mine, (hF k hk).2⟩)
 refine ⟨_, I1, ⟨rfl, rfl, rfl, rfl, fun id' r h2 => ?_, fun id' r h2 => ?_, fun id' ⟨r', h2, h3⟩ => ?_, fun c v hc => ⟨hc.1, hc.2.setR hfit⟩⟩, OwnSl.flat ⟨av, h0, h1⟩, ?_, fun r' hr' => ?_⟩
 ·have : id' ≠ id := fun e => (hnew r).1 (e ▸ h2)
  simp only [aget_aset_ne _ _ this, Gh.setR, this, if_false]
  exact ⟨h2, trivial, trivial⟩
 ·have : id' ≠ id := fun e => (hnew r).2 (e ▸ h2)
  simp only [aget_aset_ne _ _ this, Gh.setR, this, if_false]
  exact ⟨h2, trivial, trivial⟩
 ·by_cases e : id' = id
  ·subst e; exact .inr fun k hk => by simpa [Gh.setR] using hk
  ·simp only [aget_aset_ne _ _ e] at h2
   exact .inl ⟨⟨r', h2, h3⟩, by simp [Gh.setR, e]⟩
 ·unfold verOk; simp only [aget_aset_self]; exact .inr ⟨trivial, Nat.zero_le _⟩
 ·have := hr'.is (aget_aset_self _ _ _)
  subst this
  exact ⟨by simp only [Gh.setR, if_true]; exact h0.symm, rfl⟩
theorem Inv.impOwn : ∀ {cs : List Cv} {us : List Value} {Fs : List (Nat → Prop)} {g : Gh} {st : St} {id : Nat} {k : List Sc → Nat → St → List (Nat × Rt) → Option R} {r : R}, Inv w0 Mf g st a w → OwnL w cs us Fs → (∀ x, .v x ∈ cs → flatB x = true) → PairApart Fs →
 (∀ F ∈ Fs, ∀ n, F n → Free w0 Mf g st n ∧ n < w.heap.size) → impL true st id cs k = some r →
    ∃ ss m g' st' u, k ss m st' u = some r ∧ Inv w0 Mf g' st' a w ∧ Grow w g st g' st' u (Any Fs) ∧ CsL w g' st' ss us
 | [], us, Fs, g, st, id, k, r, I, hO, hfl, hp, hF, h => by
  cases us <;> cases Fs <;> first | exact hO.elim | skip
  exact ⟨[], id, g, st, [], h, I, Grow.refl _, trivial⟩
 | .v x :: cs, us, Fs, g, st, id, k, r, I, hO, hfl, hp, hF, h => by
  cases us with
  | nil => cases Fs <;> exact hO.elim
  | cons u us =>
   cases Fs with
   | nil => exact hO.elim
   | cons F Fs =>
    obtain ⟨ss, m, g', st', v, h1, h2, h3, h4⟩ := Inv.impOwn (id := id) I hO.2 (fun x hx => hfl x (by simp [hx])) (List.pairwise_cons.1 hp).2 (fun G hG => hF G (by simp [hG])) h
    have hu : u = x := hO.1
    subst hu
    refine ⟨_, m, g', st', v, h1, h2, ?_, ⟨⟨hfl u (by simp), rfl⟩, h4⟩⟩
    exact { h3 with own := fun id hi => (h3.own id hi).imp (fun h => h) fun h n hn => let ⟨G, hG, hk⟩ := h n hn; ⟨G, by simp [hG], hk⟩ }
 | .l t xs :: cs, us, Fs, g, st, id, k, r, I, hO, hfl, hp, hF, h => by
  cases us with
  | nil => cases Fs <;> exact hO.elim
  | cons u us =>
   cases Fs with
   | nil => exact hO.elim
   | cons F Fs =>
    simp only [impL] at h
    replace h := (condF h).2
    simp only [cond_true] at h
    obtain ⟨ver, hfit, h, hnew⟩ := mkRoot_new h
    obtain ⟨g1, I1, G1, hsc⟩ := I.newOwn hfit hnew hO.1 (hF F (by simp))
    obtain ⟨hp1, hp2⟩ := List.pairwise_cons.1 hp
    obtain ⟨ss, m, g', st', v, h1, h2, h3, h4⟩ := Inv.impOwn (id := id + 1) I1 hO.2 (fun x hx => hfl x (by simp [hx])) hp2 (fun G hG n hn => by
     obtain ⟨hf, hlt⟩ := hF G (by simp [hG]) n hn
     refine ⟨⟨fun id' hi h5 => ?_, by rw [G1.ro]; exact hf.ro, fun b hb => by rw [G1.bx]; exact hf.b b hb, hf.mine⟩, hlt⟩
     rcases G1.own id' hi with ⟨h6, h7⟩ | h6
     ·rw [h7] at h5; exact hf.r id' h6 h5
     ·exact hp1 G hG n (h6 n h5) hn) h
    refine ⟨_, m, g', st', _, h1, h2, ?_, ⟨h3.map _ _ hsc, h4⟩⟩
    exact G1.trans h3 (fun n hn => ⟨F, by simp, hn⟩) (fun n ⟨G, hG, hn⟩ => ⟨G, by simp [hG], hn⟩)
theorem Inv.impB (I : Inv w0 Mf g st a w) {F : Nat → Prop} {t : Ty} {cs : List Cv} {us : Array Value} (hrow : RowPt g.n.wl (shr t) w F cs us) (hfl : ∀ x, .v x ∈ cs → flatB x = true) (hF : ∀ n, F n → Free w0 Mf g st n ∧ n < w.heap.size)
    {id : Nat} {k : List Sc → Nat → St → List (Nat × Rt) → Option R} {r : R} (h : impB true st id t cs k = some r) :
    ∃ ss m g' st' u, k ss m st' u = some r ∧ Inv w0 Mf g' st' a w ∧ Grow w g st g' st' u F ∧ CsL w g' st' ss us.toList := by
 unfold Gm.impB at h
 cases hsh : shr t
 ·rw [hsh] at h hrow
  simp only [cond_false] at h
  obtain ⟨Gs, hO, hp, hsub⟩ := RowOwn.list hrow
  obtain ⟨ss, m, g', st1, u, h1, I1, G1, hc⟩ := Inv.impOwn I hO hfl hp (fun G hG n hn => hF n (hsub G hG n hn)) h
  exact ⟨ss, m, g', st1, u, h1, I1, { G1 with own := fun id hi => (G1.own id hi).imp (fun h => h) fun h n hn => let ⟨G, hG, hk⟩ := h n hn; hsub G hG n hk }, hc⟩
 ·rw [hsh] at h hrow
  simp only [cond_true] at h
  exact ⟨_, _, g, st, _, h, I, Grow.refl _, (impK_sound hrow hfl).l⟩
end Go.Gm
namespace Go.Gm
open Go
variable {wl : World} {R : Type} {P : Program} {E : Env} {w0 w w' : World} {Mf : Nat → Prop} {g : Gh} {st : St} {a : Act} {Q : Exit → Act → World → Prop}
  {o : Oper} {k : Dl → Option R} {r : R} {K : Act → World → Prop}
theorem Inv.called (I : Inv w0 Mf g st a w) {X : Nat → Prop} (hs : SameBut X w w') (hro : ∀ k, g.ro k → ¬ X k) (hrf : ∀ id k, OwnAt st id → g.rf id k → ¬ X k)
 (hbx : ∀ b x, aget st.boxes b = some x → ¬ X (g.bx b) ∨ (¬ nd st b ∧ ∃ us el, w'.heap[g.bx b]? = some (.cells us el (0, 0)) ∧ us.size = x.cs.length ∧ ∀ (j : Nat) v, us[j]? = some v → flatB v = true)) (hk : Kept w0 w' Mf) : Inv w0 Mf g st a w' := {
 slots := fun s sv h => let ⟨u, hu, hr⟩ := I.slots s sv h; ⟨u, hu, hr.map fun c u hc => ⟨hc.1, hc.2.world hs hro⟩⟩
 boxes := fun b x h => by
  rcases hbx b x h with hb | ⟨hn, us, el, h1, h2, h3⟩
  ·obtain ⟨us, el, h1, h2⟩ := I.boxes b x h
   exact ⟨us, el, hs.get h1 hb, h2.map fun c u hc => ⟨hc.1, hc.2.world hs hro⟩⟩
  ·refine ⟨us, el, h1, h2, fun j c hj => ?_⟩
   have hd : c.isDead = true := by
    cases hc : c.isDead
    ·exact (hn ⟨x, h, c, List.mem_of_getElem? hj, hc⟩).elim
    ·rfl
   have hlt : j < us.size := by rw [h2]; exact el_lt hj
   refine ⟨us[j], Array.getElem?_eq_getElem hlt, h3 j _ (Array.getElem?_eq_getElem hlt), ?_⟩
   cases c <;> first | trivial | cases hd
 roots := fun id r h => by
  have hr := I.roots id r h
  unfold RootRel at hr ⊢
  split at hr
  ·rename_i hm; exact hr.same hs (hrf id · ⟨r, h, by rw [hm]; rfl⟩)
  ·rename_i hm; exact hr.same hs (hrf id · ⟨r, h, by rw [hm]; rfl⟩) hro
  ·exact hr.same hs hro
  ·rename_i hm; exact hr.same hs (hrf id · ⟨r, h, by rw [hm]; rfl⟩)
 apart := { I.apart with
  lt_r := fun id k h1 h2 => Nat.lt_of_lt_of_le (I.apart.lt_r id k h1 h2) hs.1
  lt_ro := fun k h => Nat.lt_of_lt_of_le (I.apart.lt_ro k h) hs.1
  mine_ro := I.apart.mine_ro }
 kept := hk
 defers := I.defers
 size := I.size
 base := ⟨I.base.wl, I.base.ap, I.base.ro⟩ }
structure FreeB (w0 : World) (Mf : Nat → Prop) (g : Gh) (st : St) (bs : List Bk) (n : Nat) : Prop where
 r : ∀ id, OwnAt st id → ¬ g.rf id n
 ro : ¬ g.ro n
 b : ∀ b, BoxAt st b → g.bx b = n → .box b ∈ bs
 mine : w0.heap.size ≤ n ∨ Mf n
def OnlyLent (X : Nat → Prop) : List (Nat → Prop) → List (Nat → Prop) → Prop
 | [], [] => True
 | F :: Fs, H :: Hs => (∀ k, X k → H k → F k) ∧ OnlyLent X Fs Hs
 | _, _ => False
structure Gave (w' : World) (g : Gh) (st : St) (g' : Gh) (st' : St) (bs : List Bk) (d : Dl) (F : Nat → Prop) : Prop where
 n : g'.n = g.n
 ro : g'.ro = g.ro
 bx : g'.bx = g.bx
 slots : st'.slots = st.slots
 roots : st'.roots = asets st.roots d.roots
 boxes : st'.boxes = asets st.boxes d.boxes
 noslot : d.slot = none
 live : ∀ id r, aget st.roots id = some (.live r) → aget st'.roots id = some (.live r) ∧ g'.rf id = g.rf id ∧ g'.rv id = g.rv id
 own : ∀ id, OwnAt st' id → (OwnAt st id ∧ g'.rf id = g.rf id) ∨ ∀ k, g'.rf id k → F k
 box : ∀ b, BoxAt st' b ↔ BoxAt st b
 key : ∀ id r p, .root id r p ∈ bs → (aget (asets [] d.roots) id).isSome
 map : ∀ c v, ScRel w' g st c v → ScRel w' g' st' c v
theorem asets_some {α : Type} {L M : List (Nat × α)} {n : Nat} (h : (aget (asets [] L) n).isSome ∨ (aget (asets [] M) n).isSome) : (aget (asets [] (L ++ M)) n).isSome := by
 rw [asets_append, asets_get]
 cases hm : aget (asets [] M) n with
 | some x => simp
 | none => simpa [hm] using h
theorem Held.box {ms : List Am} {us : List Value} {Fs : List (Nat → Prop)} {bs : List Bk} {Hs : List (Nat → Prop)} (h : Held w g st ms us Fs bs Hs) {ins : List Dt} {outs : List Dt} {Bs : List (Nat → Prop)} (hb : BacksOk wl w' ms ins us outs Bs)
    {b : Nat} (hm : .box b ∈ bs) : (∃ B ∈ Bs, B (g.bx b)) ∧ ∃ H ∈ Hs, H (g.bx b) := by
 induction h generalizing ins outs Bs with
 | nil => simp at hm
 | cons h hs ih =>
  rename_i m ms u us F Fs bk bs H Hs
  cases m with
  | «mut» =>
   obtain ⟨id, r, p, s, rfl, _⟩ := h
   cases hb with
   | skip h1 h2 => exact h1.elim
   | «mut» h1 h2 =>
    have hm' : Bk.box b ∈ bs := by simpa using hm
    obtain ⟨⟨B, h3, h4⟩, H', h5, h6⟩ := ih h2 hm'
    exact ⟨⟨B, by simp [h3], h4⟩, H', by simp [h5], h6⟩
  | pmut =>
   obtain ⟨b', rfl, _, _, hu, rfl, hF⟩ := h
   cases hb with
   | skip h1 h2 => exact h1.elim
   | pmut h1 ht h2 =>
    rcases List.mem_append.1 hm with hm | hm
    ·simp only [List.mem_singleton, Bk.box.injEq] at hm
     subst hm
     obtain ⟨b0, us', el, e, hB, _⟩ := h1
     rw [hu] at e
     simp only [Value.pointer.injEq, Option.some.injEq, Addr.mk.injEq, and_true] at e
     rw [← e] at hB
     exact ⟨⟨_, by simp, hB⟩, _, by simp, hF⟩
    ·obtain ⟨⟨B, h3, h4⟩, H', h5, h6⟩ := ih h2 hm
     exact ⟨⟨B, by simp [h3], h4⟩, H', by simp [h5], h6⟩
  | _ =>
   obtain ⟨rfl, _⟩ := h
   cases hb with
   | skip h1 h2 =>
    obtain ⟨h3, H', h5, h6⟩ := ih h2 (by simpa using hm)
    exact ⟨h3, H', by simp [h5], h6⟩
theorem HeldOne.move {g' : Gh} {st' : St} {m : Am} {u : Value} {F : Nat → Prop} {bk : List Bk} {H : Nat → Prop} (h : HeldOne w g st m u F bk H)
 (hl : ∀ id r p, .root id r p ∈ bk → aget st.roots id = some (.lent r) → aget st'.roots id = some (.lent r) ∧ g'.rf id = g.rf id ∧ g'.rv id = g.rv id)
 (hb : ∀ b, .box b ∈ bk → (¬ nd st b → ¬ nd st' b) ∧ (BoxAt st b → BoxAt st' b)) (hx : g'.bx = g.bx) : HeldOne w g' st' m u F bk H := by
 cases m with
 | «mut» =>
  obtain ⟨id, r, p, s, rfl, h1, h2, h3, h4, h5, h6, rfl⟩ := h
  obtain ⟨e1, e2, e3⟩ := hl id r p (by simp) h1
  exact ⟨id, r, p, s, rfl, e1, h2, by rw [e2, e3]; exact h3, h4, by rw [e3]; exact h5, by rw [e3]; exact h6, e2.symm⟩
 | pmut =>
  obtain ⟨b, rfl, h1, h2, h3, h4⟩ := h
  obtain ⟨e1, e2⟩ := hb b (by simp)
  exact ⟨b, rfl, e1 h1, e2 h2, by rw [hx]; exact h3, by rw [hx]; exact h4⟩
 | _ => exact h
theorem Held.move {g' : Gh} {st' : St} {ms : List Am} {us : List Value} {Fs : List (Nat → Prop)} {bs : List Bk} {Hs : List (Nat → Prop)} (h : Held w g st ms us Fs bs Hs)
 (hl : ∀ id r p, .root id r p ∈ bs → aget st.roots id = some (.lent r) → aget st'.roots id = some (.lent r) ∧ g'.rf id = g.rf id ∧ g'.rv id = g.rv id)
 (hb : ∀ b, .box b ∈ bs → (¬ nd st b → ¬ nd st' b) ∧ (BoxAt st b → BoxAt st' b)) (hx : g'.bx = g.bx) : Held w g' st' ms us Fs bs Hs := by
 induction h with
 | nil => exact .nil
 | cons h hs ih =>
  exact .cons (h.move (fun id r p hm => hl id r p (List.mem_append_left _ hm)) (fun b hm => hb b (List.mem_append_left _ hm)) hx)
   (ih (fun id r p hm => hl id r p (List.mem_append_right _ hm)) (fun b hm => hb b (List.mem_append_right _ hm)))
end Go.Gm
namespace Go.Gm
open Go
variable {R : Type} {P : Program} {E : Env} {w0 w w' : World} {Mf : Nat → Prop} {g : Gh} {st : St} {a : Act}
theorem slice_len {F G : Nat → Prop} {t t' : Ty} {xs : List (El t)} {ys : List (El t')} {u : Value} {kid kid' : Nat → Nat → Value} (h : NodeOwn w F t xs u kid) (h' : NodeOwn w' G t' ys u kid') : ys.length = xs.length := by
 rcases h with ⟨rfl, rfl⟩ | ⟨b, o, cap, cs, el, rfl, _⟩ <;> rcases h' with ⟨rfl, e⟩ | ⟨b', o', cap', cs', el', e, _⟩
 ·rfl
 ·cases e
 ·cases e
 ·simp only [Value.slice.injEq] at e; exact e.2.1.symm
theorem Inv.backRoot (I : Inv w0 Mf g st a w') {X : Nat → Prop} (hsame : SameBut X w w') {id : Nat} {ro : Root} {p : Path} {s : Sl} (hat : aget st.roots id = some (.lent ro)) (hmd : ro.md = .deep) (htr : TreeOwn w (g.rf id) ro.t ro.xs (g.rv id))
 (hs : subR ro.t ro.xs p = some s) {F : Nat → Prop} (hF : ∀ k, F k ↔ Under ro.t ro.xs (g.rv id) p k) (hX : ∀ k, X k → g.rf id k → F k) {t : Ty} {ys : List (El t)} {B : Nat → Prop} (hown : OwnSl w' B t ys (g.rv id p))
 (hB : ∀ k, B k → (X k ∨ w.heap.size ≤ k) ∧ k < w'.heap.size) (hH : ∀ k, g.rf id k → k < w.heap.size) (hfree : ∀ k, B k ∨ (g.rf id k ∧ ¬ F k) → Free w0 Mf g st k) {zs : List (El ro.t)} (hz : setSub ro.t ro.xs p ⟨t, ys⟩ = some zs) :
    ∃ g' : Gh, g'.n = g.n ∧ g'.ro = g.ro ∧ g'.bx = g.bx ∧ (∀ id', id' ≠ id → g'.rf id' = g.rf id' ∧ g'.rv id' = g.rv id') ∧ (∀ k, g'.rf id k → B k ∨ (g.rf id k ∧ ¬ F k)) ∧
      Inv w0 Mf g' { st with roots := aset st.roots id (.live ⟨ro.t, ro.md, ro.ver, ro.log ++ [p.length], zs⟩) } a w' ∧
      ∀ c v, ScRel w' g st c v → ScRel w' g' { st with roots := aset st.roots id (.live ⟨ro.t, ro.md, ro.ver, ro.log ++ [p.length], zs⟩) } c v := by
 obtain ⟨av2, h0, hnew⟩ := hown
 have hXb : ∀ k, X k → ¬ Beside ro.t ro.xs (g.rv id) p k := fun k hx hb => htr.under_beside ((hF k).1 (hX k hx (htr.beside_F hb))) hb
 have hBb : ∀ k, B k → ¬ Beside ro.t ro.xs (g.rv id) p k := fun k hk hb => by
  rcases (hB k hk).1 with h | h
  ·exact hXb k h hb
  ·have := hH k (htr.beside_F hb); omega
 obtain ⟨av', h1, _, h3⟩ := htr.graft hs hz hsame hXb hnew h0 hBb
 have hlen : ys.length = s.xs.length := slice_len (htr.1 p s hs) (by rw [← h0]; exact hnew.1 [] _ rfl)
 have hsame' : SameBut (fun _ => False) w' w' := SameBut.refl w'
 have hav : ∀ q, (∀ D ∈ [p.length], q.length ≤ D) → av' q = g.rv id q ∧ ∀ s, subR ro.t ro.xs q = some s → ∃ s', subR ro.t zs q = some s' ∧ s'.t = s.t ∧ s'.xs.length = s.xs.length := fun q hq => by
  have hql : q.length ≤ p.length := hq _ (by simp)
  have hqp : p <+: q → q = p := fun h => (h.eq_of_length_le hql).symm
  exact ⟨h1 q hqp, fun sq hsq => subR_keep hs hz hlen q sq hqp hsq⟩
 refine ⟨(({ g with ro := g.ro } : Gh).setR id av' fun k => B k ∨ Beside ro.t ro.xs (g.rv id) p k), rfl, rfl, rfl, fun id' h => by simp [Gh.setR, h], fun k hk => ?_, ?_, fun c v hc => ?_⟩
 ·simp only [Gh.setR, if_true] at hk
  exact hk.imp (fun h => h) fun h => ⟨htr.beside_F h, fun hf => htr.under_beside ((hF k).1 hf) h⟩
 ·refine I.reroot (ro' := ⟨ro.t, ro.md, ro.ver, ro.log ++ [p.length], zs⟩) (.inr hat) hsame' I.kept (fun k h => h.elim) (fun _ h => h) (fun id' k h1 _ h3 => I.apart.ro_r id' k h1 h3) I.apart.ro_b I.apart.lt_ro I.apart.mine_ro rfl rfl rfl hav ?_ (fun k hk => ?_)
  ·unfold RootRel
   simp only [Gh.setR, if_true, hmd]
   exact h3
  ·have hf : Free w0 Mf g st k := hk.elim (fun h => hfree k (.inl h)) fun h => hfree k (.inr ⟨htr.beside_F h, fun hf => htr.under_beside ((hF k).1 hf) h⟩)
   refine ⟨fun id' h1 _ => hf.r id' h1, hf.ro, hf.b, hf.mine, ?_⟩
   rcases hk with h | h
   ·exact (hB k h).2
   ·exact Nat.lt_of_lt_of_le (hH k (htr.beside_F h)) hsame.1
 ·exact ⟨hc.1, ScR.reroot (g := g) (ro' := ⟨ro.t, ro.md, ro.ver, ro.log ++ [p.length], zs⟩) (.inr hat) rfl rfl rfl hav hc.2⟩
theorem Inv.backBox (I : Inv w0 Mf g st a w') {b : Nat} (hat : BoxAt st b) {t : Ty} {x : El t} {B : Nat → Prop} (hown : PtrOwn g.n.wl w' B t x (.pointer (some ⟨g.bx b, 0, none⟩))) (hB : ∀ k, B k → k < w'.heap.size)
 (hfree : ∀ k, B k → k ≠ g.bx b → Free w0 Mf g st k) {k : List Sc → Nat → St → List (Nat × Rt) → Option R} {r : R} (h : Gm.impB true st (64 * b) t (enc t x) k = some r) :
    ∃ ss m g' st1 u, k ss m st1 u = some r ∧ Inv w0 Mf g' { st1 with boxes := aset st1.boxes b ⟨t, ss⟩ } a w' ∧ Grow w' g st g' st1 u B ∧
      ∀ c v, ScRel w' g st c v → ScRel w' g' { st1 with boxes := aset st1.boxes b ⟨t, ss⟩ } c v := by
 obtain ⟨b', us, el, e, hBb, hb, hrow⟩ := hown
 simp only [Value.pointer.injEq, Option.some.injEq, Addr.mk.injEq, and_true] at e
 subst e
 obtain ⟨ss, m, g', st1, u, h1, I1, G1, hc⟩ := Inv.impB I hrow (fun y hy => by
   have := enc_flat t x
   rw [List.all_eq_true] at this
   exact this _ hy) (fun n hn => ⟨hfree n hn.1 hn.2, hB n hn.1⟩) h
 have hat1 : BoxAt st1 b := by rw [G1.eq]; exact hat
 have hbx : g'.bx b = g.bx b := by rw [G1.bx]
 have hsame : SameBut (fun k => k = g'.bx b) w' w' := ⟨Nat.le_refl _, fun _ _ _ => rfl⟩
 have hcs : CsRel w' g' st1 ss us := hc.arr
 refine ⟨ss, m, g', st1, u, h1, I1.writeBox hat1 hsame I1.kept (by rw [hbx]; exact hb) hcs, ?_, fun c v hcv => ?_⟩
 ·exact { G1 with own := fun id hi => (G1.own id hi).imp (fun h => h) fun h n hn => (h n hn).1 }
 ·have := G1.map c v hcv
  exact ⟨this.1, ScR.roots (st := st1) (fun b' hb' => by
   simp only [aget_aset]; split
   ·rfl
   ·exact hb') (fun _ _ _ h => h) (fun _ _ _ _ _ _ h => h) this.2⟩
def Rem : List (Nat → Prop) → List (Nat → Prop) → Nat → Prop
 | F :: Fs, H :: Hs, k => (H k ∧ ¬ F k) ∨ Rem Fs Hs k
 | _, _, _ => False
theorem Rem.any : ∀ {Fs Hs : List (Nat → Prop)} {k : Nat}, Rem Fs Hs k → Any Hs k
 | F :: Fs, H :: Hs, k, h => by
  rcases h with h | h
  ·exact ⟨H, by simp, h.1⟩
  ·obtain ⟨G, hG, hk⟩ := Rem.any h; exact ⟨G, by simp [hG], hk⟩
 | [], _, _, h => h.elim
 | _ :: _, [], _, h => h.elim
theorem OnlyLent.rem {X : Nat → Prop} : ∀ {Fs Hs : List (Nat → Prop)} {k : Nat}, OnlyLent X Fs Hs → Rem Fs Hs k → ¬ X k
 | F :: Fs, H :: Hs, k, h, hr => by
  rcases hr with hr | hr
  ·exact fun hx => hr.2 (h.1 k hx hr.1)
  ·exact OnlyLent.rem h.2 hr
 | [], _, _, _, h => h.elim
 | _ :: _, [], _, _, h => h.elim
theorem Gave.refl (F : Nat → Prop) : Gave w' g st g st [] {} F :=
 ⟨rfl, rfl, rfl, rfl, rfl, rfl, rfl, fun _ _ h => ⟨h, rfl, rfl⟩, fun _ h => .inl ⟨h, rfl⟩, fun _ => .rfl, fun _ _ _ h => by simp at h, fun _ _ h => h⟩
theorem Gave.trans {g1 g2 : Gh} {s1 s2 : St} {bs cs : List Bk} {d e : Dl} {F G H : Nat → Prop} (h : Gave w' g st g1 s1 bs d F) (k : Gave w' g1 s1 g2 s2 cs e G) (hF : ∀ n, F n → H n) (hG : ∀ n, G n → H n) :
    Gave w' g st g2 s2 (bs ++ cs) { boxes := d.boxes ++ e.boxes, roots := d.roots ++ e.roots } H := {
 n := k.n.trans h.n
 ro := k.ro.trans h.ro
 bx := k.bx.trans h.bx
 slots := k.slots.trans h.slots
 roots := by rw [k.roots, h.roots, asets_append]
 boxes := by rw [k.boxes, h.boxes, asets_append]
 noslot := rfl
 live := fun id r hr => by
  obtain ⟨h1, h2, h3⟩ := h.live id r hr
  obtain ⟨h4, h5, h6⟩ := k.live id r h1
  exact ⟨h4, h5.trans h2, h6.trans h3⟩
 own := fun id hi => by
  rcases k.own id hi with ⟨h1, h2⟩ | h1
  ·rcases h.own id h1 with ⟨h3, h4⟩ | h3
   ·exact .inl ⟨h3, h2.trans h4⟩
   ·exact .inr fun n hn => hF n (h3 n (by rw [← h2]; exact hn))
  ·exact .inr fun n hn => hG n (h1 n hn)
 box := fun b => (k.box b).trans (h.box b)
 key := fun id r p hm => by
  refine asets_some ?_
  rcases List.mem_append.1 hm with hm | hm
  ·exact .inl (h.key id r p hm)
  ·exact .inr (k.key id r p hm)
 map := fun c v hc => k.map c v (h.map c v hc) }
theorem Inv.giveBack {X : Nat → Prop} (hsame : SameBut X w w') : ∀ {ms : List Am} {ins : List Dt} {us : List Value} {Fs : List (Nat → Prop)} {bs : List Bk} {Hs : List (Nat → Prop)} {outs : List Dt} {Bs : List (Nat → Prop)} {g : Gh} {st : St}
    {k : St → Dl → Option R} {r : R}, Inv w0 Mf g st a w' → Held w g st ms us Fs bs Hs → BacksOk g.n.wl w' ms ins us outs Bs → (bs.Pairwise fun b c => b.key ≠ c.key) → PairApart Bs → PairApart Hs → OnlyLent X Fs Hs →
 (∀ B ∈ Bs, ∀ k, B k → (X k ∨ w.heap.size ≤ k) ∧ k < w'.heap.size) → (∀ H ∈ Hs, ∀ k, H k → k < w.heap.size) → (∀ k, Any Bs k ∨ Rem Fs Hs k → FreeB w0 Mf g st bs k) → giveBack st bs outs k = some r →
    ∃ g' st' d, k st' d = some r ∧ Inv w0 Mf g' st' a w' ∧ Gave w' g st g' st' bs d (fun n => Any Bs n ∨ Rem Fs Hs n) := by
 intro ms
 induction ms with
 | nil =>
  intro ins us Fs bs Hs outs Bs g st k r I hh hb _ _ _ _ _ _ _ h
  cases hh; cases hb
  exact ⟨g, st, {}, h, I, Gave.refl _⟩
 | cons m ms ih =>
  intro ins us Fs bs Hs outs Bs g st k r I hh hb hkey hpB hpH hX hB hH hfree h
  cases hh with
  | cons h1 hs =>
  rename_i u us F Fs bk bs H Hs
  obtain ⟨hpH1, hpH2⟩ := List.pairwise_cons.1 hpH
  -- a mode that lends nothing
  have plain : bk = [] → H = F → BacksOk g.n.wl w' ms (ins.drop 1) us outs Bs → ∃ g' st' d, k st' d = some r ∧ Inv w0 Mf g' st' a w' ∧ Gave w' g st g' st' (bk ++ bs) d (fun n => Any Bs n ∨ Rem (F :: Fs) (H :: Hs) n) := by
   intro e1 e2 hb2
   subst e1; subst e2
   obtain ⟨g', st', d, h2, h3, h4⟩ := ih I hs hb2 hkey hpB hpH2 hX.2 hB (fun H' hH' => hH H' (by simp [hH'])) (fun n hn => hfree n (hn.imp (fun h => h) fun h => .inr h)) h
   refine ⟨g', st', d, h2, h3, ?_⟩
   have : (fun n => Any Bs n ∨ Rem (H :: Fs) (H :: Hs) n) = fun n => Any Bs n ∨ Rem Fs Hs n := by
    funext n
    refine propext (or_congr .rfl ⟨fun h => h.elim (fun h => (h.2 h.1).elim) fun h => h, .inr⟩)
   rw [this]; exact h4
  cases m with
  | ro => cases hb with | skip _ hb2 => exact plain h1.1 h1.2 hb2
  | mov => cases hb with | skip _ hb2 => exact plain h1.1 h1.2 hb2
  | pro => cases hb with | skip _ hb2 => exact plain h1.1 h1.2 hb2
  | fn => cases hb with | skip _ hb2 => exact plain h1.1 h1.2 hb2
  | skp => cases hb with | skip _ hb2 => exact plain h1.1 h1.2 hb2
  | kp => cases hb with | skip _ hb2 => exact plain h1.1 h1.2 hb2
  | «mut» =>
   obtain ⟨id, ro, p, s, rfl, hat, hmd, htr, hs', hu, hF, rfl⟩ := h1
   cases hb with
   | skip hn _ => exact hn.elim
   | «mut» hb hb2 =>
   rename_i d0 ds0 t xs ds B Bs
   obtain ⟨hpB1, hpB2⟩ := List.pairwise_cons.1 hpB
   obtain ⟨hk1, hk2⟩ := List.pairwise_cons.1 hkey
   simp only [List.singleton_append, Gm.giveBack] at h
   obtain ⟨zs, hz, hfin⟩ := bindS h
   subst hu
   have hhead : ∀ n, B n ∨ (g.rf id n ∧ ¬ F n) → Free w0 Mf g st n := by
    intro n hn
    have hf := hfree n (hn.imp (fun h => ⟨B, by simp, h⟩) fun h => .inl h)
    refine ⟨hf.r, hf.ro, fun b hb3 e => ?_, hf.mine⟩
    have hm := hf.b b hb3 e
    have hm' : Bk.box b ∈ bs := by simpa using hm
    obtain ⟨⟨B', h5, h6⟩, H', h7, h8⟩ := hs.box hb2 hm'
    rw [e] at h6 h8
    rcases hn with hn | hn
    ·exact hpB1 B' h5 n hn h6
    ·exact hpH1 H' h7 n hn.1 h8
   obtain ⟨g1, e1, e2, e3, e4, e5, I1, hmap⟩ := I.backRoot hsame hat hmd htr hs' hF hX.1 hb (hB B (by simp)) (hH (g.rf id) (by simp)) hhead hz
   have hne : ∀ id' r' p', Bk.root id' r' p' ∈ bs → id' ≠ id := fun id' r' p' hm e => hk1 _ hm (by rw [e]; rfl)
   obtain ⟨g', st', d, h2, h3, h4⟩ := ih I1 (hs.move (fun id' r' p' hm hl => by
     have hn := hne id' r' p' hm
     exact ⟨by simp only [aget_aset_ne _ _ hn]; exact hl, (e4 id' hn).1, (e4 id' hn).2⟩) (fun b hm => ⟨fun h => h, fun h => h⟩) e3) (by rw [e1]; exact hb2) hk2 hpB2 hpH2 hX.2 (fun B' hB' => hB B' (by simp [hB'])) (fun H' hH' => hH H' (by simp [hH']))
    (fun n hn => by
     have hf := hfree n (hn.imp (fun ⟨G, hG, hk⟩ => ⟨G, by simp [hG], hk⟩) fun h => .inr h)
     refine ⟨fun id' ⟨r', h5, h6⟩ h7 => ?_, by rw [e2]; exact hf.ro, fun b hb3 e => by
      rw [e3] at e
      simpa using hf.b b hb3 e, hf.mine⟩
     by_cases e : id' = id
     ·subst e
      rcases e5 n h7 with h8 | ⟨h8, h9⟩
      ·rcases hn with ⟨G, hG, hk⟩ | hn
       ·exact hpB1 G hG n h8 hk
       ·rcases (hB B (by simp) n h8).1 with hx | hx
        ·exact hX.2.rem hn hx
        ·obtain ⟨H', h10, h11⟩ := hn.any
         have := hH H' (by simp [h10]) n h11; omega
      ·rcases hn with ⟨G, hG, hk⟩ | hn
       ·rcases (hB G (by simp [hG]) n hk).1 with hx | hx
        ·exact h9 (hX.1 n hx h8)
        ·have := hH (g.rf id') (by simp) n h8; omega
       ·obtain ⟨H', h10, h11⟩ := hn.any
        exact hpH1 H' h10 n h8 h11
     ·simp only [aget_aset_ne _ _ e] at h5
      rw [(e4 id' e).1] at h7
      exact hf.r id' ⟨r', h5, h6⟩ h7) hfin
   have hstep : Gave w' g st g1 { st with roots := aset st.roots id (.live ⟨ro.t, ro.md, ro.ver, ro.log ++ [p.length], zs⟩) } [.root id ro p] { roots := [(id, .live ⟨ro.t, ro.md, ro.ver, ro.log ++ [p.length], zs⟩)] } (fun n => B n ∨ (g.rf id n ∧ ¬ F n)) := {
    n := e1, ro := e2, bx := e3, slots := rfl, roots := rfl, boxes := rfl, noslot := rfl
    live := fun id' r' hl => by
     have hn : id' ≠ id := fun e => by rw [e, hat] at hl; cases hl
     exact ⟨by simp only [aget_aset_ne _ _ hn]; exact hl, (e4 id' hn).1, (e4 id' hn).2⟩
    own := fun id' ⟨r', h5, h6⟩ => by
     by_cases e : id' = id
     ·subst e; exact .inr e5
     ·simp only [aget_aset_ne _ _ e] at h5
      exact .inl ⟨⟨r', h5, h6⟩, (e4 id' e).1⟩
    box := fun _ => .rfl
    key := fun id' r' p' hm => by
     simp only [List.mem_singleton, Bk.root.injEq] at hm
     rw [hm.1]; simp [asets, aget_aset_self]
    map := hmap }
   refine ⟨g', st', _, h2, h3, ?_⟩
   have := hstep.trans h4 (H := fun n => Any (B :: Bs) n ∨ Rem (F :: Fs) (g.rf id :: Hs) n) (fun n hn => hn.imp (fun h => ⟨B, by simp, h⟩) .inl) (fun n hn => hn.imp (fun ⟨G, hG, hk⟩ => ⟨G, by simp [hG], hk⟩) .inr)
   have hd := h4.noslot
   cases d
   simp only at hd
   subst hd
   exact this
  | pmut =>
   obtain ⟨b, rfl, hnd, hbat, hu, rfl, hFb⟩ := h1
   cases hb with
   | skip hn _ => exact hn.elim
   | pmut hb ht hb2 =>
   rename_i t0 x0 ds0 t x ds B Bs
   obtain ⟨hpB1, hpB2⟩ := List.pairwise_cons.1 hpB
   obtain ⟨hk1, hk2⟩ := List.pairwise_cons.1 hkey
   simp only [List.singleton_append, Gm.giveBack] at h
   subst hu
   obtain ⟨ss, mm, g1, st1, u, hfin, I1, G1, hmap⟩ := I.backBox hbat hb (fun n hn => (hB B (by simp) n hn).2) (fun n hn hne => by
    have hf := hfree n (.inl ⟨B, by simp, hn⟩)
    refine ⟨hf.r, hf.ro, fun b' hb3 e => ?_, hf.mine⟩
    have hm := hf.b b' hb3 e
    simp only [List.singleton_append, List.mem_cons, Bk.box.injEq] at hm
    rcases hm with rfl | hm
    ·exact hne e.symm
    ·obtain ⟨⟨B', h5, h6⟩, _⟩ := hs.box hb2 hm
     rw [e] at h6
     exact hpB1 B' h5 n hn h6) h
   have hne : ∀ b', Bk.box b' ∈ bs → b' ≠ b := fun b' hm e => hk1 _ hm (by rw [e])
   have heq : st1.boxes = st.boxes := by rw [G1.eq]
   have hbx : ∀ b', BoxAt { st1 with boxes := aset st1.boxes b ⟨t, ss⟩ } b' ↔ BoxAt st b' := fun b' => by
    simp only [BoxAt, aget_aset, heq]
    by_cases hbb : b' = b
    ·subst hbb; simpa [BoxAt] using hbat
    ·simp [hbb]
   obtain ⟨g', st', d, h2, h3, h4⟩ := ih I1 (hs.move (fun id' r' p' hm hl => G1.lent id' r' hl) (fun b' hm => ⟨fun hn ⟨x', hx', hh⟩ => hn ⟨x', by simpa [aget_aset, hne b' hm, heq] using hx', hh⟩, fun h => (hbx b').2 h⟩) G1.bx)
    (by rw [G1.n]; exact hb2) hk2 hpB2 hpH2 hX.2 (fun B' hB' => hB B' (by simp [hB'])) (fun H' hH' => hH H' (by simp [hH']))
    (fun n hn => by
     have hf := hfree n (hn.imp (fun ⟨G, hG, hk⟩ => ⟨G, by simp [hG], hk⟩) fun h => .inr h)
     refine ⟨fun id' hi h7 => ?_, by rw [G1.ro]; exact hf.ro, fun b' hb3 e => ?_, hf.mine⟩
     ·rcases G1.own id' hi with ⟨h8, h9⟩ | h8
      ·rw [h9] at h7; exact hf.r id' h8 h7
      ·have h9 := h8 n h7
       rcases hn with ⟨G, hG, hk⟩ | hn
       ·exact hpB1 G hG n h9 hk
       ·rcases (hB B (by simp) n h9).1 with hx | hx
        ·exact hX.2.rem hn hx
        ·obtain ⟨H', h10, h11⟩ := hn.any
         have := hH H' (by simp [h10]) n h11; omega
     ·rw [G1.bx] at e
      have hm := hf.b b' ((hbx b').1 hb3) e
      simp only [List.singleton_append, List.mem_cons, Bk.box.injEq] at hm
      rcases hm with rfl | hm
      ·rcases hn with ⟨G, hG, hk⟩ | hn
       ·obtain ⟨b0, us0, el0, e0, hB0, _⟩ := hb
        simp only [Value.pointer.injEq, Option.some.injEq, Addr.mk.injEq, and_true] at e0
        rw [← e0, e] at hB0
        exact (hpB1 G hG n hB0 hk).elim
       ·obtain ⟨H', h10, h11⟩ := hn.any
        exact (hpH1 H' h10 n (e ▸ hFb) h11).elim
      ·exact hm) hfin
   have hstep : Gave w' g st g1 { st1 with boxes := aset st1.boxes b ⟨t, ss⟩ } [.box b] { boxes := [(b, ⟨t, ss⟩)], roots := u } B := {
    n := G1.n, ro := G1.ro, bx := G1.bx, slots := by simp only; rw [G1.eq], roots := by simp only; rw [G1.eq], boxes := by simp only [asets]; rw [heq], noslot := rfl
    live := G1.live
    own := G1.own
    box := hbx
    key := fun _ _ _ hm => by simp at hm
    map := hmap }
   refine ⟨g', st', _, h2, h3, ?_⟩
   have := hstep.trans h4 (H := fun n => Any (B :: Bs) n ∨ Rem (H :: Fs) (H :: Hs) n) (fun n hn => .inl ⟨B, by simp, hn⟩) (fun n hn => hn.imp (fun ⟨G, hG, hk⟩ => ⟨G, by simp [hG], hk⟩) .inr)
   have hd := h4.noslot
   cases d
   simp only at hd
   subst hd
   exact this
end Go.Gm
namespace Go.Gm
open Go
variable {R : Type} {P : Program} {E : Env} {w0 w w' : World} {Mf : Nat → Prop} {g : Gh} {st st' : St} {a : Act}
theorem ScR_congr (hb : aget st.boxes = aget st'.boxes) (hr : aget st.roots = aget st'.roots) : ScR w g st = ScR w g st' := by
 have h1 : verOk st = verOk st' := by funext id ver iv; unfold verOk; rw [hr]
 have h2 : Vx st = Vx st' := by funext id ver iv p r; unfold Vx; rw [hr]
 funext c u
 cases c <;> simp only [ScR, h1, h2, hb]
theorem Inv.congr (I : Inv w0 Mf g st a w) (hs : aget st.slots = aget st'.slots) (hb : aget st.boxes = aget st'.boxes) (hr : aget st.roots = aget st'.roots) : Inv w0 Mf g st' a w := by
 have hm : ∀ c u, ScRel w g st c u → ScRel w g st' c u := fun c u h => ⟨h.1, by rw [← ScR_congr hb hr]; exact h.2⟩
 have hO : OwnAt st = OwnAt st' := by funext id; unfold OwnAt; rw [hr]
 have hB : BoxAt st = BoxAt st' := by funext b; unfold BoxAt; rw [hb]
 exact {
  slots := fun s sv h => let ⟨u, hu, h1⟩ := I.slots s sv (by rw [hs]; exact h); ⟨u, hu, h1.map hm⟩
  boxes := fun b x h => let ⟨us, el, h1, h2⟩ := I.boxes b x (by rw [hb]; exact h); ⟨us, el, h1, h2.map hm⟩
  roots := fun id r h => I.roots id r (by rw [hr]; exact h)
  apart := {
   rr := by rw [← hO]; exact I.apart.rr
   rb := by rw [← hO, ← hB]; exact I.apart.rb
   bb := by rw [← hB]; exact I.apart.bb
   ro_r := by rw [← hO]; exact I.apart.ro_r
   ro_b := by rw [← hB]; exact I.apart.ro_b
   mine_r := by rw [← hO]; exact I.apart.mine_r
   mine_b := by rw [← hB]; exact I.apart.mine_b
   lt_r := by rw [← hO]; exact I.apart.lt_r
   lt_ro := I.apart.lt_ro
   mine_ro := I.apart.mine_ro }
  kept := I.kept
  defers := I.defers
  size := I.size
  base := ⟨I.base.wl, I.base.ap, I.base.ro⟩ }
theorem Inv.freezeOne (I : Inv w0 Mf g st a w) {id : Nat} {ro : Root} (h : aget st.roots id = some (.live ro)) (hpt : ro.md.isPart = false) :
    ∃ g' : Gh, g'.n = g.n ∧ g'.bx = g.bx ∧ (∀ k, g.ro k → g'.ro k) ∧ (∀ k, g.rf id k → OwnAt st id → g'.ro k) ∧ (∀ k, g'.ro k → g.ro k ∨ (OwnAt st id ∧ g.rf id k)) ∧ (∀ id', id' ≠ id → g'.rf id' = g.rf id') ∧
      Inv w0 Mf g' { st with roots := aset st.roots id (.live { ro with md := .frz }) } a w ∧ ∀ c v, ScRel w g st c v → ScRel w g' { st with roots := aset st.roots id (.live { ro with md := .frz }) } c v := by
 let G : Nat → Prop := fun k => g.ro k ∨ (OwnAt st id ∧ g.rf id k)
 have hav : ∀ q, (∀ D ∈ ([] : List Nat), q.length ≤ D) → g.rv id q = g.rv id q ∧ ∀ s, subR ro.t ro.xs q = some s → ∃ s', subR ro.t ro.xs q = some s' ∧ s'.t = s.t ∧ s'.xs.length = s.xs.length :=
  fun q _ => ⟨rfl, fun s hs => ⟨s, hs, rfl, rfl⟩⟩
 refine ⟨(({ g with ro := G } : Gh).setR id (g.rv id) fun _ => False), rfl, rfl, fun k => .inl, fun k h1 h2 => .inr ⟨h2, h1⟩, fun k h => h, fun id' hn => by simp [Gh.setR, hn], ?_, fun c v hc => ?_⟩
 ·refine I.reroot (ro' := { ro with md := .frz }) (G := G) (.inl h) (SameBut.refl w) I.kept (fun k h => h.elim) (fun k => .inl) (fun id' k h1 h2 h3 h4 => ?_) (fun b hb h4 => ?_) (fun k h4 => ?_) (fun k h4 => ?_) rfl rfl (l := []) (by simp) hav ?_ (fun k h => h.elim)
  ·rcases h4 with h4 | ⟨h4, h5⟩
   ·exact I.apart.ro_r id' k h1 h3 h4
   ·exact h2 (I.apart.rr id' id k h1 h4 h3 h5)
  ·rcases h4 with h4 | ⟨h4, h5⟩
   ·exact I.apart.ro_b b hb h4
   ·exact I.apart.rb id b h4 hb h5
  ·rcases h4 with h4 | ⟨h4, h5⟩
   ·exact I.apart.lt_ro k h4
   ·exact I.apart.lt_r id k h4 h5
  ·rcases h4 with h4 | ⟨h4, h5⟩
   ·exact I.apart.mine_ro k h4
   ·exact .inr (I.apart.mine_r id k h4 h5)
  ·unfold RootRel
   simp only [Gh.setR, if_true]
   exact I.treeP h (by cases hq : ro.md <;> simp_all [Md.treeAt, Md.isPart]) (fun k => .inl) (fun h1 k h2 => .inr ⟨h1, h2⟩)
 ·exact ⟨hc.1, ScR.reroot (g := { g with ro := G }) (ro' := { ro with md := .frz }) (.inl h) rfl rfl (l := []) (by simp) hav (hc.2.ro fun k => .inl)⟩
structure Froze (w : World) (g : Gh) (st : St) (g' : Gh) (st' : St) (ids : List Nat) (u : List (Nat × Rt)) : Prop where
 n : g'.n = g.n
 bx : g'.bx = g.bx
 ro : ∀ k, g.ro k → g'.ro k
 src : ∀ k, g'.ro k → g.ro k ∨ ∃ id ∈ ids, OwnAt st id ∧ g.rf id k
 all : ∀ id ∈ ids, OwnAt st id → ∀ k, g.rf id k → g'.ro k
 eq : st' = { st with roots := asets st.roots u }
 own : ∀ id, OwnAt st' id → OwnAt st id ∧ g'.rf id = g.rf id
 map : ∀ c v, ScRel w g st c v → ScRel w g' st' c v
theorem Inv.freeze : ∀ {ids : List Nat} {g : Gh} {st : St} {k : St → List (Nat × Rt) → Option R} {r : R}, Inv w0 Mf g st a w → freeze st ids k = some r → ∃ g' st' u, k st' u = some r ∧ Inv w0 Mf g' st' a w ∧ Froze w g st g' st' ids u
 | [], g, st, k, r, I, h => ⟨g, st, [], h, I, rfl, rfl, fun _ h => h, fun _ => .inl, fun _ h => by simp at h, rfl, fun _ h => ⟨h, rfl⟩, fun _ _ h => h⟩
 | id :: ids, g, st, k, r, I, h => by
  simp only [Gm.freeze] at h
  split at h
  ·rename_i ro hro
   obtain ⟨hpt, h⟩ : ro.md.isPart = false ∧ _ := by
    cases hq : ro.md.isPart
    ·rw [hq] at h; exact ⟨rfl, h⟩
    ·rw [hq] at h; cases h
   obtain ⟨g1, e1, e2, e3, e4, e5, e6, I1, hm⟩ := I.freezeOne hro hpt
   obtain ⟨g', st', u, h1, h2, h3⟩ := Inv.freeze I1 h
   have ho : ∀ id', OwnAt { st with roots := aset st.roots id (.live { ro with md := .frz }) } id' → id' ≠ id ∧ OwnAt st id' := fun id' ⟨r', h4, h5⟩ => by
    simp only [aget_aset] at h4
    by_cases e : id' = id
    ·simp only [e, if_true, Option.some.injEq, Rt.live.injEq] at h4
     subst h4; cases h5
    ·exact ⟨e, r', by simpa [e] using h4, h5⟩
   refine ⟨g', st', _, h1, h2, h3.n.trans e1, h3.bx.trans e2, fun k hk => h3.ro k (e3 k hk), fun k hk => ?_, fun id' hid hat k hk => ?_, by rw [h3.eq]; rfl, fun id' hi => ?_, fun c v hc => h3.map c v (hm c v hc)⟩
   ·rcases h3.src k hk with h4 | ⟨id', h4, h5, h6⟩
    ·rcases e5 k h4 with h5 | h5
     ·exact .inl h5
     ·exact .inr ⟨id, by simp, h5⟩
    ·obtain ⟨h7, h8⟩ := ho id' h5
     rw [e6 id' h7] at h6
     exact .inr ⟨id', by simp [h4], h8, h6⟩
   ·by_cases e : id' = id
    ·subst e; exact h3.ro k (e4 k hk hat)
    ·have hid' : id' ∈ ids := by simpa [e] using hid
     obtain ⟨r', h4, h5⟩ := hat
     exact h3.all id' hid' ⟨r', by simp only [aget_aset_ne _ _ e]; exact h4, h5⟩ k (by rw [e6 id' e]; exact hk)
   ·obtain ⟨h4, h5⟩ := h3.own id' hi
    obtain ⟨h6, h7⟩ := ho id' h4
    exact ⟨h7, h5.trans (e6 id' h6)⟩
  ·rename_i hno
   obtain ⟨g', st', u, h1, h2, h3⟩ := Inv.freeze I h
   refine ⟨g', st', u, h1, h2, h3.n, h3.bx, h3.ro, fun k hk => (h3.src k hk).imp (fun h => h) fun ⟨id', h4, h5⟩ => ⟨id', by simp [h4], h5⟩, fun id' hid hat k hk => ?_, h3.eq, h3.own, h3.map⟩
   by_cases e : id' = id
   ·subst e
    obtain ⟨r', h4, _⟩ := hat
    exact (hno r' h4).elim
   ·exact h3.all id' (by simpa [e] using hid) hat k hk
end Go.Gm

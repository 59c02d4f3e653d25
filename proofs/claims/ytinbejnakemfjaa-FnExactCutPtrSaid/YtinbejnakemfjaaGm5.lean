/- The G-machine, part 5: an evaluator of translated code on typed values, and that it is sound. No conditions. -/
import Derived.Test.YtinbejnakemfjaaGm4
/- Plain functions: names taken out of lists; what was looked at. -/
namespace Go.Gm
open Go

/-! ### slices.DeleteFunc, its loop -/
theorem getE_of_drop {α : Type} {xs ys : List α} {j : Nat} (h : ys.drop j = xs.drop j) : ys[j]? = xs[j]? := by
  have := congrArg (fun l => l[0]?) h
  simpa [List.getElem?_drop] using this
theorem loop_delf {t : Ty} {R : Type} {xs : List (El t)} {p : El t → Bool} {F : Nat → Int → Int → List (El t) → Option R} {good : Option R}
    (hs : ∀ (m i j : Nat) (vr : List (El t)), i < j → j < xs.length → vr.length = xs.length → F (m + 1) (i : Int) (j : Int) vr = cond (!(p (atI vr j))) (F m ((i + 1 : Nat) : Int) ((j + 1 : Nat) : Int) (vr.set i (atI vr j))) (F m (i : Int) ((j + 1 : Nat) : Int) vr))
    (he : ∀ (m i : Nat) (vr : List (El t)), vr.length = xs.length → i < xs.length → vr.take i = xs.filter (fun x => !(p x)) → F (m + 1) (i : Int) (xs.length : Int) vr = good) :
    ∀ (d i j m : Nat) (vr : List (El t)), j + d = xs.length → d < m → i < j → vr.length = xs.length → vr.take i = (xs.take j).filter (fun x => !(p x)) → vr.drop j = xs.drop j → F m (i : Int) (j : Int) vr = good := by
  intro d
  induction d with
  | zero =>
    intro i j m vr hj hm hij hl ht hd
    obtain ⟨m, rfl⟩ : ∃ m', m = m' + 1 := ⟨m - 1, by omega⟩
    have : j = xs.length := by omega
    subst this
    exact he m i vr hl hij (by rw [ht, List.take_length])
  | succ d ih =>
    intro i j m vr hj hm hij hl ht hd
    obtain ⟨m, rfl⟩ : ∃ m', m = m' + 1 := ⟨m - 1, by omega⟩
    have hjl : j < xs.length := by omega
    rw [hs m i j vr hij hjl hl]
    have hx := atI_lt hjl
    have hv : vr[j]? = some (atI xs j) := by rw [getE_of_drop hd, hx]
    rw [atI_of hv]
    have htk : xs.take (j + 1) = xs.take j ++ [atI xs j] := by rw [List.take_add_one, hx]; rfl
    have hdr : vr.drop (j + 1) = xs.drop (j + 1) := by
      have := congrArg (List.drop 1) hd
      simpa [List.drop_drop, Nat.add_comm] using this
    cases hp : p (atI xs j) with
    | true => exact ih i (j + 1) m vr (by omega) (by omega) (by omega) hl (by rw [htk, List.filter_append, ht]; simp [hp]) hdr
    | false =>
      refine ih (i + 1) (j + 1) m _ (by omega) (by omega) (by omega) (by simpa using hl) ?_ ?_
      · rw [htk, List.filter_append, ← ht, List.take_add_one, List.getElem?_set_self (by omega), List.take_set_of_le (by omega)]
        simp [hp]
      · rw [List.drop_set_of_lt (by omega)]; exact hdr
theorem delf_start {t : Ty} {xs : List (El t)} {p : El t → Bool} {i : Nat} (hi : i < xs.length) (hp : p (atI xs i) = true) (hall : ∀ k, 0 ≤ k → k < i → p (atI xs k) = false) : xs.take i = (xs.take (i + 1)).filter fun x => !(p x) := by
  rw [List.take_add_one, atI_lt hi, List.filter_append]
  have h1 : (xs.take i).filter (fun x => !(p x)) = xs.take i := by
    rw [List.filter_eq_self]
    intro x hx
    obtain ⟨k, hk⟩ := List.getElem?_of_mem hx
    rw [List.getElem?_take] at hk
    split at hk
    · rename_i hk'
      rw [← atI_of hk, hall k (by omega) hk']; rfl
    · cases hk
  rw [h1]; simp [hp]
theorem delf_none {t : Ty} {xs : List (El t)} {p : El t → Bool} (hall : ∀ k, 0 ≤ k → k < 0 + xs.length → p (atI xs k) = false) : xs.filter (fun x => !(p x)) = xs := by
  rw [List.filter_eq_self]
  intro x hx
  obtain ⟨k, hk⟩ := List.getElem?_of_mem hx
  rw [← atI_of hk, hall k (by omega) (by have := el_lt hk; omega)]; rfl
theorem clrL_take {α : Type} (z : α) {xs : List α} {lo hi : Nat} (h : lo ≤ xs.length) : (clrL z xs lo hi).take lo = xs.take lo := by
  unfold clrL
  rw [List.append_assoc, List.take_append_of_le_length (by simp; omega), List.take_take, Nat.min_self]

/-! ### names -/
def strIs (s t : ByteArray) : Bool := sEq s t
def strAt (xs : List ByteArray) (s : ByteArray) : Int := findI (t := .str) (fun x => strIs x s) xs
def butName (xs : List ByteArray) (s : ByteArray) : List ByteArray := xs.filter fun x => !(strIs x s)
theorem foldl_filter {α : Type} (p : α → Bool) : ∀ (xs acc : List α), xs.foldl (fun out x => cond (p x) (out ++ [x]) out) acc = acc ++ xs.filter p
  | [], acc => by simp
  | x :: r, acc => by
    rw [List.foldl_cons, foldl_filter p r]
    cases h : p x <;> simp [h]
theorem butName_no {xs : List ByteArray} {s : ByteArray} (h : isIn xs s = false) : butName xs s = xs := by
  unfold butName
  rw [List.filter_eq_self]
  intro x hx
  unfold isIn at h
  rw [List.any_eq_false] at h
  have := h x hx
  simp only [strIs]
  cases hq : sEq x s
  · rfl
  · exact (this hq).elim
theorem smL_filter {α : Type} {f : α → Bool} {xs : List α} {p : α → Bool} (h : smL f xs = true) : smL f (xs.filter p) = true :=
  smL_sub h (fun x hx => (List.mem_filter.1 hx).1) (List.length_filter_le _ _)

/-! ### failures -/
def failedF (s : ByteArray) (ok : Bool) (a : Int × List FailT) (x : FailT) : Int × List FailT :=
  cond (!(sEq x.name s)) (a.1, a.2 ++ [x]) (cond (!ok) (x.n, a.2 ++ [⟨s, minI (IntKind.wrap .i64 (x.n + (1 : Int))) (20 : Int)⟩]) (x.n, a.2))
def failedS (xs : List FailT) (s : ByteArray) (ok : Bool) : List FailT :=
  let r := xs.foldl (failedF s ok) ((0 : Int), ([] : List FailT))
  cond (r.1 == (0 : Int)) (cond (!ok) (r.2 ++ [⟨s, (1 : Int)⟩]) r.2) r.2
def failedI (xs : List FailT) (s : ByteArray) (ok : Bool) : List FailT :=
  match failO xs s with
  | none => cond ok xs (xs ++ [⟨s, (1 : Int)⟩])
  | some i => cond ok (delL xs (i : Int) ((i + 1 : Nat) : Int)) (xs.set i ⟨(atI (t := .fail) xs i).name, minI ((atI (t := .fail) xs i).n + 1) 20⟩)
theorem failed_none {s : ByteArray} {ok : Bool} : ∀ {l : List FailT} {n : Int} {out : List FailT}, (∀ x ∈ l, sEq x.name s = false) → l.foldl (failedF s ok) (n, out) = (n, out ++ l)
  | [], n, out, _ => by simp
  | x :: r, n, out, h => by
    have h1 := h x (by simp)
    rw [List.foldl_cons]
    have : failedF s ok (n, out) x = (n, out ++ [x]) := by simp [failedF, h1]
    rw [this, failed_none fun y hy => h y (by simp [hy])]
    simp
theorem failed_eq {xs : List FailT} {s : ByteArray} {ok : Bool} (h : allN (failC xs) 0 xs.length = true) : failedS xs s ok = failedI xs s ok := by
  rw [allN_iff] at h
  unfold failedS failedI
  cases hO : failO xs s with
  | none =>
    have hn := firstN_none hO
    have : ∀ x ∈ xs, sEq x.name s = false := by
      intro x hx
      obtain ⟨k, hk⟩ := List.getElem?_of_mem hx
      have := hn k (by omega) (by have := el_lt hk; omega)
      rw [atI_of (t := .fail) hk] at this
      exact this
    rw [failed_none this]
    cases ok <;> rfl
  | some i =>
    obtain ⟨_, hi, hp, hall⟩ := firstN_some hO
    have hi : i < xs.length := by omega
    have hx := atI_lt (t := .fail) hi
    have hname : (atI (t := .fail) xs i).name = s := sEq_iff.1 hp
    have hci := h i (by omega) (by omega)
    simp only [failC, Bool.and_eq_true, inR_iff] at hci
    have hsplit : xs = xs.take i ++ atI (t := .fail) xs i :: xs.drop (i + 1) := by
      have e1 : xs.drop i = atI (t := .fail) xs i :: xs.drop (i + 1) := by
        rw [List.drop_eq_getElem_cons hi]
        congr 1
        rw [List.getElem?_eq_getElem hi] at hx
        exact Option.some.inj hx
      conv => lhs; rw [← List.take_append_drop i xs, e1]
    have h1 : ∀ x ∈ xs.take i, sEq x.name s = false := by
      intro x hx
      obtain ⟨k, hk⟩ := List.getElem?_of_mem hx
      rw [List.getElem?_take] at hk
      split at hk
      · rename_i hk'
        have := hall k (by omega) hk'
        rw [atI_of (t := .fail) hk] at this
        exact this
      · cases hk
    have h2 : ∀ x ∈ xs.drop (i + 1), sEq x.name s = false := by
      intro x hx
      obtain ⟨k, hk⟩ := List.getElem?_of_mem hx
      rw [List.getElem?_drop] at hk
      have hkl := el_lt hk
      have hck := h (i + 1 + k) (by omega) (by omega)
      rw [Bool.eq_false_iff]
      intro hq
      have hq := sEq_iff.1 hq
      simp only [failC, Bool.and_eq_true, atI_of (t := .fail) hk, hq] at hck
      have h3 := hck.2.1
      have hfa : failAt xs s = (i : Int) := by unfold failAt; rw [hO]; rfl
      rw [hfa] at h3
      have hne : ((i : Int) != ((i + 1 + k : Nat) : Int)) = true := by simp only [bne_iff_ne]; omega
      rw [hne] at h3
      cases h3
    have hset : ∀ y, xs.set i y = xs.take i ++ y :: xs.drop (i + 1) := fun y => by rw [List.set_eq_take_append_cons_drop, if_pos hi]
    have hdel : delL xs (i : Int) ((i + 1 : Nat) : Int) = xs.take i ++ xs.drop (i + 1) := by simp only [delL, Int.toNat_natCast]
    simp only [hset, hdel]
    generalize xs.take i = A at hsplit h1
    generalize xs.drop (i + 1) = B at hsplit h2
    generalize atI (t := .fail) xs i = y at hsplit hname hci
    subst hsplit
    rw [List.foldl_append, failed_none h1, List.foldl_cons]
    obtain ⟨ny, nn⟩ := y
    simp only at hname hci
    subst hname
    have hw : IntKind.wrap .i64 (nn + (1 : Int)) = nn + 1 := wrap_id (by omega) (by omega)
    have hnz : (nn == (0 : Int)) = false := by rw [beq_eq_false_iff_ne]; omega
    have hself : sEq ny ny = true := sEq_self ny
    cases ok
    · have : failedF ny false ((0 : Int), [] ++ A) ⟨ny, nn⟩ = (nn, A ++ [⟨ny, minI (nn + 1) 20⟩]) := by simp [failedF, hself, hw]
      rw [this, failed_none h2]
      simp [hnz]
    · have : failedF ny true ((0 : Int), [] ++ A) ⟨ny, nn⟩ = (nn, A) := by simp [failedF, hself]
      rw [this, failed_none h2]
      simp [hnz]
theorem failedI_sm {xs : List FailT} {s : ByteArray} {ok : Bool} (h : smL sm_fail xs = true) (hs : smStr s = true) (hl : xs.length < 1048576) : smL sm_fail (failedI xs s ok) = true := by
  unfold failedI
  cases hO : failO xs s with
  | none =>
    cases ok
    · exact smL_snoc h (by simp only [sm_fail, Bool.and_eq_true]; exact ⟨hs, by decide⟩) hl
    · exact h
  | some i =>
    have hi := failO_lt hO
    cases ok
    · simp only [cond_false]
      have hx := List.all_eq_true.1 (smL_all h) (atI (t := .fail) xs i) (List.mem_of_getElem? (atI_lt (t := .fail) hi))
      have hl' := h
      simp only [smL, Bool.and_eq_true] at hl' ⊢
      refine ⟨by rw [List.length_set]; exact hl'.1, List.all_eq_true.2 fun x hx' => ?_⟩
      rcases List.mem_or_eq_of_mem_set hx' with hm | rfl
      · exact List.all_eq_true.1 hl'.2 x hm
      · simp only [sm_fail, Bool.and_eq_true, okI_iff] at hx ⊢
        refine ⟨hx.1, ?_⟩
        unfold minI
        split <;> omega
    · simp only [cond_true, delL, Int.toNat_natCast]
      refine smL_sub h (fun x hx => ?_) (by simp; omega)
      rcases List.mem_append.1 hx with hx | hx
      · exact List.mem_of_mem_take hx
      · exact List.mem_of_mem_drop hx

/-! ### what was looked at -/
def doneW (w : WorkT) (s : ByteArray) (ok : Bool) : WorkT := ⟨cond (isIn w.again s || !ok) (w.list ++ [s]) w.list, butName w.busy s, butName w.again s, failedI w.fails s ok⟩
def workDone (w : WorkT) (s : ByteArray) (ok : Bool) : WorkT × Bool :=
  cond (workQOk w) (cond (isIn w.busy s) (cond (workQOk (doneW w s ok)) (doneW w s ok, true) (w, false)) (w, false)) (w, false)
def gDoneW (w : WorkT) (s : ByteArray) (_ : Bool) : Bool := sm_work w && smStr s
theorem qOk_allF {w : WorkT} (h : workQOk w = true) : allN (failC w.fails) 0 w.fails.length = true := by
  simp only [workQOk, Bool.and_eq_true] at h; exact h.2.2.2.2.2.2
theorem qOk_apart {w : WorkT} {s : ByteArray} (h : workQOk w = true) (hb : isIn w.busy s = true) : isIn w.list s = false := by
  simp only [workQOk, Bool.and_eq_true, Bool.not_eq_true'] at h
  have h1 := h.2.2.2.2.1
  unfold inBusyAny at h1
  rw [List.any_eq_false] at h1
  rw [Bool.eq_false_iff]
  intro hq
  unfold isIn at hq
  rw [List.any_eq_true] at hq
  obtain ⟨x, hx, he⟩ := hq
  have := sEq_iff.1 he
  subst this
  exact h1 x hx hb
theorem doneW_sm {w : WorkT} {s : ByteArray} {ok : Bool} (h : sm_work w = true) (hs : smStr s = true) (hq : workQOk w = true) : sm_work (doneW w s ok) = true := by
  have hl := qOk_len hq
  have hf := qOk_fails hq
  simp only [sm_work, Bool.and_eq_true] at h
  simp only [doneW, sm_work, Bool.and_eq_true]
  refine ⟨?_, smL_filter h.2.1, smL_filter h.2.2.1, failedI_sm h.2.2.2 hs (by omega)⟩
  cases (isIn w.again s || !ok)
  · exact h.1
  · exact smL_snoc h.1 hs hl.1
theorem workDone_sm {w : WorkT} {s : ByteArray} {ok : Bool} (h : sm_work w = true) (hs : smStr s = true) : sm_work (workDone w s ok).1 = true := by
  unfold workDone
  cases hq : workQOk w with
  | false => exact h
  | true =>
    have := doneW_sm (ok := ok) h hs hq
    cases isIn w.busy s <;> cases workQOk (doneW w s ok) <;> assumption
theorem done_fin {R : Type} {k : List Dt → Option R} {w N : WorkT} {s : ByteArray} {ok : Bool} (hq : workQOk w = true) (hb : isIn w.busy s = true) (h : sm_work w = true) (hs : smStr s = true) (hN : N = doneW w s ok) :
    cond (sm_work N) (cond (!(workQOk N)) (k [.d .work w, .d .bool false]) (k [.d .work N, .d .bool true])) none = k [.d .work (workDone w s ok).1, .d .bool (workDone w s ok).2] := by
  subst hN
  unfold workDone
  rw [doneW_sm h hs hq, hq, hb]
  simp only [cond_true]
  cases workQOk (doneW w s ok) <;> rfl
theorem gDel_one {α : Type} {xs : List α} {i : Nat} (h : i < xs.length) : gDel xs (i : Int) ((i + 1 : Nat) : Int) = true := by
  simp only [gDel, Bool.and_eq_true, decide_eq_true_eq]; omega
theorem isIn_snoc (xs : List ByteArray) (s : ByteArray) : isIn (xs ++ [s]) s = true := by
  simp [isIn, sEq_self]
end Go.Gm

/- Plain functions: numbers that are read, ways into trees. -/
namespace Go.Gm
open Go

/-! ### numbers that are read -/
def numT (s : ByteArray) : ByteArray := cond (!(sEq s ByteArray.empty)) (cond ((((ByteArray.data s).getD 0 0).toNat : Int) == (45 : Int)) (ByteArray.extract s 1 s.size) s) s
def numStep (c : UInt8) (n : Int) : Unit ⊕ Int :=
  cond (decide ((c.toNat : Int) < (48 : Int))) (.inl ()) (cond (decide ((c.toNat : Int) > (57 : Int))) (.inl ())
    (.inr (IntKind.wrap .i64 ((IntKind.wrap .i64 ((10 : Int) * n)) + (IntKind.wrap .i64 (IntKind.wrap .u8 ((c.toNat : Int) - (48 : Int))))))))
def numEnd (s t : ByteArray) (m : Int) : Int × Bool :=
  let n := cond (decide ((t.size : Int) < (s.size : Int))) (IntKind.wrap .i64 (0 - m)) m
  cond (inR n (-1000000000000) 1000000000000) (cond (sEq (digS n) s) (n, true) ((0 : Int), false)) ((0 : Int), false)
def numS (s : ByteArray) : Int × Bool :=
  cond (sEq (numT s) ByteArray.empty) ((0 : Int), false) (cond (decide (((numT s).size : Int) > 13)) ((0 : Int), false) (Sum.elim (fun _ => ((0 : Int), false)) (numEnd s (numT s)) (foldE numStep (numT s).data.toList 0)))
def natS (s : ByteArray) : Int × Bool := cond (numS s).2 ((numS s).1, decide ((numS s).1 ≥ (0 : Int))) ((numS s).1, false)
theorem numEnd_ok {s t : ByteArray} {m : Int} (h : (numEnd s t m).2 = true) : digS (numEnd s t m).1 = s := by
  unfold numEnd at h ⊢
  simp only at h ⊢
  generalize cond (decide ((t.size : Int) < (s.size : Int))) (IntKind.wrap .i64 (0 - m)) m = n at h ⊢
  cases h1 : inR n (-1000000000000) 1000000000000
  · rw [h1] at h; cases h
  · rw [h1] at h
    cases h2 : sEq (digS n) s
    · rw [h2] at h; cases h
    · exact sEq_iff.1 h2
theorem numS_ok {s : ByteArray} (h : (numS s).2 = true) : digS (numS s).1 = s := by
  unfold numS at h ⊢
  cases h1 : sEq (numT s) ByteArray.empty
  · rw [h1] at h
    simp only [cond_false] at h ⊢
    cases h2 : decide (((numT s).size : Int) > 13)
    · rw [h2] at h
      simp only [cond_false] at h ⊢
      cases h3 : foldE numStep (numT s).data.toList 0 with
      | inl _ => rw [h3] at h; cases h
      | inr m => rw [h3] at h; exact numEnd_ok h
    · rw [h2] at h; cases h
  · rw [h1] at h; cases h
theorem foldE_append {α A B : Type} (step : α → A → B ⊕ A) : ∀ (xs ys : List α) (a : A), foldE step (xs ++ ys) a = Sum.elim Sum.inl (foldE step ys) (foldE step xs a)
  | [], ys, a => rfl
  | x :: xs, ys, a => by
    simp only [List.cons_append, foldE]
    cases step x a with
    | inl b => rfl
    | inr a' => exact foldE_append step xs ys a'
theorem numStep_dig {d : Nat} (hd : d < 10) {n : Int} (h0 : 0 ≤ n) (h : n ≤ 1000000000000) : numStep (UInt8.ofNat (48 + d)) n = .inr (10 * n + d) := by
  unfold numStep
  have e1 : ((UInt8.ofNat (48 + d)).toNat : Int) = 48 + (d : Int) := by
    rw [UInt8.toNat_ofNat_of_lt' (by show 48 + d < 256; omega)]; omega
  have e2 : IntKind.wrap .u8 ((48 : Int) + (d : Int) - 48) = (d : Int) := by
    have : d = 0 ∨ d = 1 ∨ d = 2 ∨ d = 3 ∨ d = 4 ∨ d = 5 ∨ d = 6 ∨ d = 7 ∨ d = 8 ∨ d = 9 := by omega
    rcases this with rfl | rfl | rfl | rfl | rfl | rfl | rfl | rfl | rfl | rfl <;> rfl
  rw [e1, e2, wrap_id (x := 10 * n) (by omega) (by omega), wrap_id (x := (d : Int)) (by omega) (by omega), wrap_id (x := 10 * n + (d : Int)) (by omega) (by omega),
    decide_eq_false (show ¬ (48 + (d : Int) < 48) by omega), decide_eq_false (show ¬ (48 + (d : Int) > 57) by omega)]
  rfl
theorem fold_natDig (m : Nat) : m ≤ 1000000000000 → foldE numStep (natDig m) 0 = .inr (m : Int) := by
  induction m using Nat.strongRecOn with
  | ind m ih =>
    intro hm
    by_cases h : m < 10
    · rw [natDig_lt h]
      simp only [foldE]
      rw [numStep_dig h (by omega) (by omega)]
      show (Sum.inr (10 * 0 + (m : Int)) : Unit ⊕ Int) = _
      congr 1; omega
    · rw [natDig_ge h, foldE_append, ih (m / 10) (by omega) (by omega)]
      show foldE numStep [UInt8.ofNat (48 + m % 10)] ((m / 10 : Nat) : Int) = _
      simp only [foldE]
      rw [numStep_dig (by omega) (by omega) (by omega)]
      show (Sum.inr (10 * ((m / 10 : Nat) : Int) + ((m % 10 : Nat) : Int)) : Unit ⊕ Int) = _
      congr 1; omega
theorem natDig_head (m : Nat) : ∃ c r, natDig m = c :: r ∧ 48 ≤ c.toNat := by
  induction m using Nat.strongRecOn with
  | ind m ih =>
    by_cases h : m < 10
    · rw [natDig_lt h]
      exact ⟨_, _, rfl, by rw [UInt8.toNat_ofNat_of_lt' (by show 48 + m < 256; omega)]; omega⟩
    · obtain ⟨c, r, e, hc⟩ := ih (m / 10) (by omega)
      rw [natDig_ge h, e]
      exact ⟨c, _, rfl, hc⟩
theorem numS_dig {i : Nat} (h : i ≤ 1048576) : numS (digS (i : Int)) = ((i : Int), true) := by
  obtain ⟨c, r, e, hc⟩ := natDig_head i
  have hd : (digS (i : Int)).data.toList = natDig i := by rw [digS_nat]
  have hsz : (digS (i : Int)).size = (natDig i).length := by rw [← hd]; rfl
  have hl := natDig_len 6 i (by have : (10 : Nat) ^ (6 + 1) = 10000000 := rfl; omega)
  have hpos : 1 ≤ (natDig i).length := by rw [e]; simp
  have hne : sEq (digS (i : Int)) ByteArray.empty = false := by
    rw [Bool.eq_false_iff]; intro h
    have := sEq_iff.1 h
    rw [this] at hsz
    have h0 : ByteArray.empty.size = 0 := rfl
    omega
  have hb : ((((ByteArray.data (digS (i : Int))).getD 0 0).toNat : Int) == (45 : Int)) = false := by
    have : (ByteArray.data (digS (i : Int))).getD 0 0 = c := by
      rw [digS_nat, e]; rfl
    rw [this, beq_eq_false_iff_ne]; omega
  have hT : numT (digS (i : Int)) = digS (i : Int) := by unfold numT; rw [hne, hb]; rfl
  have h13 : decide (((digS (i : Int)).size : Int) > 13) = false := decide_eq_false (by omega)
  have hin : inR (i : Int) (-1000000000000) 1000000000000 = true := inR_iff.2 (by omega)
  unfold numS
  rw [hT, hne, h13, hd, fold_natDig i (by omega)]
  simp only [cond_false, Sum.elim_inr, numEnd, Int.lt_irrefl, decide_false]
  rw [hin, sEq_self]
  rfl
theorem natS_dig {i : Nat} (h : i ≤ 1048576) : natS (digS (i : Int)) = ((i : Int), true) := by
  unfold natS; rw [numS_dig h]
  simp only [cond_true]
  rw [decide_eq_true (show (i : Int) ≥ 0 by omega)]

theorem size_zero {s : ByteArray} (h : s.size = 0) : s = ByteArray.empty := ba_ext (by rw [List.eq_nil_of_length_eq_zero (show s.data.toList.length = 0 from h)]; rfl)

/-! ### kids -/
theorem firstN_eq {p : Nat → Bool} {i d : Nat} (hi : i < d) (hp : p i = true) (hall : ∀ k, k < i → p k = false) : firstN p 0 d = some i := by
  cases h : firstN p 0 d with
  | none => have := firstN_none h i (by omega) (by omega); rw [hp] at this; cases this
  | some k =>
    obtain ⟨_, h2, h3, h4⟩ := firstN_some h
    rcases Nat.lt_trichotomy k i with h5 | h5 | h5
    · have := hall k h5; rw [h3] at this; cases this
    · rw [h5]
    · have := h4 i (by omega) h5; rw [hp] at this; cases this
theorem firstN_cut {p : Nat → Bool} {n m : Nat} : cond (decide (plc (firstN p 0 n) ≥ (m : Int))) (-1 : Int) (plc (firstN p 0 n)) = plc (firstN p 0 (min n m)) := by
  cases h : firstN p 0 n with
  | none =>
    have : firstN p 0 (min n m) = none := by
      cases h2 : firstN p 0 (min n m) with
      | none => rfl
      | some k =>
        obtain ⟨_, h3, h4, _⟩ := firstN_some h2
        have := firstN_none h k (by omega) (by omega)
        rw [h4] at this; cases this
    rw [this]
    cases decide (plc none ≥ (m : Int)) <;> rfl
  | some i =>
    obtain ⟨_, h3, h4, h5⟩ := firstN_some h
    by_cases hm : i < m
    · rw [firstN_eq (show i < min n m by omega) h4 fun k hk => h5 k (by omega) hk, decide_eq_false (show ¬ (plc (some i) ≥ (m : Int)) by show ¬ ((i : Int) ≥ (m : Int)); omega)]
      rfl
    · have : firstN p 0 (min n m) = none := by
        cases h2 : firstN p 0 (min n m) with
        | none => rfl
        | some k =>
          obtain ⟨_, h6, h7, _⟩ := firstN_some h2
          have := h5 k (by omega) (by omega)
          rw [h7] at this; cases this
      rw [this, decide_eq_true (show plc (some i) ≥ (m : Int) by show (i : Int) ≥ (m : Int); omega)]
      rfl
theorem natS_first {s : ByteArray} {n : Nat} (hn : n ≤ 1048576) : cond (!((natS s).2)) (-1 : Int) (cond (decide ((natS s).1 ≥ (n : Int))) (-1 : Int) (natS s).1) = plc (firstN (fun j => sEq (digS (j : Int)) s) 0 n) := by
  cases h : firstN (fun j => sEq (digS (j : Int)) s) 0 n with
  | some i =>
    obtain ⟨_, h3, h4, _⟩ := firstN_some h
    have e := sEq_iff.1 h4
    have : natS s = ((i : Int), true) := by rw [← e]; exact natS_dig (by omega)
    rw [this]
    simp only [Bool.not_true, cond_false]
    rw [decide_eq_false (show ¬ ((i : Int) ≥ (n : Int)) by omega)]
    rfl
  | none =>
    have hno := firstN_none h
    show _ = (-1 : Int)
    cases h1 : (natS s).2
    · rfl
    simp only [Bool.not_true, cond_false]
    unfold natS at h1 ⊢
    cases h2 : (numS s).2
    · rw [h2] at h1; cases h1
    · rw [h2] at h1
      simp only [cond_true] at h1 ⊢
      have h3 : (numS s).1 ≥ 0 := of_decide_eq_true h1
      have h4 := numS_ok h2
      by_cases h5 : (numS s).1 ≥ (n : Int)
      · rw [decide_eq_true h5]; rfl
      · obtain ⟨k, hk⟩ := Int.eq_ofNat_of_zero_le h3
        have := hno k (by omega) (by omega)
        rw [hk] at h4
        rw [h4, sEq_self] at this
        cases this
def keyAt (t : NodeT) (s : ByteArray) : Int := cond (t.kind == (5 : Int)) (plc (firstN (fun j => sEq (atI (t := .str) t.keys j) s) 0 (min t.keys.length t.kids.length))) (-1)
def kidAt (t : NodeT) (s : ByteArray) : Int := cond (t.kind == (5 : Int)) (keyAt t s) (cond (t.kind == (4 : Int)) (plc (firstN (fun j => sEq (digS (j : Int)) s) 0 t.kids.length)) (-1))
theorem plc_bd {p : Nat → Bool} {n : Nat} : -1 ≤ plc (firstN p 0 n) ∧ plc (firstN p 0 n) < (n : Int) ∨ plc (firstN p 0 n) = -1 := by
  cases h : firstN p 0 n with
  | none => exact .inr rfl
  | some i =>
    obtain ⟨_, h2, _⟩ := firstN_some h
    exact .inl (by show -1 ≤ (i : Int) ∧ (i : Int) < n; omega)
theorem kidAt_lt {t : NodeT} {s : ByteArray} (h : ¬ kidAt t s < 0) : kidAt t s < (t.kids.length : Int) := by
  revert h
  unfold kidAt keyAt
  cases t.kind == (5 : Int)
  · cases t.kind == (4 : Int)
    · intro h; exact (h (by simp only [cond_false]; omega)).elim
    · intro h
      rcases plc_bd (p := fun j => sEq (digS (j : Int)) s) (n := t.kids.length) with h1 | h1
      · exact h1.2
      · exact (h (by simp only [cond_true, cond_false]; omega)).elim
  · intro h
    rcases plc_bd (p := fun j => sEq (atI (t := .str) t.keys j) s) (n := min t.keys.length t.kids.length) with h1 | h1
    · simp only [cond_true]; omega
    · exact (h (by simp only [cond_true]; omega)).elim
theorem idxS_keyAt {t : NodeT} {s : ByteArray} (hk : (t.kind == (5 : Int)) = true) : cond (decide (idxS t.keys s ≥ (t.kids.length : Int))) (-1 : Int) (idxS t.keys s) = keyAt t s := by
  unfold keyAt idxS findI
  rw [hk, firstN_cut]
  simp only [cond_true]
  congr 2
  funext j
  exact sEq_comm _ _

/-! ### down a way -/
theorem szN_kid {t x : NodeT} (h : x ∈ t.kids) : szN_node x ≤ szN_node t := by
  rw [szN_node_def t]
  have h1 := sum_le szN_node h
  have : szL szN_node t.kids = t.kids.length + (t.kids.map szN_node).sum := rfl
  omega
theorem sm_kid {t x : NodeT} (hs : sm_node t = true) (h : x ∈ t.kids) : sm_node x = true := by
  rw [sm_node_def] at hs
  simp only [Bool.and_eq_true] at hs
  exact List.all_eq_true.1 (smL_all hs.2.2.2.2) x h
def atStep (p : ByteArray) (t : NodeT) : Unit ⊕ NodeT := cond (decide (kidAt t p < (0 : Int))) (.inl ()) (.inr (atI (t := .node) t.kids (Int.toNat (kidAt t p))))
def noNode : NodeT := ⟨(0 : Int), (0 : Int), ByteArray.empty, ([] : List ByteArray), ([] : List NodeT)⟩
def atPtr (t : NodeT) (path : List ByteArray) : NodeT × Bool := Sum.elim (fun _ => (noNode, false)) (fun t => (t, true)) (foldE atStep path t)
theorem kidAt_mem {t : NodeT} {p : ByteArray} (h : ¬ kidAt t p < 0) : atI (t := .node) t.kids (Int.toNat (kidAt t p)) ∈ t.kids := by
  have := kidAt_lt h
  exact List.mem_of_getElem? (atI_lt (t := .node) (xs := t.kids) (i := Int.toNat (kidAt t p)) (by omega))
theorem atStep_in {p : ByteArray} {t t' : NodeT} (h : atStep p t = .inr t') : t' ∈ t.kids := by
  unfold atStep at h
  by_cases hk : kidAt t p < 0
  · rw [decide_eq_true hk] at h; cases h
  · rw [decide_eq_false hk] at h
    cases h
    exact kidAt_mem hk
theorem foldE_at {Q : NodeT → Prop} (hQ : ∀ t x, Q t → x ∈ t.kids → Q x) : ∀ (path : List ByteArray) (t t' : NodeT), Q t → foldE atStep path t = .inr t' → Q t'
  | [], t, t', h, e => by cases e; exact h
  | p :: r, t, t', h, e => by
    simp only [foldE] at e
    cases hs : atStep p t with
    | inl _ => rw [hs] at e; cases e
    | inr x =>
      rw [hs] at e
      exact foldE_at hQ r x t' (hQ t x h (atStep_in hs)) e
theorem atPtr_sm {t : NodeT} {path : List ByteArray} (h : sm_node t = true) : sm_node (atPtr t path).1 = true := by
  unfold atPtr
  cases e : foldE atStep path t with
  | inl _ => show sm_node noNode = true; decide
  | inr x => exact foldE_at (Q := fun t => sm_node t = true) (fun _ _ h hx => sm_kid h hx) path t x h e
theorem atPtr_sz (t : NodeT) (path : List ByteArray) : szN_node (atPtr t path).1 ≤ szN_node t := by
  unfold atPtr
  cases e : foldE atStep path t with
  | inl _ => exact Nat.zero_le _
  | inr x => exact foldE_at (Q := fun y => szN_node y ≤ szN_node t) (fun _ _ h hx => Nat.le_trans (szN_kid hx) h) path t x (Nat.le_refl _) e
end Go.Gm

/- Plain functions: all ways into a tree. -/
namespace Go.Gm
open Go

def wayAt (kind : Int) (keys : List ByteArray) (j : Nat) : ByteArray := cond (kind == (5 : Int)) (cond (decide ((j : Int) < (keys.length : Int))) (atI (t := .str) keys j) (digS (j : Int))) (digS (j : Int))
mutual
def allPtrs : NodeT → List (List ByteArray)
  | ⟨kind, _, _, keys, kids⟩ => [] :: allPA kind keys 0 kids
def allPA (kind : Int) (keys : List ByteArray) : Nat → List NodeT → List (List ByteArray)
  | _, [] => []
  | j, x :: r => (allPtrs x).map (fun p => wayAt kind keys j :: p) ++ allPA kind keys (j + 1) r
end
theorem allPtrs_def (x : NodeT) : allPtrs x = [] :: allPA x.kind x.keys 0 x.kids := by cases x; rw [allPtrs]
theorem allPA_len (kind : Int) (keys : List ByteArray) : ∀ (r : List NodeT) (j : Nat), (∀ x ∈ r, (allPtrs x).length = nd_node x) → (allPA kind keys j r).length = ndL nd_node r
  | [], _, _ => by simp [allPA, ndL]
  | x :: r, j, h => by
    rw [allPA, List.length_append, List.length_map, h x (by simp), allPA_len kind keys r (j + 1) fun y hy => h y (by simp [hy])]
    simp [ndL]
theorem allPtrs_len (x : NodeT) : (allPtrs x).length = nd_node x := by
  rw [allPtrs_def, nd_node_def, List.length_cons, allPA_len _ _ _ _ fun y _hy => allPtrs_len y]; omega
termination_by nd_node x
decreasing_by exact nd_node_kid _hy
theorem nd_sz (x : NodeT) : nd_node x ≤ szN_node x + 1 := by
  rw [nd_node_def, szN_node_def]
  have h : ∀ l : List NodeT, (∀ y ∈ l, nd_node y ≤ szN_node y + 1) → ndL nd_node l ≤ szL szN_node l := by
    intro l
    induction l with
    | nil => intro _; simp [ndL]
    | cons y r ih =>
      intro h
      have h1 := h y (by simp)
      have h2 := ih fun z hz => h z (by simp [hz])
      have e1 : ndL nd_node (y :: r) = nd_node y + ndL nd_node r := by simp [ndL]
      have e2 : szL szN_node (y :: r) = 1 + szN_node y + szL szN_node r := by simp [szL]; omega
      omega
  have := h x.kids fun y _hy => nd_sz y
  omega
termination_by nd_node x
decreasing_by exact nd_node_kid _hy
/-- What is said of each way: how long it is, and that its parts are small. -/
theorem allPA_all {Q : List ByteArray → Prop} (kind : Int) (keys : List ByteArray) : ∀ (r : List NodeT) (j : Nat), (∀ i x, r[i]? = some x → ∀ p ∈ allPtrs x, Q (wayAt kind keys (j + i) :: p)) → ∀ p ∈ allPA kind keys j r, Q p
  | [], _, _, p, hp => by simp [allPA] at hp
  | x :: r, j, h, p, hp => by
    rw [allPA] at hp
    rcases List.mem_append.1 hp with hp | hp
    · obtain ⟨q, hq, rfl⟩ := List.mem_map.1 hp
      exact h 0 x rfl q hq
    · exact allPA_all kind keys r (j + 1) (fun i y hy q hq => by have := h (i + 1) y hy q hq; rwa [show j + (i + 1) = j + 1 + i by omega] at this) p hp
theorem allPtrs_way (x : NodeT) : ∀ p ∈ allPtrs x, p.length + 1 ≤ nd_node x := by
  rw [allPtrs_def, nd_node_def]
  intro p hp
  rcases List.mem_cons.1 hp with rfl | hp
  · simp
  · refine allPA_all (Q := fun p => p.length + 1 ≤ 1 + ndL nd_node x.kids) _ _ _ _ (fun i y hy q hq => ?_) p hp
    have _hy : y ∈ x.kids := List.mem_of_getElem? hy
    have h1 := allPtrs_way y q hq
    have h2 := ndL_mem (f := nd_node) _hy
    simp only [List.length_cons]; omega
termination_by nd_node x
decreasing_by exact nd_node_kid _hy
theorem allPtrs_parts (x : NodeT) (hs : sm_node x = true) : ∀ p ∈ allPtrs x, p.all smStr = true := by
  rw [allPtrs_def]
  have hs' := hs
  rw [sm_node_def] at hs'
  simp only [Bool.and_eq_true] at hs'
  obtain ⟨_, _, _, hke, hki⟩ := hs'
  intro p hp
  rcases List.mem_cons.1 hp with rfl | hp
  · rfl
  · refine allPA_all (Q := fun p => p.all smStr = true) _ _ _ _ (fun i y hy q hq => ?_) p hp
    have _hy : y ∈ x.kids := List.mem_of_getElem? hy
    have h1 := allPtrs_parts y (sm_kid hs _hy) q hq
    rw [List.all_cons, h1, Bool.and_true]
    have hi := lt_of_get hy
    have nki := smL_len hki
    have hd : smStr (digS ((0 + i : Nat) : Int)) = true := by
      have := digS_size (n := ((0 + i : Nat) : Int)) (okI_of (by omega) (by omega))
      exact smStr_of (by omega)
    unfold wayAt
    cases x.kind == (5 : Int)
    · exact hd
    by_cases hl : ((0 + i : Nat) : Int) < (x.keys.length : Int)
    · rw [decide_eq_true hl]
      exact List.all_eq_true.1 (smL_all hke) _ (List.mem_of_getElem? (atI_lt (t := .str) (by omega)))
    · rw [decide_eq_false hl]; exact hd
termination_by nd_node x
decreasing_by exact nd_node_kid _hy

def smSS (xs : List (List ByteArray)) : Bool := Nat.ble xs.length 1048577 && xs.all (smL smStr)
def gPt (t : NodeT) : Bool := sm_node t && Nat.ble (nd_node t) 1048577
theorem gPt_kid {t x : NodeT} (h : gPt t = true) (hx : x ∈ t.kids) : gPt x = true := by
  simp only [gPt, Bool.and_eq_true] at h ⊢
  have := bleN h.2
  have := nd_node_kid hx
  exact ⟨sm_kid h.1 hx, Nat.ble_eq_true_of_le (by omega)⟩
theorem allPtrs_sm {t : NodeT} (h : gPt t = true) : smSS (allPtrs t) = true := by
  simp only [gPt, Bool.and_eq_true] at h
  have hn := bleN h.2
  unfold smSS
  rw [allPtrs_len, h.2, Bool.true_and, List.all_eq_true]
  intro p hp
  have h1 := allPtrs_way t p hp
  have h2 := allPtrs_parts t h.1 p hp
  unfold smL
  rw [Nat.ble_eq_true_of_le (by omega : p.length ≤ 1048576), h2]; rfl

/-- The loop over the kids. -/
theorem loop_ptr {R : Type} {kids : List NodeT} {kind : Int} {keys : List ByteArray} {B : Nat} {F : Nat → Nat → List (List ByteArray) → Option R} {good : List (List ByteArray) → Option R}
    (hs : ∀ m (j : Nat) out x, kids[j]? = some x → out.length + (allPtrs x).length ≤ B → F (m + 1) j out = F m (j + 1) (out ++ (allPtrs x).map fun p => wayAt kind keys j :: p)) (he : ∀ m out, F (m + 1) kids.length out = good out) :
    ∀ (d j m : Nat) (out : List (List ByteArray)), j + d = kids.length → d < m → out.length + (allPA kind keys j (kids.drop j)).length ≤ B → F m j out = good (out ++ allPA kind keys j (kids.drop j)) := by
  intro d
  induction d with
  | zero =>
    intro j m out hj hm _
    obtain ⟨m, rfl⟩ : ∃ m', m = m' + 1 := ⟨m - 1, by omega⟩
    have : j = kids.length := by omega
    subst this
    rw [he, List.drop_length, allPA, List.append_nil]
  | succ d ih =>
    intro j m out hj hm hB
    obtain ⟨m, rfl⟩ : ∃ m', m = m' + 1 := ⟨m - 1, by omega⟩
    obtain ⟨x, hx, hd⟩ := drop_get (show j < kids.length by omega)
    rw [hd, allPA, List.length_append, List.length_map] at hB
    rw [hs m j out x hx (by omega), ih (j + 1) m _ (by omega) (by omega) (by rw [List.length_append, List.length_map]; omega), hd, allPA, List.append_assoc]

/-! ### marks of lists of texts -/
noncomputable def mk_strs (k : Int) (x : List ByteArray) : List ByteArray × Int := mkL mk_str k x
def ct_strs (x : List ByteArray) : Nat := ctL ct_str x
theorem mk_strs_ct (k : Int) (x : List ByteArray) : (mk_strs k x).2 = k + (ct_strs x : Nat) := mkL_str_ct k x
theorem mk_strs_idem (k : Int) (x : List ByteArray) : mk_strs k (mk_strs k x).1 = mk_strs k x := mkL_idem mk_str_idem k x
theorem mkL_strs_ct (k : Int) (xs : List (List ByteArray)) : (mkL mk_strs k xs).2 = k + (ctL ct_strs xs : Nat) := mkL_ct mk_strs_ct k xs
theorem ctL_mk_strs (k : Int) (xs : List (List ByteArray)) : ctL ct_strs (mkL mk_strs k xs).1 = ctL ct_strs xs := by
  have h1 := mkL_strs_ct k (mkL mk_strs k xs).1
  rw [mkL_idem mk_strs_idem, mkL_strs_ct] at h1; omega
theorem ctL_strs_sm {xs : List (List ByteArray)} (h : smSS xs = true) : ctL ct_strs xs ≤ 1048577 * 1048576 := by
  simp only [smSS, Bool.and_eq_true] at h
  refine Nat.le_trans (ctL_bd (B := 1048576) (fun x hx => ?_) xs h.2) (Nat.mul_le_mul_right _ (bleN h.1))
  unfold ct_strs
  rw [ctL_str]; exact smL_len hx
def gSS (x y : List (List ByteArray)) : Bool := smSS x && smSS y
def gmkSS (xs : List (List ByteArray)) (k : Int) : Bool := Nat.ble xs.length 1048577 && gmk k (ctL ct_strs xs)
end Go.Gm

/- Plain functions: cut out of a tree. -/
namespace Go.Gm
open Go

theorem szL_append {α : Type} (f : α → Nat) (xs ys : List α) : szL f (xs ++ ys) = szL f xs + szL f ys := by
  simp only [szL, List.length_append, List.map_append, List.sum_append]; omega
theorem szL_cons {α : Type} (f : α → Nat) (x : α) (ys : List α) : szL f (x :: ys) = 1 + f x + szL f ys := by
  simp only [szL, List.length_cons, List.map_cons, List.sum_cons]; omega
theorem split_at {α : Type} {xs : List α} {i : Nat} {x : α} (h : xs[i]? = some x) : xs = xs.take i ++ x :: xs.drop (i + 1) := by
  obtain ⟨y, hy, hd⟩ := drop_get (lt_of_get h)
  rw [h] at hy; cases hy
  conv => lhs; rw [← List.take_append_drop i xs, hd]
theorem szL_set {α : Type} {f : α → Nat} {xs : List α} {i : Nat} {x y : α} (h : xs[i]? = some x) (hy : f y ≤ f x) : szL f (xs.set i y) ≤ szL f xs := by
  rw [List.set_eq_take_append_cons_drop, if_pos (lt_of_get h)]
  conv => rhs; rw [split_at h]
  rw [szL_append, szL_append, szL_cons, szL_cons]; omega
theorem szL_del {α : Type} (f : α → Nat) (xs : List α) (i : Nat) : szL f (delL xs (i : Int) ((i + 1 : Nat) : Int)) ≤ szL f xs := by
  simp only [delL, Int.toNat_natCast]
  by_cases h : i < xs.length
  · conv => rhs; rw [split_at (List.getElem?_eq_getElem h)]
    rw [szL_append, szL_append, szL_cons]; omega
  · rw [List.drop_eq_nil_of_le (by omega), List.append_nil, List.take_of_length_le (by omega)]
    exact Nat.le_refl _
theorem smL_del {α : Type} {f : α → Bool} {xs : List α} (h : smL f xs = true) (i : Nat) : smL f (delL xs (i : Int) ((i + 1 : Nat) : Int)) = true := by
  simp only [delL, Int.toNat_natCast]
  refine smL_sub h (fun x hx => ?_) (by simp; omega)
  rcases List.mem_append.1 hx with hx | hx
  · exact List.mem_of_mem_take hx
  · exact List.mem_of_mem_drop hx
theorem smL_set {α : Type} {f : α → Bool} {xs : List α} (h : smL f xs = true) (i : Nat) {y : α} (hy : f y = true) : smL f (xs.set i y) = true := by
  simp only [smL, Bool.and_eq_true] at h ⊢
  refine ⟨by rw [List.length_set]; exact h.1, List.all_eq_true.2 fun x hx => ?_⟩
  rcases List.mem_or_eq_of_mem_set hx with hm | rfl
  · exact List.all_eq_true.1 h.2 x hm
  · exact hy

def isMapN (t : NodeT) : Bool := cond (t.kind == (5 : Int)) ((t.keys.length : Int) == (t.kids.length : Int)) false
/-- A map without a key's kid. -/
def cutKey (t : NodeT) (k : Int) : NodeT := ⟨t.kind, t.n, t.s, delL t.keys k (k + 1), delL t.kids k (k + 1)⟩
/-- A list without a kid. -/
def cutKid (t : NodeT) (k : Int) : NodeT := ⟨t.kind, t.n, t.s, t.keys, delL t.kids k (k + 1)⟩
def setKid (t : NodeT) (k : Int) (x : NodeT) : NodeT := ⟨t.kind, t.n, t.s, t.keys, t.kids.set (Int.toNat k) x⟩
def unset (t : NodeT) (s : ByteArray) : NodeT := cond (isMapN t) (cond (decide (keyAt t s < (0 : Int))) t (cutKey t (keyAt t s))) t
theorem isMapN_eq {t : NodeT} (h : isMapN t = true) : (t.kind == (5 : Int)) = true ∧ t.keys.length = t.kids.length := by
  unfold isMapN at h
  cases h5 : t.kind == (5 : Int)
  · rw [h5] at h; cases h
  · rw [h5] at h
    have := eq_of_beq (show ((t.keys.length : Int) == (t.kids.length : Int)) = true from h)
    exact ⟨rfl, by omega⟩
theorem idxS_map {t : NodeT} (h : isMapN t = true) (s : ByteArray) : idxS t.keys s = keyAt t s := by
  obtain ⟨h5, hl⟩ := isMapN_eq h
  unfold keyAt idxS findI
  rw [h5, hl, Nat.min_self, ← hl]
  simp only [cond_true]
  congr 2
  funext j
  exact sEq_comm _ _
theorem keyAt_bd (t : NodeT) (s : ByteArray) (h : ¬ keyAt t s < 0) : ∃ i : Nat, keyAt t s = (i : Int) ∧ i < t.keys.length ∧ i < t.kids.length := by
  revert h
  unfold keyAt
  cases t.kind == (5 : Int)
  · intro h; exact (h (by simp only [cond_false]; omega)).elim
  · simp only [cond_true]
    intro h
    rcases plc_bd (p := fun j => sEq (atI (t := .str) t.keys j) s) (n := min t.keys.length t.kids.length) with h1 | h1
    · exact ⟨Int.toNat (plc (firstN (fun j => sEq (atI (t := .str) t.keys j) s) 0 (min t.keys.length t.kids.length))), by omega, by omega, by omega⟩
    · omega
theorem kidAt_bd {t : NodeT} {s : ByteArray} (h : ¬ kidAt t s < 0) : ∃ i : Nat, kidAt t s = (i : Int) ∧ i < t.kids.length := by
  have := kidAt_lt h
  exact ⟨Int.toNat (kidAt t s), by omega, by omega⟩
def cutLast (t : NodeT) (s : ByteArray) : NodeT × Bool := cond (decide (kidAt t s < (0 : Int))) (noNode, false) (cond (t.kind == (5 : Int)) (unset t s, true) (cutKid t (kidAt t s), true))
def cutIn : NodeT → List ByteArray → NodeT × Bool
  | _, [] => (noNode, false)
  | t, [p] => cutLast t p
  | t, p :: q :: r => cond (decide (kidAt t p < (0 : Int))) (noNode, false)
      (cond (!((cutIn (atI (t := .node) t.kids (Int.toNat (kidAt t p))) (q :: r)).2)) (noNode, false) (setKid t (kidAt t p) (cutIn (atI (t := .node) t.kids (Int.toNat (kidAt t p))) (q :: r)).1, true))
def cutAt (t : NodeT) (path : List ByteArray) : NodeT × Bool := cond (!((cutIn t path).2)) (t, false) ((cutIn t path).1, true)
def cutPtr (t : NodeT) (path : List ByteArray) : NodeT × Bool := cond ((path.length : Int) == (0 : Int)) (t, false) (cutAt t path)
theorem cutPtr_cons (t : NodeT) (p : ByteArray) (r : List ByteArray) : cutPtr t (p :: r) = cutAt t (p :: r) := by
  have : (((p :: r).length : Int) == (0 : Int)) = false := by rw [beq_eq_false_iff_ne, List.length_cons]; omega
  unfold cutPtr; rw [this]; rfl
/-- What the specification does, a step deeper. -/
theorem cutPtr_deep (t : NodeT) (p q : ByteArray) (r : List ByteArray) (h : ¬ kidAt t p < 0) :
    cutPtr t (p :: q :: r) = cond ((cutPtr (atI (t := .node) t.kids (Int.toNat (kidAt t p))) (q :: r)).2) (setKid t (kidAt t p) (cutPtr (atI (t := .node) t.kids (Int.toNat (kidAt t p))) (q :: r)).1, (cutPtr (atI (t := .node) t.kids (Int.toNat (kidAt t p))) (q :: r)).2) (t, (cutPtr (atI (t := .node) t.kids (Int.toNat (kidAt t p))) (q :: r)).2) := by
  rw [cutPtr_cons, cutPtr_cons]
  unfold cutAt
  rw [cutIn, decide_eq_false h]
  simp only [cond_false]
  cases (cutIn (atI (t := .node) t.kids (Int.toNat (kidAt t p))) (q :: r)).2 <;> rfl
theorem cutPtr_one (t : NodeT) (p : ByteArray) (h : ¬ kidAt t p < 0) : cutPtr t [p] = cond (t.kind == (5 : Int)) (unset t p, true) (cutKid t (kidAt t p), true) := by
  rw [cutPtr_cons]
  unfold cutAt
  rw [cutIn, cutLast, decide_eq_false h]
  simp only [cond_false]
  cases t.kind == (5 : Int) <;> rfl
theorem cutPtr_no (t : NodeT) (p : ByteArray) (r : List ByteArray) (h : kidAt t p < 0) : cutPtr t (p :: r) = (t, false) := by
  rw [cutPtr_cons]
  unfold cutAt
  cases r with
  | nil => rw [cutIn, cutLast, decide_eq_true h]; rfl
  | cons q r => rw [cutIn, decide_eq_true h]; rfl

/-! ### small -/
theorem sm_parts {t : NodeT} (h : sm_node t = true) : okI t.kind = true ∧ okI t.n = true ∧ smStr t.s = true ∧ smL smStr t.keys = true ∧ smL sm_node t.kids = true := by
  rw [sm_node_def] at h
  simpa only [Bool.and_eq_true] using h
theorem cutKey_ok {t : NodeT} {i : Nat} (h : sm_node t = true) : sm_node (cutKey t (i : Int)) = true ∧ szN_node (cutKey t (i : Int)) ≤ szN_node t := by
  obtain ⟨h1, h2, h3, h4, h5⟩ := sm_parts h
  constructor
  · rw [sm_node_def]
    simp only [Bool.and_eq_true]
    exact ⟨h1, h2, h3, smL_del h4 i, smL_del h5 i⟩
  · rw [szN_node_def, szN_node_def t]
    have e1 := szL_del ByteArray.size t.keys i
    have e2 := szL_del szN_node t.kids i
    show t.s.size + szL ByteArray.size (delL t.keys (i : Int) ((i + 1 : Nat) : Int)) + szL szN_node (delL t.kids (i : Int) ((i + 1 : Nat) : Int)) ≤ _
    omega
theorem cutKid_ok {t : NodeT} {i : Nat} (h : sm_node t = true) : sm_node (cutKid t (i : Int)) = true ∧ szN_node (cutKid t (i : Int)) ≤ szN_node t := by
  obtain ⟨h1, h2, h3, h4, h5⟩ := sm_parts h
  constructor
  · rw [sm_node_def]
    simp only [Bool.and_eq_true]
    exact ⟨h1, h2, h3, h4, smL_del h5 i⟩
  · rw [szN_node_def, szN_node_def t]
    have e2 := szL_del szN_node t.kids i
    show t.s.size + szL ByteArray.size t.keys + szL szN_node (delL t.kids (i : Int) ((i + 1 : Nat) : Int)) ≤ _
    omega
theorem setKid_ok {t x y : NodeT} {i : Nat} (h : sm_node t = true) (hx : t.kids[i]? = some x) (hy : sm_node y = true) (hz : szN_node y ≤ szN_node x) : sm_node (setKid t (i : Int) y) = true ∧ szN_node (setKid t (i : Int) y) ≤ szN_node t := by
  obtain ⟨h1, h2, h3, h4, h5⟩ := sm_parts h
  constructor
  · rw [sm_node_def]
    simp only [Bool.and_eq_true]
    exact ⟨h1, h2, h3, h4, smL_set h5 _ hy⟩
  · rw [szN_node_def, szN_node_def t]
    have e2 := szL_set (f := szN_node) hx hz
    show t.s.size + szL ByteArray.size t.keys + szL szN_node (t.kids.set (Int.toNat (i : Int)) y) ≤ _
    rw [Int.toNat_natCast]
    omega
theorem unset_ok {t : NodeT} {s : ByteArray} (h : sm_node t = true) : sm_node (unset t s) = true ∧ szN_node (unset t s) ≤ szN_node t := by
  unfold unset
  cases isMapN t
  · exact ⟨h, Nat.le_refl _⟩
  by_cases hk : keyAt t s < 0
  · rw [decide_eq_true hk]; exact ⟨h, Nat.le_refl _⟩
  · rw [decide_eq_false hk]
    obtain ⟨i, e, _⟩ := keyAt_bd t s hk
    simp only [cond_true, cond_false]
    rw [e]; exact cutKey_ok h
theorem noNode_ok (t : NodeT) : sm_node noNode = true ∧ szN_node noNode ≤ szN_node t := ⟨by decide, Nat.zero_le _⟩
theorem cutLast_ok {t : NodeT} {s : ByteArray} (h : sm_node t = true) : sm_node (cutLast t s).1 = true ∧ szN_node (cutLast t s).1 ≤ szN_node t := by
  unfold cutLast
  by_cases hk : kidAt t s < 0
  · rw [decide_eq_true hk]; exact noNode_ok t
  · rw [decide_eq_false hk]
    obtain ⟨i, e, _⟩ := kidAt_bd hk
    cases t.kind == (5 : Int)
    · simp only [cond_false]
      rw [e]; exact cutKid_ok h
    · exact unset_ok h
theorem cutIn_ok : ∀ (path : List ByteArray) (t : NodeT), sm_node t = true → sm_node (cutIn t path).1 = true ∧ szN_node (cutIn t path).1 ≤ szN_node t
  | [], t, _ => noNode_ok t
  | [p], t, h => by rw [cutIn]; exact cutLast_ok h
  | p :: q :: r, t, h => by
    rw [cutIn]
    by_cases hk : kidAt t p < 0
    · rw [decide_eq_true hk]; exact noNode_ok t
    · rw [decide_eq_false hk]
      simp only [cond_false]
      obtain ⟨i, e, hi⟩ := kidAt_bd hk
      rw [e, Int.toNat_natCast]
      have hx := atI_lt (t := .node) hi
      have ih := cutIn_ok (q :: r) (atI (t := .node) t.kids i) (sm_kid h (List.mem_of_getElem? hx))
      cases (cutIn (atI (t := .node) t.kids i) (q :: r)).2
      · exact noNode_ok t
      · exact setKid_ok h hx ih.1 ih.2
theorem cutPtr_ok {t : NodeT} {path : List ByteArray} (h : sm_node t = true) : sm_node (cutPtr t path).1 = true ∧ szN_node (cutPtr t path).1 ≤ szN_node t := by
  have := cutIn_ok path t h
  unfold cutPtr cutAt
  cases (path.length : Int) == (0 : Int) <;> cases (cutIn t path).2 <;> first | exact this | exact ⟨h, Nat.le_refl _⟩
end Go.Gm
namespace Go.Gm
open Go
theorem limT {α : Type} {xs : List α} (h : xs.length ≤ 1048576) (i : Nat) : Nat.ble (0 + (xs.take i).length) LIM = true := Nat.ble_eq_true_of_le (by
  have : (LIM : Nat) = 4294967296 := rfl
  rw [List.length_take]; omega)
theorem limTD {α : Type} {xs : List α} (h : xs.length ≤ 1048576) (i j : Nat) : Nat.ble ((xs.take i).length + (xs.drop j).length) LIM = true := Nat.ble_eq_true_of_le (by
  have : (LIM : Nat) = 4294967296 := rfl
  rw [List.length_take, List.length_drop]; omega)
theorem unset_neg {t : NodeT} {s : ByteArray} (h : keyAt t s < 0) : unset t s = t := by
  unfold unset
  rw [decide_eq_true h]
  cases isMapN t <;> rfl
theorem unset_ne {t : NodeT} {s : ByteArray} (h : ((t.keys.length : Int) != (t.kids.length : Int)) = true) : unset t s = t := by
  unfold unset isMapN
  have : ((t.keys.length : Int) == (t.kids.length : Int)) = false := by simpa [bne] using h
  rw [this]
  cases t.kind == (5 : Int) <;> rfl
theorem unset_eq {t : NodeT} {s : ByteArray} (hk : ¬ keyAt t s < 0) (h : ((t.keys.length : Int) != (t.kids.length : Int)) = false) : unset t s = cutKey t (keyAt t s) := by
  have h1 : ((t.keys.length : Int) == (t.kids.length : Int)) = true := by simpa [bne] using h
  have h5 : (t.kind == (5 : Int)) = true := by
    cases h5 : t.kind == (5 : Int)
    · exact absurd (show keyAt t s < 0 by unfold keyAt; rw [h5]; simp only [cond_false]; omega) hk
    · rfl
  unfold unset isMapN
  rw [h1, h5, decide_eq_false hk]; rfl
def gW (t : NodeT) (path : List ByteArray) : Bool := sm_node t && (smL smStr path && !path.isEmpty)
end Go.Gm

/- The G-machine, part 4: an evaluator of translated code on typed values, and that it is sound. No conditions. -/
import Derived.Test.YtalnkjjnohgjkaaGm3
import Derived.Laws.Sem
import Derived.Laws.StructEq
import Derived.KernelRfl
import Derived.Lib.Bytealg
import Derived.Laws.Strings
import Derived.Laws.BitsLemmas
import Derived.DataReads
import Derived.ChangeArms
import Derived.ChangeShapes
import Derived.ChangeMaps5
import Derived.Carry
import Derived.ChangeCalls
import Derived.RowKit3
import Derived.Shelf.Strings.OnBuilder
import Derived.Laws.CopyRow
import Derived.Deep.RegionLaw
import Derived.Below
import Derived.Laws.Cover4
import Derived.Lib.AppendZerosOnto
import Derived.Lib.Overlaps
import Derived.Handed
namespace Go.Gm
open Go
variable {wl : World} {R : Type} {P : Program} {E : Env} {w0 w w' : World} {Mf : Nat → Prop} {g : Gh} {st : St} {a : Act}
theorem codeOk_mono {N M : Nat} {ps : List Nat} (hNM : N ≤ M) : ∀ {c : Code}, codeOk N ps c = true → codeOk M ps c = true := by
 have ops : ∀ {l : List Oper}, opsOk N ps l = true → opsOk M ps l = true := by
  intro l h
  simp only [opsOk, List.all_eq_true] at h ⊢
  intro o ho
  have := h o ho
  cases hd : o.dst with
  | none => rfl
  | some d =>
   rw [hd] at this
   simp only [Bool.and_eq_true] at this ⊢
   refine ⟨?_, this.2⟩
   have h1 := this.1
   rw [Nat.blt_eq] at h1 ⊢
   omega
 intro c
 induction c with
 | region id o d => exact ops
 | seq a b iha ihb => intro h; simp only [codeOk, Bool.and_eq_true] at h ⊢; exact ⟨iha h.1, ihb h.2⟩
 | cond x a b iha ihb => intro h; simp only [codeOk, Bool.and_eq_true] at h ⊢; exact ⟨iha h.1, ihb h.2⟩
 | block id c ih => intro h; simp only [codeOk] at h ⊢; exact ih h
 | loop c ih => intro h; simp only [codeOk] at h ⊢; exact ih h
 | _ => intro h; rfl
def resMode (own : Bool) (p : Bool) : Am := cond p .pmut (cond own .mov .ro)
theorem SvL.len : ∀ {l : List (Nat × Sv)} {us : List Value}, SvL w g st l us → us.length = l.length
 | [], [], _ => rfl
 | [], _ :: _, h => h.elim
 | _ :: _, [], h => h.elim
 | _ :: _, _ :: _, h => by simp [SvL.len h.2]
def readRes (tmps : Array Value) : ResultVar → Sem Value
 | .tmp t => pure (tmps.getD t undef)
 | .cell x t => do loadVar t (← asAddr (tmps.getD x undef))
theorem exitRes_sound (hE : E.Ok P) (I : Inv w0 Mf g st a w) {own : Bool} : ∀ {rvs : List ResultVar} {ps : List Bool} {Ts : List Nat} {k : List (Am × Nat × Sv) → Option R} {r : R}, exitRes E st own rvs ps Ts k = some r →
    ∃ l vs, k l = some r ∧ (rvs.mapM (readRes a.tmps)).run P w = .ok vs w ∧ SvL w g st (l.map (·.2)) vs ∧ l.map (·.1) = ps.map (resMode own)
 | [], [], [], k, r, h => ⟨[], [], h, by simp [Sem.run_pure], trivial, rfl⟩
 | .tmp t :: rvs, p :: ps, T :: Ts, k, r, h => by
  simp only [exitRes] at h
  obtain ⟨s, hs, h⟩ := bindS h
  obtain ⟨l, vs, h1, h2, h3, h4⟩ := exitRes_sound hE I h
  obtain ⟨u, hu, hr⟩ := I.slots t s hs
  refine ⟨_, u :: vs, h1, ?_, ⟨hr, h3⟩, by simp [h4, resMode]⟩
  have hu' : a.tmps.getD t undef = u := by simp [hu]
  simp only [List.mapM_cons, Sem.run_bind, readRes, Sem.run_pure, Result.andThen_ok, h2, hu']
 | .cell x T' :: rvs, false :: ps, _ :: Ts, k, r, h => by
  simp only [exitRes] at h
  split at h
  case h_2 => cases h
  rename_i b hs
  obtain ⟨y, hy, h⟩ := bindS h
  obtain ⟨t, ht, h⟩ := bindS h
  obtain ⟨hlen, h⟩ := condN h
  have hlen := beqN hlen
  obtain ⟨c, hc, h⟩ := bindS h
  obtain ⟨l, vs, h1, h2, h3, h4⟩ := exitRes_sound hE I h
  obtain ⟨u, hu, hr⟩ := I.slots x _ hs
  have hp : u = .pointer (some ⟨g.bx b, 0, none⟩) := hr.2.1
  subst hp
  obtain ⟨us, el, hb, hcs⟩ := I.boxes b y hy
  have hsz : us.size = y.cs.length := hcs.1
  have hex : us.extract 0 (0 + esz t) = us := by
   rw [Nat.zero_add, hlen, ← hsz]; simp
  obtain ⟨v, hv, hform⟩ := run_loadVar (P := P) (w := w) hE ht (off := 0) hb (by omega) (fun j v hj => by rw [hex] at hj; exact hcs.flat j v hj)
  rw [hex] at hform
  obtain ⟨v', hform', hcm⟩ := Form.of hc hcs
  have := hform.uniq hform'
  subst this
  refine ⟨_, v :: vs, h1, ?_, ⟨hcm, h3⟩, by simp [h4, resMode]⟩
  have hu' : a.tmps.getD x undef = .pointer (some ⟨g.bx b, 0, none⟩) := by simp [hu]
  simp only [List.mapM_cons, Sem.run_bind, readRes, hu', asAddr, Sem.run_pure, Result.andThen_ok, hv, h2]
 | [], [], _ :: _, k, r, h => by simp [exitRes] at h
 | [], _ :: _, _, k, r, h => by simp [exitRes] at h
 | .tmp _ :: _, [], _, k, r, h => by simp [exitRes] at h
 | .tmp _ :: _, _ :: _, [], k, r, h => by simp [exitRes] at h
 | .cell _ _ :: _, [], _, k, r, h => by simp [exitRes] at h
 | .cell _ _ :: _, true :: _, _, k, r, h => by simp [exitRes] at h
 | .cell _ _ :: _, false :: _, [], k, r, h => by simp [exitRes] at h
theorem run_results {fn : Func} {tmps : Array Value} {vs : List Value} (h : (fn.results.toList.mapM (readRes tmps)).run P w = .ok vs w) : (results fn tmps).run P w = .ok (packV vs) w := by
 have e : results fn tmps = (do let vs ← fn.results.mapM (readRes tmps); pure (if h : vs.size = 1 then vs[0] else .tuple vs)) := by
  unfold results
  congr
 rw [e, Array.mapM_eq_mapM_toList]
 simp only [Sem.run_bind, map_eq_pure_bind, bind_assoc, h, Result.andThen_ok, pure_bind, Sem.run_pure]
 cases vs with
 | nil => rfl
 | cons v vs =>
  cases vs with
  | nil => rfl
  | cons v' vs => simp [packV]
def isBack : Am → Bool | .mut | .pmut => true | _ => false
def backUs : List Am → List Value → List Value
 | m :: ms, u :: us => if isBack m then u :: backUs ms us else backUs ms us
 | _, _ => []
theorem backsOf_sound (I : Inv w0 Mf g st a w) : ∀ {ms : List Am} {us : List Value} {j : Nat} {k : List (Am × Nat × Sv) → Option R} {r : R}, ms.length = us.length → (∀ i ∈ stays j ms, ∀ n, i = j + n → a.tmps[i]? = us[n]?) → backsOf st j ms k = some r →
    ∃ l, k l = some r ∧ SvL w g st (l.map (·.2)) (backUs ms us) ∧ l.map (·.1) = ms.filter isBack
 | [], us, j, k, r, hl, hs, h => by
  cases us with
  | nil => exact ⟨[], h, trivial, rfl⟩
  | cons _ _ => simp at hl
 | m :: ms, us0, j, k, r, hl, hs, h => by
  cases us0 with
  | nil => simp at hl
  | cons u us =>
   have hl' : ms.length = us.length := by simpa using hl
   have skip : stays j (m :: ms) = stays (j + 1) ms → isBack m = false → backsOf st (j + 1) ms k = some r → ∃ l, k l = some r ∧ SvL w g st (l.map (·.2)) (backUs (m :: ms) (u :: us)) ∧ l.map (·.1) = (m :: ms).filter isBack := by
    intro e hb h
    obtain ⟨l, h1, h2, h3⟩ := backsOf_sound I hl' (fun i hi n hn => by
     have := hs i (by rw [e]; exact hi) (n + 1) (by omega)
     simpa using this) h
    exact ⟨l, h1, by simpa [backUs, hb] using h2, by simpa [hb] using h3⟩
   have take : stays j (m :: ms) = j :: stays (j + 1) ms → isBack m = true → ((aget st.slots j).bind fun s => backsOf st (j + 1) ms fun l => k ((m, 0, s) :: l)) = some r →
     ∃ l, k l = some r ∧ SvL w g st (l.map (·.2)) (backUs (m :: ms) (u :: us)) ∧ l.map (·.1) = (m :: ms).filter isBack := by
    intro e hb h
    obtain ⟨s, hslot, h⟩ := bindS h
    obtain ⟨l, h1, h2, h3⟩ := backsOf_sound I hl' (fun i hi n hn => by
     have := hs i (by rw [e]; exact List.mem_cons_of_mem _ hi) (n + 1) (by omega)
     simpa using this) h
    obtain ⟨v, hv, hr⟩ := I.slots j s hslot
    have hu := hs j (by rw [e]; simp) 0 (by omega)
    rw [hv] at hu
    have hvu : v = u := by simpa using hu
    subst hvu
    exact ⟨_, h1, by simpa [backUs, hb, SvL] using ⟨hr, h2⟩, by simp [hb, h3]⟩
   cases m with
   | ro => exact skip rfl rfl h
   | mov => exact skip rfl rfl h
   | pro => exact skip rfl rfl h
   | fn => exact skip rfl rfl h
   | skp => exact skip rfl rfl h
   | kp => exact skip rfl rfl h
   | «mut» => exact take rfl rfl h
   | pmut => exact take rfl rfl h
theorem ArgsOk.split {Pr : Nat → Prop} : ∀ {m1 m2 : List Am} {ds : List Dt} {us : List Value} {Fs : List (Nat → Prop)}, ArgsOk wl w Pr (m1 ++ m2) ds us Fs →
    ArgsOk wl w Pr m1 (ds.take m1.length) (us.take m1.length) (Fs.take m1.length) ∧ ArgsOk wl w Pr m2 (ds.drop m1.length) (us.drop m1.length) (Fs.drop m1.length)
 | [], m2, ds, us, Fs, h => ⟨by simpa using ArgsOk.nil, by simpa using h⟩
 | m :: m1, m2, _, _, _, h => by
  cases h with
  | cons h hs =>
   obtain ⟨h1, h2⟩ := ArgsOk.split hs
   exact ⟨.cons h h1, h2⟩
theorem ress_own {Pr : Nat → Prop} : ∀ {ps : List Bool} {ds : List Dt} {us : List Value} {Fs : List (Nat → Prop)}, ArgsOk wl w Pr (ps.map (resMode true)) ds us Fs → RessOk wl w true ps ds us Fs
 | [], _, _, _, h => by cases h; exact .nil
 | p :: ps, _, _, _, h => by
  cases h with
  | cons h hs =>
   rename_i d ds u us F Fs
   cases p with
   | true =>
    cases d with
    | clo _ _ => cases h
    | d t x => exact .ptr ⟨rfl, h⟩ (ress_own hs)
   | false =>
    cases d with
    | clo _ _ => cases h
    | d t x => exact .val (by simpa using (show ValOwn w F t x u from h)) (ress_own hs)
theorem ress_rd {Pr : Nat → Prop} : ∀ {ps : List Bool} {ds : List Dt} {us : List Value} {Fs : List (Nat → Prop)}, ps.all (fun p => !p) = true → ArgsOk wl w Pr (ps.map (resMode false)) ds us Fs → RessOk wl w false ps ds us (ps.map fun _ => Pr)
 | [], _, _, _, _, h => by cases h; exact .nil
 | p :: ps, _, _, _, hp, h => by
  simp only [List.all_cons, Bool.and_eq_true] at hp
  cases h with
  | cons h hs =>
   rename_i d ds u us F Fs
   cases p with
   | true => cases hp.1
   | false =>
    cases d with
    | clo _ _ => cases h
    | d t x => exact .val (by simpa using (show ValRd w Pr t x u from h)) (ress_rd hp.2 hs)
theorem backs_ok {Pr : Nat → Prop} : ∀ {ms : List Am} {ds0 ds : List Dt} {us : List Value} {Fs : List (Nat → Prop)}, ms.length = us.length → backsChk ms ds0 ds = true → ArgsOk wl w Pr (ms.filter isBack) ds (backUs ms us) Fs → BacksOk wl w ms ds0 us ds Fs
 | [], ds0, ds, us, Fs, hl, hc, h => by
  cases us with
  | cons _ _ => simp at hl
  | nil =>
   cases h
   cases ds0 with
   | nil => exact .nil
   | cons _ _ => simp [backsChk] at hc
 | m :: ms, ds0, ds, us0, Fs, hl, hc, h => by
  cases us0 with
  | nil => simp at hl
  | cons u us =>
   have hl' : ms.length = us.length := by simpa using hl
   cases m with
   | ro => cases ds0 with
    | nil => simp [backsChk] at hc
    | cons d0 ds0' => exact .skip trivial (backs_ok hl' (by simpa [backsChk] using hc) h)
   | mov => cases ds0 with
    | nil => simp [backsChk] at hc
    | cons d0 ds0' => exact .skip trivial (backs_ok hl' (by simpa [backsChk] using hc) h)
   | pro => cases ds0 with
    | nil => simp [backsChk] at hc
    | cons d0 ds0' => exact .skip trivial (backs_ok hl' (by simpa [backsChk] using hc) h)
   | fn => cases ds0 with
    | nil => simp [backsChk] at hc
    | cons d0 ds0' => exact .skip trivial (backs_ok hl' (by simpa [backsChk] using hc) h)
   | skp => cases ds0 with
    | nil => simp [backsChk] at hc
    | cons d0 ds0' => exact .skip trivial (backs_ok hl' (by simpa [backsChk] using hc) h)
   | kp => cases ds0 with
    | nil => simp [backsChk] at hc
    | cons d0 ds0' => exact .skip trivial (backs_ok hl' (by simpa [backsChk] using hc) h)
   | «mut» =>
    have h : ArgsOk wl w Pr (.mut :: ms.filter isBack) ds (u :: backUs ms us) Fs := h
    cases h with
    | cons h1 hs =>
     rename_i d ds F Fs
     cases d with
     | clo _ _ => cases h1
     | d t x =>
      obtain ⟨e, xs, heq, hO⟩ := h1
      cases heq
      cases ds0 with
      | nil => simp [backsChk] at hc
      | cons d0 ds0' => exact .mut hO (backs_ok hl' (by simpa [backsChk] using hc) hs)
   | pmut =>
    have h : ArgsOk wl w Pr (.pmut :: ms.filter isBack) ds (u :: backUs ms us) Fs := h
    cases h with
    | cons h1 hs =>
     rename_i d ds F Fs
     cases d with
     | clo _ _ => cases h1
     | d t x =>
      cases ds0 with
      | nil => simp [backsChk] at hc
      | cons d0 ds0' =>
       cases d0 with
       | clo _ _ => simp [backsChk] at hc
       | d t0 x0 =>
        simp only [backsChk, Bool.and_eq_true] at hc
        exact .pmut h1 (beqN hc.1) (backs_ok hl' hc.2 hs)
theorem Kept.mono {M N : Nat → Prop} (h : Kept w w' M) (hMN : ∀ k, M k → N k) : Kept w w' N :=
 ⟨h.os, h.tape, h.output, ⟨h.same.1, fun b hb hx => h.same.2 b hb fun hm => hx (hMN b hm)⟩⟩
theorem ArgsOk.len {ROa : Nat → Prop} {ms : List Am} {ds : List Dt} {us : List Value} {Fs : List (Nat → Prop)} (h : ArgsOk wl w ROa ms ds us Fs) : ms.length = us.length ∧ ds.length = us.length ∧ Fs.length = us.length := by
 induction h with
 | nil => exact ⟨rfl, rfl, rfl⟩
 | cons h hs ih => exact ⟨by simp [ih.1], by simp [ih.2.1], by simp [ih.2.2]⟩
theorem SvL.append' : ∀ {l m : List (Nat × Sv)} {us vs : List Value}, SvL w g st l us → SvL w g st m vs → SvL w g st (l ++ m) (us ++ vs)
 | [], _, [], _, _, h => h
 | [], _, _ :: _, _, h, _ => h.elim
 | _ :: _, _, [], _, h, _ => h.elim
 | _ :: _, _, _ :: _, _, h, h' => ⟨h.1, SvL.append' h.2 h'⟩
theorem SvL.arg : ∀ {l : List (Am × Nat × Sv)} {us : List Value}, SvL w g st (l.map (·.2)) us → ArgRel w g st l us
  | [], [], _ => trivial
  | [], _ :: _, h => h.elim
  | _ :: _, [], h => h.elim
  | (_, _, _) :: _, _ :: _, h => ⟨h.1, SvL.arg h.2⟩
theorem exit_core (hE : E.Ok P) {Mf' ROa : Nat → Prop} (I : Inv w Mf' g st a w') (hn : g.n.r0 = ROa ∧ g.n.wl = wl) {s : Spec} {fn : Func} {ds : List Dt} {us : List Value} (hl : s.modes.length = us.length)
 (hM : ∀ k, Mf' k → Mf k) (hM0 : s.modes.all Am.reads = true → ∀ k, ¬ Mf' k) {k : Kt R} {r : R} {l1 l2 : List (Am × Nat × Sv)} {vs : List Value}
 (hrun : (fn.results.toList.mapM (readRes a.tmps)).run P w' = .ok vs w') (hS1 : SvL w' g st (l1.map (·.2)) vs) (hm1 : l1.map (·.1) = s.res.map (resMode s.own)) (hS2 : SvL w' g st (l2.map (·.2)) (backUs s.modes us)) (hm2 : l2.map (·.1) = s.modes.filter isBack)
 (h : (cond (s.own || (s.modes.all Am.reads && ((s.res.all fun p => !p) && l1.all fun a => a.2.2.cells.all fun c => c.names.1.isEmpty)))
 (Gm.passArgs E (l1 ++ l2) st fun outs _ _ _ => cond (backsChk s.modes ds (outs.drop l1.length)) (k outs) none) none) = some r) :
    ∃ v, (results fn a.tmps).run P w' = .ok v w' ∧ ∃ outs, k outs = some r ∧ After wl w w' Mf ROa s ds us outs (.returned v) := by
 obtain ⟨hn, hwl⟩ := hn
 subst hwl
 obtain ⟨hcond, h⟩ := condN h
 simp only [Bool.or_eq_true, Bool.and_eq_true] at hcond
 refine ⟨packV vs, run_results hrun, ?_⟩
 have hS : SvL w' g st ((l1 ++ l2).map (·.2)) (vs ++ backUs s.modes us) := by rw [List.map_append]; exact hS1.append' hS2
 have hms : (l1 ++ l2).map (·.1) = s.res.map (resMode s.own) ++ s.modes.filter isBack := by rw [List.map_append, hm1, hm2]
 obtain ⟨st1, I1, hh⟩ := I.passArgs (E := E) (SvL.arg hS) h
 let ids := idsOf ((l1 ++ l2).map (·.2))
 have hback0 : s.own = false → l2 = [] := fun ho => by
  have := (hcond.resolve_left (by simp [ho])).1
  have hf : s.modes.filter isBack = [] := by
   rw [List.filter_eq_nil_iff]
   intro m hm hb
   have := List.all_eq_true.1 this m hm
   cases m <;> simp [Am.reads, isBack] at this hb
  rw [hf] at hm2
  exact List.map_eq_nil_iff.1 hm2
 obtain ⟨outs, bs, d, Fs, Hs, h, hA, hH, L, hpH, hkey⟩ := hh (Reach g st1 s.own ids) (fun x hx _ => by
  refine reach_rd (args := (l1 ++ l2).map (·.2)) ?_ (List.mem_map.2 ⟨x, hx, rfl⟩)
  cases ho : s.own with
  | true => exact .inl rfl
  | false =>
   refine .inr fun y hy c hc => ?_
   rw [hback0 ho, List.append_nil] at hy
   obtain ⟨z, hz, rfl⟩ := List.mem_map.1 hy
   have := (hcond.resolve_left (by simp [ho])).2.2
   simp only [List.all_eq_true, List.isEmpty_iff] at this
   exact this z hz c hc)
 rw [hms] at hA hH
 obtain ⟨hpF, hsub, _⟩ := hH.sub hpH
 obtain ⟨hchk, h⟩ := condN h
 refine ⟨outs, h, ?_⟩
 obtain ⟨hA1, hA2⟩ := hA.split
 have hn1 : (s.res.map (resMode s.own)).length = s.res.length := by simp
 have hvs : vs.length = s.res.length := by
  have h1 := hS1.len
  have h2 := congrArg List.length hm1
  simp only [List.length_map] at h1 h2
  omega
 have hl1 : l1.length = s.res.length := by
  have := congrArg List.length hm1
  simpa using this
 rw [hn1] at hA1 hA2
 rw [hl1] at hchk
 have hu1 : (vs ++ backUs s.modes us).take s.res.length = vs := by rw [← hvs]; simp
 have hu2 : (vs ++ backUs s.modes us).drop s.res.length = backUs s.modes us := by rw [← hvs]; simp
 rw [hu1] at hA1
 rw [hu2] at hA2
 have hB := backs_ok hl hchk hA2
 have hin : ∀ F ∈ Fs, ∀ n, F n → Any Hs n := fun F hF n hn => hsub n ⟨F, hF, hn⟩
 have hdrop : ∀ F ∈ Fs.drop s.res.length, F ∈ Fs := fun F hF => List.mem_of_mem_drop hF
 have htake : ∀ F ∈ Fs.take s.res.length, F ∈ Fs := fun F hF => List.mem_of_mem_take hF
 have hpF' : PairApart (Fs.take s.res.length ++ Fs.drop s.res.length) := by rw [List.take_append_drop]; exact hpF
 obtain ⟨hp1, hp2, hp3⟩ := List.pairwise_append.1 hpF'
 have hsrc : ∀ F ∈ Fs, ∀ n, F n → Mf n ∨ w.heap.size ≤ n := fun F hF n hn => ((I.lentFree L (hin F hF n hn)).1.mine).elim .inr fun h => .inl (hM n h)
 have hltF : ∀ F ∈ Fs, ∀ n, F n → n < w'.heap.size := fun F hF n hn => (I.lentFree L (hin F hF n hn)).2
 have kept : Kept w w' Mf := I.kept.mono hM
 cases ho : s.own with
 | true =>
  rw [ho] at hA1
  refine ⟨⟨vs, Fs.take s.res.length, Fs.drop s.res.length, rfl, by rw [ho]; exact ress_own hA1, hB, hp2, fun B hB' => hsrc B (hdrop B hB'), fun _ => ⟨hp1, fun G hG => hsrc G (htake G hG)⟩, fun e => by simp [ho] at e,
   fun G hG B hB' n hg hb => hp3 G hG B hB' n hg hb, fun G hG => hltF G (htake G hG), fun B hB' => hltF B (hdrop B hB')⟩, kept⟩
 | false =>
  rw [ho] at hA1
  obtain ⟨hread, hnop, _⟩ := hcond.resolve_left (by simp [ho])
  have hG : ∀ G ∈ s.res.map (fun _ => Reach g st1 false ids), ∀ n, G n → Reach g st1 false ids n := fun G hG n hn => by
   obtain ⟨_, _, rfl⟩ := List.mem_map.1 hG; exact hn
  refine ⟨⟨vs, s.res.map (fun _ => Reach g st1 false ids), Fs.drop s.res.length, rfl, ?_, hB, hp2, fun B hB' => hsrc B (hdrop B hB'), fun e => by simp [ho] at e, fun _ G hG' n hgn => ?_,
   fun G hG' B hB' n hg hb => (I.reach I1 L (hG G hG' n hg)).1 (hin B (hdrop B hB') n hb), fun G hG' n hg => (I.reach I1 L (hG G hG' n hg)).2, fun B hB' => hltF B (hdrop B hB')⟩, kept⟩
  ·rw [ho]
   exact ress_rd hnop hA1
  ·rcases hG G hG' n (by assumption) with h1 | ⟨_, id, _, h2, h3⟩ | ⟨e, _⟩
   ·rcases I.apart.mine_ro n h1 with h4 | h4 | h4
    ·rw [hn] at h4; exact .inl h4
    ·exact .inr h4
    ·exact (hM0 hread n h4).elim
   ·rcases I1.apart.mine_r id n h2 h3 with h4 | h4
    ·exact .inr h4
    ·exact (hM0 hread n h4).elim
   ·cases e
theorem exit_sound (hE : E.Ok P) {Mf' ROa : Nat → Prop} (I : Inv w Mf' g st a w') (hn : g.n.r0 = ROa ∧ g.n.wl = wl) {s : Spec} {fn : Func} {Ts : List Nat} {ds : List Dt} {us : List Value} (hl : s.modes.length = us.length)
 (hstay : ∀ j ∈ stays 0 s.modes, a.tmps[j]? = us[j]?) (hM : ∀ k, Mf' k → Mf k) (hM0 : s.modes.all Am.reads = true → ∀ k, ¬ Mf' k) {k : Kt R} {r : R}
 (h : evExit E s.modes s.res s.own fn.results.toList Ts ds st k = some r) :
    ∃ v, (results fn a.tmps).run P w' = .ok v w' ∧ ∃ outs, k outs = some r ∧ After wl w w' Mf ROa s ds us outs (.returned v) := by
 unfold evExit at h
 obtain ⟨l1, vs, h, hrun, hS1, hm1⟩ := exitRes_sound hE I h
 obtain ⟨l2, h, hS2, hm2⟩ := backsOf_sound I (us := us) hl (fun i hi n hin => by rw [hstay i hi]; congr 1; omega) h
 exact exit_core hE I hn hl hM hM0 hrun hS1 hm1 hS2 hm2 h
theorem fn_sound (hE : E.Ok P) (hN : E.Natl) {f : Nat} {fn : Func} {c : Code} (hf : P.funcs[f]? = some fn) (hb : fn.body = some c) (s : Spec) (hsh : s.shape = []) (Ts : List Nat) (hok : codeOk fn.ntmps (stays 0 s.modes) c = true)
 (hrun : ∀ {R : Type} (ds : List Dt) (k : Kt R) (r : R), s.fn ds k = some r → ∃ keep rounds, evFn E keep rounds c s.modes s.res s.own fn.results.toList Ts ds k = some r) : SpecOk P f s := by
  intro R ds k r h wl w us Mf ROa Fs hWl hBs hA hp hFM hRM hRlt hMlt
  obtain ⟨keep, rounds, h⟩ := hrun ds k r h
  unfold evFn at h
  obtain ⟨hl1, _, _⟩ := hA.len
  rw [hsh]
  show Calls P f us.toArray w _
  refine calls_of_wp hf hb ?_
  let a0 : Act := { tmps := us.toArray ++ Array.replicate (fn.ntmps - us.toArray.size) undef, defers := [] }
  let F0 : Fx := ⟨a0.tmps.size, ROa, wl⟩
  let g0 : Gh := { rv := fun _ _ => undef, rf := fun _ _ => False, bx := fun _ => 0, ro := ROa, n := F0 }
  have hsz : fn.ntmps ≤ F0.sz := by
    show fn.ntmps ≤ (us.toArray ++ Array.replicate (fn.ntmps - us.toArray.size) undef).size
    simp; omega
  have hgive : ∀ n, Given s.modes Fs n → Mf n := fun n hg => by obtain ⟨F, hF, h⟩ := hg.any; exact hFM F hF n h
  have noO : ∀ id, ¬ OwnAt ⟨[], [], []⟩ id := fun id ⟨r, h, _⟩ => by simp [aget] at h
  have noB : ∀ b, ¬ BoxAt ⟨[], [], []⟩ b := fun b h => by simp [BoxAt, aget] at h
  have I0 : Inv w (Given s.modes Fs) g0 ⟨[], [], []⟩ a0 w :=
    { slots := fun s sv h => by simp [aget] at h
      boxes := fun b x h => by simp [aget] at h
      roots := fun id r h => by simp [aget] at h
      apart := {
        rr := fun id id' k h => (noO id h).elim
        rb := fun id b h => (noO id h).elim
        bb := fun b b' h => (noB b h).elim
        ro_r := fun id k h => (noO id h).elim
        ro_b := fun b h => (noB b h).elim
        mine_r := fun id k h => (noO id h).elim
        mine_b := fun b h => (noB b h).elim
        lt_r := fun id k h => (noO id h).elim
        lt_ro := hRlt
        mine_ro := fun k h => .inl h }
      kept := ⟨rfl, rfl, rfl, Nat.le_refl _, fun _ _ _ => rfl⟩
      defers := rfl
      size := rfl
      base := ⟨hBs, fun k h hg => hRM k h (hgive k hg), fun k h => h⟩ }
  have hus : ∀ (i : Nat) u, us[i]? = some u → a0.tmps[0 + i]? = some u := fun i u hu => by
    have hi : i < us.length := by
      rcases Nat.lt_or_ge i us.length with h' | h'
      · exact h'
      · simp [List.getElem?_eq_none h'] at hu
    show (us.toArray ++ Array.replicate (fn.ntmps - us.toArray.size) undef)[0 + i]? = some u
    rw [Nat.zero_add, Array.getElem?_append_left (by simpa using hi)]
    simpa using hu
  obtain ⟨g1, st1, h, hg1, I1⟩ := entry_sound (ROa := ROa) I0 hus hA hp (fun n hg => ⟨⟨fun id h => (noO id h).elim, fun h => hRM n h (hgive n hg), fun b h => (noB b h).elim, .inr hg⟩, hMlt n (hgive n hg)⟩) rfl h
  have hstay0 : Stay (stays 0 s.modes) (fun j => us[j]?) a0.tmps := by
    have hmem : ∀ {ms : List Am} {j : Nat} {x : Nat}, x ∈ stays j ms → x < j + ms.length := by
      intro ms
      induction ms with
      | nil => intro j x h; simp [stays] at h
      | cons m ms ih =>
        intro j x h
        cases m <;> simp only [stays, List.mem_cons] at h <;> first
          | (have := ih h; simp only [List.length_cons]; omega)
          | (rcases h with rfl | h
             · simp
             · have := ih h; simp only [List.length_cons]; omega)
    intro j hj
    have hj' := hmem hj
    have hlt : j < us.length := by omega
    have := hus j us[j] (by simp [hlt])
    rw [Nat.zero_add] at this
    rw [this]; simp [hlt]
  refine ev_sound hE hN (F := F0) hWl c (codeOk_mono hsz hok) h hg1 I1 hstay0 fun e g' st' a' w' hk hg' I' hJ' => ?_
  have fin : evExit E s.modes s.res s.own fn.results.toList Ts ds st' k = some r → a'.defers = [] ∧ ∃ v, (results fn a'.tmps).run P w' = .ok v w' ∧ ∃ outs, k outs = some r ∧ After wl w w' Mf ROa s ds us outs (.returned v) := fun hk =>
    ⟨I'.defers, exit_sound hE I' ⟨by rw [hg'], by rw [hg']⟩ hl1 hJ' hgive (fun hall n hn => Given.none hall hn) hk⟩
  cases e with
  | normal => exact fin hk
  | ret => exact fin hk
  | exit id => cases hk
end Go.Gm
namespace Go.Gm
open Go
section
variable {R : Type}
def seqK (E : Env) (keep : Nat → Kp) (n : Nat) (b : Code) (k : Kx R) : Kx R := fun e st => match e with
 | .normal => ev E keep n b st k
 | e => k e st
def blockK (id : Nat) (k : Kx R) : Kx R := fun e st => match e with
 | .exit id' => cond (Nat.beq id' id) (k .normal st) (k (.exit id') st)
 | e => k e st
def exitK (E : Env) (modes : List Am) (res : List Bool) (own : Bool) (rvs : List ResultVar) (Ts : List Nat) (ds : List Dt) (k : Kt R) : Kx R := fun e st => match e with
 | .exit _ => none
 | _ => evExit E modes res own rvs Ts ds st k
end
def cAt : List Nat → Code → Code
 | [], c => c
 | i :: p, .seq a b => cond (Nat.beq i 0) (cAt p a) (cAt p b)
 | i :: p, .cond _ a b => cond (Nat.beq i 0) (cAt p a) (cAt p b)
 | _ :: p, .block _ a => cAt p a
 | _ :: p, .loop a => cAt p a
 | _, c => c
def kat : List Kp → Nat → Kp
 | [], _ => ⟨[], [], [], []⟩
 | a :: r, n => cond (Nat.beq n 0) a (kat r (n - 1))
def bs (l : List Nat) : BA := ⟨(l.map UInt8.ofNat).toArray⟩
def Spec.of (modes : List Am) (res : List Bool) (own : Bool) (q : Qt) : Spec :=
  { modes, res, own, fn := fun ds k => match q ds with | some (g, outs) => cond g (k outs) none | none => none }
theorem Spec.of_natl (modes : List Am) (res : List Bool) (own : Bool) (q : Qt) : (Spec.of modes res own q).Natl := by
 intro ds
 show ∃ q' : Option (List Dt), ∀ (R : Type) (k : Kt R), (match q ds with | some (g, outs) => cond g (k outs) none | none => none) = q'.bind k
 cases q ds with
 | none => exact ⟨none, fun _ _ => rfl⟩
 | some go =>
  obtain ⟨g, outs⟩ := go
  cases g with
  | true => exact ⟨some outs, fun _ _ => rfl⟩
  | false => exact ⟨none, fun _ _ => rfl⟩
theorem Spec.of_some {modes : List Am} {res : List Bool} {own : Bool} {q : Qt} {R : Type} {ds : List Dt} {k : Kt R} {r : R} (h : (Spec.of modes res own q).fn ds k = some r) :
    ∃ outs, q ds = some (true, outs) ∧ k outs = some r := by
 have h : (match q ds with | some (g, outs) => cond g (k outs) none | none => none) = some r := h
 cases hq : q ds with
 | none => rw [hq] at h; cases h
 | some go =>
  obtain ⟨g, outs⟩ := go
  rw [hq] at h
  obtain ⟨h1, h2⟩ := condN h
  exact ⟨outs, by rw [h1], h2⟩
theorem spec_ok {P : Program} {E : Env} (hE : E.Ok P) (hN : E.Natl) {f : Nat} {fn : Func} (hf : P.funcs[f]? = some fn) {c : Code} (hb : fn.body = some c) {modes : List Am} {res : List Bool} {own : Bool} {q : Qt} (Ts : List Nat)
 (hok : codeOk fn.ntmps (stays 0 modes) c = true)
 (hrun : ∀ ds outs, q ds = some (true, outs) → ∃ keep rounds, ∀ {R : Type} (k : Kt R), evFn E keep rounds c modes res own fn.results.toList Ts ds k = k outs) : SpecOk P f (Spec.of modes res own q) := by
 refine fn_sound hE hN hf hb _ rfl Ts hok fun ds k r h => ?_
 obtain ⟨outs, hq, hk⟩ := Spec.of_some h
 obtain ⟨keep, rounds, he⟩ := hrun ds outs hq
 exact ⟨keep, rounds, (he k).trans hk⟩
structure Tab where
 code : List (Nat × Ty)
 eqs : List (Nat × List Ty)
 fld : List (Nat × List (Nat × Nat))
def sget : List (Nat × Spec) → Nat → Option Spec
  | [], _ => none
  | (k, v) :: r, n => cond (Nat.beq n k) (some v) (sget r n)
def Tab.env (t : Tab) (l : List (Nat × Spec)) : Env :=
  { code := fun T => aget t.code T, eq := fun T => aget t.eqs T, fld := fun T f => (aget t.fld T).bind fun l => l[f]?, spec := fun f => sget l f }
theorem sget_mem : ∀ {l : List (Nat × Spec)} {f : Nat} {s : Spec}, sget l f = some s → (f, s) ∈ l
  | (k, v) :: r, f, s, h => by
    simp only [sget] at h
    cases hb : Nat.beq f k with
    | true => rw [hb] at h; cases h; rw [beqN hb]; simp
    | false => rw [hb] at h; exact List.mem_cons_of_mem _ (sget_mem h)
def Good (P : Program) (x : Nat × Spec) : Prop := (SpecOk P x.1 x.2 ∧ ∃ fn, P.funcs[x.1]? = some fn ∧ fn.body.isSome ∧ fn.name ≠ "runtime.NumGoroutine") ∧ x.2.Natl
theorem Tab.natl (t : Tab) {P : Program} {l : List (Nat × Spec)} (h : ∀ x ∈ l, Good P x) : (t.env l).Natl := fun _ _ hs => (h _ (sget_mem hs)).2
structure Tab.Ok (t : Tab) (P : Program) : Prop where
 info : ∀ x ∈ t.code, ∃ i zv, P.info? x.1 = some i ∧ i.size = esz x.2 ∧ i.bytes ≤ 1024 ∧ i.zero = some zv ∧ zv.cells = (zvals x.2).toArray
 und : ∀ x ∈ t.code, UndOk (t.env []) P x.1 x.2
 fld : ∀ x ∈ t.fld, ∃ fs : Array Field, P.underlying x.1 = some (.struct fs) ∧ x.2 = fs.toList.map (fun f => (f.offset, f.type)) ∧ (∀ y ∈ x.2, (aget t.code y.2).isSome) ∧ (fs.toList.mapM (fun f => (P.info? f.type).map fun i => (f.offset, i.size))).isSome
 sts : ∀ x ∈ t.code, isSt x.2 = true → x.1 ∈ t.fld.map (·.1)
 eqs : ∀ x ∈ t.eqs, ∀ (us vs : Array Value) (e : Bool), eqVals x.2 us.toList vs.toList = some e → ∀ w,
  (Op.equal x.1 (.agg us) (.agg vs)).run P w = .ok e w ∧ (∀ op a b, (eqGuard op x.1 a b (.agg us) (.agg vs)).run P w = .ok () w)
 ord : P.follows .mixedOrders = true
theorem UndOk.env {t : Tab} {l : List (Nat × Spec)} {P : Program} {T : Nat} {ty : Ty} (h : UndOk (t.env []) P T ty) : UndOk (t.env l) P T ty := by
 unfold UndOk at *
 cases ty <;> exact h
theorem Tab.Ok.env {t : Tab} {P : Program} (h : t.Ok P) {l : List (Nat × Spec)} (hl : ∀ x ∈ l, Good P x) : (t.env l).Ok P := {
 info := fun T ty hT => h.info (T, ty) (aget_mem hT)
 und := fun T ty hT => (h.und (T, ty) (aget_mem hT)).env
 fld := fun T f off ft hf => by
  have hf : (aget t.fld T).bind (fun l => l[f]?) = some (off, ft) := hf
  obtain ⟨L, hL, hf⟩ := Option.bind_eq_some_iff.1 hf
  obtain ⟨fs, h1, h2, h3, _⟩ := h.fld (T, L) (aget_mem hL)
  have h2 : L = fs.toList.map (fun f => (f.offset, f.type)) := h2
  have hc := h3 (off, ft) (List.mem_of_getElem? hf)
  obtain ⟨ty, hty⟩ := Option.isSome_iff_exists.1 hc
  rw [h2] at hf
  obtain ⟨fd, hfd, he⟩ : ∃ fd, fs.toList[f]? = some fd ∧ (fd.offset, fd.type) = (off, ft) := by simpa using hf
  cases he
  exact ⟨fs, fd, ty, h1, by simpa using hfd, rfl, rfl, hty⟩
 sts := fun T fs hu hT => by
  obtain ⟨ty, hty⟩ := Option.isSome_iff_exists.1 hT
  have hm := aget_mem (l := t.code) hty
  have hund := h.und (T, ty) hm
  cases hs : isSt ty with
  | false =>
   exfalso
   cases ty with
   | i k => have h1 : P.underlying T = some (.int k) := hund; rw [hu] at h1; cases h1
   | bool => have h1 : P.underlying T = some .bool := hund; rw [hu] at h1; cases h1
   | str => have h1 : P.underlying T = some .string := hund; rw [hu] at h1; cases h1
   | sl e => obtain ⟨el, h1, _⟩ := (hund : ∃ el, P.underlying T = some (.slice el) ∧ (t.env []).code el = some e); rw [hu] at h1; cases h1
   | _ => cases hs
  | true =>
   have hk := h.sts (T, ty) hm hs
   obtain ⟨x, hx, he⟩ := List.mem_map.1 hk
   obtain ⟨fs', h1, _, _, h4⟩ := h.fld x hx
   have he : x.1 = T := he
   rw [he, hu] at h1
   cases h1
   exact Option.isSome_iff_exists.1 h4
 spec := fun f s hs => (hl (f, s) (sget_mem hs)).1
 eqs := fun T ts hT => h.eqs (T, ts) (aget_mem hT)
 ord := h.ord }
def vSame : Value → Value → Bool
 | .int k n, .int k' n' => decide (k = k') && decide (n = n')
 | .bool a, .bool b => decide (a = b)
 | .string a, .string b => decide (a.data = b.data)
 | .slice none 0 0, .slice none 0 0 => true
 | _, _ => false
theorem vSame_eq {u v : Value} (h : vSame u v = true) : u = v := by
 unfold vSame at h
 split at h
 ·simp only [Bool.and_eq_true, decide_eq_true_eq] at h; rw [h.1, h.2]
 ·simp only [decide_eq_true_eq] at h; rw [h]
 ·rename_i a b
  simp only [decide_eq_true_eq] at h
  cases a; cases b; cases h; rfl
 ·rfl
 ·cases h
def vsSame : List Value → List Value → Bool
 | [], [] => true
 | u :: us, v :: vs => vSame u v && vsSame us vs
 | _, _ => false
theorem vsSame_eq : ∀ {us vs : List Value}, vsSame us vs = true → us = vs
 | [], [], _ => rfl
 | [], _ :: _, h => by cases h
 | _ :: _, [], h => by cases h
 | u :: us, v :: vs, h => by
  simp only [vsSame, Bool.and_eq_true] at h
  rw [vSame_eq h.1, vsSame_eq h.2]
def infoChk (P : Program) (x : Nat × Ty) : Bool :=
  match P.info? x.1 with
 | some i => Nat.beq i.size (esz x.2) && (Nat.ble i.bytes 1024 && (match i.zero with | some zv => vsSame zv.cells.toList (zvals x.2) | none => false))
 | none => false
theorem infoChk_ok {P : Program} {l : List (Nat × Ty)} (h : l.all (infoChk P) = true) : ∀ x ∈ l, ∃ i zv, P.info? x.1 = some i ∧ i.size = esz x.2 ∧ i.bytes ≤ 1024 ∧ i.zero = some zv ∧ zv.cells = (zvals x.2).toArray := by
 intro x hx
 have h := List.all_eq_true.1 h x hx
 unfold infoChk at h
 split at h
 ·rename_i i hi
  simp only [Bool.and_eq_true] at h
  obtain ⟨h1, h2, h3⟩ := h
  split at h3
  ·rename_i zv hz
   exact ⟨i, zv, hi, beqN h1, bleN h2, hz, by have := vsSame_eq h3; apply Array.ext'; simpa using this⟩
  ·cases h3
 ·cases h
theorem leC_self (i b : Nat) : leC i b i b = true := leC_iff.2 (.inr ⟨rfl, Nat.le_refl _⟩)
end Go.Gm
namespace Go.Gm
open Go
variable {wl : World} {w w' : World} {Mf ROa : Nat → Prop}
theorem valRd_v {Pr : Nat → Prop} {t : Ty} {x : El t} {v u : Value} (he : enc t x = [.v v]) (hs : isSt t = false) (h : ValRd w Pr t x u) : u = v := by
 obtain ⟨us, hf, hr⟩ := h
 obtain ⟨e, _⟩ := hf.size hs
 subst e
 rw [he] at hr
 obtain ⟨z, hz, hc⟩ := hr.2 0 (.v v) rfl
 have hz : u = z := by simpa using hz
 rw [hz]; exact hc
theorem valOwn_v {F : Nat → Prop} {t : Ty} {x : El t} {v : Value} (he : enc t x = [.v v]) (hs : isSt t = false) (hf : flatB v = true) : ValOwn w F t x v := by
 refine ⟨#[v], by simp [Form, hs, hf], fun _ _ => False, fun _ _ h => h.elim, fun _ _ _ h => h.elim, by simp [he], fun j c hc => ?_⟩
 rw [he] at hc
 cases j with
 | zero => simp only [List.getElem?_cons_zero, Option.some.injEq] at hc; subst hc; exact ⟨v, rfl, rfl⟩
 | succ j => simp at hc
theorem backs_none : ∀ {ms : List Am} {ds : List Dt} {us : List Value}, ms.all Am.reads = true → ms.length = us.length → ds.length = us.length → BacksOk wl w ms ds us [] []
 | [], [], [], _, _, _ => .nil
 | m :: ms, d :: ds, u :: us, h, h1, h2 => by
  simp only [List.all_cons, Bool.and_eq_true] at h
  refine .skip ?_ (backs_none h.2 (by simpa using h1) (by simpa using h2))
  cases m <;> first | trivial | exact absurd h.1 (by simp [Am.reads])
 | [], _ :: _, [], _, _, h => by simp at h
 | [], _, _ :: _, _, h, _ => by simp at h
 | _ :: _, _, [], _, h, _ => by simp at h
 | _ :: _, [], _ :: _, _, _, h => by simp at h
theorem After.one {s : Spec} (hown : s.own = true) (hres : s.res = [false]) (hm : s.modes.all Am.reads = true) {ds : List Dt} {us : List Value} (h1 : s.modes.length = us.length) (h2 : ds.length = us.length) {t : Ty} {x : El t} {v : Value} (he : enc t x = [.v v])
 (hs : isSt t = false) (hf : flatB v = true) : After wl w w Mf ROa s ds us [.d t x] (.returned v) := by
 refine ⟨⟨[v], [fun _ => False], [], rfl, ?_, ?_, List.Pairwise.nil, fun B hB => by simp at hB, fun _ => ⟨by unfold PairApart; simp, fun G hG k hk => ?_⟩, fun e => absurd (hown.symm.trans e) (by simp), fun G hG B hB => by simp at hB, fun G hG k hk => ?_, fun B hB => by simp at hB⟩, ⟨rfl, rfl, rfl, Nat.le_refl _, fun _ _ _ => rfl⟩⟩
 ·rw [hown, hres]; exact .val (by simpa using valOwn_v he hs hf) .nil
 ·rw [hres]; exact backs_none hm h1 h2
 ·have : G = fun _ => False := by simpa using hG
  subst this; exact hk.elim
 ·have : G = fun _ => False := by simpa using hG
  subst this; exact hk.elim
end Go.Gm
namespace Go.Gm
open Go
theorem wrap_id {x : Int} (h : -9223372036854775808 ≤ x) (h' : x < 9223372036854775808) : IntKind.wrap .i64 x = x := by
 rw [IntKind.wrap_i64]; omega
theorem sEq_iff {x y : BA} : sEq x y = true ↔ x = y := by
 unfold sEq
 constructor
 ·intro h
  have h := (beq_iff_eq.1 h)
  rw [ByteArray.toList_eq, ByteArray.toList_eq] at h
  cases x; cases y
  simp at h
  rw [h]
 ·rintro rfl; simp
theorem sEq_self (x : BA) : sEq x x = true := sEq_iff.2 rfl
theorem idx {n j : Nat} (h : j < n) (hb : n ≤ 9223372036854775807) : decide ((j : Int) < (n : Int)) = true ∧ decide ((0 : Int) ≤ (j : Int)) = true ∧ IntKind.wrap .i64 ((j : Int) + (1 : Int)) = ((j + 1 : Nat) : Int) ∧ Int.toNat (j : Int) = j :=
 ⟨by simp; omega, by simp, by rw [wrap_id (by omega) (by omega)]; omega, by simp⟩
theorem idxE (n : Nat) : decide ((n : Int) < (n : Int)) = false := by simp
def allN (p : Nat → Bool) : Nat → Nat → Bool
 | _, 0 => true
 | j, d + 1 => p j && allN p (j + 1) d
theorem loop_idx {R : Type} {F : Nat → Int → Option R} {n : Nat} {p : Nat → Bool} {good bad : Option R} (hs : ∀ m j, j < n → F (m + 1) (j : Int) = cond (p j) (F m ((j + 1 : Nat) : Int)) bad) (he : ∀ m, F (m + 1) (n : Int) = good) :
    ∀ d j m, j + d = n → d < m → F m (j : Int) = cond (allN p j d) good bad := by
 intro d
 induction d with
 | zero =>
  intro j m hj hm
  obtain ⟨m, rfl⟩ : ∃ m', m = m' + 1 := ⟨m - 1, by omega⟩
  have : j = n := by omega
  subst this
  rw [he]; rfl
 | succ d ih =>
  intro j m hj hm
  obtain ⟨m, rfl⟩ : ∃ m', m = m' + 1 := ⟨m - 1, by omega⟩
  rw [hs m j (by omega), ih (j + 1) m (by omega) (by omega)]
  simp only [allN]
  cases p j <;> rfl
theorem allN_iff {p : Nat → Bool} : ∀ {d j : Nat}, allN p j d = true ↔ ∀ i, j ≤ i → i < j + d → p i = true
 | 0, j => by simp only [allN, true_iff]; intro i h1 h2; omega
 | d + 1, j => by
  simp only [allN, Bool.and_eq_true, allN_iff]
  constructor
  ·rintro ⟨h1, h2⟩ i h3 h4
   by_cases e : i = j
   ·subst e; exact h1
   ·exact h2 i (by omega) (by omega)
  ·intro h
   exact ⟨h j (Nat.le_refl _) (by omega), fun i h1 h2 => h i (by omega) (by omega)⟩
theorem lt_of_get {α : Type} {xs : List α} {j : Nat} {x : α} (h : xs[j]? = some x) : j < xs.length := by
 rcases Nat.lt_or_ge j xs.length with h' | h'
 ·exact h'
 ·simp [List.getElem?_eq_none h'] at h
theorem drop_get {α : Type} {xs : List α} {j : Nat} (h : j < xs.length) : ∃ x, xs[j]? = some x ∧ xs.drop j = x :: xs.drop (j + 1) :=
 ⟨xs[j], by simp [h], by simp⟩
def foldE {α A B : Type} (step : α → A → B ⊕ A) : List α → A → B ⊕ A
 | [], a => .inr a
 | x :: xs, a => Sum.elim Sum.inl (foldE step xs) (step x a)
theorem loop_fold {α A B R : Type} {xs : List α} {F : Nat → Nat → A → Option R} {step : α → A → B ⊕ A} {out : B → Option R} {good : A → Option R} (inv : A → Prop)
 (hinv : ∀ x a a', x ∈ xs → inv a → step x a = .inr a' → inv a')
 (hs : ∀ m (j : Nat) a x, xs[j]? = some x → inv a → F (m + 1) j a = Sum.elim out (fun a' => F m (j + 1) a') (step x a)) (he : ∀ m a, inv a → F (m + 1) xs.length a = good a) :
    ∀ (d j m : Nat) (a : A), j + d = xs.length → d < m → inv a → F m j a = Sum.elim out good (foldE step (xs.drop j) a) := by
 intro d
 induction d with
 | zero =>
  intro j m a hj hm hi
  obtain ⟨m, rfl⟩ : ∃ m', m = m' + 1 := ⟨m - 1, by omega⟩
  have : j = xs.length := by omega
  subst this
  rw [he m a hi, List.drop_length]; rfl
 | succ d ih =>
  intro j m a hj hm hi
  obtain ⟨m, rfl⟩ : ∃ m', m = m' + 1 := ⟨m - 1, by omega⟩
  obtain ⟨x, hx, hd⟩ := drop_get (show j < xs.length by omega)
  rw [hs m j a x hx hi, hd]
  simp only [foldE]
  cases hst : step x a with
  | inl b => rfl
  | inr a' => exact ih (j + 1) m a' (by omega) (by omega) (hinv x a a' (List.mem_of_getElem? hx) hi hst)
open Classical in
noncomputable def eqD {α : Type} (x y : α) : Bool := decide (x = y)
theorem eqD_iff {α : Type} {x y : α} : eqD x y = true ↔ x = y := by simp [eqD]
theorem eqD_self {α : Type} (x : α) : eqD x x = true := eqD_iff.2 rfl
theorem eqD_ne {α : Type} {x y : α} (h : x ≠ y) : eqD x y = false := by simp [eqD, h]
theorem eqD_str (x y : BA) : eqD x y = sEq x y := by rw [Bool.eq_iff_iff, sEq_iff, eqD_iff]
theorem allN_eq {α : Type} {xs ys : List α} (hl : xs.length = ys.length) {p : Nat → Bool} (h : ∀ (j : Nat) x y, xs[j]? = some x → ys[j]? = some y → p j = eqD x y) : allN p 0 xs.length = eqD xs ys := by
 rw [Bool.eq_iff_iff, allN_iff, eqD_iff]
 constructor
 ·intro h1
  apply List.ext_getElem? 
  intro j
  rcases Nat.lt_or_ge j xs.length with hj | hj
  ·obtain ⟨x, hx, _⟩ := drop_get hj
   obtain ⟨y, hy, _⟩ := drop_get (show j < ys.length by omega)
   have := h1 j (Nat.zero_le _) (by omega)
   rw [h j x y hx hy, eqD_iff] at this
   rw [hx, hy, this]
  ·simp [List.getElem?_eq_none hj, List.getElem?_eq_none (show ys.length ≤ j by omega)]
 ·rintro rfl j _ hj
  obtain ⟨x, hx, _⟩ := drop_get (show j < xs.length by omega)
  rw [h j x x hx hx]; exact eqD_self x
def WIDE : Nat := 9223372036854775807
theorem bneLen {m n : Nat} (h : m ≠ n) : ((m : Int) != (n : Int)) = true := by rw [bne_iff_ne]; omega
def szL {α : Type} (f : α → Nat) (xs : List α) : Nat := xs.length + (xs.map f).sum
theorem szL_ge {α : Type} (f : α → Nat) (xs : List α) : xs.length ≤ szL f xs := Nat.le_add_right _ _
def cellTy : Cv → Ty
 | .v (.int k _) => .i k
 | .v (.bool _) => .bool
 | .v (.string _) => .str
 | .l t _ => .sl t
 | _ => .bool
def sig (t : Ty) : List Ty := (enc t (zero t)).map cellTy
def CTy : Ty → Cv → Prop
 | .i k, c => ∃ n, c = .v (.int k n)
 | .bool, c => ∃ b, c = .v (.bool b)
 | .str, c => ∃ s, c = .v (.string s)
 | .sl e, c => ∃ xs, c = .l e xs
 | _, _ => False
def TyL : List Ty → List Cv → Prop
 | [], [] => True
 | a :: l, c :: cs => CTy a c ∧ TyL l cs
 | _, _ => False
theorem TyL.cons {a : Ty} {l : List Ty} : ∀ {cs : List Cv}, TyL (a :: l) cs → ∃ c cs', cs = c :: cs' ∧ CTy a c ∧ TyL l cs'
 | c :: cs, h => ⟨c, cs, rfl, h.1, h.2⟩
theorem TyL.nil : ∀ {cs : List Cv}, TyL [] cs → cs = []
 | [], _ => rfl
theorem TyL.append : ∀ {l m : List Ty} {cs ds : List Cv}, TyL l cs → TyL m ds → TyL (l ++ m) (cs ++ ds)
 | [], _, [], _, _, h => h
 | [], _, _ :: _, _, h, _ => h.elim
 | _ :: _, _, [], _, h, _ => h.elim
 | _ :: _, _, _ :: _, _, h, h' => ⟨h.1, TyL.append h.2 h'⟩
theorem TyL.len : ∀ {l : List Ty} {cs : List Cv}, TyL l cs → cs.length = l.length
 | [], [], _ => rfl
 | [], _ :: _, h => h.elim
 | _ :: _, [], h => h.elim
 | _ :: _, _ :: _, h => by simp [TyL.len h.2]
theorem enc_ty_node (x : NodeT) : TyL (sig .node) (enc .node x) := ⟨⟨_, rfl⟩, ⟨_, rfl⟩, ⟨_, rfl⟩, ⟨_, rfl⟩, ⟨_, rfl⟩, trivial⟩
theorem full_node {cs : List Cv} (h0 : TyL (sig .node) cs) : ∃ x : NodeT, enc .node x = cs := by
 obtain ⟨_, _, rfl, ⟨a0, rfl⟩, h1⟩ := TyL.cons h0
 obtain ⟨_, _, rfl, ⟨a1, rfl⟩, h2⟩ := TyL.cons h1
 obtain ⟨_, _, rfl, ⟨a2, rfl⟩, h3⟩ := TyL.cons h2
 obtain ⟨_, _, rfl, ⟨a3, rfl⟩, h4⟩ := TyL.cons h3
 obtain ⟨_, _, rfl, ⟨a4, rfl⟩, h5⟩ := TyL.cons h4
 cases TyL.nil h5
 exact ⟨⟨a0, a1, a2, a3, a4⟩, rfl⟩
theorem enc_ty_pop (x : PopT) : TyL (sig .pop) (enc .pop x) := ⟨⟨_, rfl⟩, ⟨_, rfl⟩, ⟨_, rfl⟩, ⟨_, rfl⟩, ⟨_, rfl⟩, ⟨_, rfl⟩, ⟨_, rfl⟩, ⟨_, rfl⟩, trivial⟩
theorem full_pop {cs : List Cv} (h0 : TyL (sig .pop) cs) : ∃ x : PopT, enc .pop x = cs := by
 obtain ⟨_, _, rfl, ⟨a0, rfl⟩, h1⟩ := TyL.cons h0
 obtain ⟨_, _, rfl, ⟨a1, rfl⟩, h2⟩ := TyL.cons h1
 obtain ⟨_, _, rfl, ⟨a2, rfl⟩, h3⟩ := TyL.cons h2
 obtain ⟨_, _, rfl, ⟨a3, rfl⟩, h4⟩ := TyL.cons h3
 obtain ⟨_, _, rfl, ⟨a4, rfl⟩, h5⟩ := TyL.cons h4
 obtain ⟨_, _, rfl, ⟨a5, rfl⟩, h6⟩ := TyL.cons h5
 obtain ⟨_, _, rfl, ⟨a6, rfl⟩, h7⟩ := TyL.cons h6
 obtain ⟨_, _, rfl, ⟨a7, rfl⟩, h8⟩ := TyL.cons h7
 cases TyL.nil h8
 exact ⟨⟨a0, a1, a2, ⟨a3, a4, a5, a6, a7⟩⟩, rfl⟩
theorem enc_ty_cur (x : CurT) : TyL (sig .cur) (enc .cur x) := ⟨⟨_, rfl⟩, ⟨_, rfl⟩, ⟨_, rfl⟩, trivial⟩
theorem full_cur {cs : List Cv} (h0 : TyL (sig .cur) cs) : ∃ x : CurT, enc .cur x = cs := by
 obtain ⟨_, _, rfl, ⟨a0, rfl⟩, h1⟩ := TyL.cons h0
 obtain ⟨_, _, rfl, ⟨a1, rfl⟩, h2⟩ := TyL.cons h1
 obtain ⟨_, _, rfl, ⟨a2, rfl⟩, h3⟩ := TyL.cons h2
 cases TyL.nil h3
 exact ⟨⟨a0, a1, a2⟩, rfl⟩
theorem enc_ty : ∀ (t : Ty) (x : El t), TyL (sig t) (enc t x)
 | .i _, _ => ⟨⟨_, rfl⟩, trivial⟩
 | .bool, _ => ⟨⟨_, rfl⟩, trivial⟩
 | .str, _ => ⟨⟨_, rfl⟩, trivial⟩
 | .sl _, _ => ⟨⟨_, rfl⟩, trivial⟩
 | .node, x => enc_ty_node x
 | .pop, x => enc_ty_pop x
 | .cur, x => enc_ty_cur x
theorem full : ∀ (t : Ty) {cs : List Cv}, TyL (sig t) cs → ∃ x : El t, enc t x = cs
 | .i k, _, h => by obtain ⟨_, _, rfl, ⟨a, rfl⟩, h2⟩ := TyL.cons h; cases TyL.nil h2; exact ⟨a, rfl⟩
 | .bool, _, h => by obtain ⟨_, _, rfl, ⟨a, rfl⟩, h2⟩ := TyL.cons h; cases TyL.nil h2; exact ⟨a, rfl⟩
 | .str, _, h => by obtain ⟨_, _, rfl, ⟨a, rfl⟩, h2⟩ := TyL.cons h; cases TyL.nil h2; exact ⟨a, rfl⟩
 | .sl e, _, h => by obtain ⟨_, _, rfl, ⟨a, rfl⟩, h2⟩ := TyL.cons h; cases TyL.nil h2; exact ⟨a, rfl⟩
 | .node, _, h => full_node h
 | .pop, _, h => full_pop h
 | .cur, _, h => full_cur h
inductive WideC : Cv → Prop
 | int {k : IntKind} {n : Int} (h : (Lit.int k n).wf = true) : WideC (.v (.int k n))
 | bool {b : Bool} : WideC (.v (.bool b))
 | str {s : BA} (h : s.size ≤ maxLen) : WideC (.v (.string s))
 | lst {t : Ty} {xs : List (El t)} (h : xs.length ≤ maxLen) (hx : ∀ x ∈ xs, ∀ c ∈ enc t x, WideC c) : WideC (.l t xs)
def tiles (code : List (Nat × Ty)) : Nat → List (Nat × Nat) → Option (List Ty)
 | _, [] => some []
 | o, (off, ft) :: r => (aget code ft).bind fun t => cond (Nat.beq off o) ((tiles code (o + esz t) r).bind fun l => some (sig t ++ l)) none
def tileChk (t : Tab) : Bool := t.code.all fun x => !isSt x.2 || (match aget t.fld x.1 with | some L => decide (tiles t.code 0 L = some (sig x.2)) | none => false)
variable {H : Type} {en : TypeId × Value → H} {P : Program} {w : World} {tb : Tab}
theorem Tab.Ok.cells (h : tb.Ok P) {T : Nat} {t : Ty} (hT : aget tb.code T = some t) : P.cellsOf T = esz t := by
 obtain ⟨i, zv, h1, h2, _⟩ := h.info (T, t) (aget_mem hT)
 simp [Program.cellsOf, h1, h2]
def AnyB (w : World) (k : Nat) : Prop := k < w.heap.size
theorem RowL.append {Pr : Nat → Prop} : ∀ {cs ds : List Cv} {us vs : List Value}, RowL w Pr cs us → RowL w Pr ds vs → RowL w Pr (cs ++ ds) (us ++ vs)
 | [], _, [], _, _, h => h
 | [], _, _ :: _, _, h, _ => h.elim
 | _ :: _, _, [], _, h, _ => h.elim
 | _ :: _, _, _ :: _, _, h, h' => ⟨h.1, RowL.append h.2 h'⟩
theorem fields_rd {fuel : Nat} (hOk : tb.Ok P) (IH : ∀ (T : Nat) (t : Ty) (cs : List Value) (y : DataW H × List MemPlace), aget tb.code T = some t → DataW.trod en P w 0 (fun _ => true) true fuel T cs = some y →
      ∃ x : El t, RowL w (AnyB w) (enc t x) cs ∧ ∀ c ∈ enc t x, WideC c) (cs : List Value) :
    ∀ (fs : List Field) (o : Nat) (l : List Ty), tiles tb.code o (fs.map fun f => (f.offset, f.type)) = some l → (∀ f ∈ fs, ∃ y, DataW.trod en P w 0 (fun _ => true) true fuel f.type ((cs.drop f.offset).take (P.cellsOf f.type)) = some y) →
      cs.length = o + l.length → ∃ cvs, TyL l cvs ∧ RowL w (AnyB w) cvs (cs.drop o) ∧ ∀ c ∈ cvs, WideC c
 | [], o, l, ht, _, hl => by
  simp only [List.map_nil, tiles, Option.some.injEq] at ht
  subst ht
  refine ⟨[], trivial, ?_, fun c h => by cases h⟩
  rw [List.drop_of_length_le (by simpa using Nat.le_of_eq hl)]
  trivial
 | f :: fs, o, l, ht, hm, hl => by
  simp only [List.map_cons, tiles] at ht
  obtain ⟨t, hft, ht⟩ := bindS ht
  obtain ⟨ho, ht⟩ := condN ht
  obtain ⟨l', ht3, hl'⟩ := bindS ht
  have ho := beqN ho
  simp only [Option.some.injEq] at hl'
  subst hl'
  obtain ⟨y, hy⟩ := hm f (by simp)
  rw [hOk.cells hft, ho] at hy
  obtain ⟨x, hx1, hx2⟩ := IH f.type t _ y hft hy
  have hsz : (sig t).length = esz t := by
   have := (enc_ty t x).len
   rw [← this, enc_length]
  obtain ⟨cvs, h1, h2, h3⟩ := fields_rd hOk IH cs fs (o + esz t) l' ht3 (fun f h => hm f (by simp [h])) (by simp at hl; omega)
  refine ⟨enc t x ++ cvs, (enc_ty t x).append h1, ?_, fun c hc => (List.mem_append.1 hc).elim (hx2 c) (h3 c)⟩
  have e : cs.drop o = (cs.drop o).take (esz t) ++ cs.drop (o + esz t) := by
   rw [← List.drop_drop, List.take_append_drop]
  rw [e]
  exact hx1.append h2
end Go.Gm
namespace Go.Gm
open Go
variable {H : Type} {en : TypeId × Value → H} {P : Program} {w : World} {tb : Tab}
open Classical in
theorem RdSl.mk {Pr : Nat → Prop} {t : Ty} {xs : List (El t)} {b o cap : Nat} {cs : Array Value} {el : Nat} {fz : Nat × Nat} (hcap : xs.length ≤ cap) (hP : Pr b) (hb : w.heap[b]? = some (.cells cs el fz))
 (hr : ∀ (i : Nat) x (j : Nat) c, xs[i]? = some x → (enc t x)[j]? = some c → ∃ u, cs[o + i * esz t + j]? = some u ∧ CRd w Pr c u) : RdSl w Pr t xs (.slice (some ⟨b, o, none⟩) xs.length cap) := by
  let Good : Nat → Nat → (Path → Value) → Prop := fun i j f => ∀ x (t' : Ty) (ys : List (El t')), xs[i]? = some x → (enc t x)[j]? = some (.l t' ys) → cs[o + i * esz t + j]? = some (f []) ∧ TreeRd w Pr t' ys f
  have hgood : ∀ i j, ∃ f, Good i j f := by
    intro i j
    by_cases h : ∃ (x : El t) (t' : Ty) (ys : List (El t')), xs[i]? = some x ∧ (enc t x)[j]? = some (.l t' ys)
    · obtain ⟨x, t', ys, hx, hc⟩ := h
      obtain ⟨u, hu, hrd⟩ := hr i x j _ hx hc
      obtain ⟨av, h0, h1⟩ := hrd
      refine ⟨av, fun x2 t2 ys2 hx2 hc2 => ?_⟩
      rw [hx] at hx2; cases hx2
      rw [hc] at hc2; cases hc2
      exact ⟨by rw [h0]; exact hu, h1⟩
    · exact ⟨fun _ => .nilFunc, fun x t' ys hx hc => (h ⟨x, t', ys, hx, hc⟩).elim⟩
  let kid : Nat → Nat → Path → Value := fun i j => Classical.choose (hgood i j)
  have hkid : ∀ i j, Good i j (kid i j) := fun i j => Classical.choose_spec (hgood i j)
  let av : Path → Value
    | [] => .slice (some ⟨b, o, none⟩) xs.length cap
    | (i, j) :: q => kid i j q
  refine ⟨av, rfl, fun p s hs => ?_⟩
  cases p with
  | nil =>
    simp only [subR, Option.some.injEq] at hs
    subst hs
    refine ⟨_, cap, rfl, hcap, fun _ => ⟨b, o, cs, el, fz, rfl, hP, hb, fun i x j c hx hc => ?_⟩⟩
    obtain ⟨u, hu, hrd⟩ := hr i x j c hx hc
    refine ⟨u, hu, ?_⟩
    cases c with
    | v y => exact hrd
    | l t' ys =>
      have := (hkid i j x t' ys hx hc).1
      rw [hu] at this
      show u = kid i j []
      exact (Option.some.inj this)
  | cons ij q =>
    obtain ⟨i, j⟩ := ij
    simp only [subR] at hs
    split at hs
    · rename_i x hx
      split at hs
      · rename_i t' ys hc
        exact (hkid i j x t' ys hx hc).2 q s hs
      · cases hs
    · cases hs
theorem RdSl.nil {Pr : Nat → Prop} (t : Ty) (a : Option Addr) (cap : Nat) : RdSl w Pr t [] (.slice a 0 cap) := by
 refine ⟨fun _ => .slice a 0 cap, rfl, fun p s hs => ?_⟩
 cases p with
 | nil => simp only [subR, Option.some.injEq] at hs; subst hs; exact ⟨a, cap, rfl, Nat.zero_le _, fun h => (h rfl).elim⟩
 | cons ij q => simp [subR] at hs
theorem lt_of_get' {α : Type} {xs : List α} {j : Nat} {x : α} (h : xs[j]? = some x) : j < xs.length := by
 rcases Nat.lt_or_ge j xs.length with h' | h'
 ·exact h'
 ·simp [List.getElem?_eq_none h'] at h
theorem open_row (hOk : tb.Ok P) (hT : tileChk tb = true) : ∀ (fuel : Nat) (T : Nat) (t : Ty) (cs : List Value) (y : DataW H × List MemPlace), aget tb.code T = some t → DataW.trod en P w 0 (fun _ => true) true fuel T cs = some y →
    ∃ x : El t, RowL w (AnyB w) (enc t x) cs ∧ ∀ c ∈ enc t x, WideC c := by
  intro fuel
  induction fuel with
  | zero => intro T t cs y _ h; simp [DataW.trod] at h
  | succ fuel IH =>
    intro T t cs y hc h
    have hu := hOk.und (T, t) (aget_mem hc)
    have str : isSt t = true → ∃ x : El t, RowL w (AnyB w) (enc t x) cs ∧ ∀ c ∈ enc t x, WideC c := by
      intro hs
      have h1 := List.all_eq_true.1 hT (T, t) (aget_mem hc)
      simp only [hs, Bool.not_true, Bool.false_or] at h1
      split at h1
      · rename_i L hL
        have h1 := of_decide_eq_true h1
        obtain ⟨fs, hf1, hf2, _, _⟩ := hOk.fld (T, L) (aget_mem hL)
        have hf2 : L = fs.toList.map (fun f => (f.offset, f.type)) := hf2
        obtain ⟨xs, n, hn, _, hlen, hxs, hall⟩ := DataW.trod_struct hf1 h
        have hn : fuel = n := by omega
        subst hn
        rw [hOk.cells hc] at hlen
        have hsig : (sig t).length = esz t := by simp [sig, enc_length]
        obtain ⟨cvs, h2, h3, h4⟩ := fields_rd hOk IH cs fs.toList 0 (sig t) (by rw [← hf2]; exact h1) (fun f hf => by
          obtain ⟨i, hi⟩ := List.mem_iff_getElem?.1 hf
          have hi' : fs[i]? = some f := by simpa using hi
          have hlt : i < xs.length := by
            rw [hxs]
            rcases Nat.lt_or_ge i fs.size with h' | h'
            · exact h'
            · simp [Array.getElem?_eq_none h'] at hi'
          exact ⟨xs[i], by rw [hall i f hi']; simp [hlt]⟩) (by omega)
        obtain ⟨x, hx⟩ := full t h2
        subst hx
        exact ⟨x, by simpa using h3, h4⟩
      · cases h1
    cases t with
    | i k =>
      have hu : P.underlying T = some (.int k) := hu
      obtain ⟨n, rfl, _, hw⟩ := DataW.trod_int hu h
      exact ⟨n, ⟨rfl, trivial⟩, fun c hc => by have : c = .v (.int k n) := by simpa [enc] using hc
                                               subst this; exact .int hw⟩
    | bool =>
      have hu : P.underlying T = some .bool := hu
      obtain ⟨b, rfl, _⟩ := DataW.trod_bool hu h
      exact ⟨b, ⟨rfl, trivial⟩, fun c hc => by have : c = .v (.bool b) := by simpa [enc] using hc
                                               subst this; exact .bool⟩
    | str =>
      have hu : P.underlying T = some .string := hu
      obtain ⟨s, rfl, _, hs⟩ := DataW.trod_string hu h
      exact ⟨s, ⟨rfl, trivial⟩, fun c hc => by have : c = .v (.string s) := by simpa [enc] using hc
                                               subst this; exact .str hs⟩
    | sl e =>
      obtain ⟨el, hu, hel⟩ := (hu : ∃ el, P.underlying T = some (.slice el) ∧ (tb.env []).code el = some e)
      have hel : aget tb.code el = some e := hel
      rcases DataW.trod_slice hu h with ⟨rfl, _⟩ | ⟨a, len, cap, elems, rest, n, hn, rfl, _, _, hl, hm, hlen, hall, _, _⟩
      · exact ⟨[], ⟨RdSl.nil e none 0, trivial⟩, fun c hc => by
          have : c = .l e [] := by simpa [enc] using hc
          subst this; exact .lst (by simp) (fun x hx => by cases hx)⟩
      · have hn : fuel = n := by omega
        subst hn
        rw [hOk.cells hel] at hall
        have hone : ∀ i, i < len → ∃ (x : El e) (us : List Value), w.cells? 0 (a.add (i * esz e)) (esz e) = some us ∧ RowL w (AnyB w) (enc e x) us ∧ ∀ c ∈ enc e x, WideC c := by
          intro i hi
          have h1 := hall i hi
          have : elems[i]? = some (elems[i]'(by omega)) := by simp
          rw [this] at h1
          obtain ⟨us, hus, hy⟩ := Option.bind_eq_some_iff.1 h1
          obtain ⟨x, hx1, hx2⟩ := IH el e us _ hel hy
          exact ⟨x, us, hus, hx1, hx2⟩
        have hch : ∃ f : Nat → El e, ∀ i, i < len → ∃ us : List Value, w.cells? 0 (a.add (i * esz e)) (esz e) = some us ∧ RowL w (AnyB w) (enc e (f i)) us ∧ ∀ c ∈ enc e (f i), WideC c :=
          ⟨fun i => if h : i < len then Classical.choose (hone i h) else zero e, fun i hi => by
            simp only [dif_pos hi]; exact Classical.choose_spec (hone i hi)⟩
        obtain ⟨f, hf⟩ := hch
        let xs : List (El e) := (List.range len).map f
        have hxl : xs.length = len := by simp [xs]
        have hxi : ∀ (i : Nat) x, xs[i]? = some x → i < len ∧ x = f i := fun i x hx => by
          have hi : i < len := by have := lt_of_get' hx; omega
          refine ⟨hi, ?_⟩
          simp only [xs, List.getElem?_map, List.getElem?_range hi, Option.map_some, Option.some.injEq] at hx
          exact hx.symm
        refine ⟨xs, ⟨?_, trivial⟩, fun c hc => ?_⟩
        · show RdSl w (AnyB w) e xs (.slice (some a) len cap)
          by_cases h0 : len = 0
          · have : xs = [] := List.length_eq_zero_iff.1 (by omega)
            rw [this, h0]; exact RdSl.nil e _ _
          · have he : 0 < esz e := esz_pos e
            have hcell : ∀ i j, i < len → j < esz e → ∀ us : List Value, w.cells? 0 (a.add (i * esz e)) (esz e) = some us → w.cell? ((a.add (i * esz e)).add j) = us[j]? := fun i j _ hj us hus => (World.cells?_some hus).2.2 j hj
            obtain ⟨us0, hus0, hr0, _⟩ := hf 0 (by omega)
            have hfirst : ∃ c, w.cell? a = some c := by
              have h1 := hcell 0 0 (by omega) he us0 hus0
              have hl0 := (World.cells?_some hus0).2.1
              have : us0[0]? = some (us0[0]'(by omega)) := by simp
              rw [this] at h1
              exact ⟨_, by simpa [Addr.add] using h1⟩
            obtain ⟨c0, hc0⟩ := hfirst
            obtain ⟨b, o, sp⟩ := a
            have hb : ∃ cs el' fz, w.heap[b]? = some (.cells cs el' fz) ∧ sp = none := by
              unfold World.cell? at hc0
              simp only at hc0
              split at hc0
              · rename_i cs el' fz hheap
                split at hc0
                · cases hc0
                · rename_i hsp
                  exact ⟨cs, el', fz, hheap, by cases sp <;> simp_all⟩
              · cases hc0
            obtain ⟨cs, el', fz, hheap, rfl⟩ := hb
            have hblt : b < w.heap.size := (Array.getElem?_eq_some_iff.1 hheap).1
            have := RdSl.mk (w := w) (Pr := AnyB w) (t := e) (xs := xs) (b := b) (o := o) (cap := cap) (cs := cs) (el := el') (fz := fz) (by omega) hblt hheap (fun i x j c hx hcj => by
              obtain ⟨hi, rfl⟩ := hxi i x hx
              obtain ⟨us, hus, hrow, _⟩ := hf i hi
              obtain ⟨z, hz, hrd⟩ := hrow.get j c hcj
              have hj : j < esz e := by
                have := lt_of_get' hcj
                rw [enc_length] at this; exact this
              have h1 := hcell i j hi hj us hus
              rw [hz] at h1
              refine ⟨z, ?_, hrd⟩
              have ha : ((⟨b, o, none⟩ : Addr).add (i * esz e)).add j = ⟨b, o + i * esz e + j, none⟩ := by rw [addrAdd, addrAdd]
              rw [ha, cellIn hheap] at h1
              exact h1)
            rw [hxl] at this
            exact this
        · have : c = .l e xs := by simpa [enc] using hc
          subst this
          refine .lst (by omega) (fun x hx c hc => ?_)
          obtain ⟨i, hi⟩ := List.mem_iff_getElem?.1 hx
          obtain ⟨hlt, rfl⟩ := hxi i x hi
          obtain ⟨_, _, _, h3⟩ := hf i hlt
          exact h3 c hc
    | _ => exact str rfl
end Go.Gm
namespace Go.Gm
open Go Go.ChangeShapes Go.WideShapes Go.RowKit
variable {H : Type} {en : TypeId × Value → H} {P : Program} {w : World} {tb : Tab}
inductive DsOk : List Ty → List Dt → Prop
 | nil : DsOk [] []
 | cons {t : Ty} {ts : List Ty} {x : El t} {ds : List Dt} (hx : ∀ c ∈ enc t x, WideC c) (h : DsOk ts ds) : DsOk (t :: ts) (.d t x :: ds)
def Codes (tb : Tab) : List Nat → List Ty → Prop
 | [], [] => True
 | T :: Ts, t :: ts => aget tb.code T = some t ∧ Codes tb Ts ts
 | _, _ => False
theorem form_of (hOk : tb.Ok P) {T : Nat} {t : Ty} (hc : aget tb.code T = some t) {base : Nat} {v : Value} (hv : Value.okWide P w .any base T v) {us : List Value} (hus : v.cells.toList = us) {x : El t} (hr : RowL w (AnyB w) (enc t x) us) : ValRd w (AnyB w) t x v := by
 have hrow : RowRd w (AnyB w) (enc t x) us.toArray := ⟨by simpa using hr.len, fun j c hj => by simpa using hr.get j c hj⟩
 have hu := hOk.und (T, t) (aget_mem hc)
 refine ⟨us.toArray, ?_, hrow⟩
 have ea : v.cells = us.toArray := by rw [← hus]
 have str : isSt t = true → (∃ fs, P.underlying T = some (.struct fs)) → Form t v us.toArray := by
  intro hs ⟨fs, hfs⟩
  simp only [Value.okWide, hfs] at hv
  obtain ⟨cs, rfl, _, _⟩ := hv
  simp only [Form, hs, if_true]
  rw [← ea]; rfl
 have one : isSt t = false → (∀ c ∈ enc t x, ∀ z, CRd w (AnyB w) c z → flatB z = true) → us.length = 1 → (∀ cs, v ≠ .agg cs) → Form t v us.toArray := by
  intro hs hfl hl hna
  have hv1 : v.cells = #[v] := by cases v <;> first | rfl | exact absurd rfl (hna _)
  rw [hv1] at ea
  simp only [Form, hs, Bool.false_eq_true, if_false]
  refine ⟨ea.symm, ?_⟩
  cases us with
  | nil => simp at hl
  | cons u us =>
   have hlen := hr.len
   obtain ⟨c, hcc⟩ : ∃ c, (enc t x)[0]? = some c := by
    cases he : enc t x with
    | nil => rw [he] at hlen; simp at hlen
    | cons c cs => exact ⟨c, rfl⟩
   obtain ⟨z, hz, hrd⟩ := hr.get 0 c hcc
   simp only [List.getElem?_cons_zero, Option.some.injEq] at hz
   subst hz
   have : v = u := by
    have := congrArg (fun a => a[0]?) ea
    simpa using this
   rw [this]
   exact hfl c (List.mem_of_getElem? hcc) u hrd
 have hlen := hr.len
 cases t with
 | i k =>
  have hu : P.underlying T = some (.int k) := hu
  refine one rfl (fun c hc z hz => ?_) (by simpa [enc] using hlen) (fun cs e => ?_)
  ·have : c = .v (.int k x) := by simpa [enc] using hc
   subst this; cases hz; rfl
  ·subst e; simp [Value.okWide, hu, Cell.okWide, Cell.ok] at hv
 | bool =>
  have hu : P.underlying T = some .bool := hu
  refine one rfl (fun c hc z hz => ?_) (by simpa [enc] using hlen) (fun cs e => ?_)
  ·have : c = .v (.bool x) := by simpa [enc] using hc
   subst this; cases hz; rfl
  ·subst e; simp [Value.okWide, hu, Cell.okWide, Cell.ok] at hv
 | str =>
  have hu : P.underlying T = some .string := hu
  refine one rfl (fun c hc z hz => ?_) (by simpa [enc] using hlen) (fun cs e => ?_)
  ·have : c = .v (.string x) := by simpa [enc] using hc
   subst this; cases hz; rfl
  ·subst e; simp [Value.okWide, hu, Cell.okWide, Cell.ok] at hv
 | sl e =>
  obtain ⟨el, hu, _⟩ := (hu : ∃ el, P.underlying T = some (.slice el) ∧ (tb.env []).code el = some e)
  refine one rfl (fun c hc z hz => ?_) (by simpa [enc] using hlen) (fun cs e' => ?_)
  ·have : c = .l e x := by simpa [enc] using hc
   subst this
   obtain ⟨av, h0, h1⟩ := hz
   obtain ⟨a, cap, e1, _⟩ := h1 [] _ rfl
   rw [← h0, e1]; rfl
  ·subst e'; simp [Value.okWide, hu, Cell.okWide, Cell.ok] at hv
 | _ => exact str rfl hu
theorem open_args {wl : World} (hOk : tb.Ok P) (hT : tileChk tb = true) {base : Nat} : ∀ {Ts : List Nat} {ts : List Ty} {vs : List Value} {dd : List (DataW H)} {ps : List MemPlace}, Codes tb Ts ts → (∀ (j : Nat) T v, Ts[j]? = some T → vs[j]? = some v → Value.okWide P w .any base T v) →
    DataW.TrodAll en P w 0 (fun _ => true) true Ts vs dd ps → ∃ ds : List Dt, ArgsOk wl w (AnyB w) (ts.map fun _ => .ro) ds vs (ts.map fun _ _ => False) ∧ DsOk ts ds
 | [], [], vs, dd, ps, _, _, h => by
  obtain ⟨rfl, _, _⟩ := trodAll_nil h
  exact ⟨[], .nil, .nil⟩
 | [], _ :: _, _, _, _, h, _, _ => h.elim
 | _ :: _, [], _, _, _, h, _, _ => h.elim
 | T :: Ts, t :: ts, vs, dd, ps, hc, hv, h => by
  obtain ⟨v, vs', d, ds', p, q, rfl, rfl, rfl, h1, h2⟩ := trodAll_cons h
  obtain ⟨fuel, hf⟩ := h1
  obtain ⟨x, hx1, hx2⟩ := open_row hOk hT fuel T t _ _ hc.1 hf
  obtain ⟨ds, h3, h4⟩ := open_args hOk hT hc.2 (fun j T' v' hj hj' => hv (j + 1) T' v' (by simpa using hj) (by simpa using hj')) h2
  exact ⟨.d t x :: ds, ArgsOk.cons (m := .ro) (F := fun _ => False) (show ArgOk wl w (AnyB w) .ro (.d t x) v _ from form_of hOk hc.1 (hv 0 T v rfl rfl) rfl hx1) h3, .cons hx2 h4⟩
theorem trodAll_later (hl : laidOutB P = true) {W W' : World} (hb : Below W.heap.size W W') : ∀ {Ts : List Nat} {vs : List Value} {dd : List (DataW H)} {ps : List MemPlace}, (∀ T ∈ Ts, P.readableRec T = true ∧ T < P.types.size) →
    DataW.TrodAll en P W 0 (fun _ => true) true Ts vs dd ps → (∀ x ∈ ps, x.block < W.heap.size) → DataW.TrodAll en P W' 0 (fun b => decide (b < W.heap.size)) true Ts vs dd ps
 | [], vs, dd, ps, _, h, _ => by
  obtain ⟨rfl, rfl, rfl⟩ := trodAll_nil h
  exact trodAll_mk0
 | T :: Ts, vs, dd, ps, hr, h, hlt => by
  obtain ⟨v, vs', d, ds', p, q, rfl, rfl, rfl, h1, h2⟩ := trodAll_cons h
  exact ⟨p, q, Below.trod hl (hr T (by simp)).1 (hr T (by simp)).2 h1 hb (fun x hx => hlt x (by simp [hx])), trodAll_later hl hb (fun T' hT' => hr T' (by simp [hT'])) h2 (fun x hx => hlt x (by simp [hx])), rfl⟩
theorem ArgsOk.kept {w : World} : ∀ {ts : List Ty} {ds : List Dt} {us : List Value} {Fs : List (Nat → Prop)}, ArgsOk w w (AnyB w) (ts.map fun _ => .ro) ds us Fs → ArgsOk w w (AnyB w) (ts.map fun _ => .kp) ds us Fs
 | [], _, _, _, h => by cases h; exact .nil
 | t :: ts, _, _, _, h => by
  cases h with
  | cons h hs =>
   rename_i d ds u us F Fs
   refine ArgsOk.cons (m := .kp) ?_ (ArgsOk.kept hs)
   cases d with
   | clo _ _ => exact h
   | d t x =>
    obtain ⟨us, hf, hr⟩ := h
    refine ⟨us, hf, hr.1, fun j c hj => ?_⟩
    obtain ⟨z, hz, hc⟩ := hr.2 j c hj
    refine ⟨z, hz, ?_⟩
    cases c with
    | v x => exact hc
    | l t xs => exact RdSl.mono (fun _ _ => trivial) hc
theorem law_contract (hOk : tb.Ok P) (hT : tileChk tb = true) (hl : laidOutB P = true) {f : Nat} {fn : Func} {Ts : List Nat} {ts : List Ty} (hp : fn.params.toList = Ts) (hc : Codes tb Ts ts) {q : Qt} {m : Am} (hm : m = .ro ∨ m = .kp)
 (hs : SpecOk P f (Spec.of (ts.map fun _ => m) [false] true q)) (hq : ∀ ds, DsOk ts ds → q ds = some (true, [.d .bool true])) {Tb : Nat} (hres : fn.resultTypes = #[Tb]) (hTb : P.underlying Tb = some .bool)
    (hrd : Ts.all (fun T => P.readableRec T && decide (T < P.types.size)) = true) {s : ChangeSpec} (hvars : s.vars = []) (hfn : ∀ ds : List (DataW H), ds.length = Ts.length → s.fn H ds = { results := [.lit (.bool true)], args := ds })
    {apart : Bool} (W : World) (base : Nat) (args : Array Value) (dd gs : List (DataW H)) (before : List MemPlace)
 (hval : ∀ (j : Nat) t v, fn.params[j]? = some t → args[j]? = some v → Value.okWide P W .any base t v) (hW : DataW.Whole en P fn.params.toList s.vars apart W args.toList dd gs before) (hWl : W.ShapedOpen P) :
    Calls P f args W fun e W' => ∃ v, e = .returned v ∧ s.post en P fn apart true false false W args v W' := by
 have hW0 := hW
 obtain ⟨p, q', hA, hV, hbe, hfz, hnd⟩ := hW
 rw [hvars] at hV
 obtain ⟨hgs, hq'⟩ := trodVars_none hV
 subst hgs hq'
 rw [hp] at hA
 obtain ⟨ds, hargs, hds⟩ := open_args hOk hT (base := base) hc (fun j T v hj hj' => hval j T v (by
  have : fn.params.toList[j]? = some T := by rw [hp]; exact hj
  simpa using this) (by simpa using hj')) hA
 replace hargs : ArgsOk W W (AnyB W) (ts.map fun _ => m) ds args.toList (ts.map fun _ _ => False) := by
  rcases hm with rfl | rfl
  ·exact hargs
  ·exact hargs.kept
 have hap : PairApart (ts.map fun _ _ => False : List (Nat → Prop)) := by
  unfold PairApart
  rw [List.pairwise_map]
  exact List.pairwise_iff_getElem.2 fun _ _ _ _ _ k h => h.elim
 have hout := hs (R := List Dt) ds some [.d .bool true] (by
  show (match q ds with | some (g, outs) => cond g (some outs) none | none => none) = some [.d .bool true]
  rw [hq ds hds]; rfl) W W args.toList (fun _ => False) (AnyB W) _ hWl (fun b o hb => ⟨Array.getElem?_eq_some_iff.1 hb |>.1, hb⟩) hargs hap (fun F hF k hk => by
   obtain ⟨_, _, rfl⟩ := List.mem_map.1 hF; exact hk) (fun k _ h => h) (fun k hk => hk) (fun k hk => hk.elim)
 have hargs' : args.toList.toArray = args := by simp
 replace hout : Calls P f args.toList.toArray W _ := hout
 rw [hargs'] at hout
 refine hout.mono ?_
 rintro e W' ⟨outs, ho, hA'⟩
 have ho : outs = [.d .bool true] := Option.some.inj ho
 subst ho
 obtain ⟨rs, Gs, Bs, he, hRes, _⟩ := hA'.out
 have hv : e = .returned (.bool true) := by
  have hRes : RessOk W W' true [false] [.d .bool true] rs Gs := hRes
  cases hRes with
  | val h hs' =>
   rename_i u us F Fs
   cases hs'
   simp only [if_true] at h
   obtain ⟨us, hform, hrow⟩ := h
   obtain ⟨e1, _⟩ := hform.size rfl
   obtain ⟨Fs', _, _, _, hr⟩ := hrow
   obtain ⟨z, hz, hcz⟩ := hr 0 (.v (.bool true)) rfl
   subst e1
   have hcz : z = .bool true := hcz
   subst hcz
   have hz := (Option.some.inj hz)
   rw [he]
   show Ending.returned (packV [_]) = _
   rw [show packV [_] = _ from rfl]
   exact congrArg Ending.returned hz
 have hB : Below W.heap.size W W' := ⟨hA'.kept.os, hA'.kept.tape, hA'.kept.output, hA'.kept.same.1, fun k hk => hA'.kept.same.2 k hk (fun h => h)⟩
 refine ⟨_, hv, ?_⟩
 have hlen : dd.length = Ts.length := (trodAll_length hA).2
 have hfn' := hfn (dd ++ []) (by simpa using hlen)
 refine ⟨dd, [], before, [], p, [], hW0, ?_, ?_, ?_, hB.frame _, fun h => by cases h⟩
 ·rw [hfn', hres]
  exact trodAll_mk1 ⟨1, by simp [DataW.trod, Value.cells, hTb]⟩
 ·rw [hfn', hp]
  simp only [List.append_nil]
  exact trodAll_later hl hB (fun T hT' => by simpa using List.all_eq_true.1 hrd T hT') hA (fun x hx => hW0.lt x (by rw [hbe]; simp [hx]))
 ·rw [hvars, hfn']
  exact rfl
end Go.Gm
namespace Go.Gm
open Go
def inR (x lo hi : Int) : Bool := decide (x ≥ lo) && decide (x ≤ hi)
def okI (n : Int) : Bool := decide (-9223372036854775808 ≤ n) && decide (n ≤ 9223372036854775807)
theorem okI_iff {n : Int} : okI n = true ↔ -9223372036854775808 ≤ n ∧ n ≤ 9223372036854775807 := by simp [okI]
def smStr (s : BA) : Bool := Nat.ble s.size 1048576
def smL {α : Type} (f : α → Bool) (xs : List α) : Bool := Nat.ble xs.length 1048576 && xs.all f
theorem smStr_of {s : BA} (h : s.size ≤ 1048576) : smStr s = true := Nat.ble_eq_true_of_le h
theorem sum_le {α : Type} (g : α → Nat) : ∀ {xs : List α} {x : α}, x ∈ xs → g x ≤ (xs.map g).sum
 | y :: ys, x, h => by
  simp only [List.map_cons, List.sum_cons]
  rcases List.mem_cons.1 h with rfl | h
  ·exact Nat.le_add_right _ _
  ·exact Nat.le_trans (sum_le g h) (Nat.le_add_left _ _)
theorem smL_len {α : Type} {f : α → Bool} {xs : List α} (h : smL f xs = true) : xs.length ≤ 1048576 := by
 simp only [smL, Bool.and_eq_true] at h; exact bleN h.1
theorem smL_all {α : Type} {f : α → Bool} {xs : List α} (h : smL f xs = true) : xs.all f = true := by
 simp only [smL, Bool.and_eq_true] at h; exact h.2
def same {α : Type} (x : α) : α := x
def sm2 {α : Type} (f : α → Bool) (x y : α) : Bool := f x && f y
theorem smL_at {t : Ty} {f : El t → Bool} {xs : List (El t)} (h : smL f xs = true) {j : Nat} (hj : j < xs.length) : f (atI xs j) = true := by
 obtain ⟨x, hx, _⟩ := drop_get hj
 rw [atI_of hx]; exact List.all_eq_true.1 (smL_all h) x (List.mem_of_getElem? hx)
def firstN (p : Nat → Bool) : Nat → Nat → Option Nat
 | _, 0 => none
 | j, d + 1 => cond (p j) (some j) (firstN p (j + 1) d)
theorem loop_find {R : Type} {F : Nat → Int → Option R} {n : Nat} {p : Nat → Bool} {hit : Int → Option R} {miss : Option R} (hs : ∀ m j, j < n → F (m + 1) (j : Int) = cond (p j) (hit (j : Int)) (F m ((j + 1 : Nat) : Int)))
 (he : ∀ m, F (m + 1) (n : Int) = miss) : ∀ d j m, j + d = n → d < m → F m (j : Int) = (firstN p j d).elim miss (fun i => hit (i : Int)) := by
 intro d
 induction d with
 | zero =>
  intro j m hj hm
  obtain ⟨m, rfl⟩ : ∃ m', m = m' + 1 := ⟨m - 1, by omega⟩
  have : j = n := by omega
  subst this
  rw [he]; rfl
 | succ d ih =>
  intro j m hj hm
  obtain ⟨m, rfl⟩ : ∃ m', m = m' + 1 := ⟨m - 1, by omega⟩
  rw [hs m j (by omega), ih (j + 1) m (by omega) (by omega)]
  simp only [firstN]
  cases p j <;> rfl
theorem firstN_some {p : Nat → Bool} : ∀ {d j i : Nat}, firstN p j d = some i → j ≤ i ∧ i < j + d ∧ p i = true ∧ ∀ k, j ≤ k → k < i → p k = false
 | 0, _, _, h => by cases h
 | d + 1, j, i, h => by
  simp only [firstN] at h
  cases hp : p j with
  | true => rw [hp] at h; cases h; exact ⟨Nat.le_refl _, by omega, hp, fun k h1 h2 => by omega⟩
  | false =>
   rw [hp] at h
   obtain ⟨h1, h2, h3, h4⟩ := firstN_some h
   refine ⟨by omega, by omega, h3, fun k hk hk' => ?_⟩
   by_cases e : k = j
   ·subst e; exact hp
   ·exact h4 k (by omega) hk'
theorem firstN_none {p : Nat → Bool} : ∀ {d j : Nat}, firstN p j d = none → ∀ k, j ≤ k → k < j + d → p k = false
 | 0, _, _, k, h1, h2 => by omega
 | d + 1, j, h, k, h1, h2 => by
  simp only [firstN] at h
  cases hp : p j with
  | true => rw [hp] at h; cases h
  | false =>
   rw [hp] at h
   by_cases e : k = j
   ·subst e; exact hp
   ·exact firstN_none h k (by omega) (by omega)
def plc (o : Option Nat) : Int := o.elim (-1) fun i => (i : Int)
end Go.Gm
namespace Go.Gm
open Go
variable {wl : World} {w w' : World} {Mf ROa : Nat → Prop}
end Go.Gm
namespace Go.Gm
open Go
abbrev Q := Qt
def qlt (μ : List Dt → Nat) (N : Nat) (q : Q) : Q := fun ds => match q ds with | some (g, outs) => some (g && Nat.blt (μ ds) N, outs) | none => none
def qeq (μ : List Dt → Nat) (N : Nat) (q : Q) : Q := fun ds => match q ds with | some (g, outs) => some (g && Nat.beq (μ ds) N, outs) | none => none
theorem spec_part {P : Program} {f : Nat} {modes : List Am} {res : List Bool} {own : Bool} {q : Q} (h : ∀ ds outs, q ds = some (true, outs) → ∃ q0 : Q, SpecOk P f (Spec.of modes res own q0) ∧ q0 ds = some (true, outs)) : SpecOk P f (Spec.of modes res own q) := by
 intro R ds k r hr
 obtain ⟨outs, hq, hk⟩ := Spec.of_some hr
 obtain ⟨q0, hs, h0⟩ := h ds outs hq
 have hr0 : (Spec.of modes res own q0).fn ds k = some r := by
  show (match q0 ds with | some (g, outs) => cond g (k outs) none | none => none) = some r
  rw [h0]; exact hk
 intro wl w us Mf ROa Fs hWl hBs hA hp hFM hRM hRlt hMlt
 exact Calls.mono (hs ds k r hr0 wl w us Mf ROa Fs hWl hBs hA hp hFM hRM hRlt hMlt) fun e w' ⟨outs, h1, h2⟩ => ⟨outs, h1, ⟨h2.out, h2.kept⟩⟩
theorem qeq_some {μ : List Dt → Nat} {N : Nat} {q : Q} {ds : List Dt} {outs : List Dt} (h : qeq μ N q ds = some (true, outs)) : q ds = some (true, outs) ∧ μ ds = N := by
 unfold qeq at h
 cases hq : q ds with
 | none => rw [hq] at h; cases h
 | some go =>
  obtain ⟨g, o⟩ := go
  rw [hq] at h
  simp only [Option.some.injEq, Prod.mk.injEq, Bool.and_eq_true] at h
  obtain ⟨⟨h1, h2⟩, h3⟩ := h
  exact ⟨by rw [h1, h3], beqN h2⟩
theorem qlt_some {μ : List Dt → Nat} {N : Nat} {q : Q} {ds : List Dt} {outs : List Dt} (h : qlt μ N q ds = some (true, outs)) : q ds = some (true, outs) ∧ μ ds < N := by
 unfold qlt at h
 cases hq : q ds with
 | none => rw [hq] at h; cases h
 | some go =>
  obtain ⟨g, o⟩ := go
  rw [hq] at h
  simp only [Option.some.injEq, Prod.mk.injEq, Bool.and_eq_true] at h
  obtain ⟨⟨h1, h2⟩, h3⟩ := h
  rw [Nat.blt_eq] at h2
  exact ⟨by rw [h1, h3], h2⟩
theorem qeq_self {μ : List Dt → Nat} {q : Q} {ds : List Dt} {outs : List Dt} (h : q ds = some (true, outs)) : qeq μ (μ ds) q ds = some (true, outs) := by
 unfold qeq; rw [h]; simp
theorem spec_rec {P : Program} {f : Nat} {modes : List Am} {res : List Bool} {own : Bool} {q : Q} (μ : List Dt → Nat)
 (h : ∀ N, SpecOk P f (Spec.of modes res own (qlt μ N q)) → SpecOk P f (Spec.of modes res own (qeq μ N q))) : SpecOk P f (Spec.of modes res own q) := by
 have all : ∀ N, SpecOk P f (Spec.of modes res own (qeq μ N q)) := by
  intro N
  induction N using Nat.strongRecOn with
  | _ N ih =>
   refine h N (spec_part fun ds outs hq => ?_)
   obtain ⟨h1, h2⟩ := qlt_some hq
   exact ⟨qeq μ (μ ds) q, ih (μ ds) h2, qeq_self h1⟩
 intro R
 exact spec_part fun ds outs hq => ⟨qeq μ (μ ds) q, all (μ ds), qeq_self hq⟩
structure Rc where
 f : Nat
 ms : List Am
 rs : List Bool
 ow : Bool
 mu : List Dt → Nat
 q : Q
theorem spec_recs {P : Program} (L : List Rc)
 (h : ∀ N, (∀ x ∈ L, SpecOk P x.f (Spec.of x.ms x.rs x.ow (qlt x.mu N x.q))) → ∀ x ∈ L, SpecOk P x.f (Spec.of x.ms x.rs x.ow (qeq x.mu N x.q))) :
    ∀ x ∈ L, SpecOk P x.f (Spec.of x.ms x.rs x.ow x.q) := by
 have all : ∀ N, ∀ x ∈ L, SpecOk P x.f (Spec.of x.ms x.rs x.ow (qeq x.mu N x.q)) := by
  intro N
  induction N using Nat.strongRecOn with
  | _ N ih =>
   refine h N fun x hx => spec_part fun ds outs hq => ?_
   obtain ⟨h1, h2⟩ := qlt_some hq
   exact ⟨qeq x.mu (x.mu ds) x.q, ih (x.mu ds) h2 x hx, qeq_self h1⟩
 intro x hx R
 exact spec_part fun ds outs hq => ⟨qeq x.mu (x.mu ds) x.q, all (x.mu ds) x hx, qeq_self hq⟩
section ev
variable {wl : World} {R : Type}
end ev
variable {R : Type} {P : Program} {E : Env} {w0 w w' : World} {Mf : Nat → Prop} {g : Gh} {st : St} {a : Act}
end Go.Gm
namespace Go.Gm
open Go
variable {wl : World} {P : Program} {w w' : World} {Mf ROa : Nat → Prop}
theorem backs_skip : ∀ {ms : List Am} {ds : List Dt} {us : List Value}, ms.all (fun m => !(isBack m)) = true → ms.length = us.length → ds.length = us.length → BacksOk wl w ms ds us [] []
 | [], [], [], _, _, _ => .nil
 | m :: ms, d :: ds, u :: us, h, h1, h2 => by
  simp only [List.all_cons, Bool.and_eq_true] at h
  refine .skip ?_ (backs_skip h.2 (by simpa using h1) (by simpa using h2))
  cases m <;> first | trivial | exact absurd h.1 (by simp [isBack])
 | [], _ :: _, [], _, _, h => by simp at h
 | [], _, _ :: _, _, h, _ => by simp at h
 | _ :: _, _, [], _, h, _ => by simp at h
 | _ :: _, [], _ :: _, _, _, h => by simp at h
theorem After.own1 {s : Spec} (hown : s.own = true) (hres : s.res = [false]) (hm : s.modes.all (fun m => !(isBack m)) = true) {ds : List Dt} {us : List Value} (h1 : s.modes.length = us.length) (h2 : ds.length = us.length) {t : Ty} {x : El t} {v : Value}
    {G : Nat → Prop} (hv : ValOwn w' G t x v) (hG : ∀ k, G k → (Mf k ∨ w.heap.size ≤ k) ∧ k < w'.heap.size) (hk : Kept w w' Mf) : After wl w w' Mf ROa s ds us [.d t x] (.returned v) := by
 refine ⟨⟨[v], [G], [], rfl, ?_, ?_, List.Pairwise.nil, fun B hB => by simp at hB, fun _ => ⟨List.pairwise_singleton _ _, fun G' hG' k hk => ?_⟩, fun e => absurd (hown.symm.trans e) (by simp), fun G hG B hB => by simp at hB, fun G' hG' k hk => ?_, fun B hB => by simp at hB⟩, hk⟩
 ·rw [hown, hres]; exact .val (by simpa using hv) .nil
 ·rw [hres]; exact backs_skip hm h1 h2
 ·have : G' = G := by simpa using hG'
  subst this; exact (hG k hk).1
 ·have : G' = G := by simpa using hG'
  subst this; exact (hG k hk).2
theorem spec_own1 {f : Nat} {modes : List Am} {q : Qt} (hm : modes.all (fun m => !(isBack m)) = true)
 (h : ∀ ds outs, q ds = some (true, outs) → ∃ t x, outs = [.d t x] ∧ ∀ {wl : World} (w : World) (us : List Value) (Mf ROa : Nat → Prop) (Fs : List (Nat → Prop)), ArgsOk wl w ROa modes ds us Fs → PairApart Fs → (∀ F ∈ Fs, ∀ k, F k → Mf k) →
 (∀ k, ROa k → ¬ Mf k) → (∀ k, ROa k → k < w.heap.size) → (∀ k, Mf k → k < w.heap.size) →
      Calls P f us.toArray w fun e w' => ∃ v G, e = .returned v ∧ Kept w w' Mf ∧ ValOwn w' G t x v ∧ ∀ k, G k → (Mf k ∨ w.heap.size ≤ k) ∧ k < w'.heap.size) : SpecOk P f (Spec.of modes [false] true q) := by
 intro R ds k r hr wl w us Mf ROa Fs hWl hBs hA hp hFM hRM hRlt hMlt
 obtain ⟨outs, hq, hk⟩ := Spec.of_some hr
 obtain ⟨t, x, rfl, hc⟩ := h ds outs hq
 refine Calls.mono (hc w us Mf ROa Fs hA hp hFM hRM hRlt hMlt) ?_
 rintro e w' ⟨v, G, rfl, h1, h2, h3⟩
 obtain ⟨hl1, hl2, _⟩ := hA.len
 exact ⟨_, hk, After.own1 rfl rfl hm hl1 hl2 h2 h3 h1⟩
theorem valOwn_sl {G : Nat → Prop} {t : Ty} {xs : List (El t)} {v : Value} (h : OwnSl w G t xs v) : ValOwn w G (.sl t) xs v := by
 refine ⟨#[v], by simp [Form, isSt, h.flat], fun j => if j = 0 then G else fun _ => False, fun j k hk => ?_, fun j j' k hk hk' => ?_, by simp [enc], fun j c hc => ?_⟩
 ·dsimp only at hk
  split at hk
  ·exact hk
  ·exact hk.elim
 ·dsimp only at hk hk'
  by_cases e1 : j = 0
  ·by_cases e2 : j' = 0
   ·omega
   ·simp [e2] at hk'
  ·simp [e1] at hk
 ·cases j with
  | zero =>
   simp only [enc, List.getElem?_cons_zero, Option.some.injEq] at hc
   subst hc
   exact ⟨v, rfl, by simpa [COwn] using h⟩
  | succ j => simp [enc] at hc
theorem valRd_sl {Pr : Nat → Prop} {t : Ty} {xs : List (El t)} {u : Value} (h : ValRd w Pr (.sl t) xs u) : RdSl w Pr t xs u := by
 obtain ⟨us, hf, hr⟩ := h
 obtain ⟨e, _⟩ := hf.size rfl
 subst e
 obtain ⟨z, hz, hc⟩ := hr.2 0 (.l t xs) rfl
 have hz : u = z := by simpa using hz
 subst hz; exact hc
theorem valOwn_sl' {F : Nat → Prop} {t : Ty} {xs : List (El t)} {u : Value} (h : ValOwn w F (.sl t) xs u) : ∃ G, (∀ k, G k → F k) ∧ OwnSl w G t xs u := by
 obtain ⟨us, hf, Fs, h1, h2, h3, h4⟩ := h
 obtain ⟨e, _⟩ := hf.size rfl
 subst e
 obtain ⟨z, hz, hc⟩ := h4 0 (.l t xs) rfl
 have hz : u = z := by simpa using hz
 subst hz
 exact ⟨Fs 0, h1 0, hc⟩
def CloneE (P : Program) (f : Nat) : Prop := ∀ (a : Option Addr) (c : Nat) (w : World), Calls P f #[.slice a 0 c] w fun e w' =>
 (e = .returned (.slice none 0 0) ∧ w' = w) ∨ ∃ el, e = .returned (.slice (some ⟨w.heap.size, 0, none⟩) 0 0) ∧ w' = w.alloc (.cells #[] el)
theorem ownSl_nil (w : World) (F : Nat → Prop) (t : Ty) {v : Value} (h : NodeOwn w F t [] v fun _ _ => v) : OwnSl w F t [] v := by
 refine ⟨fun _ => v, rfl, fun p s hs => ?_, fun p q s s' b hp hq _ _ => ?_⟩
 ·cases p with
  | nil => simp only [subR, Option.some.injEq] at hs; subst hs; exact h
  | cons ij p => simp [subR] at hs
 ·cases p with
  | nil => cases q with
   | nil => rfl
   | cons ij q => simp [subR] at hq
  | cons ij p => simp [subR] at hp
theorem spec_cloneE {f : Nat} {t : Ty} (h : CloneE P f) {q : Qt} (hq : ∀ ds outs, q ds = some (true, outs) → ds = [.d (.sl t) []] ∧ outs = [.d (.sl t) []]) : SpecOk P f (Spec.of [.ro] [false] true q) := by
 refine spec_own1 rfl fun ds outs hqs => ?_
 obtain ⟨rfl, rfl⟩ := hq ds outs hqs
 refine ⟨_, _, rfl, fun w us Mf ROa Fs hA _ _ _ _ _ => ?_⟩
 cases hA with
 | cons h1 hA =>
  cases hA
  obtain ⟨av, h0, hav⟩ := valRd_sl h1
  obtain ⟨a, cap, e1, _, _⟩ := hav [] ⟨t, []⟩ rfl
  rw [h0] at e1
  subst e1
  refine Calls.mono (h a cap w) ?_
  rintro e w' (⟨rfl, rfl⟩ | ⟨el, rfl, rfl⟩)
  ·exact ⟨_, fun _ => False, rfl, ⟨rfl, rfl, rfl, Nat.le_refl _, fun _ _ _ => rfl⟩, valOwn_sl (nilOwn _ _ _), fun _ h => h.elim⟩
  ·refine ⟨_, fun k => k = w.heap.size, rfl, ⟨rfl, rfl, rfl, by simp, fun b hb _ => heap_alloc_old w _ hb⟩, valOwn_sl (ownSl_nil _ _ _ ?_), fun k hk => ?_⟩
   ·exact .inr ⟨w.heap.size, 0, 0, #[], el, rfl, rfl, heap_alloc_new w _, Nat.le_refl _, by simp, fun i y j c h => by simp at h⟩
   ·subst hk; exact ⟨.inr (Nat.le_refl _), by simp⟩
theorem spec_clone {f : Nat} {q qa qb : Qt} (ha : SpecOk P f (Spec.of [.ro] [false] true qa)) (hb : SpecOk P f (Spec.of [.ro] [false] true qb)) (h : ∀ ds outs, q ds = some (true, outs) → qa ds = some (true, outs) ∨ qb ds = some (true, outs)) :
    SpecOk P f (Spec.of [.ro] [false] true q) :=
  spec_part fun ds outs hq => (h ds outs hq).elim (fun h => ⟨qa, ha, h⟩) fun h => ⟨qb, hb, h⟩
end Go.Gm
namespace Go.Gm
open Go
variable {wl : World} {P : Program} {E : Env} {w w' : World}
theorem run_append_at (t ty e : TypeId) (i : TypeInfo) (ht : P.underlying t = some (.slice e)) (hi : P.info? e = some i) (b off n cap : Nat) (a : Addr) (m c : Nat) (news : List Value) (hl : news.length = m * i.size)
 (hnews : ∀ j u, news[j]? = some u → w.cell? (a.add j) = some u) (h1 : ∀ u ∈ news, u.oneCell' = true) (hroom : n + m ≤ cap) (cs : Array Value) (el : TypeId) (hb : w.heap[b]? = some (.cells cs el (0, 0))) (hfit : off + n * i.size + news.length ≤ cs.size) :
 (Builtin.append_ #[t, t] ty #[.slice (some ⟨b, off, none⟩) n cap, .slice (some a) m c]).run P w = .ok (.slice (some ⟨b, off, none⟩) (n + m) cap) (w.setRow b (putAt cs (off + n * i.size) news.toArray)) := by
 have hfc := run_firstCells_some (P := P) w i.size m a m c news hl hnews
 have hst := run_storeCells_at P b (off + n * i.size) el news 0 cs w hb (by simpa using hfit) h1
 simp only [Nat.add_zero] at hst
 rw [← row_putAt (by simpa using hfit)]
 simp [Builtin.append_, run_underlying ht, sizeOf, typeInfo, hi, Builtin.lenOf, hroom, hfc, addrAdd, hst]
theorem step_append_at {ops : Array Oper} {o : Oper} {a : Act} {K : Act → World → Prop} {Q : Exit → Act → World → Prop} {R : Prop}
    (hg : o.guard = none) (s x : Operand) (t : TypeId) (hop : o.op = Op.call { callee := Callee.builtin Builtin.append, args := #[s, x], argTypes := #[t, t] })
 (e : TypeId) (i : TypeInfo) (size : Nat) (h1 : P.underlying t = some (.slice e)) (h2 : P.info? e = some i) (h4 : i.size = size)
 (b off n cap : Nat) (hs : a.eval s = .slice (some ⟨b, off, none⟩) n cap)
 (ad : Addr) (m c : Nat) (news : List Value) (hx : a.eval x = .slice (some ad) m c) (hn : news.length = m * size) (hc : ∀ j u, news[j]? = some u → w.cell? (ad.add j) = some u) (h1c : ∀ u ∈ news, u.oneCell' = true)
 (hroom : n + m ≤ cap) (cs : Array Value) (el : TypeId) (hb : w.heap[b]? = some (.cells cs el (0, 0))) (hfit : off + n * size + news.length ≤ cs.size)
 (hK : K (a.put o.dst (.slice (some ⟨b, off, none⟩) (n + m) cap)) (w.setRow b (putAt cs (off + n * size) news.toArray))) :
    if Region.wanted o (yielded ops a.tmps) = true then Oper.wp P o a w K Q else R := by
 have hw : Region.wanted o (yielded ops a.tmps) = true := by simp [Region.wanted, hg]
 rw [if_pos hw]
 subst h4
 have hrun := run_append_at (P := P) (w := w) t o.type e i h1 h2 b off n cap ad m c news hn hc h1c hroom cs el hb hfit
 unfold Oper.wp
 simp [execOp, hop, resolve, invoke, builtin, hs, hx, hrun, Result.andThen]
 exact hK
def DelEnd (w w' : World) (b o n i j sz : Nat) (cs : Array Value) (el : TypeId) : Prop :=
  Kept w w' (fun k => k = b) ∧ ∃ cs', w'.heap[b]? = some (.cells cs' el (0, 0)) ∧ cs'.size = cs.size ∧ ∀ k, k < (n - (j - i)) * sz → cs'[o + k]? = cs[o + if k < i * sz then k else k + (j - i) * sz]?
def DelE (P : Program) (f sz : Nat) : Prop :=
 (∀ (a : Option Addr) (n cap i : Nat) (w : World), i ≤ n → n ≤ cap → Calls P f #[.slice a n cap, .int .i64 i, .int .i64 i] w fun e w' => e = .returned (.slice a n cap) ∧ w' = w) ∧
  ∀ (b o n cap i j : Nat) (cs : Array Value) (el : TypeId) (w : World), i < j → j ≤ n → n ≤ cap → w.heap[b]? = some (.cells cs el (0, 0)) → o + cap * sz ≤ cs.size → (∀ k u, k < n * sz → cs[o + k]? = some u → u.oneCell' = true) →
    Calls P f #[.slice (some ⟨b, o, none⟩) n cap, .int .i64 i, .int .i64 j] w fun e w' => e = .returned (.slice (some ⟨b, o, none⟩) (n - (j - i)) cap) ∧ DelEnd w w' b o n i j sz cs el
theorem del_pack (hE : E.Ok P) {T : TypeId} {e : Ty} (hT : E.code T = some (.sl e)) {sz : Nat} (hsz : esz e = sz) {b o n cap i j : Nat} {cs : Array Value} {el : TypeId} (hij : i < j) (hj : j ≤ n) (hn : n ≤ cap)
 (hb : w.heap[b]? = some (.cells cs el (0, 0))) (hs : o + cap * sz ≤ cs.size) (h1 : ∀ k u, k < n * sz → cs[o + k]? = some u → u.oneCell' = true) :
    ∃ (eT : TypeId) (ii : TypeInfo) (news : List Value) (W1 W2 : World), P.underlying T = some (.slice eT) ∧ P.info? eT = some ii ∧ ii.size = sz ∧ news.length = (n - j) * sz ∧ (∀ u ∈ news, u.oneCell' = true) ∧
 (∀ A : Addr, A = ⟨b, o + j * sz, none⟩ ∨ n = j → ∀ t u, news[t]? = some u → w.drew.cell? (A.add t) = some u) ∧ o + i * sz + news.length ≤ cs.size ∧ W1 = w.drew.setRow b (putAt cs (o + i * sz) news.toArray) ∧
 (∀ ty, (Builtin.clear_ #[T] ty #[.slice (some ⟨b, o + (i + (n - j)) * sz, none⟩) (n - (i + (n - j))) (cap - (i + (n - j)))]).run P W1 = .ok (.tuple #[]) W2) ∧ DelEnd w W2 b o n i j sz cs el := by
 subst hsz
 obtain ⟨eT, hu, hel⟩ := hE.slice hT
 obtain ⟨ii, zv, hi, hsz, hby, hz, hzc⟩ := hE.info eT e hel
 have hpos := esz_pos e
 have hzs : zv.cells.size = esz e := by rw [hzc]; simp [zvals, enc_length]
 have hzf : ∀ v ∈ zv.cells.toList, v.oneCell' = true := by
  rw [hzc]
  intro v hv
  simp only [zvals] at hv
  obtain ⟨c, hc, rfl⟩ := List.mem_map.1 (by simpa using hv)
  obtain ⟨m, hm⟩ := List.getElem?_of_mem hc
  cases c with
  | v x => exact flat_one (flat_of_cell (P' := fun _ => True) (w := w) hm rfl)
  | l t ys => rfl
 have hm1 : j * esz e ≤ n * esz e := Nat.mul_le_mul_right _ hj
 have hm2 : n * esz e ≤ cap * esz e := Nat.mul_le_mul_right _ hn
 have hm3 : i * esz e ≤ j * esz e := Nat.mul_le_mul_right _ (Nat.le_of_lt hij)
 have hm4 : (n - j) * esz e = n * esz e - j * esz e := Nat.sub_mul _ _ _
 have hm5 : (j - i) * esz e = j * esz e - i * esz e := Nat.sub_mul _ _ _
 have hm6 : (i + (n - j)) * esz e = i * esz e + (n * esz e - j * esz e) := by rw [Nat.add_mul, hm4]
 have hm7 : (n - (i + (n - j))) * esz e = j * esz e - i * esz e := by rw [show n - (i + (n - j)) = j - i by omega, hm5]
 have hm8 : (n - (j - i)) * esz e = i * esz e + (n * esz e - j * esz e) := by rw [show n - (j - i) = i + (n - j) by omega, hm6]
 have hlen : ((cs.toList.drop (o + j * esz e)).take ((n - j) * esz e)).length = (n - j) * esz e := by simp; omega
 have hget : ∀ t, t < (n - j) * esz e → ((cs.toList.drop (o + j * esz e)).take ((n - j) * esz e))[t]? = cs[o + j * esz e + t]? := by
  intro t ht
  rw [List.getElem?_take, if_pos ht, List.getElem?_drop, Array.getElem?_toList]
 generalize (cs.toList.drop (o + j * esz e)).take ((n - j) * esz e) = news at hlen hget
 have hnl : ∀ t u, news[t]? = some u → t < (n - j) * esz e := fun t u hu => by
  have := (List.getElem?_eq_some_iff.1 hu).1
  omega
 have hfit : o + i * esz e + news.length ≤ cs.size := by omega
 have hb1 : (w.drew.setRow b (putAt cs (o + i * esz e) news.toArray)).heap[b]? = some (.cells (putAt cs (o + i * esz e) news.toArray) el (0, 0)) := setRow_heap w.drew b cs _ el (0, 0) hb
 have hsize1 : (putAt cs (o + i * esz e) news.toArray).size = cs.size := putAt_size (by simpa using hfit)
 have hcl := fun ty => run_clear_at (P := P) T eT ty zv hu (fun w => by simp [zeroValue, typeInfo, hi, hz]) hzf (by omega) b (o + (i + (n - j)) * esz e) (n - (i + (n - j))) (cap - (i + (n - j))) (by omega) _ el hb1 (by rw [hsize1, hzs, hm7]; omega)
 have hzl : (Builtin.zeroCells zv.cells (n - (i + (n - j)))).size = j * esz e - i * esz e := by rw [size_zeroCells, hzs, hm7]
 have hsize2 : (putAt (putAt cs (o + i * esz e) news.toArray) (o + (i + (n - j)) * esz e) (Builtin.zeroCells zv.cells (n - (i + (n - j))))).size = cs.size := by rw [putAt_size (by rw [hsize1, hzl]; omega), hsize1]
 refine ⟨eT, ii, news, _, _, hu, hi, hsz, hlen, fun u hu => ?_, fun A hA t u hu => ?_, hfit, rfl, hcl, ⟨rfl, rfl, rfl, ?_⟩, _, setRow_heap _ b _ _ el (0, 0) hb1, hsize2, fun k hk => ?_⟩
 ·obtain ⟨t, ht⟩ := List.getElem?_of_mem hu
  have hlt := hnl t u ht
  rw [hget t hlt] at ht
  exact h1 (j * esz e + t) u (by omega) (by rw [← Nat.add_assoc]; exact ht)
 ·have hlt := hnl t u hu
  rcases hA with rfl | h
  ·rw [hget t hlt] at hu
   rw [addrAdd, cellIn (w := w.drew) hb]
   exact hu
  ·subst h; simp at hlt
 ·exact SameBut.trans (Y := fun k => k = b) (Z := fun k => k = b) (setRow_same w.drew b _) (setRow_same _ b _) (fun _ h => h) (fun _ _ h => h)
 ·rw [hm8] at hk
  rw [putAt_get (by rw [hsize1, hzl]; omega), if_neg (by omega), putAt_get (by simpa using hfit)]
  have hna : news.toArray.size = news.length := by simp
  by_cases h : k < i * esz e
  ·rw [if_neg (by omega), if_pos h]
  ·rw [if_pos (by omega), if_neg h, List.getElem?_toArray, show o + k - (o + i * esz e) = k - i * esz e by omega, hget _ (by omega), hm5]
   congr 1
   omega
theorem TreeOwn.pick {F : Nat → Prop} {t : Ty} {xs ys : List (El t)} {av : Path → Value} (h : TreeOwn w F t xs av) (σ : Nat → Nat) (hσ : ∀ i y, ys[i]? = some y → xs[σ i]? = some y) (hinj : ∀ i i', σ i = σ i' → i = i')
 (hsame : SameBut (fun k => blk (av []) = some k) w w') {v : Value} (hblk : ∀ k, blk v = some k → blk (av []) = some k) (hn : NodeOwn w' F t ys v fun i j => av [(σ i, j)]) : OwnSl w' F t ys v := by
 have hsub : ∀ i j p s, subR t ys ((i, j) :: p) = some s → subR t xs ((σ i, j) :: p) = some s := by
  intro i j p s hs
  simp only [subR] at hs ⊢
  split at hs
  ·rename_i y hy
   rw [hσ i y hy]; exact hs
  ·cases hs
 refine ⟨fun p => match p with | [] => v | (i, j) :: p => av ((σ i, j) :: p), rfl, fun p s hs => ?_, fun p q s s' k hp hq hk hk' => ?_⟩
 ·cases p with
  | nil => simp only [subR, Option.some.injEq] at hs; subst hs; exact hn
  | cons x p =>
   obtain ⟨i, j⟩ := x
   have hs' := hsub i j p s hs
   exact (h.1 _ s hs').here hsame fun k hk e => by have := h.2 _ [] s ⟨t, xs⟩ k hs' rfl hk e; cases this
 ·cases p with
  | nil => cases q with
   | nil => rfl
   | cons y q =>
    obtain ⟨i, j⟩ := y
    have := h.2 [] _ ⟨t, xs⟩ s' k rfl (hsub i j q s' hq) (hblk k hk) hk'
    cases this
  | cons x p =>
   obtain ⟨i, j⟩ := x
   cases q with
   | nil =>
    have := h.2 _ [] s ⟨t, xs⟩ k (hsub i j p s hp) rfl hk (hblk k hk')
    cases this
   | cons y q =>
    obtain ⟨i', j'⟩ := y
    have := h.2 _ _ s s' k (hsub i j p s hp) (hsub i' j' q s' hq) hk hk'
    simp only [List.cons.injEq, Prod.mk.injEq] at this
    obtain ⟨⟨h1, rfl⟩, rfl⟩ := this
    rw [hinj _ _ h1]
theorem TreeOwn.oneCell {F : Nat → Prop} {t : Ty} {xs : List (El t)} {av : Path → Value} (h : TreeOwn w F t xs av) {cs : Array Value} {o : Nat} (hr : RowsIn t xs cs o fun i j => av [(i, j)]) : ∀ k u, k < xs.length * esz t → cs[o + k]? = some u → u.oneCell' = true := by
 intro k u hk hu
 have hpos := esz_pos t
 have hi : k / esz t < xs.length := Nat.div_lt_of_lt_mul (by rw [Nat.mul_comm]; exact hk)
 have hj : k % esz t < esz t := Nat.mod_lt _ hpos
 have hc := List.getElem?_eq_getElem (l := enc t xs[k / esz t]) (i := k % esz t) (by rw [enc_length]; exact hj)
 obtain ⟨z, hz, hcz⟩ := hr (k / esz t) xs[k / esz t] (k % esz t) _ (List.getElem?_eq_getElem hi) hc
 have : k / esz t * esz t + k % esz t = k := by rw [Nat.mul_comm]; exact Nat.div_add_mod k (esz t)
 rw [Nat.add_assoc, this, hu] at hz; cases hz
 generalize (enc t xs[k / esz t])[k % esz t]'(by rw [enc_length]; exact hj) = c at hc hcz
 cases c with
 | v x => exact flat_one (flat_of_cell (P' := fun _ => True) (w := w) hc hcz)
 | l t' ys =>
  have hs := h.1 [(k / esz t, k % esz t)] ⟨t', ys⟩ (subR_one (List.getElem?_eq_getElem hi) hc)
  simp only [CellIs] at hcz
  subst hcz
  rcases hs with ⟨_, e⟩ | ⟨b, o, cap, cs, el, e, _⟩ <;> rw [e] <;> rfl
theorem spec_del {f : Nat} {t : Ty} {sz : Nat} (hsz : esz t = sz) (h : DelE P f sz) {q : Qt}
 (hq : ∀ ds outs, q ds = some (true, outs) → ∃ (xs : List (El t)) (i j : Nat), ds = [.d (.sl t) xs, .d (.i .i64) (i : Int), .d (.i .i64) (j : Int)] ∧ i ≤ j ∧ j ≤ xs.length ∧ outs = [.d (.sl t) (xs.take i ++ xs.drop j)]) :
    SpecOk P f (Spec.of [.mov, .ro, .ro] [false] true q) := by
 subst hsz
 refine spec_own1 rfl fun ds outs hqs => ?_
 obtain ⟨xs, i, j, rfl, hij, hj, rfl⟩ := hq ds outs hqs
 refine ⟨_, _, rfl, fun w us Mf ROa Fs hA _ hFM _ _ hMlt => ?_⟩
 cases hA with
 | @cons _ _ _ _ u1 us F Fs h1 hA =>
  cases hA with
  | cons h2 hA =>
   cases hA with
   | cons h3 hA =>
    cases hA
    have e2 := valRd_v (t := .i .i64) (v := .int .i64 i) rfl rfl h2
    have e3 := valRd_v (t := .i .i64) (v := .int .i64 j) rfl rfl h3
    subst e2; subst e3
    obtain ⟨G, hG, hown⟩ := valOwn_sl' h1
    have hGM : ∀ k, G k → Mf k := fun k hk => hFM F (by simp) k (hG k hk)
    have same : i = j → ∀ (a : Option Addr) (cap : Nat), u1 = .slice a xs.length cap → xs.length ≤ cap → Calls P f #[u1, .int .i64 i, .int .i64 j] w fun e w' => ∃ v G, e = .returned v ∧ Kept w w' Mf ∧ ValOwn w' G (.sl t) (xs.take i ++ xs.drop j) v ∧ ∀ k, G k → (Mf k ∨ w.heap.size ≤ k) ∧ k < w'.heap.size := by
     rintro rfl a cap rfl hcap
     refine Calls.mono (h.1 a xs.length cap i w hj hcap) ?_
     rintro e w' ⟨rfl, rfl⟩
     rw [List.take_append_drop]
     exact ⟨_, G, rfl, ⟨rfl, rfl, rfl, Nat.le_refl _, fun _ _ _ => rfl⟩, valOwn_sl hown, fun k hk => ⟨.inl (hGM k hk), hMlt k (hGM k hk)⟩⟩
    obtain ⟨av, h0, hT⟩ := hown
    have hnode := hT.1 [] ⟨t, xs⟩ rfl
    rw [h0] at hnode
    rcases hnode with ⟨e, rfl⟩ | ⟨b, o, cap, cs, el, rfl, hF, hb, hcap, hsize, hrows⟩
    ·have e : xs = [] := e
     subst e
     exact same (by simp at hj; omega) none 0 rfl (Nat.le_refl _)
    ·have hcap : xs.length ≤ cap := hcap
     have hsize : o + cap * esz t ≤ cs.size := hsize
     have hrows : RowsIn t xs cs o fun i j => av [(i, j)] := hrows
     by_cases hne : i = j
     ·exact same hne _ cap rfl hcap
     ·have hlt : i < j := by omega
      refine Calls.mono (h.2 b o xs.length cap i j cs el w hlt hj hcap hb hsize (hT.oneCell hrows)) ?_
      rintro e w' ⟨rfl, hk, cs', hb', hcs, hget⟩
      have hlen : (xs.take i ++ xs.drop j).length = xs.length - (j - i) := by simp; omega
      refine ⟨_, G, rfl, ⟨hk.os, hk.tape, hk.output, hk.same.1, fun k hk1 hk2 => hk.same.2 k hk1 fun e => by subst e; exact hk2 (hGM _ hF)⟩, ?_, fun k hk' => ⟨.inl (hGM k hk'), Nat.lt_of_lt_of_le (hMlt k (hGM k hk')) hk.same.1⟩⟩
      have hσ : ∀ m y, (xs.take i ++ xs.drop j)[m]? = some y → xs[if m < i then m else m + (j - i)]? = some y := by
       intro m y hy
       by_cases hm : m < i
       ·rw [List.getElem?_append_left (by simp; omega), List.getElem?_take, if_pos hm] at hy
        rw [if_pos hm]; exact hy
       ·rw [List.getElem?_append_right (by simp; omega), List.getElem?_drop] at hy
        rw [if_neg hm, ← hy]
        congr 1
        simp; omega
      refine valOwn_sl (hT.pick (fun m => if m < i then m else m + (j - i)) hσ (fun m m' e => by split at e <;> split at e <;> omega) ⟨hk.same.1, fun k hk1 hk2 => hk.same.2 k hk1 fun e => by subst e; exact hk2 (by rw [h0]; rfl)⟩ (fun k hk => by rw [h0]; exact hk) (.inr ⟨b, o, cap, cs', el, ?_, hF, hb', ?_, by omega, ?_⟩))
      ·rw [hlen]
      ·rw [hlen]; omega
      ·intro m y c z hy hc
       obtain ⟨u, hu, hcu⟩ := hrows _ y c z (hσ m y hy) hc
       refine ⟨u, ?_, hcu⟩
       have hml := el_lt hy
       have hcl := enc_lt hc
       have h1 : m * esz t + esz t ≤ (xs.length - (j - i)) * esz t := by
        have : (m + 1) * esz t ≤ (xs.length - (j - i)) * esz t := Nat.mul_le_mul_right _ (by omega)
        rw [Nat.add_mul] at this; omega
       rw [Nat.add_assoc, hget (m * esz t + c) (by omega), ← hu]
       congr 1
       by_cases hm : m < i
       ·have : m * esz t + esz t ≤ i * esz t := by
         have : (m + 1) * esz t ≤ i * esz t := Nat.mul_le_mul_right _ (by omega)
         rw [Nat.add_mul] at this; omega
        rw [if_pos (by omega), if_pos hm]; omega
       ·have : i * esz t ≤ m * esz t := Nat.mul_le_mul_right _ (by omega)
        rw [if_neg (by omega), if_neg hm, Nat.add_mul (m) (j - i)]; omega
end Go.Gm
namespace Go.Gm
open Go
def delL {α : Type} (xs : List α) (i j : Int) : List α := xs.take i.toNat ++ xs.drop j.toNat
def gDel {α : Type} (xs : List α) (i j : Int) : Bool := decide (0 ≤ i) && decide (i ≤ j) && decide (j ≤ (xs.length : Int))
theorem loop_acc {α A R : Type} {xs : List α} {F : Nat → Nat → A → Option R} {f : A → α → A} {good : A → Option R} (inv : Nat → A → Prop)
 (hi : ∀ (j : Nat) a x, xs[j]? = some x → inv j a → inv (j + 1) (f a x))
 (hs : ∀ m (j : Nat) a x, xs[j]? = some x → inv j a → F (m + 1) j a = F m (j + 1) (f a x)) (he : ∀ m a, inv xs.length a → F (m + 1) xs.length a = good a) :
    ∀ (d j m : Nat) (a : A), j + d = xs.length → d < m → inv j a → F m j a = good ((xs.drop j).foldl f a) := by
 intro d
 induction d with
 | zero =>
  intro j m a hj hm hia
  obtain ⟨m, rfl⟩ : ∃ m', m = m' + 1 := ⟨m - 1, by omega⟩
  have : j = xs.length := by omega
  subst this
  rw [he m a hia, List.drop_length]; rfl
 | succ d ih =>
  intro j m a hj hm hia
  obtain ⟨m, rfl⟩ : ∃ m', m = m' + 1 := ⟨m - 1, by omega⟩
  obtain ⟨x, hx, hd⟩ := drop_get (show j < xs.length by omega)
  rw [hs m j a x hx hia, hd, List.foldl_cons]
  exact ih (j + 1) m _ (by omega) (by omega) (hi j a x hx hia)
def natDig (n : Nat) : List UInt8 := if n < 10 then [UInt8.ofNat (48 + n)] else natDig (n / 10) ++ [UInt8.ofNat (48 + n % 10)]
termination_by n
decreasing_by omega
theorem natDig_lt {n : Nat} (h : n < 10) : natDig n = [UInt8.ofNat (48 + n)] := by rw [natDig, if_pos h]
theorem natDig_ge {n : Nat} (h : ¬ n < 10) : natDig n = natDig (n / 10) ++ [UInt8.ofNat (48 + n % 10)] := by rw [natDig, if_neg h]
theorem natDig_len : ∀ (k n : Nat), n < 10 ^ (k + 1) → (natDig n).length ≤ k + 1
 | 0, n, h => by rw [natDig_lt (by omega)]; simp
 | k + 1, n, h => by
  by_cases h1 : n < 10
  ·rw [natDig_lt h1]; simp
  ·rw [natDig_ge h1, List.length_append]
   have := natDig_len k (n / 10) (by rw [Nat.pow_succ] at h; omega)
   simp only [List.length_cons, List.length_nil]; omega
def digS (n : Int) : BA := ⟨((if n < 0 then [(45 : UInt8)] else []) ++ natDig n.natAbs).toArray⟩
theorem digS_size {n : Int} (h : okI n = true) : (digS n).size ≤ 20 := by
 rw [okI_iff] at h
 have h1 := natDig_len 18 n.natAbs (by have : (10 : Nat) ^ (18 + 1) = 10000000000000000000 := rfl; omega)
 show ((if n < 0 then [(45 : UInt8)] else []) ++ natDig n.natAbs).toArray.size ≤ 20
 rw [List.size_toArray, List.length_append]
 split <;> simp <;> omega
theorem ba_ext {x y : BA} (h : x.data.toList = y.data.toList) : x = y := by
 cases x; cases y
 congr
 exact Array.toList_inj.1 h
theorem ba_app (x y : BA) : (x ++ y).data.toList = x.data.toList ++ y.data.toList := by simp
theorem enc_dig : ∀ d : Nat, d < 10 → Utf8.encode (IntKind.wrap .i32 (IntKind.wrap .i64 ((48 : Int) + (d : Int)))) = ⟨#[UInt8.ofNat (48 + d)]⟩
 | 0, _ => rfl | 1, _ => rfl | 2, _ => rfl | 3, _ => rfl | 4, _ => rfl | 5, _ => rfl | 6, _ => rfl | 7, _ => rfl | 8, _ => rfl | 9, _ => rfl
 | d + 10, h => by omega
theorem tmod_pos {n : Int} (h : 0 ≤ n) : Int.tmod n 10 = ((n.natAbs % 10 : Nat) : Int) := by
 obtain ⟨m, rfl⟩ := Int.eq_ofNat_of_zero_le h
 rfl
theorem tdiv_pos {n : Int} (h : 0 ≤ n) : Int.tdiv n 10 = ((n.natAbs / 10 : Nat) : Int) := by
 obtain ⟨m, rfl⟩ := Int.eq_ofNat_of_zero_le h
 rfl
theorem tmod_neg {n : Int} (h : n < 0) : Int.tmod n 10 = -((n.natAbs % 10 : Nat) : Int) := by
 obtain ⟨m, rfl⟩ : ∃ m : Nat, n = -(m : Int) := ⟨n.natAbs, by omega⟩
 rw [Int.neg_tmod]
 have : (-(m : Int)).natAbs = m := by omega
 rw [this]; rfl
theorem tdiv_neg {n : Int} (h : n < 0) : Int.tdiv n 10 = -((n.natAbs / 10 : Nat) : Int) := by
 obtain ⟨m, rfl⟩ : ∃ m : Nat, n = -(m : Int) := ⟨n.natAbs, by omega⟩
 rw [Int.neg_tdiv]
 have : (-(m : Int)).natAbs = m := by omega
 rw [this]; rfl
theorem digS_nat (m : Nat) : digS (m : Int) = ⟨(natDig m).toArray⟩ := by
 unfold digS
 rw [if_neg (by omega)]; simp
theorem digS_one {n : Int} (h0 : 0 ≤ n) (h : n < 10) : digS n = Utf8.encode (IntKind.wrap .i32 (IntKind.wrap .i64 ((48 : Int) + n))) := by
 obtain ⟨m, rfl⟩ := Int.eq_ofNat_of_zero_le h0
 rw [enc_dig m (by omega), digS_nat, natDig_lt (by omega)]
theorem digS_negone {n : Int} (h0 : n < 0) (h : n > -10) : bs [45] ++ digS (IntKind.wrap .i64 (0 - n)) = digS n := by
 obtain ⟨m, rfl⟩ : ∃ m : Nat, n = -(m : Int) := ⟨n.natAbs, by omega⟩
 rw [wrap_id (by omega) (by omega), show (0 : Int) - -(m : Int) = (m : Int) by omega, digS_nat]
 unfold digS
 rw [if_pos h0]
 apply ba_ext
 rw [ba_app]; simp [bs]
theorem digS_ge {n : Int} (h : ¬ n < 10) : digS (Int.tdiv n 10) ++ Utf8.encode (IntKind.wrap .i32 (IntKind.wrap .i64 ((48 : Int) + (Int.tmod n 10)))) = digS n := by
 rw [tdiv_pos (by omega), tmod_pos (by omega), enc_dig _ (by omega), digS_nat]
 obtain ⟨m, rfl⟩ : ∃ m : Nat, n = (m : Int) := ⟨n.natAbs, by omega⟩
 rw [digS_nat]
 apply ba_ext
 rw [ba_app]
 simp only [Int.natAbs_natCast]
 rw [natDig_ge (n := m) (by omega)]
theorem digS_le {n : Int} (h : ¬ n > -10) : digS (Int.tdiv n 10) ++ digS (IntKind.wrap .i64 (0 - (Int.tmod n 10))) = digS n := by
 rw [tdiv_neg (by omega), tmod_neg (by omega)]
 rw [show (0 : Int) - -((n.natAbs % 10 : Nat) : Int) = ((n.natAbs % 10 : Nat) : Int) by omega, wrap_id (by omega) (by omega), digS_nat]
 obtain ⟨m, rfl⟩ : ∃ m : Nat, n = -(m : Int) := ⟨n.natAbs, by omega⟩
 have e : (-(m : Int)).natAbs = m := by omega
 rw [e]
 unfold digS
 rw [if_pos (by omega), if_pos (by omega)]
 apply ba_ext
 rw [ba_app]
 have e2 : (-((m / 10 : Nat) : Int)).natAbs = m / 10 := by omega
 rw [e, e2, natDig_ge (n := m) (by omega), natDig_lt (n := m % 10) (by omega)]
 simp
def muDig (n : Int) : Nat := 2 * n.natAbs + if n < 0 then 1 else 0
theorem byte_dig : ∀ d : Nat, d < 10 → bytesOf [IntKind.wrap .u8 (IntKind.wrap .i64 ((48 : Int) + (d : Int)))] = ⟨#[UInt8.ofNat (48 + d)]⟩
 | 0, _ => rfl | 1, _ => rfl | 2, _ => rfl | 3, _ => rfl | 4, _ => rfl | 5, _ => rfl | 6, _ => rfl | 7, _ => rfl | 8, _ => rfl | 9, _ => rfl
 | d + 10, h => by omega
def digR (n : Nat) (out : BA) : BA := if n = 0 then out else ⟨(natDig n).toArray⟩ ++ out
theorem digR_step {n : Nat} (h : n ≠ 0) (out : BA) : digR (n / 10) (⟨#[UInt8.ofNat (48 + n % 10)]⟩ ++ out) = digR n out := by
 unfold digR
 rw [if_neg h]
 by_cases h1 : n < 10
 ·rw [if_pos (by omega), natDig_lt h1, Nat.mod_eq_of_lt h1]
 ·rw [if_neg (by omega), natDig_ge h1]
  apply ba_ext
  simp only [ba_app]; simp
theorem app_le {a b : BA} (h : a.size + b.size ≤ 9223372036854775807) : decide (ByteArray.size a + ByteArray.size b ≤ 9223372036854775807) = true := decide_eq_true h
theorem inR_iff {c l h : Int} : inR c l h = true ↔ l ≤ c ∧ c ≤ h := by unfold inR; simp
def gLenW {α : Type} (x : List α) : Bool := Nat.ble x.length WIDE
theorem gLenW_le {α : Type} {x : List α} (h : gLenW x = true) : x.length ≤ 9223372036854775807 := bleN h
theorem gLenW_of {α : Type} {x : List α} (h : x.length ≤ 9223372036854775807) : gLenW x = true := Nat.ble_eq_true_of_le h
theorem gLenW_sm {α : Type} {f : α → Bool} {x : List α} (h : smL f x = true) : gLenW x = true := gLenW_of (Nat.le_trans (smL_len h) (by decide))
def findI {t : Ty} (q : El t → Bool) (xs : List (El t)) : Int := plc (firstN (fun j => q (atI xs j)) 0 xs.length)
theorem sEq_comm (x y : BA) : sEq x y = sEq y x := by rw [Bool.eq_iff_iff, sEq_iff, sEq_iff, eq_comm]
def idxS (xs : List BA) (s : BA) : Int := findI (t := .str) (fun x => sEq s x) xs
theorem okI_of {n : Int} (h0 : -9223372036854775808 ≤ n) (h : n ≤ 9223372036854775807) : okI n = true := okI_iff.2 ⟨h0, h⟩
def ndL {α : Type} (f : α → Nat) (xs : List α) : Nat := (xs.map f).sum
theorem ndL_mem {α : Type} {f : α → Nat} {xs : List α} {x : α} (h : x ∈ xs) : f x ≤ ndL f xs := sum_le f h
mutual
def sm_node : NodeT → Bool
 | ⟨kind, n, s, keys, kids⟩ => (okI kind && (okI n && (smStr s && (smL smStr keys && (Nat.ble kids.length 1048576 && smA_node kids)))))
def smA_node : List NodeT → Bool
 | [] => true
 | x :: xs => sm_node x && smA_node xs
end
theorem smA_node_eq : ∀ xs : List NodeT, smA_node xs = xs.all sm_node
 | [] => by simp [smA_node]
 | x :: xs => by rw [smA_node, smA_node_eq xs, List.all_cons]
theorem sm_node_def (x : NodeT) : sm_node x = (okI x.kind && (okI x.n && (smStr x.s && (smL smStr x.keys && smL sm_node x.kids)))) := by
 cases x; rw [sm_node, smA_node_eq]; rfl
mutual
def szN_node : NodeT → Nat
 | ⟨_, _, s, keys, kids⟩ => s.size + szL ByteArray.size keys + (kids.length + szA_node kids)
def szA_node : List NodeT → Nat
 | [] => 0
 | x :: xs => szN_node x + szA_node xs
end
theorem szA_node_eq : ∀ xs : List NodeT, szA_node xs = (xs.map szN_node).sum
 | [] => by simp [szA_node]
 | x :: xs => by rw [szA_node, szA_node_eq xs, List.map_cons, List.sum_cons]
theorem szN_node_def (x : NodeT) : szN_node x = x.s.size + szL ByteArray.size x.keys + szL szN_node x.kids := by
 cases x; rw [szN_node, szA_node_eq]; rfl
mutual
def nd_node : NodeT → Nat
 | ⟨_, _, _, _, kids⟩ => 1 + ndA_node kids
def ndA_node : List NodeT → Nat
 | [] => 0
 | x :: xs => nd_node x + ndA_node xs
end
theorem ndA_node_eq : ∀ xs : List NodeT, ndA_node xs = ndL nd_node xs
 | [] => by simp [ndA_node, ndL]
 | x :: xs => by rw [ndA_node, ndA_node_eq xs]; simp [ndL]
theorem nd_node_def (x : NodeT) : nd_node x = 1 + ndL nd_node x.kids := by
 cases x; rw [nd_node, ndA_node_eq]
theorem nd_node_kid {x y : NodeT} (h : y ∈ x.kids) : nd_node y < nd_node x := by
 have := ndL_mem (f := nd_node) h
 rw [nd_node_def x]; omega
theorem eqD_node (a b : NodeT) : eqD a b = ((a.kind == b.kind) && ((a.n == b.n) && (sEq a.s b.s && (eqD a.keys b.keys && eqD a.kids b.kids)))) := by
 cases a; cases b
 rw [Bool.eq_iff_iff]; simp [eqD_iff, sEq_iff]
theorem eta_node (x : NodeT) : (⟨x.kind, x.n, x.s, x.keys, x.kids⟩ : NodeT) = x := by cases x; rfl
abbrev eN (x : NodeT) : NodeT := ⟨x.kind, x.n, x.s, x.keys, x.kids⟩
theorem eN_eq (x : NodeT) : eN x = x := eta_node x
def me_node (x : NodeT) (_ : NodeT) : Nat := 2 * nd_node x
def meL_node (x : List NodeT) (_ : List NodeT) : Nat := 2 * ndL nd_node x + 1
def bitI (b : Bool) : Int := cond b 1 0
theorem limLe {α : Type} {xs : List α} (h : xs.length ≤ 1048576) : Nat.ble xs.length LIM = true := Nat.ble_eq_true_of_le (by have : (LIM : Nat) = 4294967296 := rfl; omega)
theorem smL_tail {α : Type} {f : α → Bool} {x : α} {r : List α} (h : smL f (x :: r) = true) : smL f r = true := by
 simp only [smL, Bool.and_eq_true, List.all_cons] at h ⊢
 have := bleN h.1
 rw [List.length_cons] at this
 exact ⟨Nat.ble_eq_true_of_le (by omega), h.2.2⟩
theorem smL_head {α : Type} {f : α → Bool} {x : α} {r : List α} (h : smL f (x :: r) = true) : f x = true := by
 simp only [smL, Bool.and_eq_true, List.all_cons] at h; exact h.2.1
theorem smL_snoc {α : Type} {f : α → Bool} {x : α} {r : List α} (h : smL f r = true) (hx : f x = true) (hl : r.length < 1048576) : smL f (r ++ [x]) = true := by
 simp only [smL, Bool.and_eq_true, List.all_append, List.all_cons, List.all_nil, List.length_append, List.length_cons, List.length_nil] at h ⊢
 exact ⟨Nat.ble_eq_true_of_le (by omega), h.2, hx, trivial⟩
theorem smL_sub {α : Type} {f : α → Bool} {xs ys : List α} (h : smL f ys = true) (hs : ∀ x ∈ xs, x ∈ ys) (hl : xs.length ≤ ys.length) : smL f xs = true := by
 simp only [smL, Bool.and_eq_true] at h ⊢
 exact ⟨Nat.ble_eq_true_of_le (Nat.le_trans hl (bleN h.1)), List.all_eq_true.2 fun x hx => List.all_eq_true.1 h.2 x (hs x hx)⟩
def hasPre (a b : BA) : Bool := decide ((a.size : Int) ≥ (b.size : Int)) && sEq (a.extract 0 b.size) b
def ours (a : BA) : Bool := hasPre a (bs [113,117,97,121,47])
theorem foldl_snoc {α : Type} (xs out : List α) : xs.foldl (fun o x => o ++ [x]) out = out ++ xs := by
 induction xs generalizing out with
 | nil => simp
 | cons x r ih => rw [List.foldl_cons, ih]; simp
theorem gDel_one {α : Type} {xs : List α} {i : Nat} (h : i < xs.length) : gDel xs (i : Int) ((i + 1 : Nat) : Int) = true := by
 simp only [gDel, Bool.and_eq_true, decide_eq_true_eq]; omega
def bigC (xs : List Int) : Bool := decide ((xs.length : Int) > (1048576 : Int))
def gCur (c : CurT) : Bool := decide (0 ≤ c.i) && Nat.ble c.b.length 1048576
theorem gCur_iff {c : CurT} : gCur c = true ↔ 0 ≤ c.i ∧ c.b.length ≤ 1048576 := by
 unfold gCur
 rw [Bool.and_eq_true, decide_eq_true_eq, Nat.ble_eq]
def gCode (b : List Int) : Bool := Nat.ble b.length 1048576
def gPickS (c : CurT) (l : List BA) : Bool := gCur c && (!l.isEmpty && Nat.ble l.length 1048576)
def gPickI (c : CurT) (l : List Int) : Bool := gCur c && (!l.isEmpty && Nat.ble l.length 1048576)
theorem and255 (A : Int) : 0 ≤ ((BitVec.toNat (BitVec.ofInt (IntKind.bits .i64) A &&& BitVec.ofInt (IntKind.bits .i64) (255 : Int)) : Nat) : Int) ∧
 ((BitVec.toNat (BitVec.ofInt (IntKind.bits .i64) A &&& BitVec.ofInt (IntKind.bits .i64) (255 : Int)) : Nat) : Int) ≤ 255 := by
 refine ⟨Int.natCast_nonneg _, ?_⟩
 have h : BitVec.toNat (BitVec.ofInt (IntKind.bits .i64) A &&& BitVec.ofInt (IntKind.bits .i64) (255 : Int)) ≤ 255 := by
  rw [BitVec.toNat_and]
  exact Nat.le_trans Nat.and_le_right (by decide)
 omega
theorem and255w (A : Int) : 0 ≤ IntKind.wrap .i64 ((BitVec.toNat (BitVec.ofInt (IntKind.bits .i64) A &&& BitVec.ofInt (IntKind.bits .i64) (255 : Int)) : Nat) : Int) ∧
    IntKind.wrap .i64 ((BitVec.toNat (BitVec.ofInt (IntKind.bits .i64) A &&& BitVec.ofInt (IntKind.bits .i64) (255 : Int)) : Nat) : Int) ≤ 255 := by
 have := and255 A
 rw [wrap_id (by omega) (by omega)]; exact this
theorem tmod_bd {x n : Int} (h : 0 ≤ x) (hn : 0 < n) : 0 ≤ Int.tmod x n ∧ Int.tmod x n < n := ⟨Int.tmod_nonneg n h, Int.tmod_lt_of_pos x hn⟩
theorem below4 {x y z w : Int} (hx : 0 ≤ x ∧ x ≤ 255) (hy : 0 ≤ y ∧ y ≤ 255) (hz : 0 ≤ z ∧ z ≤ 255) (hw : 0 ≤ w ∧ w ≤ 255) :
    0 ≤ IntKind.wrap .i64 ((IntKind.wrap .i64 ((IntKind.wrap .i64 ((IntKind.wrap .i64 (x * (16777216 : Int))) + (IntKind.wrap .i64 (y * (65536 : Int))))) + (IntKind.wrap .i64 (z * (256 : Int))))) + w) := by
 rw [wrap_id (x := x * 16777216) (by omega) (by omega), wrap_id (x := y * 65536) (by omega) (by omega), wrap_id (x := z * 256) (by omega) (by omega), wrap_id (x := x * 16777216 + y * 65536) (by omega) (by omega),
  wrap_id (x := x * 16777216 + y * 65536 + z * 256) (by omega) (by omega), wrap_id (by omega) (by omega)]
 omega
theorem mem_atI {t : Ty} {xs : List (El t)} {i : Int} (h0 : 0 ≤ i) (h : i < (xs.length : Int)) : atI xs (Int.toNat i) ∈ xs :=
  List.mem_of_getElem? (atI_lt (by omega))
theorem idxOk {α : Type} {xs : List α} {i : Int} (h0 : 0 ≤ i) (h : i < (xs.length : Int)) : (decide ((0 : Int) ≤ i) && decide (i < (xs.length : Int))) = true := by
 rw [decide_eq_true h0, decide_eq_true h]; rfl
theorem lenPos {α : Type} {xs : List α} (h : (!xs.isEmpty) = true) : 0 < (xs.length : Int) := by
 cases xs with
 | nil => cases h
 | cons x r => simp
theorem gPickS_of {c : CurT} {l : List BA} (h : gCur c = true) (hl : (!l.isEmpty && Nat.ble l.length 1048576) = true) : gPickS c l = true := by
 unfold gPickS; rw [h, hl]; rfl
theorem gPickI_of {c : CurT} {l : List Int} (h : gCur c = true) (hl : (!l.isEmpty && Nat.ble l.length 1048576) = true) : gPickI c l = true := by
 unfold gPickI; rw [h, hl]; rfl
theorem eta_cur (c : CurT) : (⟨c.b, c.i, c.h⟩ : CurT) = c := by cases c; rfl
theorem gCode_of {b : List Int} (h : bigC b = false) : gCode b = true := by
 unfold bigC at h
 have := of_decide_eq_false h
 exact Nat.ble_eq_true_of_le (by omega)
theorem smStr_in {l : List BA} {s : BA} (h : s ∈ l) (hl : (l.all smStr) = true) : smStr s = true := List.all_eq_true.1 hl s h
theorem wrap_in (x : Int) : -9223372036854775808 ≤ IntKind.wrap .i64 x ∧ IntKind.wrap .i64 x ≤ 9223372036854775807 := by
 have h0 := Int.emod_nonneg x (show (18446744073709551616 : Int) ≠ 0 by decide)
 have h1 := Int.emod_lt_of_pos x (show (0 : Int) < 18446744073709551616 by decide)
 have e : IntKind.wrap .i64 x = if (true && decide (x % 18446744073709551616 ≥ 9223372036854775808)) = true then x % 18446744073709551616 - 18446744073709551616 else x % 18446744073709551616 := rfl
 rw [e]
 split
 ·rename_i h
  have := of_decide_eq_true (show decide (x % 18446744073709551616 ≥ 9223372036854775808) = true by simpa using h)
  omega
 ·rename_i h
  have : ¬ (x % 18446744073709551616 ≥ 9223372036854775808) := fun hh => h (by simp [hh])
  omega
theorem okI_wrap (x : Int) : okI (IntKind.wrap .i64 x) = true := by
 have := wrap_in x
 exact okI_of this.1 this.2
def numT (s : BA) : BA := cond (!(sEq s ByteArray.empty)) (cond ((((ByteArray.data s).getD 0 0).toNat : Int) == (45 : Int)) (ByteArray.extract s 1 s.size) s) s
def numStep (c : UInt8) (n : Int) : Unit ⊕ Int :=
  cond (decide ((c.toNat : Int) < (48 : Int))) (.inl ()) (cond (decide ((c.toNat : Int) > (57 : Int))) (.inl ())
 (.inr (IntKind.wrap .i64 ((IntKind.wrap .i64 ((10 : Int) * n)) + (IntKind.wrap .i64 (IntKind.wrap .u8 ((c.toNat : Int) - (48 : Int))))))))
def numEnd (s t : BA) (m : Int) : Int × Bool :=
  let n := cond (decide ((t.size : Int) < (s.size : Int))) (IntKind.wrap .i64 (0 - m)) m
  cond (inR n (-1000000000000) 1000000000000) (cond (sEq (digS n) s) (n, true) ((0 : Int), false)) ((0 : Int), false)
def numS (s : BA) : Int × Bool :=
  cond (sEq (numT s) ByteArray.empty) ((0 : Int), false) (cond (decide (((numT s).size : Int) > 13)) ((0 : Int), false) (Sum.elim (fun _ => ((0 : Int), false)) (numEnd s (numT s)) (foldE numStep (numT s).data.toList 0)))
def natS (s : BA) : Int × Bool := cond (numS s).2 ((numS s).1, decide ((numS s).1 ≥ (0 : Int))) ((numS s).1, false)
theorem numEnd_ok {s t : BA} {m : Int} (h : (numEnd s t m).2 = true) : digS (numEnd s t m).1 = s := by
 unfold numEnd at h ⊢
 simp only at h ⊢
 generalize cond (decide ((t.size : Int) < (s.size : Int))) (IntKind.wrap .i64 (0 - m)) m = n at h ⊢
 cases h1 : inR n (-1000000000000) 1000000000000
 ·rw [h1] at h; cases h
 ·rw [h1] at h
  cases h2 : sEq (digS n) s
  ·rw [h2] at h; cases h
  ·exact sEq_iff.1 h2
theorem numS_ok {s : BA} (h : (numS s).2 = true) : digS (numS s).1 = s := by
 unfold numS at h ⊢
 cases h1 : sEq (numT s) ByteArray.empty
 ·rw [h1] at h
  simp only [cond_false] at h ⊢
  cases h2 : decide (((numT s).size : Int) > 13)
  ·rw [h2] at h
   simp only [cond_false] at h ⊢
   cases h3 : foldE numStep (numT s).data.toList 0 with
   | inl _ => rw [h3] at h; cases h
   | inr m => rw [h3] at h; exact numEnd_ok h
  ·rw [h2] at h; cases h
 ·rw [h1] at h; cases h
theorem foldE_append {α A B : Type} (step : α → A → B ⊕ A) : ∀ (xs ys : List α) (a : A), foldE step (xs ++ ys) a = Sum.elim Sum.inl (foldE step ys) (foldE step xs a)
 | [], ys, a => rfl
 | x :: xs, ys, a => by
  simp only [List.cons_append, foldE]
  cases step x a with
  | inl b => rfl
  | inr a' => exact foldE_append step xs ys a'
theorem numStep_dig {d : Nat} (hd : d < 10) {n : Int} (h0 : 0 ≤ n) (h : n ≤ 1000000000000) : numStep (UInt8.ofNat (48 + d)) n = .inr (10 * n + d) := by
 unfold numStep
 have e1 : ((UInt8.ofNat (48 + d)).toNat : Int) = 48 + (d : Int) := by
  rw [UInt8.toNat_ofNat_of_lt' (by show 48 + d < 256; omega)]; omega
 have e2 : IntKind.wrap .u8 ((48 : Int) + (d : Int) - 48) = (d : Int) := by
  have : d = 0 ∨ d = 1 ∨ d = 2 ∨ d = 3 ∨ d = 4 ∨ d = 5 ∨ d = 6 ∨ d = 7 ∨ d = 8 ∨ d = 9 := by omega
  rcases this with rfl | rfl | rfl | rfl | rfl | rfl | rfl | rfl | rfl | rfl <;> rfl
 rw [e1, e2, wrap_id (x := 10 * n) (by omega) (by omega), wrap_id (x := (d : Int)) (by omega) (by omega), wrap_id (x := 10 * n + (d : Int)) (by omega) (by omega),
  decide_eq_false (show ¬ (48 + (d : Int) < 48) by omega), decide_eq_false (show ¬ (48 + (d : Int) > 57) by omega)]
 rfl
theorem fold_natDig (m : Nat) : m ≤ 1000000000000 → foldE numStep (natDig m) 0 = .inr (m : Int) := by
 induction m using Nat.strongRecOn with
 | ind m ih =>
  intro hm
  by_cases h : m < 10
  ·rw [natDig_lt h]
   simp only [foldE]
   rw [numStep_dig h (by omega) (by omega)]
   show (Sum.inr (10 * 0 + (m : Int)) : Unit ⊕ Int) = _
   congr 1; omega
  ·rw [natDig_ge h, foldE_append, ih (m / 10) (by omega) (by omega)]
   show foldE numStep [UInt8.ofNat (48 + m % 10)] ((m / 10 : Nat) : Int) = _
   simp only [foldE]
   rw [numStep_dig (by omega) (by omega) (by omega)]
   show (Sum.inr (10 * ((m / 10 : Nat) : Int) + ((m % 10 : Nat) : Int)) : Unit ⊕ Int) = _
   congr 1; omega
theorem natDig_head (m : Nat) : ∃ c r, natDig m = c :: r ∧ 48 ≤ c.toNat := by
 induction m using Nat.strongRecOn with
 | ind m ih =>
  by_cases h : m < 10
  ·rw [natDig_lt h]
   exact ⟨_, _, rfl, by rw [UInt8.toNat_ofNat_of_lt' (by show 48 + m < 256; omega)]; omega⟩
  ·obtain ⟨c, r, e, hc⟩ := ih (m / 10) (by omega)
   rw [natDig_ge h, e]
   exact ⟨c, _, rfl, hc⟩
theorem numS_dig {i : Nat} (h : i ≤ 1048576) : numS (digS (i : Int)) = ((i : Int), true) := by
 obtain ⟨c, r, e, hc⟩ := natDig_head i
 have hd : (digS (i : Int)).data.toList = natDig i := by rw [digS_nat]
 have hsz : (digS (i : Int)).size = (natDig i).length := by rw [← hd]; rfl
 have hl := natDig_len 6 i (by have : (10 : Nat) ^ (6 + 1) = 10000000 := rfl; omega)
 have hpos : 1 ≤ (natDig i).length := by rw [e]; simp
 have hne : sEq (digS (i : Int)) ByteArray.empty = false := by
  rw [Bool.eq_false_iff]; intro h
  have := sEq_iff.1 h
  rw [this] at hsz
  have h0 : ByteArray.empty.size = 0 := rfl
  omega
 have hb : ((((ByteArray.data (digS (i : Int))).getD 0 0).toNat : Int) == (45 : Int)) = false := by
  have : (ByteArray.data (digS (i : Int))).getD 0 0 = c := by
   rw [digS_nat, e]; rfl
  rw [this, beq_eq_false_iff_ne]; omega
 have hT : numT (digS (i : Int)) = digS (i : Int) := by unfold numT; rw [hne, hb]; rfl
 have h13 : decide (((digS (i : Int)).size : Int) > 13) = false := decide_eq_false (by omega)
 have hin : inR (i : Int) (-1000000000000) 1000000000000 = true := inR_iff.2 (by omega)
 unfold numS
 rw [hT, hne, h13, hd, fold_natDig i (by omega)]
 simp only [cond_false, Sum.elim_inr, numEnd, Int.lt_irrefl, decide_false]
 rw [hin, sEq_self]
 rfl
theorem natS_dig {i : Nat} (h : i ≤ 1048576) : natS (digS (i : Int)) = ((i : Int), true) := by
 unfold natS; rw [numS_dig h]
 simp only [cond_true]
 rw [decide_eq_true (show (i : Int) ≥ 0 by omega)]
theorem size_zero {s : BA} (h : s.size = 0) : s = ByteArray.empty := ba_ext (by rw [List.eq_nil_of_length_eq_zero (show s.data.toList.length = 0 from h)]; rfl)
theorem firstN_eq {p : Nat → Bool} {i d : Nat} (hi : i < d) (hp : p i = true) (hall : ∀ k, k < i → p k = false) : firstN p 0 d = some i := by
 cases h : firstN p 0 d with
 | none => have := firstN_none h i (by omega) (by omega); rw [hp] at this; cases this
 | some k =>
  obtain ⟨_, h2, h3, h4⟩ := firstN_some h
  rcases Nat.lt_trichotomy k i with h5 | h5 | h5
  ·have := hall k h5; rw [h3] at this; cases this
  ·rw [h5]
  ·have := h4 i (by omega) h5; rw [hp] at this; cases this
theorem firstN_cut {p : Nat → Bool} {n m : Nat} : cond (decide (plc (firstN p 0 n) ≥ (m : Int))) (-1 : Int) (plc (firstN p 0 n)) = plc (firstN p 0 (min n m)) := by
 cases h : firstN p 0 n with
 | none =>
  have : firstN p 0 (min n m) = none := by
   cases h2 : firstN p 0 (min n m) with
   | none => rfl
   | some k =>
    obtain ⟨_, h3, h4, _⟩ := firstN_some h2
    have := firstN_none h k (by omega) (by omega)
    rw [h4] at this; cases this
  rw [this]
  cases decide (plc none ≥ (m : Int)) <;> rfl
 | some i =>
  obtain ⟨_, h3, h4, h5⟩ := firstN_some h
  by_cases hm : i < m
  ·rw [firstN_eq (show i < min n m by omega) h4 fun k hk => h5 k (by omega) hk, decide_eq_false (show ¬ (plc (some i) ≥ (m : Int)) by show ¬ ((i : Int) ≥ (m : Int)); omega)]
   rfl
  ·have : firstN p 0 (min n m) = none := by
    cases h2 : firstN p 0 (min n m) with
    | none => rfl
    | some k =>
     obtain ⟨_, h6, h7, _⟩ := firstN_some h2
     have := h5 k (by omega) (by omega)
     rw [h7] at this; cases this
   rw [this, decide_eq_true (show plc (some i) ≥ (m : Int) by show (i : Int) ≥ (m : Int); omega)]
   rfl
theorem natS_firstW {s : BA} {n : Nat} (hn : n ≤ 1048577) : cond (!((natS s).2)) (-1 : Int) (cond (decide ((natS s).1 ≥ (n : Int))) (-1 : Int) (natS s).1) = plc (firstN (fun j => sEq (digS (j : Int)) s) 0 n) := by
 cases h : firstN (fun j => sEq (digS (j : Int)) s) 0 n with
 | some i =>
  obtain ⟨_, h3, h4, _⟩ := firstN_some h
  have e := sEq_iff.1 h4
  have : natS s = ((i : Int), true) := by rw [← e]; exact natS_dig (by omega)
  rw [this]
  simp only [Bool.not_true, cond_false]
  rw [decide_eq_false (show ¬ ((i : Int) ≥ (n : Int)) by omega)]
  rfl
 | none =>
  have hno := firstN_none h
  show _ = (-1 : Int)
  cases h1 : (natS s).2
  ·rfl
  simp only [Bool.not_true, cond_false]
  unfold natS at h1 ⊢
  cases h2 : (numS s).2
  ·rw [h2] at h1; cases h1
  ·rw [h2] at h1
   simp only [cond_true] at h1 ⊢
   have h3 : (numS s).1 ≥ 0 := of_decide_eq_true h1
   have h4 := numS_ok h2
   by_cases h5 : (numS s).1 ≥ (n : Int)
   ·rw [decide_eq_true h5]; rfl
   ·obtain ⟨k, hk⟩ := Int.eq_ofNat_of_zero_le h3
    have := hno k (by omega) (by omega)
    rw [hk] at h4
    rw [h4, sEq_self] at this
    cases this
theorem natS_first {s : BA} {n : Nat} (hn : n ≤ 1048576) : cond (!((natS s).2)) (-1 : Int) (cond (decide ((natS s).1 ≥ (n : Int))) (-1 : Int) (natS s).1) = plc (firstN (fun j => sEq (digS (j : Int)) s) 0 n) := natS_firstW (by omega)
def keyAt (t : NodeT) (s : BA) : Int := cond (t.kind == (5 : Int)) (plc (firstN (fun j => sEq (atI (t := .str) t.keys j) s) 0 (min t.keys.length t.kids.length))) (-1)
def kidAt (t : NodeT) (s : BA) : Int := cond (t.kind == (5 : Int)) (keyAt t s) (cond (t.kind == (4 : Int)) (plc (firstN (fun j => sEq (digS (j : Int)) s) 0 t.kids.length)) (-1))
theorem plc_bd {p : Nat → Bool} {n : Nat} : -1 ≤ plc (firstN p 0 n) ∧ plc (firstN p 0 n) < (n : Int) ∨ plc (firstN p 0 n) = -1 := by
 cases h : firstN p 0 n with
 | none => exact .inr rfl
 | some i =>
  obtain ⟨_, h2, _⟩ := firstN_some h
  exact .inl (by show -1 ≤ (i : Int) ∧ (i : Int) < n; omega)
theorem kidAt_lt {t : NodeT} {s : BA} (h : ¬ kidAt t s < 0) : kidAt t s < (t.kids.length : Int) := by
 revert h
 unfold kidAt keyAt
 cases t.kind == (5 : Int)
 ·cases t.kind == (4 : Int)
  ·intro h; exact (h (by simp only [cond_false]; omega)).elim
  ·intro h
   rcases plc_bd (p := fun j => sEq (digS (j : Int)) s) (n := t.kids.length) with h1 | h1
   ·exact h1.2
   ·exact (h (by simp only [cond_true, cond_false]; omega)).elim
 ·intro h
  rcases plc_bd (p := fun j => sEq (atI (t := .str) t.keys j) s) (n := min t.keys.length t.kids.length) with h1 | h1
  ·simp only [cond_true]; omega
  ·exact (h (by simp only [cond_true]; omega)).elim
theorem idxS_keyAt {t : NodeT} {s : BA} (hk : (t.kind == (5 : Int)) = true) : cond (decide (idxS t.keys s ≥ (t.kids.length : Int))) (-1 : Int) (idxS t.keys s) = keyAt t s := by
 unfold keyAt idxS findI
 rw [hk, firstN_cut]
 simp only [cond_true]
 congr 2
 funext j
 exact sEq_comm _ _
theorem szN_kid {t x : NodeT} (h : x ∈ t.kids) : szN_node x ≤ szN_node t := by
 rw [szN_node_def t]
 have h1 := sum_le szN_node h
 have : szL szN_node t.kids = t.kids.length + (t.kids.map szN_node).sum := rfl
 omega
theorem sm_kid {t x : NodeT} (hs : sm_node t = true) (h : x ∈ t.kids) : sm_node x = true := by
 rw [sm_node_def] at hs
 simp only [Bool.and_eq_true] at hs
 exact List.all_eq_true.1 (smL_all hs.2.2.2.2) x h
def atStep (p : BA) (t : NodeT) : Unit ⊕ NodeT := cond (decide (kidAt t p < (0 : Int))) (.inl ()) (.inr (atI (t := .node) t.kids (Int.toNat (kidAt t p))))
def noNode : NodeT := ⟨(0 : Int), (0 : Int), ByteArray.empty, ([] : List BA), ([] : List NodeT)⟩
def atPtr (t : NodeT) (path : List BA) : NodeT × Bool := Sum.elim (fun _ => (noNode, false)) (fun t => (t, true)) (foldE atStep path t)
theorem kidAt_mem {t : NodeT} {p : BA} (h : ¬ kidAt t p < 0) : atI (t := .node) t.kids (Int.toNat (kidAt t p)) ∈ t.kids := by
 have := kidAt_lt h
 exact List.mem_of_getElem? (atI_lt (t := .node) (xs := t.kids) (i := Int.toNat (kidAt t p)) (by omega))
theorem atStep_in {p : BA} {t t' : NodeT} (h : atStep p t = .inr t') : t' ∈ t.kids := by
 unfold atStep at h
 by_cases hk : kidAt t p < 0
 ·rw [decide_eq_true hk] at h; cases h
 ·rw [decide_eq_false hk] at h
  cases h
  exact kidAt_mem hk
theorem foldE_at {Q : NodeT → Prop} (hQ : ∀ t x, Q t → x ∈ t.kids → Q x) : ∀ (path : List BA) (t t' : NodeT), Q t → foldE atStep path t = .inr t' → Q t'
 | [], t, t', h, e => by cases e; exact h
 | p :: r, t, t', h, e => by
  simp only [foldE] at e
  cases hs : atStep p t with
  | inl _ => rw [hs] at e; cases e
  | inr x =>
   rw [hs] at e
   exact foldE_at hQ r x t' (hQ t x h (atStep_in hs)) e
theorem atPtr_sm {t : NodeT} {path : List BA} (h : sm_node t = true) : sm_node (atPtr t path).1 = true := by
 unfold atPtr
 cases e : foldE atStep path t with
 | inl _ => show sm_node noNode = true; decide
 | inr x => exact foldE_at (Q := fun t => sm_node t = true) (fun _ _ h hx => sm_kid h hx) path t x h e
theorem atPtr_sz (t : NodeT) (path : List BA) : szN_node (atPtr t path).1 ≤ szN_node t := by
 unfold atPtr
 cases e : foldE atStep path t with
 | inl _ => exact Nat.zero_le _
 | inr x => exact foldE_at (Q := fun y => szN_node y ≤ szN_node t) (fun _ _ h hx => Nat.le_trans (szN_kid hx) h) path t x (Nat.le_refl _) e
def wayAt (kind : Int) (keys : List BA) (j : Nat) : BA := cond (kind == (5 : Int)) (cond (decide ((j : Int) < (keys.length : Int))) (atI (t := .str) keys j) (digS (j : Int))) (digS (j : Int))
mutual
def allPtrs : NodeT → List (List BA)
 | ⟨kind, _, _, keys, kids⟩ => [] :: allPA kind keys 0 kids
def allPA (kind : Int) (keys : List BA) : Nat → List NodeT → List (List BA)
 | _, [] => []
 | j, x :: r => (allPtrs x).map (fun p => wayAt kind keys j :: p) ++ allPA kind keys (j + 1) r
end
theorem allPtrs_def (x : NodeT) : allPtrs x = [] :: allPA x.kind x.keys 0 x.kids := by cases x; rw [allPtrs]
theorem allPA_len (kind : Int) (keys : List BA) : ∀ (r : List NodeT) (j : Nat), (∀ x ∈ r, (allPtrs x).length = nd_node x) → (allPA kind keys j r).length = ndL nd_node r
 | [], _, _ => by simp [allPA, ndL]
 | x :: r, j, h => by
  rw [allPA, List.length_append, List.length_map, h x (by simp), allPA_len kind keys r (j + 1) fun y hy => h y (by simp [hy])]
  simp [ndL]
theorem allPtrs_len (x : NodeT) : (allPtrs x).length = nd_node x := by
 rw [allPtrs_def, nd_node_def, List.length_cons, allPA_len _ _ _ _ fun y _hy => allPtrs_len y]; omega
termination_by nd_node x
decreasing_by exact nd_node_kid _hy
theorem nd_sz (x : NodeT) : nd_node x ≤ szN_node x + 1 := by
 rw [nd_node_def, szN_node_def]
 have h : ∀ l : List NodeT, (∀ y ∈ l, nd_node y ≤ szN_node y + 1) → ndL nd_node l ≤ szL szN_node l := by
  intro l
  induction l with
  | nil => intro _; simp [ndL]
  | cons y r ih =>
   intro h
   have h1 := h y (by simp)
   have h2 := ih fun z hz => h z (by simp [hz])
   have e1 : ndL nd_node (y :: r) = nd_node y + ndL nd_node r := by simp [ndL]
   have e2 : szL szN_node (y :: r) = 1 + szN_node y + szL szN_node r := by simp [szL]; omega
   omega
 have := h x.kids fun y _hy => nd_sz y
 omega
termination_by nd_node x
decreasing_by exact nd_node_kid _hy
theorem allPA_all {Q : List BA → Prop} (kind : Int) (keys : List BA) : ∀ (r : List NodeT) (j : Nat), (∀ i x, r[i]? = some x → ∀ p ∈ allPtrs x, Q (wayAt kind keys (j + i) :: p)) → ∀ p ∈ allPA kind keys j r, Q p
 | [], _, _, p, hp => by simp [allPA] at hp
 | x :: r, j, h, p, hp => by
  rw [allPA] at hp
  rcases List.mem_append.1 hp with hp | hp
  ·obtain ⟨q, hq, rfl⟩ := List.mem_map.1 hp
   exact h 0 x rfl q hq
  ·exact allPA_all kind keys r (j + 1) (fun i y hy q hq => by have := h (i + 1) y hy q hq; rwa [show j + (i + 1) = j + 1 + i by omega] at this) p hp
theorem allPtrs_way (x : NodeT) : ∀ p ∈ allPtrs x, p.length + 1 ≤ nd_node x := by
 rw [allPtrs_def, nd_node_def]
 intro p hp
 rcases List.mem_cons.1 hp with rfl | hp
 ·simp
 ·refine allPA_all (Q := fun p => p.length + 1 ≤ 1 + ndL nd_node x.kids) _ _ _ _ (fun i y hy q hq => ?_) p hp
  have _hy : y ∈ x.kids := List.mem_of_getElem? hy
  have h1 := allPtrs_way y q hq
  have h2 := ndL_mem (f := nd_node) _hy
  simp only [List.length_cons]; omega
termination_by nd_node x
decreasing_by exact nd_node_kid _hy
theorem allPtrs_parts (x : NodeT) (hs : sm_node x = true) : ∀ p ∈ allPtrs x, p.all smStr = true := by
 rw [allPtrs_def]
 have hs' := hs
 rw [sm_node_def] at hs'
 simp only [Bool.and_eq_true] at hs'
 obtain ⟨_, _, _, hke, hki⟩ := hs'
 intro p hp
 rcases List.mem_cons.1 hp with rfl | hp
 ·rfl
 ·refine allPA_all (Q := fun p => p.all smStr = true) _ _ _ _ (fun i y hy q hq => ?_) p hp
  have _hy : y ∈ x.kids := List.mem_of_getElem? hy
  have h1 := allPtrs_parts y (sm_kid hs _hy) q hq
  rw [List.all_cons, h1, Bool.and_true]
  have hi := lt_of_get hy
  have nki := smL_len hki
  have hd : smStr (digS ((0 + i : Nat) : Int)) = true := by
   have := digS_size (n := ((0 + i : Nat) : Int)) (okI_of (by omega) (by omega))
   exact smStr_of (by omega)
  unfold wayAt
  cases x.kind == (5 : Int)
  ·exact hd
  by_cases hl : ((0 + i : Nat) : Int) < (x.keys.length : Int)
  ·rw [decide_eq_true hl]
   exact List.all_eq_true.1 (smL_all hke) _ (List.mem_of_getElem? (atI_lt (t := .str) (by omega)))
  ·rw [decide_eq_false hl]; exact hd
termination_by nd_node x
decreasing_by exact nd_node_kid _hy
def gPt (t : NodeT) : Bool := sm_node t && Nat.ble (nd_node t) 1048577
theorem gPt_kid {t x : NodeT} (h : gPt t = true) (hx : x ∈ t.kids) : gPt x = true := by
 simp only [gPt, Bool.and_eq_true] at h ⊢
 have := bleN h.2
 have := nd_node_kid hx
 exact ⟨sm_kid h.1 hx, Nat.ble_eq_true_of_le (by omega)⟩
theorem loop_ptr {R : Type} {kids : List NodeT} {kind : Int} {keys : List BA} {B : Nat} {F : Nat → Nat → List (List BA) → Option R} {good : List (List BA) → Option R}
 (hs : ∀ m (j : Nat) out x, kids[j]? = some x → out.length + (allPtrs x).length ≤ B → F (m + 1) j out = F m (j + 1) (out ++ (allPtrs x).map fun p => wayAt kind keys j :: p)) (he : ∀ m out, F (m + 1) kids.length out = good out) :
    ∀ (d j m : Nat) (out : List (List BA)), j + d = kids.length → d < m → out.length + (allPA kind keys j (kids.drop j)).length ≤ B → F m j out = good (out ++ allPA kind keys j (kids.drop j)) := by
 intro d
 induction d with
 | zero =>
  intro j m out hj hm _
  obtain ⟨m, rfl⟩ : ∃ m', m = m' + 1 := ⟨m - 1, by omega⟩
  have : j = kids.length := by omega
  subst this
  rw [he, List.drop_length, allPA, List.append_nil]
 | succ d ih =>
  intro j m out hj hm hB
  obtain ⟨m, rfl⟩ : ∃ m', m = m' + 1 := ⟨m - 1, by omega⟩
  obtain ⟨x, hx, hd⟩ := drop_get (show j < kids.length by omega)
  rw [hd, allPA, List.length_append, List.length_map] at hB
  rw [hs m j out x hx (by omega), ih (j + 1) m _ (by omega) (by omega) (by rw [List.length_append, List.length_map]; omega), hd, allPA, List.append_assoc]
theorem szL_append {α : Type} (f : α → Nat) (xs ys : List α) : szL f (xs ++ ys) = szL f xs + szL f ys := by
 simp only [szL, List.length_append, List.map_append, List.sum_append]; omega
theorem szL_cons {α : Type} (f : α → Nat) (x : α) (ys : List α) : szL f (x :: ys) = 1 + f x + szL f ys := by
 simp only [szL, List.length_cons, List.map_cons, List.sum_cons]; omega
theorem split_at {α : Type} {xs : List α} {i : Nat} {x : α} (h : xs[i]? = some x) : xs = xs.take i ++ x :: xs.drop (i + 1) := by
 obtain ⟨y, hy, hd⟩ := drop_get (lt_of_get h)
 rw [h] at hy; cases hy
 conv => lhs; rw [← List.take_append_drop i xs, hd]
theorem szL_set {α : Type} {f : α → Nat} {xs : List α} {i : Nat} {x y : α} (h : xs[i]? = some x) (hy : f y ≤ f x) : szL f (xs.set i y) ≤ szL f xs := by
 rw [List.set_eq_take_append_cons_drop, if_pos (lt_of_get h)]
 conv => rhs; rw [split_at h]
 rw [szL_append, szL_append, szL_cons, szL_cons]; omega
theorem szL_del {α : Type} (f : α → Nat) (xs : List α) (i : Nat) : szL f (delL xs (i : Int) ((i + 1 : Nat) : Int)) ≤ szL f xs := by
 simp only [delL, Int.toNat_natCast]
 by_cases h : i < xs.length
 ·conv => rhs; rw [split_at (List.getElem?_eq_getElem h)]
  rw [szL_append, szL_append, szL_cons]; omega
 ·rw [List.drop_eq_nil_of_le (by omega), List.append_nil, List.take_of_length_le (by omega)]
  exact Nat.le_refl _
theorem smL_del {α : Type} {f : α → Bool} {xs : List α} (h : smL f xs = true) (i : Nat) : smL f (delL xs (i : Int) ((i + 1 : Nat) : Int)) = true := by
 simp only [delL, Int.toNat_natCast]
 refine smL_sub h (fun x hx => ?_) (by simp; omega)
 rcases List.mem_append.1 hx with hx | hx
 ·exact List.mem_of_mem_take hx
 ·exact List.mem_of_mem_drop hx
theorem smL_set {α : Type} {f : α → Bool} {xs : List α} (h : smL f xs = true) (i : Nat) {y : α} (hy : f y = true) : smL f (xs.set i y) = true := by
 simp only [smL, Bool.and_eq_true] at h ⊢
 refine ⟨by rw [List.length_set]; exact h.1, List.all_eq_true.2 fun x hx => ?_⟩
 rcases List.mem_or_eq_of_mem_set hx with hm | rfl
 ·exact List.all_eq_true.1 h.2 x hm
 ·exact hy
def isMapN (t : NodeT) : Bool := cond (t.kind == (5 : Int)) ((t.keys.length : Int) == (t.kids.length : Int)) false
def cutKey (t : NodeT) (k : Int) : NodeT := ⟨t.kind, t.n, t.s, delL t.keys k (k + 1), delL t.kids k (k + 1)⟩
def cutKid (t : NodeT) (k : Int) : NodeT := ⟨t.kind, t.n, t.s, t.keys, delL t.kids k (k + 1)⟩
def setKid (t : NodeT) (k : Int) (x : NodeT) : NodeT := ⟨t.kind, t.n, t.s, t.keys, t.kids.set (Int.toNat k) x⟩
def unset (t : NodeT) (s : BA) : NodeT := cond (isMapN t) (cond (decide (keyAt t s < (0 : Int))) t (cutKey t (keyAt t s))) t
theorem isMapN_eq {t : NodeT} (h : isMapN t = true) : (t.kind == (5 : Int)) = true ∧ t.keys.length = t.kids.length := by
 unfold isMapN at h
 cases h5 : t.kind == (5 : Int)
 ·rw [h5] at h; cases h
 ·rw [h5] at h
  have := eq_of_beq (show ((t.keys.length : Int) == (t.kids.length : Int)) = true from h)
  exact ⟨rfl, by omega⟩
theorem idxS_map {t : NodeT} (h : isMapN t = true) (s : BA) : idxS t.keys s = keyAt t s := by
 obtain ⟨h5, hl⟩ := isMapN_eq h
 unfold keyAt idxS findI
 rw [h5, hl, Nat.min_self, ← hl]
 simp only [cond_true]
 congr 2
 funext j
 exact sEq_comm _ _
theorem keyAt_bd (t : NodeT) (s : BA) (h : ¬ keyAt t s < 0) : ∃ i : Nat, keyAt t s = (i : Int) ∧ i < t.keys.length ∧ i < t.kids.length := by
 revert h
 unfold keyAt
 cases t.kind == (5 : Int)
 ·intro h; exact (h (by simp only [cond_false]; omega)).elim
 ·simp only [cond_true]
  intro h
  rcases plc_bd (p := fun j => sEq (atI (t := .str) t.keys j) s) (n := min t.keys.length t.kids.length) with h1 | h1
  ·exact ⟨Int.toNat (plc (firstN (fun j => sEq (atI (t := .str) t.keys j) s) 0 (min t.keys.length t.kids.length))), by omega, by omega, by omega⟩
  ·omega
theorem kidAt_bd {t : NodeT} {s : BA} (h : ¬ kidAt t s < 0) : ∃ i : Nat, kidAt t s = (i : Int) ∧ i < t.kids.length := by
 have := kidAt_lt h
 exact ⟨Int.toNat (kidAt t s), by omega, by omega⟩
def cutLast (t : NodeT) (s : BA) : NodeT × Bool := cond (decide (kidAt t s < (0 : Int))) (noNode, false) (cond (t.kind == (5 : Int)) (unset t s, true) (cutKid t (kidAt t s), true))
def cutIn : NodeT → List BA → NodeT × Bool
 | _, [] => (noNode, false)
 | t, [p] => cutLast t p
 | t, p :: q :: r => cond (decide (kidAt t p < (0 : Int))) (noNode, false)
   (cond (!((cutIn (atI (t := .node) t.kids (Int.toNat (kidAt t p))) (q :: r)).2)) (noNode, false) (setKid t (kidAt t p) (cutIn (atI (t := .node) t.kids (Int.toNat (kidAt t p))) (q :: r)).1, true))
def cutAt (t : NodeT) (path : List BA) : NodeT × Bool := cond (!((cutIn t path).2)) (t, false) ((cutIn t path).1, true)
def cutPtr (t : NodeT) (path : List BA) : NodeT × Bool := cond ((path.length : Int) == (0 : Int)) (t, false) (cutAt t path)
theorem cutPtr_cons (t : NodeT) (p : BA) (r : List BA) : cutPtr t (p :: r) = cutAt t (p :: r) := by
 have : (((p :: r).length : Int) == (0 : Int)) = false := by rw [beq_eq_false_iff_ne, List.length_cons]; omega
 unfold cutPtr; rw [this]; rfl
theorem cutPtr_deep (t : NodeT) (p q : BA) (r : List BA) (h : ¬ kidAt t p < 0) :
    cutPtr t (p :: q :: r) = cond ((cutPtr (atI (t := .node) t.kids (Int.toNat (kidAt t p))) (q :: r)).2) (setKid t (kidAt t p) (cutPtr (atI (t := .node) t.kids (Int.toNat (kidAt t p))) (q :: r)).1, (cutPtr (atI (t := .node) t.kids (Int.toNat (kidAt t p))) (q :: r)).2) (t, (cutPtr (atI (t := .node) t.kids (Int.toNat (kidAt t p))) (q :: r)).2) := by
 rw [cutPtr_cons, cutPtr_cons]
 unfold cutAt
 rw [cutIn, decide_eq_false h]
 simp only [cond_false]
 cases (cutIn (atI (t := .node) t.kids (Int.toNat (kidAt t p))) (q :: r)).2 <;> rfl
theorem cutPtr_one (t : NodeT) (p : BA) (h : ¬ kidAt t p < 0) : cutPtr t [p] = cond (t.kind == (5 : Int)) (unset t p, true) (cutKid t (kidAt t p), true) := by
 rw [cutPtr_cons]
 unfold cutAt
 rw [cutIn, cutLast, decide_eq_false h]
 simp only [cond_false]
 cases t.kind == (5 : Int) <;> rfl
theorem cutPtr_no (t : NodeT) (p : BA) (r : List BA) (h : kidAt t p < 0) : cutPtr t (p :: r) = (t, false) := by
 rw [cutPtr_cons]
 unfold cutAt
 cases r with
 | nil => rw [cutIn, cutLast, decide_eq_true h]; rfl
 | cons q r => rw [cutIn, decide_eq_true h]; rfl
theorem sm_parts {t : NodeT} (h : sm_node t = true) : okI t.kind = true ∧ okI t.n = true ∧ smStr t.s = true ∧ smL smStr t.keys = true ∧ smL sm_node t.kids = true := by
 rw [sm_node_def] at h
 simpa only [Bool.and_eq_true] using h
theorem cutKey_ok {t : NodeT} {i : Nat} (h : sm_node t = true) : sm_node (cutKey t (i : Int)) = true ∧ szN_node (cutKey t (i : Int)) ≤ szN_node t := by
 obtain ⟨h1, h2, h3, h4, h5⟩ := sm_parts h
 constructor
 ·rw [sm_node_def]
  simp only [Bool.and_eq_true]
  exact ⟨h1, h2, h3, smL_del h4 i, smL_del h5 i⟩
 ·rw [szN_node_def, szN_node_def t]
  have e1 := szL_del ByteArray.size t.keys i
  have e2 := szL_del szN_node t.kids i
  show t.s.size + szL ByteArray.size (delL t.keys (i : Int) ((i + 1 : Nat) : Int)) + szL szN_node (delL t.kids (i : Int) ((i + 1 : Nat) : Int)) ≤ _
  omega
theorem cutKid_ok {t : NodeT} {i : Nat} (h : sm_node t = true) : sm_node (cutKid t (i : Int)) = true ∧ szN_node (cutKid t (i : Int)) ≤ szN_node t := by
 obtain ⟨h1, h2, h3, h4, h5⟩ := sm_parts h
 constructor
 ·rw [sm_node_def]
  simp only [Bool.and_eq_true]
  exact ⟨h1, h2, h3, h4, smL_del h5 i⟩
 ·rw [szN_node_def, szN_node_def t]
  have e2 := szL_del szN_node t.kids i
  show t.s.size + szL ByteArray.size t.keys + szL szN_node (delL t.kids (i : Int) ((i + 1 : Nat) : Int)) ≤ _
  omega
theorem setKid_ok {t x y : NodeT} {i : Nat} (h : sm_node t = true) (hx : t.kids[i]? = some x) (hy : sm_node y = true) (hz : szN_node y ≤ szN_node x) : sm_node (setKid t (i : Int) y) = true ∧ szN_node (setKid t (i : Int) y) ≤ szN_node t := by
 obtain ⟨h1, h2, h3, h4, h5⟩ := sm_parts h
 constructor
 ·rw [sm_node_def]
  simp only [Bool.and_eq_true]
  exact ⟨h1, h2, h3, h4, smL_set h5 _ hy⟩
 ·rw [szN_node_def, szN_node_def t]
  have e2 := szL_set (f := szN_node) hx hz
  show t.s.size + szL ByteArray.size t.keys + szL szN_node (t.kids.set (Int.toNat (i : Int)) y) ≤ _
  rw [Int.toNat_natCast]
  omega
theorem unset_ok {t : NodeT} {s : BA} (h : sm_node t = true) : sm_node (unset t s) = true ∧ szN_node (unset t s) ≤ szN_node t := by
 unfold unset
 cases isMapN t
 ·exact ⟨h, Nat.le_refl _⟩
 by_cases hk : keyAt t s < 0
 ·rw [decide_eq_true hk]; exact ⟨h, Nat.le_refl _⟩
 ·rw [decide_eq_false hk]
  obtain ⟨i, e, _⟩ := keyAt_bd t s hk
  simp only [cond_true, cond_false]
  rw [e]; exact cutKey_ok h
theorem noNode_ok (t : NodeT) : sm_node noNode = true ∧ szN_node noNode ≤ szN_node t := ⟨by decide, Nat.zero_le _⟩
theorem cutLast_ok {t : NodeT} {s : BA} (h : sm_node t = true) : sm_node (cutLast t s).1 = true ∧ szN_node (cutLast t s).1 ≤ szN_node t := by
 unfold cutLast
 by_cases hk : kidAt t s < 0
 ·rw [decide_eq_true hk]; exact noNode_ok t
 ·rw [decide_eq_false hk]
  obtain ⟨i, e, _⟩ := kidAt_bd hk
  cases t.kind == (5 : Int)
  ·simp only [cond_false]
   rw [e]; exact cutKid_ok h
  ·exact unset_ok h
theorem cutIn_ok : ∀ (path : List BA) (t : NodeT), sm_node t = true → sm_node (cutIn t path).1 = true ∧ szN_node (cutIn t path).1 ≤ szN_node t
 | [], t, _ => noNode_ok t
 | [p], t, h => by rw [cutIn]; exact cutLast_ok h
 | p :: q :: r, t, h => by
  rw [cutIn]
  by_cases hk : kidAt t p < 0
  ·rw [decide_eq_true hk]; exact noNode_ok t
  ·rw [decide_eq_false hk]
   simp only [cond_false]
   obtain ⟨i, e, hi⟩ := kidAt_bd hk
   rw [e, Int.toNat_natCast]
   have hx := atI_lt (t := .node) hi
   have ih := cutIn_ok (q :: r) (atI (t := .node) t.kids i) (sm_kid h (List.mem_of_getElem? hx))
   cases (cutIn (atI (t := .node) t.kids i) (q :: r)).2
   ·exact noNode_ok t
   ·exact setKid_ok h hx ih.1 ih.2
theorem cutPtr_ok {t : NodeT} {path : List BA} (h : sm_node t = true) : sm_node (cutPtr t path).1 = true ∧ szN_node (cutPtr t path).1 ≤ szN_node t := by
 have := cutIn_ok path t h
 unfold cutPtr cutAt
 cases (path.length : Int) == (0 : Int) <;> cases (cutIn t path).2 <;> first | exact this | exact ⟨h, Nat.le_refl _⟩
theorem limT {α : Type} {xs : List α} (h : xs.length ≤ 1048576) (i : Nat) : Nat.ble (0 + (xs.take i).length) LIM = true := Nat.ble_eq_true_of_le (by
  have : (LIM : Nat) = 4294967296 := rfl
  rw [List.length_take]; omega)
theorem limTD {α : Type} {xs : List α} (h : xs.length ≤ 1048576) (i j : Nat) : Nat.ble ((xs.take i).length + (xs.drop j).length) LIM = true := Nat.ble_eq_true_of_le (by
  have : (LIM : Nat) = 4294967296 := rfl
  rw [List.length_take, List.length_drop]; omega)
theorem unset_neg {t : NodeT} {s : BA} (h : keyAt t s < 0) : unset t s = t := by
 unfold unset
 rw [decide_eq_true h]
 cases isMapN t <;> rfl
theorem unset_ne {t : NodeT} {s : BA} (h : ((t.keys.length : Int) != (t.kids.length : Int)) = true) : unset t s = t := by
 unfold unset isMapN
 have : ((t.keys.length : Int) == (t.kids.length : Int)) = false := by simpa [bne] using h
 rw [this]
 cases t.kind == (5 : Int) <;> rfl
theorem unset_eq {t : NodeT} {s : BA} (hk : ¬ keyAt t s < 0) (h : ((t.keys.length : Int) != (t.kids.length : Int)) = false) : unset t s = cutKey t (keyAt t s) := by
 have h1 : ((t.keys.length : Int) == (t.kids.length : Int)) = true := by simpa [bne] using h
 have h5 : (t.kind == (5 : Int)) = true := by
  cases h5 : t.kind == (5 : Int)
  ·exact absurd (show keyAt t s < 0 by unfold keyAt; rw [h5]; simp only [cond_false]; omega) hk
  ·rfl
 unfold unset isMapN
 rw [h1, h5, decide_eq_false hk]; rfl
def gW (t : NodeT) (path : List BA) : Bool := sm_node t && (smL smStr path && !path.isEmpty)
end Go.Gm
namespace Go.Gm
open Go
variable {wl : World} {P : Program} {E : Env} {w w' : World}
theorem run_copy_at (dT sT ty e : TypeId) (ii : TypeInfo) (hu : P.underlying dT = some (.slice e)) (hi : P.info? e = some ii) (g o dLen dCap : Nat) (a : Addr) (sLen sCap n : Nat) (cur : Array Value) (el : TypeId) (vs : List Value)
 (hn : Nat.min sLen dLen = n) (hl : vs.length = n * ii.size) (hg : w.heap[g]? = some (.cells cur el (0, 0))) (hsrc : ∀ j v, vs[j]? = some v → w.cell? (a.add j) = some v) (hfit : o + vs.length ≤ cur.size) (h1 : ∀ v ∈ vs, v.oneCell' = true) :
 (Builtin.copy_ #[dT, sT] ty #[.slice (some ⟨g, o, none⟩) dLen dCap, .slice (some a) sLen sCap]).run P w = .ok (goInt n) (w.setRow g (putAt cur o vs.toArray)) := by
 have hl' := run_firstCells_some (P := P) w ii.size n a sLen sCap vs hl hsrc
 have hst := run_storeCells_at P g o el vs 0 cur w hg (by simpa using hfit) h1
 simp only [Nat.add_zero] at hst
 rw [← row_putAt (by simpa using hfit)]
 simp [Builtin.copy_, run_underlying hu, Builtin.lenOf, sizeOf, typeInfo, hi, hn, hl', hst]
theorem step_copy_by {ops : Array Oper} {o : Oper} {a : Act} {K : Act → World → Prop} {Q : Exit → Act → World → Prop} {R : Prop}
    (hg : o.guard = none) (d x : Operand) (dT sT : TypeId) (hop : o.op = Op.call { callee := Callee.builtin Builtin.copy, args := #[d, x], argTypes := #[dT, sT] })
 (v u : Value) (hd : a.eval d = v) (hx : a.eval x = u) {v' : Value} (hr : (Builtin.copy_ #[dT, sT] o.type #[v, u]).run P w = .ok v' w') (hK : K (a.put o.dst v') w') :
    if Region.wanted o (yielded ops a.tmps) = true then Oper.wp P o a w K Q else R := by
 have hw : Region.wanted o (yielded ops a.tmps) = true := by simp [Region.wanted, hg]
 rw [if_pos hw]
 unfold Oper.wp
 simp [execOp, hop, resolve, invoke, builtin, hd, hx, hr, Result.andThen]
 exact hK
theorem wpList_copy_by {ops : Array Oper} {rest : List Oper} {o : Oper} {a : Act} {Q : Exit → Act → World → Prop} (hgd : o.guard = none) (d s : Operand) (t t' : TypeId)
    (ho : o.op = .call { callee := .builtin .copy, args := #[d, s], argTypes := #[t, t'] }) (v u : Value) (hd : a.eval d = v) (hs : a.eval s = u) {v' : Value}
 (hr : (Builtin.copy_ #[t, t'] o.type #[v, u]).run P w = .ok v' w') (h : wpList P ops Q rest (a.put o.dst v') w') : wpList P ops Q (o :: rest) a w := by
 refine wpList_plain hgd fun _ hK => ?_
 unfold Oper.wp execOp
 simp only [ho, resolve, invoke, builtin, Sem.run_bind, Sem.run_pure, Result.andThen_ok, List.map_toArray, List.map_cons, List.map_nil, hd, hs, hr]
 exact hK _ _ h
def InsEnd (w w' : World) (base : Option Addr) (b' o' n' cap' sz : Nat) (vals : List Value) : Prop :=
  Kept w w' (fun k => ∃ o, base = some ⟨k, o, none⟩) ∧ n' ≤ cap' ∧ ((∃ o, base = some ⟨b', o, none⟩) ∨ w.heap.size ≤ b') ∧
  ∃ cs' el, w'.heap[b']? = some (.cells cs' el (0, 0)) ∧ o' + cap' * sz ≤ cs'.size ∧ ∀ k v, vals[k]? = some v → cs'[o' + k]? = some v
structure InsIn (w : World) (base : Option Addr) (n cap i vb vo m sz : Nat) (olds news : List Value) : Prop where
 hi : i ≤ n
 hn : n ≤ cap
 hm : 0 < m
 lim : n + m ≤ LIM
 lo : olds.length = n * sz
 ln : news.length = m * sz
 oo : ∀ v ∈ olds, v.oneCell' = true
 on : ∀ v ∈ news, v.oneCell' = true
 nil : base = none → n = 0 ∧ cap = 0
 is : ∀ a, base = some a → ∃ b o cs el, a = ⟨b, o, none⟩ ∧ b ≠ vb ∧ w.heap[b]? = some (.cells cs el (0, 0)) ∧ o + cap * sz ≤ cs.size ∧ ∀ k v, olds[k]? = some v → cs[o + k]? = some v
 v : ∃ vcs vel, w.heap[vb]? = some (.cells vcs vel (0, 0)) ∧ ∀ k v, news[k]? = some v → vcs[vo + k]? = some v
def InsOut (w : World) (base : Option Addr) (n m i sz : Nat) (olds news : List Value) (e : Ending) (w' : World) : Prop :=
  ∃ b' o' cap', e = .returned (.slice (some ⟨b', o', none⟩) (n + m) cap') ∧ InsEnd w w' base b' o' (n + m) cap' sz (olds.take (i * sz) ++ news ++ olds.drop (i * sz))
def InsE (P : Program) (f sz : Nat) : Prop := ∀ (base : Option Addr) (n cap i vb vo m vc : Nat) (olds news : List Value) (w : World), InsIn w base n cap i vb vo m sz olds news →
  Calls P f #[.slice base n cap, .int .i64 i, .slice (some ⟨vb, vo, none⟩) m vc] w fun e w' => InsOut w base n m i sz olds news e w'
theorem ins_end (hE : E.Ok P) {T : TypeId} {e : Ty} (hT : E.code T = some (.sl e)) {sz : Nat} (hsz : esz e = sz) {base : Option Addr} {n cap vb vo m : Nat} {olds news : List Value} (h : InsIn w base n cap n vb vo m sz olds news) (vc : Nat) :
    ∃ (b' o' cap' : Nat) (W : World), (∀ ty, (Builtin.append_ #[T, T] ty #[.slice base n cap, .slice (some ⟨vb, vo, none⟩) m vc]).run P w = .ok (.slice (some ⟨b', o', none⟩) (n + m) cap') W) ∧
      InsEnd w W base b' o' (n + m) cap' sz (olds.take (n * sz) ++ news ++ olds.drop (n * sz)) := by
 subst hsz
 obtain ⟨vcs, vel, hvb, hvr⟩ := h.v
 obtain ⟨v', w', hrun, hos, htp, hout, hres⟩ := run_append (ty := 0) hE hT hT (sa := base) (n := n) (cap := cap) (xa := some ⟨vb, vo, none⟩) (m := m) (c := vc) (w := w) h.lo (by
   cases base with
   | none => left; have := (h.nil rfl).1; exact List.eq_nil_of_length_eq_zero (by rw [h.lo, this, Nat.zero_mul])
   | some a => obtain ⟨b, o, cs, el, rfl, _, hb, _, hc⟩ := h.is a rfl; exact .inr ⟨b, o, cs, el, _, rfl, hb, hc⟩) h.ln (.inr ⟨vb, vo, vcs, vel, _, rfl, hvb, hvr⟩) h.on h.hn (fun b o e => by
    obtain ⟨b2, o2, cs, el, e2, _, hb, hs, _⟩ := h.is _ e
    simp only [Addr.mk.injEq, and_true] at e2
    obtain ⟨rfl, rfl⟩ := e2
    exact ⟨cs, el, hb, hs⟩) (fun e => (h.nil e).2) (fun a e => by obtain ⟨b, o, cs, el, rfl, _⟩ := h.is a e; rfl) h.lim
 have hm := h.hm
 rcases hres with ⟨_, _, _, h0, _⟩ | ⟨b', o', cap', cs', el', rfl, hb', hcap', hs', hv', hsame, hwho⟩
 ·omega
 ·refine ⟨b', o', cap', w', fun ty => hrun, ⟨hos, htp, hout, hsame.1, fun k hk hx => ?_⟩, hcap', ?_, cs', el', hb', hs', ?_⟩
  ·rcases hwho with ⟨o2, ho2⟩ | hh
   ·exact hsame.2 k hk fun e => hx ⟨o2, by rw [e]; exact ho2⟩
   ·exact hsame.2 k hk fun e => by omega
  ·rcases hwho with h' | h'
   ·exact .inl h'
   ·exact .inr (Nat.le_of_eq h'.symm)
  ·rw [List.take_of_length_le (by rw [h.lo]; exact Nat.le_refl _), List.drop_of_length_le (by rw [h.lo]; exact Nat.le_refl _), List.append_nil]
   exact hv'
theorem putAt_hit {cells : Array Value} {off : Nat} {vs : List Value} (h : off + vs.length ≤ cells.size) (k : Nat) (hk : k < vs.length) : (putAt cells off vs.toArray)[off + k]? = vs[k]? := by
 rw [putAt_get (by simpa using h), if_pos ⟨by omega, by simp; omega⟩, List.getElem?_toArray]
 congr 1; omega
theorem putAt_miss {cells : Array Value} {off : Nat} {vs : List Value} (h : off + vs.length ≤ cells.size) (k : Nat) (hk : k < off ∨ off + vs.length ≤ k) : (putAt cells off vs.toArray)[k]? = cells[k]? := by
 rw [putAt_get (by simpa using h), if_neg (by simp; omega)]
theorem ins_room (hE : E.Ok P) {T : TypeId} {e : Ty} (hT : E.code T = some (.sl e)) {sz : Nat} (hsz : esz e = sz) {b o n cap i vb vo m : Nat} {olds news : List Value} (h : InsIn w (some ⟨b, o, none⟩) n cap i vb vo m sz olds news) (hin : i < n) (hroom : n + m ≤ cap) :
    ∃ (W1 : World) (cs1 : Array Value),
 (∀ tR A lb cb vc, A = (⟨b, o + (i + m) * sz, none⟩ : Addr) → (Extern.SlicesOverlaps.overlaps #[T, T] #[tR] #[.slice (some ⟨vb, vo, none⟩) m vc, .slice (some A) lb cb]).run P w = .ok (.bool false) w) ∧
 (∀ ty dc sc, (Builtin.copy_ #[T, T] ty #[.slice (some ⟨b, o + (i + m) * sz, none⟩) (n + m - (i + m)) dc, .slice (some ⟨b, o + i * sz, none⟩) (n + m - i) sc]).run P w.drew = .ok (goInt (n - i : Nat)) W1) ∧
 (∀ W : World, W.heap = W1.heap → ∀ ty dc vc, (Builtin.copy_ #[T, T] ty #[.slice (some ⟨b, o + i * sz, none⟩) (n + m - i) dc, .slice (some ⟨vb, vo, none⟩) m vc]).run P W = .ok (goInt m) (W.setRow b (putAt cs1 (o + i * sz) news.toArray))) ∧
 (∀ W : World, W.heap = W1.heap → W.os = w.os → W.tape = w.tape → W.output = w.output → InsEnd w (W.setRow b (putAt cs1 (o + i * sz) news.toArray)) (some ⟨b, o, none⟩) b o (n + m) cap sz (olds.take (i * sz) ++ news ++ olds.drop (i * sz))) ∧
      W1.os = w.os ∧ W1.tape = w.tape ∧ W1.output = w.output := by
 subst hsz
 obtain ⟨eT, hu, hel⟩ := hE.slice hT
 obtain ⟨ii, zv, hi, hsz, hby, hz, hzc⟩ := hE.info eT e hel
 have hpos := esz_pos e
 obtain ⟨vcs, vel, hvb, hvr⟩ := h.v
 obtain ⟨b2, o2, cs, el, e2, hne, hb, hs, hc⟩ := h.is _ rfl
 simp only [Addr.mk.injEq, and_true] at e2
 obtain ⟨rfl, rfl⟩ := e2
 have hm := h.hm
 have hlo := h.lo
 have hln := h.ln
 have m1 : (n + m) * esz e ≤ cap * esz e := Nat.mul_le_mul_right _ hroom
 have m2 : (n + m) * esz e = n * esz e + m * esz e := Nat.add_mul _ _ _
 have m3 : (i + m) * esz e = i * esz e + m * esz e := Nat.add_mul _ _ _
 have m4 : i * esz e + esz e ≤ n * esz e := by
  have : (i + 1) * esz e ≤ n * esz e := Nat.mul_le_mul_right _ hin
  rw [Nat.add_mul] at this; omega
 have m5 : (n - i) * esz e = n * esz e - i * esz e := Nat.sub_mul _ _ _
 have hdl : (olds.drop (i * esz e)).length = (n - i) * esz e := by rw [List.length_drop, hlo, m5]
 have hfit1 : o + (i + m) * esz e + (olds.drop (i * esz e)).length ≤ cs.size := by rw [hdl]; omega
 have hfit2 : o + i * esz e + news.length ≤ (putAt cs (o + (i + m) * esz e) (olds.drop (i * esz e)).toArray).size := by
  rw [putAt_size (by simpa using hfit1)]; omega
 have hb1 : (w.drew.setRow b (putAt cs (o + (i + m) * esz e) (olds.drop (i * esz e)).toArray)).heap[b]? = some (.cells (putAt cs (o + (i + m) * esz e) (olds.drop (i * esz e)).toArray) el (0, 0)) := setRow_heap w.drew b cs _ el (0, 0) hb
 refine ⟨w.drew.setRow b (putAt cs (o + (i + m) * esz e) (olds.drop (i * esz e)).toArray), putAt cs (o + (i + m) * esz e) (olds.drop (i * esz e)).toArray, fun tR A lb cb vc hA => ?_, fun ty dc sc => ?_, fun W hW ty dc vc => ?_, fun W hW h1 h2 h3 => ?_, rfl, rfl, rfl⟩
 ·subst hA
  have hszr : ∀ w : World, (Go.sizeOf eT).run P w = .ok (esz e) w := fun w => by simp [sizeOf, typeInfo, hi, hsz]
  refine Lib.run_overlaps_apart w T tR eT hu (esz e) hszr ⟨vb, vo, none⟩ ⟨b, o + (i + m) * esz e, none⟩ m vc lb cb (fun e => hne e.symm) vel el vcs.size cs.size ?_ ?_ (by omega) ?_ ?_
  ·simp [World.shape?, hvb]
  ·simp [World.shape?, hb]
  ·simp [World.frozen?, hvb]
  ·simp [World.frozen?, hvb]
 ·refine run_copy_at T T ty eT ii hu hi b _ _ dc ⟨b, o + i * esz e, none⟩ _ sc (n - i) cs el (olds.drop (i * esz e)) (by simp only [Nat.min_def]; split <;> omega) (by rw [hdl, hsz]) hb (fun j v hj => ?_) hfit1 (fun v hv => h.oo v (List.mem_of_mem_drop hv))
  rw [List.getElem?_drop] at hj
  rw [addrAdd, cellIn (w := w.drew) hb, Nat.add_assoc]
  exact hc _ v hj
 ·refine run_copy_at T T ty eT ii hu hi b _ _ dc ⟨vb, vo, none⟩ _ vc m _ el news (by simp only [Nat.min_def]; split <;> omega) (by rw [hln, hsz]) (by rw [hW]; exact hb1) (fun j v hj => ?_) hfit2 h.on
  have hvb1 : W.heap[vb]? = some (.cells vcs vel (0, 0)) := by
   rw [hW, setRow_other w.drew b vb _ (fun e => hne e.symm)]; exact hvb
  rw [addrAdd, cellIn hvb1]
  exact hvr _ v hj
 ·have hb2 := setRow_heap W b _ (putAt (putAt cs (o + (i + m) * esz e) (olds.drop (i * esz e)).toArray) (o + i * esz e) news.toArray) el (0, 0) (by rw [hW]; exact hb1)
  refine ⟨⟨h1, h2, h3, ?_, fun k hk hx => ?_⟩, hroom, .inl ⟨o, rfl⟩, _, el, hb2, ?_, fun k v hk => ?_⟩
  ·simp [hW]
  ·have hkb : k ≠ b := fun e => hx ⟨o, by rw [e]⟩
   rw [setRow_other W b k _ hkb, hW, setRow_other w.drew b k _ hkb]; rfl
  ·rw [putAt_size (by simpa using hfit2), putAt_size (by simpa using hfit1)]; exact hs
  ·have htl : (olds.take (i * esz e)).length = i * esz e := by rw [List.length_take, hlo]; omega
   rcases Nat.lt_or_ge k (i * esz e) with hk1 | hk1
   ·rw [List.append_assoc, List.getElem?_append_left (by omega), List.getElem?_take, if_pos hk1] at hk
    rw [putAt_miss hfit2 _ (.inl (by omega)), putAt_miss hfit1 _ (.inl (by omega))]
    exact hc k v hk
   ·rcases Nat.lt_or_ge k (i * esz e + news.length) with hk2 | hk2
    ·rw [List.append_assoc, List.getElem?_append_right (by omega), List.getElem?_append_left (by omega), htl] at hk
     have := putAt_hit hfit2 (k - i * esz e) (by omega)
     rw [show o + k = o + i * esz e + (k - i * esz e) by omega, this]
     exact hk
    ·rw [List.getElem?_append_right (by rw [List.length_append, htl]; omega), List.length_append, htl] at hk
     have hkl := (List.getElem?_eq_some_iff.1 hk).1
     rw [putAt_miss hfit2 _ (.inr (by omega))]
     have := putAt_hit hfit1 (k - (i * esz e + news.length)) hkl
     rw [show o + k = o + (i + m) * esz e + (k - (i * esz e + news.length)) by omega, this]
     exact hk
theorem ins_grow (hE : E.Ok P) {T Ti : TypeId} {e : Ty} (hT : E.code T = some (.sl e)) (hTi : P.underlying Ti = some (.int .i64)) {sz : Nat} (hsz : esz e = sz) {b o n cap i vb vo m : Nat} {olds news : List Value} (h : InsIn w (some ⟨b, o, none⟩) n cap i vb vo m sz olds news) (hin : i < n) (hroom : cap < n + m) :
    ∃ (W1 : World) (G : Nat) (row : Array Value),
 (∀ ty, (Builtin.append_ #[T, Ti] ty #[.slice (some ⟨b, o, none⟩) i cap, .int .i64 ((n : Int) + (m : Int) - (i : Int))]).run P w = .ok (.slice (some ⟨w.heap.size, 0, none⟩) (n + m) G) W1) ∧ n + m ≤ G ∧
 (∀ W : World, W.heap = W1.heap → ∀ ty dc vc, (Builtin.copy_ #[T, T] ty #[.slice (some ⟨w.heap.size, i * sz, none⟩) (n + m - i) dc, .slice (some ⟨vb, vo, none⟩) m vc]).run P W = .ok (goInt m) (W.setRow w.heap.size (putAt row (i * sz) news.toArray))) ∧
 (∀ W0 W : World, W0.heap = W1.heap → W.heap = (W0.setRow w.heap.size (putAt row (i * sz) news.toArray)).heap → ∀ ty dc sc, (Builtin.copy_ #[T, T] ty #[.slice (some ⟨w.heap.size, (i + m) * sz, none⟩) (n + m - (i + m)) dc, .slice (some ⟨b, o + i * sz, none⟩) (n - i) sc]).run P W =
        .ok (goInt (n - i : Nat)) (W.setRow w.heap.size (putAt (putAt row (i * sz) news.toArray) ((i + m) * sz) (olds.drop (i * sz)).toArray))) ∧
 (∀ W0 W : World, W0.heap = W1.heap → W.heap = (W0.setRow w.heap.size (putAt row (i * sz) news.toArray)).heap → W.os = w.os → W.tape = w.tape → W.output = w.output →
        InsEnd w (W.setRow w.heap.size (putAt (putAt row (i * sz) news.toArray) ((i + m) * sz) (olds.drop (i * sz)).toArray)) (some ⟨b, o, none⟩) w.heap.size 0 (n + m) G sz (olds.take (i * sz) ++ news ++ olds.drop (i * sz))) ∧
      W1.os = w.os ∧ W1.tape = w.tape ∧ W1.output = w.output := by
 subst hsz
 obtain ⟨eT, hu, hel⟩ := hE.slice hT
 obtain ⟨ii, zv, hi, hsz, hby, hz, hzc⟩ := hE.info eT e hel
 have hpos := esz_pos e
 have hzs : zv.cells.size = esz e := by rw [hzc]; simp [zvals, enc_length]
 obtain ⟨vcs, vel, hvb, hvr⟩ := h.v
 obtain ⟨b2, o2, cs, el, e2, hne, hb, hs, hc⟩ := h.is _ rfl
 simp only [Addr.mk.injEq, and_true] at e2
 obtain ⟨rfl, rfl⟩ := e2
 have hm := h.hm
 have hlo := h.lo
 have hln := h.ln
 have hnc := h.hn
 have hlim := h.lim
 have m2 : (n + m) * esz e = n * esz e + m * esz e := Nat.add_mul _ _ _
 have m3 : (i + m) * esz e = i * esz e + m * esz e := Nat.add_mul _ _ _
 have m4 : i * esz e + esz e ≤ n * esz e := by
  have : (i + 1) * esz e ≤ n * esz e := Nat.mul_le_mul_right _ hin
  rw [Nat.add_mul] at this; omega
 have m5 : (n - i) * esz e = n * esz e - i * esz e := Nat.sub_mul _ _ _
 have hik : i + (n + m - i) = n + m := by omega
 have hkk : (n : Int) + (m : Int) - (i : Int) = ((n + m - i : Nat) : Int) := by omega
 have hbytes : (n + m) * ii.bytes ≤ 140737488355328 := by
  have : (n + m) * ii.bytes ≤ LIM * 1024 := Nat.mul_le_mul hlim hby
  unfold LIM at this; omega
 have hbytes2 : (n + m - i) * ii.bytes ≤ (n + m) * ii.bytes := Nat.mul_le_mul_right _ (by omega)
 have htl : (olds.take (i * esz e)).length = i * esz e := by rw [List.length_take, hlo]; omega
 have hold : (Builtin.firstCells ii.size i (.slice (some ⟨b, o, none⟩) i cap)).run P w.drew = .ok (olds.take (i * esz e)).toArray w.drew := by
  refine run_firstCells_some w.drew ii.size i ⟨b, o, none⟩ i cap (olds.take (i * esz e)) (by rw [htl, hsz]) fun j v hj => ?_
  rw [List.getElem?_take] at hj
  split at hj
  ·rw [addrAdd, cellIn (w := w.drew) hb]; exact hc j v hj
  ·cases hj
 have hunl : n + m ≤ 4294967296 := by unfold LIM at hlim; exact hlim
 have hrz := fun ty => Lib.run_append_grow_zeros w T Ti ty eT ii zv .i64 .i64 hu hTi hi hz (some ⟨b, o, none⟩) i cap (olds.take (i * esz e)) hold (n + m - i) (by omega) (by rw [hsz]; exact hpos) (by omega) (by omega) (by omega)
  (by rw [hik]; have := growslice_fits (need := n + m) (old := cap) (by omega) hbytes; omega)
 rw [hik] at hrz
 have hge := grownCap_ge w (n + m) cap eT
 have hdl : (olds.drop (i * esz e)).length = (n - i) * esz e := by rw [List.length_drop, hlo, m5]
 have hrs : ((olds.take (i * esz e)).toArray ++ Builtin.zeroCells zv.cells (n + m - i) ++ Builtin.zeroCells zv.cells (grownCap w (n + m) cap eT - (n + m))).size = grownCap w (n + m) cap eT * esz e := by
  simp only [Array.size_append, List.size_toArray, size_zeroCells, hzs, htl, ← Nat.add_mul]
  congr 1; omega
 have hrt : ∀ k, k < i * esz e → ((olds.take (i * esz e)).toArray ++ Builtin.zeroCells zv.cells (n + m - i) ++ Builtin.zeroCells zv.cells (grownCap w (n + m) cap eT - (n + m)))[k]? = olds[k]? := fun k hk => by
  rw [Array.getElem?_append_left (by simp only [Array.size_append, List.size_toArray, htl]; omega), Array.getElem?_append_left (by simp only [List.size_toArray, htl]; omega), List.getElem?_toArray, List.getElem?_take, if_pos hk]
 generalize hR : (olds.take (i * esz e)).toArray ++ Builtin.zeroCells zv.cells (n + m - i) ++ Builtin.zeroCells zv.cells (grownCap w (n + m) cap eT - (n + m)) = row at hrs hrt hrz
 generalize grownCap w (n + m) cap eT = G at hge hrs hrz
 have hGm : (n + m) * esz e ≤ G * esz e := Nat.mul_le_mul_right _ hge
 have hbl : b < w.heap.size := by
  rcases Nat.lt_or_ge b w.heap.size with h' | h'
  ·exact h'
  ·simp [Array.getElem?_eq_none h'] at hb
 have hvl : vb < w.heap.size := by
  rcases Nat.lt_or_ge vb w.heap.size with h' | h'
  ·exact h'
  ·simp [Array.getElem?_eq_none h'] at hvb
 have hN : (w.drew.alloc (.cells row eT)).heap[w.heap.size]? = some (.cells row eT (0, 0)) := heap_alloc_new w.drew _
 have hO : ∀ k, k < w.heap.size → (w.drew.alloc (.cells row eT)).heap[k]? = w.heap[k]? := fun k hk => by first | exact heap_alloc_old w.drew _ hk | exact heap_alloc_old w.drew _ k hk
 have hfit1 : i * esz e + news.length ≤ row.size := by rw [hrs]; omega
 have hfit2 : (i + m) * esz e + (olds.drop (i * esz e)).length ≤ (putAt row (i * esz e) news.toArray).size := by rw [putAt_size (by simpa using hfit1), hrs, hdl]; omega
 refine ⟨w.drew.alloc (.cells row eT), G, row, fun ty => by rw [hkk]; exact hrz ty, hge, fun W hW ty dc vc => ?_, fun W0 W hW0 hW ty dc sc => ?_, fun W0 W hW0 hW h1 h2 h3 => ?_, rfl, rfl, rfl⟩
 ·refine run_copy_at T T ty eT ii hu hi w.heap.size _ _ dc ⟨vb, vo, none⟩ _ vc m row eT news (by simp only [Nat.min_def]; split <;> omega) (by rw [hln, hsz]) (by rw [hW]; exact hN) (fun j v hj => ?_) hfit1 h.on
  have hvb1 : W.heap[vb]? = some (.cells vcs vel (0, 0)) := by rw [hW, hO vb hvl]; exact hvb
  rw [addrAdd, cellIn hvb1]
  exact hvr _ v hj
 ·have hN1 := setRow_heap W0 w.heap.size row (putAt row (i * esz e) news.toArray) eT (0, 0) (by rw [hW0]; exact hN)
  refine run_copy_at T T ty eT ii hu hi w.heap.size _ _ dc ⟨b, o + i * esz e, none⟩ _ sc (n - i) _ eT (olds.drop (i * esz e)) (by simp only [Nat.min_def]; split <;> omega) (by rw [hdl, hsz]) (by rw [hW]; exact hN1) (fun j v hj => ?_) hfit2 (fun v hv => h.oo v (List.mem_of_mem_drop hv))
  have hb1 : W.heap[b]? = some (.cells cs el (0, 0)) := by rw [hW, setRow_other W0 _ b _ (by omega), hW0, hO b hbl]; exact hb
  rw [List.getElem?_drop] at hj
  rw [addrAdd, cellIn hb1, Nat.add_assoc]
  exact hc _ v hj
 ·have hN1 := setRow_heap W0 w.heap.size row (putAt row (i * esz e) news.toArray) eT (0, 0) (by rw [hW0]; exact hN)
  have hb2 := setRow_heap W w.heap.size _ (putAt (putAt row (i * esz e) news.toArray) ((i + m) * esz e) (olds.drop (i * esz e)).toArray) eT (0, 0) (by rw [hW]; exact hN1)
  refine ⟨⟨h1, h2, h3, ?_, fun k hk hx => ?_⟩, hge, .inr (Nat.le_refl _), _, eT, hb2, ?_, fun k v hk => ?_⟩
  ·have hz : (w.drew.alloc (.cells row eT)).heap.size = w.heap.size + 1 := by simp
   simp [hW, hW0]
  ·rw [setRow_other W _ k _ (by omega), hW, setRow_other W0 _ k _ (by omega), hW0, hO k hk]
  ·rw [putAt_size (by simpa using hfit2), putAt_size (by simpa using hfit1), hrs]; omega
  ·rw [Nat.zero_add]
   rcases Nat.lt_or_ge k (i * esz e) with hk1 | hk1
   ·rw [List.append_assoc, List.getElem?_append_left (by omega), List.getElem?_take, if_pos hk1] at hk
    rw [putAt_miss hfit2 _ (.inl (by omega)), putAt_miss hfit1 _ (.inl (by omega)), hrt k hk1]
    exact hk
   ·rcases Nat.lt_or_ge k (i * esz e + news.length) with hk2 | hk2
    ·rw [List.append_assoc, List.getElem?_append_right (by omega), List.getElem?_append_left (by omega), htl] at hk
     have := putAt_hit hfit1 (k - i * esz e) (by omega)
     rw [putAt_miss hfit2 _ (.inl (by omega)), show k = i * esz e + (k - i * esz e) by omega, this]
     exact hk
    ·rw [List.getElem?_append_right (by rw [List.length_append, htl]; omega), List.length_append, htl] at hk
     have hkl := (List.getElem?_eq_some_iff.1 hk).1
     have := putAt_hit hfit2 (k - (i * esz e + news.length)) hkl
     rw [show k = (i + m) * esz e + (k - (i * esz e + news.length)) by omega, this]
     exact hk
theorem TreeOwn.rowCells {F : Nat → Prop} {t : Ty} {xs : List (El t)} {av : Path → Value} (h : TreeOwn w F t xs av) : ∃ (base : Option Addr) (cap : Nat) (olds : List Value), av [] = .slice base xs.length cap ∧ xs.length ≤ cap ∧ olds.length = xs.length * esz t ∧
 (∀ v ∈ olds, v.oneCell' = true) ∧ (base = none → xs.length = 0 ∧ cap = 0) ∧
 (∀ a, base = some a → ∃ b o cs el, a = ⟨b, o, none⟩ ∧ F b ∧ w.heap[b]? = some (.cells cs el (0, 0)) ∧ o + cap * esz t ≤ cs.size ∧ ∀ k v, olds[k]? = some v → cs[o + k]? = some v) ∧
    ∀ k x j c, xs[k]? = some x → (enc t x)[j]? = some c → ∃ u, olds[k * esz t + j]? = some u ∧ COwn w (Under t xs av [(k, j)]) c u := by
 have hnode := h.1 [] ⟨t, xs⟩ rfl
 rcases hnode with ⟨e, e2⟩ | ⟨b, o, cap, cs, el, e, hF, hb, hcap, hsize, hrows⟩
 ·have e : xs = [] := e
  subst e
  exact ⟨none, 0, [], e2, Nat.le_refl _, by simp, by simp, (fun _ => ⟨rfl, rfl⟩), (fun a e => by cases e), fun k x j c hk => by simp at hk⟩
 ·have hcap : xs.length ≤ cap := hcap
  have hsize : o + cap * esz t ≤ cs.size := hsize
  have hrows : RowsIn t xs cs o fun i j => av [(i, j)] := hrows
  have hm : xs.length * esz t ≤ cap * esz t := Nat.mul_le_mul_right _ hcap
  have hlen : ((cs.toList.drop o).take (xs.length * esz t)).length = xs.length * esz t := by simp; omega
  have hget : ∀ k v, ((cs.toList.drop o).take (xs.length * esz t))[k]? = some v → k < xs.length * esz t ∧ cs[o + k]? = some v := fun k v hk => by
   have hkl := (List.getElem?_eq_some_iff.1 hk).1
   rw [hlen] at hkl
   rw [List.getElem?_take, if_pos hkl, List.getElem?_drop, Array.getElem?_toList] at hk
   exact ⟨hkl, hk⟩
  refine ⟨some ⟨b, o, none⟩, cap, (cs.toList.drop o).take (xs.length * esz t), e, hcap, hlen, fun v hv => ?_, (fun e => by cases e), fun a ha => ?_, fun k x j c hx hcj => ?_⟩
  ·obtain ⟨k, hk⟩ := List.getElem?_of_mem hv
   obtain ⟨hkl, hk⟩ := hget k v hk
   exact h.oneCell hrows k v hkl hk
  ·cases ha
   exact ⟨b, o, cs, el, rfl, hF, hb, hsize, fun k v hk => (hget k v hk).2⟩
  ·obtain ⟨u, hu, _, ho⟩ := (h.pieces (ro := fun _ => False) hrows).rows k x j c hx hcj
   have hk := el_lt hx
   have hj := enc_lt hcj
   have hmul : k * esz t + esz t ≤ xs.length * esz t := by
    have : (k + 1) * esz t ≤ xs.length * esz t := Nat.mul_le_mul_right _ hk
    rw [Nat.add_mul] at this; omega
   exact ⟨u, by rw [List.getElem?_take, if_pos (by omega), List.getElem?_drop, Array.getElem?_toList, ← Nat.add_assoc]; exact hu, ho rfl⟩
theorem TreeOwn.under_not_root {F : Nat → Prop} {t : Ty} {xs : List (El t)} {av : Path → Value} (h : TreeOwn w F t xs av) {k j n : Nat} (hu : Under t xs av [(k, j)] n) : blk (av []) ≠ some n := by
 intro hb
 obtain ⟨q, s, hs, hbq⟩ := hu
 have := h.2 _ [] s ⟨t, xs⟩ n hs rfl hbq hb
 simp at this
theorem TreeOwn.under_inj {F : Nat → Prop} {t : Ty} {xs : List (El t)} {av : Path → Value} (h : TreeOwn w F t xs av) {k j k' j' n : Nat} (h1 : Under t xs av [(k, j)] n) (h2 : Under t xs av [(k', j')] n) : k = k' ∧ j = j' := by
 obtain ⟨q, s, hs, hb⟩ := h1
 obtain ⟨q', s', hs', hb'⟩ := h2
 have := h.2 _ _ s s' n hs hs' hb hb'
 simp only [List.singleton_append, List.cons.injEq, Prod.mk.injEq] at this
 exact this.1
theorem spec_ins {f : Nat} {t : Ty} {sz : Nat} (hsz : esz t = sz) (h : InsE P f sz) {q : Qt}
 (hq : ∀ ds outs, q ds = some (true, outs) → ∃ (xs ys : List (El t)) (i : Nat), ds = [.d (.sl t) xs, .d (.i .i64) (i : Int), .d (.sl t) ys] ∧ i ≤ xs.length ∧ 0 < ys.length ∧ xs.length + ys.length ≤ LIM ∧ outs = [.d (.sl t) (xs.take i ++ ys ++ xs.drop i)]) :
    SpecOk P f (Spec.of [.mov, .ro, .mov] [false] true q) := by
 subst hsz
 refine spec_own1 rfl fun ds outs hqs => ?_
 obtain ⟨xs, ys, i, rfl, hi, hy, hlim, rfl⟩ := hq ds outs hqs
 refine ⟨_, _, rfl, fun w us Mf ROa Fs hA hp hFM _ _ hMlt => ?_⟩
 cases hA with
 | @cons _ _ _ _ u1 us F1 Fs h1 hA =>
  cases hA with
  | @cons _ _ _ _ u2 us F2 Fs h2 hA =>
   cases hA with
   | @cons _ _ _ _ u3 us F3 Fs h3 hA =>
    cases hA
    have e2 := valRd_v (t := .i .i64) (v := .int .i64 i) rfl rfl h2
    subst e2
    obtain ⟨G1, hG1, av, h0, hT⟩ := valOwn_sl' h1
    obtain ⟨G3, hG3, av3, h03, hT3⟩ := valOwn_sl' h3
    have hM1 : ∀ k, G1 k → Mf k := fun k hk => hFM F1 (by simp) k (hG1 k hk)
    have hM3 : ∀ k, G3 k → Mf k := fun k hk => hFM F3 (by simp) k (hG3 k hk)
    have hdis : ∀ k, G1 k → G3 k → False := fun k hk hk3 => by
     have := (List.pairwise_cons.1 hp).1 F3 (by simp)
     exact this k (hG1 k hk) (hG3 k hk3)
    obtain ⟨base, cap, olds, e1, hcap, hlo, hoo, hnil, his, hcell⟩ := hT.rowCells
    obtain ⟨base3, cap3, news, e3, hcap3, hln, hon, hnil3, his3, hcell3⟩ := hT3.rowCells
    rw [h0] at e1; rw [h03] at e3
    subst e1; subst e3
    cases base3 with
    | none => have := (hnil3 rfl).1; omega
    | some a3 =>
    obtain ⟨vb, vo, vcs, vel, rfl, hF3, hb3, hs3, hc3⟩ := his3 _ rfl
    refine Calls.mono (h base xs.length cap i vb vo ys.length cap3 olds news w ⟨hi, hcap, hy, hlim, hlo, hln, hoo, hon, hnil, fun a ha => ?_, vcs, vel, hb3, hc3⟩) ?_
    ·obtain ⟨b, o, cs, el, rfl, hF, hb, hs, hc⟩ := his a ha
     exact ⟨b, o, cs, el, rfl, fun e => hdis b hF (e ▸ hF3), hb, hs, hc⟩
    ·rintro e w' ⟨b', o', cap', rfl, hk, hcap', hwho, cs', el', hb', hs', hv'⟩
     have hlen : (xs.take i ++ ys ++ xs.drop i).length = xs.length + ys.length := by simp; omega
     have htl : (olds.take (i * esz t)).length = i * esz t := by
      have : i * esz t ≤ xs.length * esz t := Nat.mul_le_mul_right _ hi
      rw [List.length_take, hlo]; omega
     have hxroot : ∀ b o, base = some ⟨b, o, none⟩ → blk (av []) = some b := fun b o e => by rw [h0, e]; rfl
     have hX : ∀ k, (∃ o, base = some ⟨k, o, none⟩) → G1 k := fun k ⟨o, e⟩ => by
      obtain ⟨b, o2, cs, el, e2, hF, _⟩ := his _ e
      cases e2; exact hF
     have hu1 : ∀ k j n, Under t xs av [(k, j)] n → ¬ ∃ o, base = some ⟨n, o, none⟩ := fun k j n hu ⟨o, e⟩ => hT.under_not_root hu (hxroot n o e)
     have hu3 : ∀ k j n, Under t ys av3 [(k, j)] n → ¬ ∃ o, base = some ⟨n, o, none⟩ := fun k j n hu he => hdis n (hX n he) (hT3.under_F hu)
     let G : Nat → Nat → Nat → Prop := fun k j => if k < i then Under t xs av [(k, j)] else if k < i + ys.length then Under t ys av3 [(k - i, j)] else Under t xs av [(k - ys.length, j)]
     have hGin : ∀ k j n, G k j n → (∃ k', Under t xs av [(k', j)] n ∧ (k' = if k < i then k else k - ys.length) ∧ ¬ (i ≤ k ∧ k < i + ys.length)) ∨ (Under t ys av3 [(k - i, j)] n ∧ i ≤ k ∧ k < i + ys.length) := by
      intro k j n hg
      simp only [G] at hg
      by_cases c1 : k < i
      ·rw [if_pos c1] at hg; exact .inl ⟨k, hg, by rw [if_pos c1], by omega⟩
      ·rw [if_neg c1] at hg
       by_cases c2 : k < i + ys.length
       ·rw [if_pos c2] at hg; exact .inr ⟨hg, by omega, c2⟩
       ·rw [if_neg c2] at hg; exact .inl ⟨_, hg, by rw [if_neg c1], by omega⟩
     have hGM : ∀ k j n, G k j n → Mf n := fun k j n hg => by
      rcases hGin k j n hg with ⟨k', h', _⟩ | ⟨h', _⟩
      ·exact hM1 n (hT.under_F h')
      ·exact hM3 n (hT3.under_F h')
     have hP : Pieces w' (fun _ => False) true t (xs.take i ++ ys ++ xs.drop i) cs' o' G := by
      refine ⟨fun k x j c hx hcj => ?_, fun k j k' j' n hg hg' => ?_⟩
      ·have hj := enc_lt hcj
       have fin : ∀ (H : Nat → Prop) u, COwn w H c u → (∀ n, H n → ¬ ∃ o, base = some ⟨n, o, none⟩) → (olds.take (i * esz t) ++ news ++ olds.drop (i * esz t))[k * esz t + j]? = some u → (∀ n, H n ↔ G k j n) →
         ∃ u, cs'[o' + k * esz t + j]? = some u ∧ CRd w' (fun n => G k j n ∨ False) c u ∧ (true = true → COwn w' (G k j) c u) := by
        intro H u ho hn hu hHG
        have ho' : COwn w' (G k j) c u := (ho.same hk.same hn).mono fun n hn => (hHG n).1 hn
        exact ⟨u, by rw [Nat.add_assoc]; exact hv' _ u hu, ho'.rd.mono fun n hn => .inl hn, fun _ => ho'⟩
       by_cases c1 : k < i
       ·rw [List.append_assoc, List.getElem?_append_left (by simp; omega), List.getElem?_take, if_pos c1] at hx
        obtain ⟨u, hu, ho⟩ := hcell k x j c hx hcj
        have hmul : k * esz t + esz t ≤ i * esz t := by
         have : (k + 1) * esz t ≤ i * esz t := Nat.mul_le_mul_right _ c1
         rw [Nat.add_mul] at this; omega
        refine fin _ u ho (hu1 k j) ?_ (fun n => by simp only [G, if_pos c1])
        rw [List.append_assoc, List.getElem?_append_left (by omega), List.getElem?_take, if_pos (by omega)]; exact hu
       ·have hmi : i * esz t ≤ k * esz t := Nat.mul_le_mul_right _ (by omega)
        by_cases c2 : k < i + ys.length
        ·rw [List.append_assoc, List.getElem?_append_right (by simp; omega), List.getElem?_append_left (by simp; omega)] at hx
         have hki : k - (xs.take i).length = k - i := by rw [List.length_take, Nat.min_eq_left hi]
         rw [hki] at hx
         obtain ⟨u, hu, ho⟩ := hcell3 (k - i) x j c hx hcj
         have hul := (List.getElem?_eq_some_iff.1 hu).1
         refine fin _ u ho (hu3 (k - i) j) ?_ (fun n => by simp only [G, if_neg c1, if_pos c2])
         have e4 : (k - i) * esz t = k * esz t - i * esz t := Nat.sub_mul _ _ _
         rw [List.append_assoc, List.getElem?_append_right (by omega), htl, show k * esz t + j - i * esz t = (k - i) * esz t + j by omega, List.getElem?_append_left hul]; exact hu
        ·rw [List.getElem?_append_right (by simp; omega), List.length_append, List.length_take, Nat.min_eq_left hi, List.getElem?_drop] at hx
         have hki : i + (k - (i + ys.length)) = k - ys.length := by omega
         rw [hki] at hx
         obtain ⟨u, hu, ho⟩ := hcell (k - ys.length) x j c hx hcj
         refine fin _ u ho (hu1 (k - ys.length) j) ?_ (fun n => by simp only [G, if_neg c1, if_neg c2])
         have e4 : (k - ys.length) * esz t = k * esz t - ys.length * esz t := Nat.sub_mul _ _ _
         have e5 : (i + ys.length) * esz t ≤ k * esz t := Nat.mul_le_mul_right _ (by omega)
         rw [Nat.add_mul] at e5
         rw [List.getElem?_append_right (by rw [List.length_append, htl, hln]; omega), List.length_append, htl, hln, List.getElem?_drop, ← hu]
         congr 1
         omega
      ·rcases hGin k j n hg with ⟨a, h1, e1, n1⟩ | ⟨h1, l1, l2⟩ <;> rcases hGin k' j' n hg' with ⟨a', h1', e1', n1'⟩ | ⟨h1', l1', l2'⟩
       ·obtain ⟨e, ej⟩ := hT.under_inj h1 h1'
        refine ⟨?_, ej⟩
        rw [e1, e1'] at e
        split at e <;> split at e <;> omega
       ·exact (hdis n (hT.under_F h1) (hT3.under_F h1')).elim
       ·exact (hdis n (hT.under_F h1') (hT3.under_F h1)).elim
       ·obtain ⟨e, ej⟩ := hT3.under_inj h1 h1'
        exact ⟨by omega, ej⟩
     have hGb : ∀ k j, ¬ G k j b' := fun k j hg => by
      rcases hwho with he | he
      ·rcases hGin k j b' hg with ⟨a, h', _⟩ | ⟨h', _⟩
       ·exact hu1 _ _ _ h' he
       ·exact hu3 _ _ _ h' he
      ·have := hMlt b' (hGM k j b' hg); omega
     obtain ⟨av', h0', hT'⟩ := hP.own hb' (by rw [hlen]; exact hcap') hs' hGb
     rw [hlen] at h0'
     have hKM : Kept w w' Mf := ⟨hk.os, hk.tape, hk.output, hk.same.1, fun n h1 h2 => hk.same.2 n h1 fun he => h2 (hM1 n (hX n he))⟩
     refine ⟨_, fun n => n = b' ∨ ∃ i j, G i j n, rfl, hKM, valOwn_sl ⟨av', h0', hT'⟩, fun n hn => ?_⟩
     have hbl : b' < w'.heap.size := by
      rcases Nat.lt_or_ge b' w'.heap.size with h' | h'
      ·exact h'
      ·simp [Array.getElem?_eq_none h'] at hb'
     rcases hn with rfl | ⟨k, j, hg⟩
     ·refine ⟨?_, hbl⟩
      rcases hwho with he | he
      ·exact .inl (hM1 _ (hX _ he))
      ·exact .inr he
     ·exact ⟨.inl (hGM k j n hg), Nat.lt_of_lt_of_le (hMlt n (hGM k j n hg)) hk.same.1⟩
end Go.Gm
namespace Go.Gm
open Go
def insL {α : Type} (xs : List α) (i : Int) (ys : List α) : List α := xs.take i.toNat ++ ys ++ xs.drop i.toNat
def gIns {α : Type} (xs : List α) (i : Int) (ys : List α) : Bool := decide (0 ≤ i) && (decide (i ≤ (xs.length : Int)) && (Nat.blt 0 ys.length && Nat.ble (xs.length + ys.length) LIM))
theorem gIns_iff {α : Type} {xs ys : List α} {i : Int} : gIns xs i ys = true ↔ 0 ≤ i ∧ i ≤ (xs.length : Int) ∧ 0 < ys.length ∧ xs.length + ys.length ≤ LIM := by
 simp only [gIns, Bool.and_eq_true, decide_eq_true_eq, Nat.blt_eq, Nat.ble_eq]
theorem firstN_congr {p q : Nat → Bool} : ∀ {d j : Nat}, (∀ k, j ≤ k → k < j + d → p k = q k) → firstN p j d = firstN q j d
 | 0, _, _ => rfl
 | d + 1, j, h => by
  simp only [firstN]
  rw [h j (by omega) (by omega), firstN_congr (d := d) (j := j + 1) fun k h1 h2 => h k (by omega) (by omega)]
def plcN (n : Nat) (o : Option Nat) : Int := o.elim (n : Int) fun i => (i : Int)
theorem plcN_bd {p : Nat → Bool} {n : Nat} : ∃ i : Nat, plcN n (firstN p 0 n) = (i : Int) ∧ i ≤ n := by
 cases h : firstN p 0 n with
 | none => exact ⟨n, rfl, Nat.le_refl _⟩
 | some i => obtain ⟨_, h2, _⟩ := firstN_some h; exact ⟨i, rfl, by omega⟩
theorem plcN_plc (n : Nat) (o : Option Nat) : cond (decide (plc o < (0 : Int))) (n : Int) (plc o) = plcN n o := by
 cases o with
 | none => rfl
 | some i => rw [decide_eq_false (show ¬ (plc (some i) < 0) by show ¬ ((i : Int) < 0); omega)]; rfl
def gtKey (s key : BA) : Bool := !((sLt s key) || (sEq s key))
def gtAt (keys : List BA) (key : BA) : Int := findI (t := .str) (fun s => gtKey s key) keys
def comesAt (keys : List BA) (key : BA) : Int := plcN keys.length (firstN (fun j => !(sLt (atI (t := .str) keys j) key)) 0 keys.length)
theorem comesAt_bd (keys : List BA) (key : BA) : ∃ i : Nat, comesAt keys key = (i : Int) ∧ i ≤ keys.length := plcN_bd
theorem gtAt_comes {t : NodeT} {key : BA} (hm : isMapN t = true) (h : keyAt t key < 0) : cond (decide (gtAt t.keys key < (0 : Int))) (t.keys.length : Int) (gtAt t.keys key) = comesAt t.keys key := by
 unfold gtAt comesAt findI
 rw [plcN_plc]
 congr 1
 refine firstN_congr fun j _ hj => ?_
 obtain ⟨h5, hl⟩ := isMapN_eq hm
 have hne : sEq (atI (t := .str) t.keys j) key = false := by
  unfold keyAt at h
  rw [h5, ← hl, Nat.min_self] at h
  simp only [cond_true] at h
  cases hf : firstN (fun j => sEq (atI (t := .str) t.keys j) key) 0 t.keys.length with
  | none => exact firstN_none hf j (by omega) hj
  | some i =>
   rw [hf] at h
   exact absurd h (by show ¬ ((i : Int) < 0); omega)
 simp only [gtKey, hne, Bool.or_false]
def putKey (t : NodeT) (k : Int) (key : BA) (x : NodeT) : NodeT := ⟨t.kind, t.n, t.s, insL t.keys k [key], insL t.kids k [x]⟩
def putKid (t : NodeT) (k : Int) (x : NodeT) : NodeT := ⟨t.kind, t.n, t.s, t.keys, insL t.kids k [x]⟩
def setK (t : NodeT) (key : BA) (x : NodeT) : NodeT := cond (isMapN t) (cond (decide (keyAt t key < (0 : Int))) (putKey t (comesAt t.keys key) key x) (setKid t (keyAt t key) x)) t
def dash : BA := bs [45]
def slotP (p : BA) (n j : Nat) : Bool := cond (sEq (digS (j : Int)) p) true (cond (sEq p dash) ((j : Int) == (n : Int)) false)
def slotAt (t : NodeT) (p : BA) : Int := plc (firstN (slotP p t.kids.length) 0 (t.kids.length + 1))
def putLast (t : NodeT) (p : BA) (x : NodeT) : NodeT × Bool :=
  cond (isMapN t) (setK t p x, true) (cond (t.kind == (4 : Int)) (cond (decide (slotAt t p < (0 : Int))) (noNode, false) (putKid t (slotAt t p) x, true)) (noNode, false))
def putIn : NodeT → List BA → NodeT → NodeT × Bool
 | _, [], _ => (noNode, false)
 | t, [p], x => putLast t p x
 | t, p :: q :: r, x => cond (decide (kidAt t p < (0 : Int))) (noNode, false)
   (cond (!((putIn (atI (t := .node) t.kids (Int.toNat (kidAt t p))) (q :: r) x).2)) (noNode, false) (setKid t (kidAt t p) (putIn (atI (t := .node) t.kids (Int.toNat (kidAt t p))) (q :: r) x).1, true))
def putAtW (t : NodeT) (path : List BA) (x : NodeT) : NodeT × Bool := cond (!((putIn t path x).2)) (t, false) ((putIn t path x).1, true)
def putPtr (t : NodeT) (path : List BA) (x : NodeT) : NodeT × Bool := cond ((path.length : Int) == (0 : Int)) (x, true) (putAtW t path x)
theorem putPtr_cons (t : NodeT) (p : BA) (r : List BA) (x : NodeT) : putPtr t (p :: r) x = putAtW t (p :: r) x := by
 have : (((p :: r).length : Int) == (0 : Int)) = false := by rw [beq_eq_false_iff_ne, List.length_cons]; omega
 unfold putPtr; rw [this]; rfl
theorem putPtr_one (t : NodeT) (p : BA) (x : NodeT) : putPtr t [p] x = cond ((putLast t p x).2) ((putLast t p x).1, true) (t, false) := by
 rw [putPtr_cons]
 unfold putAtW
 rw [putIn]
 cases (putLast t p x).2 <;> rfl
theorem putPtr_no (t : NodeT) (p q : BA) (r : List BA) (x : NodeT) (h : kidAt t p < 0) : putPtr t (p :: q :: r) x = (t, false) := by
 rw [putPtr_cons]
 unfold putAtW
 rw [putIn, decide_eq_true h]; rfl
theorem putPtr_deep (t : NodeT) (p q : BA) (r : List BA) (x : NodeT) (h : ¬ kidAt t p < 0) :
    putPtr t (p :: q :: r) x = cond ((putPtr (atI (t := .node) t.kids (Int.toNat (kidAt t p))) (q :: r) x).2) (setKid t (kidAt t p) (putPtr (atI (t := .node) t.kids (Int.toNat (kidAt t p))) (q :: r) x).1, true) (t, false) := by
 rw [putPtr_cons, putPtr_cons]
 unfold putAtW
 rw [putIn, decide_eq_false h]
 simp only [cond_false]
 cases (putIn (atI (t := .node) t.kids (Int.toNat (kidAt t p))) (q :: r) x).2 <;> rfl
theorem dig_dash (j : Nat) : sEq (digS (j : Int)) dash = false := by
 rw [Bool.eq_false_iff]
 intro h
 have e := sEq_iff.1 h
 obtain ⟨c, r, e2, hc⟩ := natDig_head j
 have hd : (digS (j : Int)).data.toList = natDig j := by rw [digS_nat]
 rw [e, e2] at hd
 have h45 : (dash.data.toList) = [45] := by rfl
 rw [h45] at hd
 cases hd
 exact absurd hc (by decide)
theorem slot_dash {p : BA} {n : Nat} (h : sEq p dash = true) : firstN (slotP p n) 0 (n + 1) = some n := by
 have e := sEq_iff.1 h
 subst e
 refine firstN_eq (by omega) ?_ fun k hk => ?_
 ·unfold slotP; rw [dig_dash, h]; simp
 ·unfold slotP; rw [dig_dash, h]
  simp only [cond_true, cond_false]
  rw [beq_eq_false_iff_ne]; omega
theorem slot_num {p : BA} {n : Nat} (h : sEq p dash = false) : firstN (slotP p n) 0 (n + 1) = firstN (fun j => sEq (digS (j : Int)) p) 0 (n + 1) := by
 congr 1
 funext j
 unfold slotP; rw [h]
 cases sEq (digS (j : Int)) p <;> rfl
theorem slot_impl {t : NodeT} {p : BA} (hn : t.kids.length ≤ 1048576) (h : sEq p dash = false) :
    cond (!((natS p).2)) (-1 : Int) (cond (decide ((natS p).1 > (t.kids.length : Int))) (-1 : Int) (natS p).1) = slotAt t p := by
 unfold slotAt
 rw [slot_num h, ← natS_firstW (by omega)]
 have : decide ((natS p).1 > (t.kids.length : Int)) = decide ((natS p).1 ≥ ((t.kids.length + 1 : Nat) : Int)) := by
  rw [Bool.eq_iff_iff]; simp only [decide_eq_true_eq]; omega
 rw [this]
theorem setK_neg {t : NodeT} {s : BA} {x : NodeT} (hm : isMapN t = true) (h : keyAt t s < 0) : setK t s x = putKey t (comesAt t.keys s) s x := by
 unfold setK; rw [hm, decide_eq_true h]; rfl
theorem setK_pos {t : NodeT} {s : BA} {x : NodeT} (hm : isMapN t = true) (h : ¬ keyAt t s < 0) : setK t s x = setKid t (keyAt t s) x := by
 unfold setK; rw [hm, decide_eq_false h]; rfl
theorem szL_ins {α : Type} (f : α → Nat) (xs : List α) (i : Int) (y : α) : szL f (insL xs i [y]) = szL f xs + 1 + f y := by
 unfold insL
 conv => rhs; rw [← List.take_append_drop i.toNat xs]
 rw [szL_append, szL_append, szL_append, szL_cons]
 simp only [szL, List.length_nil, List.map_nil, List.sum_nil]; omega
theorem smL_ins {α : Type} {f : α → Bool} {xs : List α} (h : smL f xs = true) (i : Int) {y : α} (hy : f y = true) (hl : xs.length + 1 ≤ 1048576) : smL f (insL xs i [y]) = true := by
  have h' := h
  simp only [smL, Bool.and_eq_true] at h' ⊢
  refine ⟨?_, List.all_eq_true.2 fun x hx => ?_⟩
  · have hlen : (insL xs i [y]).length = xs.length + 1 := by
      unfold insL
      conv => rhs; rw [← List.take_append_drop i.toNat xs]
      simp only [List.length_append, List.length_cons, List.length_nil]; omega
    rw [hlen]
    first | exact decide_eq_true hl | exact Nat.ble_eq_true_of_le hl
  · unfold insL at hx
    rcases List.mem_append.1 hx with hx | hx
    · rcases List.mem_append.1 hx with hx | hx
      · exact List.all_eq_true.1 h'.2 x (List.mem_of_mem_take hx)
      · have : x = y := by simpa using hx
        rw [this]; exact hy
    · exact List.all_eq_true.1 h'.2 x (List.mem_of_mem_drop hx)
theorem putKey_ok {t x : NodeT} {k : Int} {s : BA} (h : sm_node t = true) (hs : smStr s = true) (hx : sm_node x = true) (hk : t.keys.length + 1 ≤ 1048576) (hd : t.kids.length + 1 ≤ 1048576) :
    sm_node (putKey t k s x) = true ∧ szN_node (putKey t k s x) = szN_node t + 2 + s.size + szN_node x := by
 obtain ⟨h1, h2, h3, h4, h5⟩ := sm_parts h
 constructor
 ·rw [sm_node_def]
  simp only [Bool.and_eq_true]
  exact ⟨h1, h2, h3, smL_ins h4 k hs hk, smL_ins h5 k hx hd⟩
 ·rw [szN_node_def, szN_node_def t]
  have e1 := szL_ins ByteArray.size t.keys k s
  have e2 := szL_ins szN_node t.kids k x
  show t.s.size + szL ByteArray.size (insL t.keys k [s]) + szL szN_node (insL t.kids k [x]) = _
  omega
theorem putKid_ok {t x : NodeT} {k : Int} (h : sm_node t = true) (hx : sm_node x = true) (hd : t.kids.length + 1 ≤ 1048576) :
    sm_node (putKid t k x) = true ∧ szN_node (putKid t k x) = szN_node t + 1 + szN_node x := by
 obtain ⟨h1, h2, h3, h4, h5⟩ := sm_parts h
 constructor
 ·rw [sm_node_def]
  simp only [Bool.and_eq_true]
  exact ⟨h1, h2, h3, h4, smL_ins h5 k hx hd⟩
 ·rw [szN_node_def, szN_node_def t]
  have e2 := szL_ins szN_node t.kids k x
  show t.s.size + szL ByteArray.size t.keys + szL szN_node (insL t.kids k [x]) = _
  omega
theorem szL_setE {α : Type} {f : α → Nat} {xs : List α} {i : Nat} {x y : α} (h : xs[i]? = some x) : szL f (xs.set i y) + f x = szL f xs + f y := by
 rw [List.set_eq_take_append_cons_drop, if_pos (lt_of_get h)]
 conv => rhs; rw [split_at h]
 rw [szL_append, szL_append, szL_cons, szL_cons]; omega
theorem setKid_okE {t x y : NodeT} {i : Nat} (h : sm_node t = true) (hx : t.kids[i]? = some x) (hy : sm_node y = true) : sm_node (setKid t (i : Int) y) = true ∧ szN_node (setKid t (i : Int) y) + szN_node x = szN_node t + szN_node y := by
 obtain ⟨h1, h2, h3, h4, h5⟩ := sm_parts h
 constructor
 ·rw [sm_node_def]
  simp only [Bool.and_eq_true]
  exact ⟨h1, h2, h3, h4, smL_set h5 _ hy⟩
 ·rw [szN_node_def (setKid t (i : Int) y), szN_node_def t]
  have e2 := szL_setE (f := szN_node) (y := y) hx
  show t.s.size + szL ByteArray.size t.keys + szL szN_node (t.kids.set (Int.toNat (i : Int)) y) + _ = _
  rw [Int.toNat_natCast]
  omega
theorem lens_node {t : NodeT} : t.keys.length ≤ szN_node t ∧ t.kids.length ≤ szN_node t := by
 rw [szN_node_def t]
 have e1 : szL ByteArray.size t.keys = t.keys.length + (t.keys.map ByteArray.size).sum := rfl
 have e2 : szL szN_node t.kids = t.kids.length + (t.kids.map szN_node).sum := rfl
 omega
theorem setK_ok {t x : NodeT} {s : BA} (h : sm_node t = true) (hs : smStr s = true) (hx : sm_node x = true) (hz : szN_node t + 1 ≤ 1048576) :
    sm_node (setK t s x) = true ∧ szN_node (setK t s x) ≤ szN_node t + 2 + s.size + szN_node x := by
 have hl := @lens_node t
 cases hm : isMapN t
 ·unfold setK; rw [hm]; exact ⟨h, by simp only [cond_false]; omega⟩
 by_cases hk : keyAt t s < 0
 ·rw [setK_neg hm hk]
  have := putKey_ok (k := comesAt t.keys s) h hs hx (by omega) (by omega)
  exact ⟨this.1, by omega⟩
 ·rw [setK_pos hm hk]
  obtain ⟨i, e, h1, h2⟩ := keyAt_bd t s hk
  rw [e]
  have := setKid_okE h (List.getElem?_eq_getElem h2) hx
  exact ⟨this.1, by omega⟩
theorem putLast_ok {t x : NodeT} {s : BA} (h : sm_node t = true) (hs : smStr s = true) (hx : sm_node x = true) (hz : szN_node t + 1 ≤ 1048576) :
    sm_node (putLast t s x).1 = true ∧ szN_node (putLast t s x).1 ≤ szN_node t + 2 + s.size + szN_node x := by
 have hl := @lens_node t
 have hno : sm_node noNode = true ∧ szN_node noNode ≤ szN_node t + 2 + s.size + szN_node x := ⟨by decide, by have := (noNode_ok t).2; omega⟩
 unfold putLast
 cases isMapN t
 ·cases t.kind == (4 : Int)
  ·exact hno
  ·by_cases hk : slotAt t s < 0
   ·rw [decide_eq_true hk]; exact hno
   ·rw [decide_eq_false hk]
    have := putKid_ok (k := slotAt t s) h hx (by omega)
    exact ⟨this.1, by simp only [cond_true, cond_false]; omega⟩
 ·exact setK_ok h hs hx hz
theorem putIn_ok : ∀ (path : List BA) (t x : NodeT), sm_node t = true → smL smStr path = true → sm_node x = true → szN_node t + 1 ≤ 1048576 → sm_node (putIn t path x).1 = true ∧ szN_node (putIn t path x).1 ≤ szN_node t + 1 + szL ByteArray.size path + szN_node x
 | [], t, x, _, _, _, _ => ⟨(by decide : sm_node noNode = true), by have := (noNode_ok t).2; show szN_node noNode ≤ _; omega⟩
 | [p], t, x, h, hp, hx, hz => by
  rw [putIn]
  have := putLast_ok h (smL_head hp) hx hz
  have e : szL ByteArray.size [p] = 1 + p.size := by rw [szL_cons]; rfl
  exact ⟨this.1, by omega⟩
 | p :: q :: r, t, x, h, hp, hx, hz => by
  rw [putIn]
  have e : szL ByteArray.size (p :: q :: r) = 1 + p.size + szL ByteArray.size (q :: r) := szL_cons _ _ _
  have hno : sm_node noNode = true ∧ szN_node noNode ≤ szN_node t + 1 + szL ByteArray.size (p :: q :: r) + szN_node x := ⟨by decide, by have := (noNode_ok t).2; omega⟩
  by_cases hk : kidAt t p < 0
  ·rw [decide_eq_true hk]; exact hno
  ·rw [decide_eq_false hk]
   simp only [cond_false]
   obtain ⟨i, e1, hi⟩ := kidAt_bd hk
   rw [e1, Int.toNat_natCast]
   have hx1 := atI_lt (t := .node) hi
   have hm := List.mem_of_getElem? hx1
   have hsz := szN_kid hm
   have ih := putIn_ok (q :: r) (atI (t := .node) t.kids i) x (sm_kid h hm) (smL_tail hp) hx (by omega)
   cases (putIn (atI (t := .node) t.kids i) (q :: r) x).2
   ·exact hno
   ·have := setKid_okE h hx1 ih.1
    exact ⟨this.1, by simp only [Bool.not_true, cond_false]; omega⟩
theorem putPtr_ok {t x : NodeT} {path : List BA} (h : sm_node t = true) (hp : smL smStr path = true) (hx : sm_node x = true) (hz : szN_node t + szL ByteArray.size path ≤ 1048576) :
    sm_node (putPtr t path x).1 = true ∧ szN_node (putPtr t path x).1 ≤ szN_node t + 1 + szL ByteArray.size path + szN_node x := by
 cases path with
 | nil => exact ⟨hx, by show szN_node x ≤ _; omega⟩
 | cons p r =>
  rw [putPtr_cons]
  unfold putAtW
  have e : szL ByteArray.size (p :: r) = 1 + p.size + szL ByteArray.size r := szL_cons _ _ _
  have := putIn_ok (p :: r) t x h hp hx (by omega)
  cases (putIn t (p :: r) x).2
  ·exact ⟨h, by simp only [Bool.not_false, cond_true]; omega⟩
  ·exact this
def gP (t : NodeT) (path : List BA) (x : NodeT) : Bool := sm_node t && (smL smStr path && sm_node x)
def gPW (t : NodeT) (path : List BA) (x : NodeT) : Bool := gP t path x && !path.isEmpty
def gS3 (t : NodeT) (s : BA) (x : NodeT) : Bool := sm_node t && (smStr s && sm_node x)
def gInto (t : NodeT) (k : Int) (x : NodeT) : Bool := sm_node t && (sm_node x && (decide (0 ≤ k) && decide (k ≤ (t.kids.length : Int))))
def sLast (t : NodeT) (p : BA) (x : NodeT) : NodeT × Bool := putPtr t [p] x
theorem gIns_one {α : Type} {xs : List α} {k : Int} {i : Nat} {y : α} (e : k = (i : Int)) (hi : i ≤ xs.length) (n : xs.length ≤ 1048576) : gIns xs k [y] = true :=
  gIns_iff.2 ⟨by omega, by omega, by simp, by have : (LIM : Nat) = 4294967296 := rfl; simp only [List.length_cons, List.length_nil]; omega⟩
theorem natS_nonneg {s : BA} (h : (natS s).2 = true) : 0 ≤ (natS s).1 := by
 unfold natS at h ⊢
 cases h2 : (numS s).2
 ·rw [h2] at h; cases h
 ·rw [h2] at h
  exact of_decide_eq_true h
theorem limT1 {α : Type} {xs : List α} (h : xs.length ≤ 1048576) (i : Nat) : Nat.ble ((xs.take i).length + 1) LIM = true := Nat.ble_eq_true_of_le (by
  have : (LIM : Nat) = 4294967296 := rfl
  rw [List.length_take]; omega)
theorem limT1D {α : Type} {xs : List α} (h : xs.length ≤ 1048576) (i j : Nat) (y : α) : Nat.ble ((xs.take i ++ [y]).length + (xs.drop j).length) LIM = true := Nat.ble_eq_true_of_le (by
  have : (LIM : Nat) = 4294967296 := rfl
  simp only [List.length_append, List.length_take, List.length_drop, List.length_cons, List.length_nil]; omega)
theorem bne4 {n : Int} (h : (n == (5 : Int)) = true) : (n != (4 : Int)) = true ∧ (n == (4 : Int)) = false := by
 have := eq_of_beq h
 subst this; exact ⟨rfl, rfl⟩
def sm_pop (x : PopT) : Bool := (okI x.kind && (smL smStr x.path && (smL smStr x.src && sm_node x.x)))
def szN_pop (x : PopT) : Nat := szL ByteArray.size x.path + szL ByteArray.size x.src + szN_node x.x
theorem eta_pop (x : PopT) : (⟨x.kind, x.path, x.src, x.x⟩ : PopT) = x := rfl
noncomputable def frontOf (src path : List BA) : Bool := cond (decide ((path.length : Int) > (src.length : Int))) (eqD (path.take src.length) src) false
noncomputable def patchedI (t : NodeT) (p : PopT) : NodeT × Bool :=
  cond (p.kind == (1 : Int)) (putPtr t p.path p.x)
 (cond (p.kind == (2 : Int)) (cutPtr t p.path)
 (cond (p.kind == (3 : Int)) (cond ((p.path.length : Int) == (0 : Int)) (p.x, true) (cond (!((cutPtr t p.path).2)) (noNode, false) (putPtr (cutPtr t p.path).1 p.path p.x)))
 (cond (p.kind == (4 : Int)) (t, cond ((atPtr t p.path).2) (eqD (atPtr t p.path).1 p.x) false)
 (cond (!((atPtr t p.src).2)) (noNode, false)
 (cond (p.kind == (5 : Int)) (cond (frontOf p.src p.path) (noNode, false) (cond (!((cutPtr t p.src).2)) (noNode, false) (putPtr (cutPtr t p.src).1 p.path (atPtr t p.src).1)))
 (cond (p.kind == (6 : Int)) (putPtr t p.path (atPtr t p.src).1) (noNode, false)))))))
noncomputable def patchOne (t : NodeT) (p : PopT) : NodeT × Bool := cond (!((patchedI t p).2)) (t, false) ((patchedI t p).1, true)
theorem putPtr_false {t x : NodeT} {path : List BA} (h : (putPtr t path x).2 = false) : (putPtr t path x).1 = t := by
 cases path with
 | nil => cases h
 | cons p r =>
  rw [putPtr_cons] at h ⊢
  unfold putAtW at h ⊢
  cases hc : (putIn t (p :: r) x).2
  ·rfl
  ·rw [hc] at h; cases h
theorem cutPtr_false {t : NodeT} {path : List BA} (h : (cutPtr t path).2 = false) : (cutPtr t path).1 = t := by
 cases path with
 | nil => rfl
 | cons p r =>
  rw [cutPtr_cons] at h ⊢
  unfold cutAt at h ⊢
  cases hc : (cutIn t (p :: r)).2
  ·rfl
  ·rw [hc] at h; cases h
theorem putPtr_eta {t x : NodeT} {path : List BA} : cond (!((putPtr t path x).2)) (t, false) ((putPtr t path x).1, true) = putPtr t path x := by
 cases h : (putPtr t path x).2
 ·exact Prod.ext (putPtr_false h).symm h.symm
 ·exact Prod.ext rfl h.symm
theorem cutPtr_eta {t : NodeT} {path : List BA} : cond (!((cutPtr t path).2)) (t, false) ((cutPtr t path).1, true) = cutPtr t path := by
 cases h : (cutPtr t path).2
 ·exact Prod.ext (cutPtr_false h).symm h.symm
 ·exact Prod.ext rfl h.symm
theorem cut_at : ∀ {path : List BA} {t : NodeT}, (cutPtr t path).2 = true → (atPtr t path).2 = true
 | [], t, _ => rfl
 | p :: r, t, h => by
  by_cases hk : kidAt t p < 0
  ·rw [cutPtr_no t p r hk] at h; cases h
  ·have e : atPtr t (p :: r) = atPtr (atI (t := .node) t.kids (Int.toNat (kidAt t p))) r := by
    unfold atPtr
    simp only [foldE]
    rw [show atStep p t = .inr (atI (t := .node) t.kids (Int.toNat (kidAt t p))) by unfold atStep; rw [decide_eq_false hk]; rfl]
    rfl
   rw [e]
   cases r with
   | nil => rfl
   | cons q r =>
    rw [cutPtr_deep t p q r hk] at h
    refine cut_at (path := q :: r) ?_
    cases hc : (cutPtr (atI (t := .node) t.kids (Int.toNat (kidAt t p))) (q :: r)).2
    ·rw [hc] at h; cases h
    ·rfl
theorem at_cut {path : List BA} {t : NodeT} (h : (atPtr t path).2 = false) : (cutPtr t path).2 = false := by
 cases hc : (cutPtr t path).2
 ·rfl
 ·rw [cut_at hc] at h; cases h
theorem sm_pop_parts {p : PopT} (h : sm_pop p = true) : smL smStr p.path = true ∧ smL smStr p.src = true ∧ sm_node p.x = true := by
 simp only [sm_pop, Bool.and_eq_true] at h; exact h.2
theorem patchOne_okN {t : NodeT} {p : PopT} (h : sm_node t = true) (hp : sm_pop p = true) (hz : szN_node t + szN_pop p ≤ 1048576) : sm_node (patchOne t p).1 = true ∧ szN_node (patchOne t p).1 ≤ 2 * szN_node t + szN_pop p + 1 := by
 obtain ⟨h1, h2, h3⟩ := sm_pop_parts hp
 have e : szN_pop p = szL ByteArray.size p.path + szL ByteArray.size p.src + szN_node p.x := rfl
 have ht : sm_node t = true ∧ szN_node t ≤ 2 * szN_node t + szN_pop p + 1 := ⟨h, by omega⟩
 have ho : sm_node noNode = true ∧ szN_node noNode ≤ 2 * szN_node t + szN_pop p + 1 := ⟨by decide, by have := (noNode_ok t).2; omega⟩
 have key : sm_node (patchedI t p).1 = true ∧ szN_node (patchedI t p).1 ≤ 2 * szN_node t + szN_pop p + 1 := by
  unfold patchedI
  cases p.kind == (1 : Int)
  rotate_left
  ·have := putPtr_ok h h1 h3 (by omega)
   exact ⟨this.1, by simp only [cond_true]; omega⟩
  cases p.kind == (2 : Int)
  rotate_left
  ·have := cutPtr_ok (path := p.path) h
   exact ⟨this.1, by simp only [cond_true, cond_false]; omega⟩
  cases p.kind == (3 : Int)
  rotate_left
  ·have hx : sm_node p.x = true ∧ szN_node p.x ≤ 2 * szN_node t + szN_pop p + 1 := ⟨h3, by omega⟩
   have hc := cutPtr_ok (path := p.path) h
   have := putPtr_ok hc.1 h1 h3 (by omega)
   cases (p.path.length : Int) == (0 : Int)
   ·cases (cutPtr t p.path).2
    ·exact ho
    ·exact ⟨this.1, by simp only [cond_true, cond_false, Bool.not_true]; omega⟩
   ·exact hx
  cases p.kind == (4 : Int)
  rotate_left
  ·exact ht
  cases (atPtr t p.src).2
  ·exact ho
  have ha := atPtr_sm (path := p.src) h
  have hb := atPtr_sz t p.src
  cases p.kind == (5 : Int)
  ·cases p.kind == (6 : Int)
   ·exact ho
   ·have := putPtr_ok h h1 ha (by omega)
    exact ⟨this.1, by simp only [cond_true, cond_false, Bool.not_true]; omega⟩
  ·have hc := cutPtr_ok (path := p.src) h
   have := putPtr_ok hc.1 h1 ha (by omega)
   cases frontOf p.src p.path
   ·cases (cutPtr t p.src).2
    ·exact ho
    ·exact ⟨this.1, by simp only [cond_true, cond_false, Bool.not_true]; omega⟩
   ·exact ho
 unfold patchOne
 cases (patchedI t p).2
 ·exact ht
 ·exact key
noncomputable def putW (t : NodeT) (path : List BA) (x was : NodeT) : NodeT × Bool := cond (!((putPtr t path x).2)) (was, false) ((putPtr t path x).1, true)
def gPutW (t : NodeT) (path : List BA) (x was : NodeT) : Bool := gP t path x && sm_node was
def gFr (a b : List BA) : Bool := gLenW a && gLenW b
theorem eqD_comm {α : Type} (a b : α) : eqD a b = eqD b a := by rw [Bool.eq_iff_iff, eqD_iff, eqD_iff]; exact eq_comm
theorem allN_front {a b : List BA} (h : a.length ≤ b.length) : allN (fun j => sEq (atI (t := .str) a j) (atI (t := .str) b j)) 0 a.length = eqD (b.take a.length) a := by
 rw [eqD_comm]
 refine allN_eq (by rw [List.length_take]; omega) fun j x y hx hy => ?_
 rw [List.getElem?_take] at hy
 split at hy
 ·rw [atI_of (t := .str) hx, atI_of (t := .str) hy, ← eqD_str]
 ·cases hy
def gP2 (t : NodeT) (p : PopT) : Bool := sm_node t && sm_pop p
theorem less_irr : ∀ l : List UInt8, Op.bytesLess l l = false
 | [] => rfl
 | a :: l => by
  have h : decide (a < a) = false := decide_eq_false (by simp)
  simp [Op.bytesLess, less_irr l, h]
theorem less_tr : ∀ {a b c : List UInt8}, Op.bytesLess a b = true → Op.bytesLess b c = true → Op.bytesLess a c = true
 | _, [], _, h, _ => by cases ‹List UInt8› <;> simp [Op.bytesLess] at h
 | _, _ :: _, [], _, h => by simp [Op.bytesLess] at h
 | [], _ :: _, _ :: _, _, _ => rfl
 | x :: a, y :: b, z :: c, h1, h2 => by
  simp only [Op.bytesLess, Bool.or_eq_true, Bool.and_eq_true, decide_eq_true_eq, beq_iff_eq] at h1 h2 ⊢
  rcases h1 with h1 | ⟨rfl, h1⟩ <;> rcases h2 with h2 | ⟨rfl, h2⟩
  ·exact .inl (UInt8.lt_trans h1 h2)
  ·exact .inl h1
  ·exact .inl h2
  ·exact .inr ⟨rfl, less_tr h1 h2⟩
theorem less_tri : ∀ {a b : List UInt8}, Op.bytesLess a b = false → a ≠ b → Op.bytesLess b a = true
 | [], [], _, h => absurd rfl h
 | [], _ :: _, h, _ => by simp [Op.bytesLess] at h
 | _ :: _, [], _, _ => rfl
 | x :: a, y :: b, h, hn => by
  simp only [Op.bytesLess, Bool.or_eq_false_iff, Bool.and_eq_false_iff, decide_eq_false_iff_not, beq_eq_false_iff_ne] at h
  simp only [Op.bytesLess, Bool.or_eq_true, Bool.and_eq_true, decide_eq_true_eq, beq_iff_eq]
  by_cases e : x = y
  ·subst e
   refine .inr ⟨rfl, less_tri (h.2.resolve_left (fun h => h rfl)) fun e => hn (by rw [e])⟩
  ·have h1 := h.1
   have h1 : ¬ x.toNat < y.toNat := h1
   have h2 : x.toNat ≠ y.toNat := fun h => e (UInt8.toNat_inj.1 h)
   exact .inl (show y.toNat < x.toNat by omega)
theorem bytes_ne {a b : BA} (h : a ≠ b) : a.toList ≠ b.toList := fun e => h (by
  apply sEq_iff.1; unfold sEq; rw [e]; exact beq_self_eq_true _)
theorem sLt_irr (a : BA) : sLt a a = false := less_irr _
theorem sLt_tr {a b c : BA} (h1 : sLt a b = true) (h2 : sLt b c = true) : sLt a c = true := less_tr h1 h2
theorem sLt_tri {a b : BA} (h : sLt a b = false) (hn : a ≠ b) : sLt b a = true := less_tri h (bytes_ne hn)
def Asc (ks : List BA) : Prop := ks.Pairwise fun a b => sLt a b = true
theorem Asc.inj {ks : List BA} (h : Asc ks) {i j : Nat} {a : BA} (hi : ks[i]? = some a) (hj : ks[j]? = some a) : i = j := by
 have hp := List.pairwise_iff_getElem.1 h
 obtain ⟨h1, e1⟩ := List.getElem?_eq_some_iff.1 hi
 obtain ⟨h2, e2⟩ := List.getElem?_eq_some_iff.1 hj
 rcases Nat.lt_trichotomy i j with hlt | heq | hlt
 ·have := hp i j h1 h2 hlt
  rw [e1, e2, sLt_irr] at this; cases this
 ·exact heq
 ·have := hp j i h2 h1 hlt
  rw [e1, e2, sLt_irr] at this; cases this
inductive Wf : NodeT → Prop where
 | mk {t : NodeT} (h5 : t.kind = 5 → t.keys.length = t.kids.length ∧ Asc t.keys) (h0 : t.kind ≠ 4 → t.kind ≠ 5 → t.kids = []) (hk : t.kind ≠ 5 → t.keys = []) (hs : ∀ x ∈ t.kids, Wf x) : Wf t
theorem Wf.map {t : NodeT} (h : Wf t) : t.kind = 5 → t.keys.length = t.kids.length ∧ Asc t.keys := by cases h; assumption
theorem Wf.nokeys {t : NodeT} (h : Wf t) : t.kind ≠ 5 → t.keys = [] := by cases h; assumption
theorem Wf.kids {t : NodeT} (h : Wf t) : ∀ x ∈ t.kids, Wf x := by cases h; assumption
theorem Wf.of_leaf (t : NodeT) (h : t.kids = []) (h' : t.keys = []) : Wf t := .mk (fun _ => by rw [h, h']; exact ⟨rfl, List.Pairwise.nil⟩) (fun _ _ => h) (fun _ => h') (by rw [h]; simp)
theorem Wf.isMap {t : NodeT} (h : Wf t) (hk : t.kind = 5) : isMapN t = true := by
 unfold isMapN
 rw [hk]
 have := (h.map hk).1
 simp [this]
theorem comesAt_spec (keys : List BA) (key : BA) : ∃ i : Nat, comesAt keys key = (i : Int) ∧ i ≤ keys.length ∧ (∀ j a, j < i → keys[j]? = some a → sLt a key = true) ∧ ∀ a, keys[i]? = some a → sLt a key = false := by
 unfold comesAt
 cases hf : firstN (fun j => !(sLt (atI (t := .str) keys j) key)) 0 keys.length with
 | none =>
  refine ⟨keys.length, rfl, Nat.le_refl _, fun j a hj ha => ?_, fun a ha => by simp at ha⟩
  have := firstN_none hf j (by omega) (by omega)
  rw [atI_of (t := .str) ha] at this
  simpa using this
 | some i =>
  obtain ⟨h1, h2, h3, h4⟩ := firstN_some hf
  refine ⟨i, rfl, by omega, fun j a hj ha => ?_, fun a ha => ?_⟩
  ·have := h4 j (by omega) hj
   rw [atI_of (t := .str) ha] at this
   simpa using this
  ·rw [atI_of (t := .str) ha] at h3
   simpa using h3
theorem Asc.ins {keys : List BA} {key : BA} (h : Asc keys) (hn : key ∉ keys) {i : Nat} (h1 : ∀ j a, j < i → keys[j]? = some a → sLt a key = true) (h2 : ∀ a, keys[i]? = some a → sLt a key = false) :
    Asc (keys.take i ++ [key] ++ keys.drop i) := by
 unfold Asc at *
 rw [List.append_assoc, List.pairwise_append]
 have hd : (keys.drop i).Pairwise fun a b => sLt a b = true := h.sublist (List.drop_sublist _ _)
 have ht : (keys.take i).Pairwise fun a b => sLt a b = true := h.sublist (List.take_sublist _ _)
 have hlt : ∀ a ∈ keys.take i, sLt a key = true := fun a ha => by
  obtain ⟨j, hj⟩ := List.getElem?_of_mem ha
  rw [List.getElem?_take] at hj
  split at hj
  ·exact h1 j a (by assumption) hj
  ·cases hj
 have hge : ∀ b ∈ keys.drop i, sLt key b = true := fun b hb => by
  obtain ⟨j, hj⟩ := List.getElem?_of_mem hb
  rw [List.getElem?_drop] at hj
  have hlt : i < keys.length := by
   have := (List.getElem?_eq_some_iff.1 hj).1
   omega
  have hi := List.getElem?_eq_getElem hlt
  have hki : sLt key keys[i] = true := sLt_tri (h2 _ hi) fun e => hn (e ▸ List.getElem_mem hlt)
  cases j with
  | zero => rw [Nat.add_zero, hi] at hj; cases hj; exact hki
  | succ j =>
   obtain ⟨h3, e3⟩ := List.getElem?_eq_some_iff.1 hj
   have := List.pairwise_iff_getElem.1 h i (i + (j + 1)) hlt h3 (by omega)
   rw [e3] at this
   exact sLt_tr hki this
 refine ⟨ht, List.pairwise_append.2 ⟨List.pairwise_singleton _ _, hd, fun a ha b hb => ?_⟩, fun a ha b hb => ?_⟩
 ·simp only [List.mem_singleton] at ha; subst ha; exact hge b hb
 ·rcases List.mem_append.1 hb with hb | hb
  ·simp only [List.mem_singleton] at hb; subst hb; exact hlt a ha
  ·exact sLt_tr (hlt a ha) (hge b hb)
theorem keyAt_none {t : NodeT} {s : BA} (hm : isMapN t = true) (h : keyAt t s < 0) : s ∉ t.keys := by
 intro hs
 obtain ⟨h5, hl⟩ := isMapN_eq hm
 obtain ⟨j, hj⟩ := List.getElem?_of_mem hs
 have hjl := lt_of_get hj
 unfold keyAt at h
 rw [h5, cond_true, hl, Nat.min_self] at h
 cases hf : firstN (fun j => sEq (atI (t := .str) t.keys j) s) 0 t.kids.length with
 | none =>
  have := firstN_none hf j (by omega) (by omega)
  rw [atI_of (t := .str) hj, sEq_self] at this
  cases this
 | some i => rw [hf] at h; simp [plc] at h; omega
theorem mem_insL {α : Type} {xs : List α} {i : Int} {y x : α} (h : x ∈ insL xs i [y]) : x = y ∨ x ∈ xs := by
 unfold insL at h
 simp only [List.append_assoc, List.mem_append, List.mem_singleton] at h
 rcases h with h | h | h
 ·exact .inr (List.mem_of_mem_take h)
 ·exact .inl h
 ·exact .inr (List.mem_of_mem_drop h)
theorem insL_len {α : Type} (xs : List α) (i : Int) (y : α) : (insL xs i [y]).length = xs.length + 1 := by
 unfold insL
 simp only [List.length_append, List.length_take, List.length_drop, List.length_cons, List.length_nil]; omega
theorem setK_wf {t x : NodeT} {s : BA} (h : Wf t) (hx : Wf x) (hk : t.kind = 5) : Wf (setK t s x) ∧ (setK t s x).kind = 5 := by
 have hm := h.isMap hk
 obtain ⟨hl, ha⟩ := h.map hk
 by_cases hs : keyAt t s < 0
 ·rw [setK_neg hm hs]
  obtain ⟨i, e, hi, h1, h2⟩ := comesAt_spec t.keys s
  rw [e]
  refine ⟨.mk (fun _ => ⟨?_, ?_⟩) (fun _ h5 => absurd hk h5) (fun h5 => absurd hk h5) fun y hy => ?_, hk⟩
  ·show (insL t.keys (i : Int) [s]).length = (insL t.kids (i : Int) [x]).length
   rw [insL_len, insL_len, hl]
  ·show Asc (insL t.keys (i : Int) [s])
   unfold insL
   rw [Int.toNat_natCast]
   exact ha.ins (keyAt_none hm hs) h1 h2
  ·rcases mem_insL hy with rfl | hy
   ·exact hx
   ·exact h.kids y hy
 ·rw [setK_pos hm hs]
  refine ⟨.mk (fun _ => ⟨?_, ha⟩) (fun _ h5 => absurd hk h5) (fun h5 => absurd hk h5) fun y hy => ?_, hk⟩
  ·show t.keys.length = (t.kids.set _ x).length
   rw [List.length_set]; exact hl
  ·rcases List.mem_or_eq_of_mem_set hy with hy | rfl
   ·exact h.kids y hy
   ·exact hx
theorem snoc_wf {t x : NodeT} (h : Wf t) (hx : Wf x) (hk : t.kind = 4) : Wf ⟨t.kind, t.n, t.s, t.keys, t.kids ++ [x]⟩ :=
  .mk (fun h5 => absurd (hk.symm.trans h5) (by decide)) (fun h4 _ => absurd hk h4) (fun h5 => h.nokeys h5) fun y hy => by
    rcases List.mem_append.1 hy with hy | hy
    · exact h.kids y hy
    · simp only [List.mem_singleton] at hy; subst hy; exact hx
def GT (k : Nat) (t : NodeT) : Prop := sm_node t = true ∧ szN_node t ≤ 100 * 4 ^ k ∧ Wf t
theorem GT.mono {k m : Nat} (h : k ≤ m) {t : NodeT} (hg : GT k t) : GT m t :=
 ⟨hg.1, Nat.le_trans hg.2.1 (Nat.mul_le_mul_left _ (Nat.pow_le_pow_right (by decide) h)), hg.2.2⟩
theorem GT_leaf (k : Nat) {kind n : Int} {s : BA} (hk : okI kind = true) (hn : okI n = true) (hs : s.size ≤ 100) : GT k ⟨kind, n, s, [], []⟩ := by
 refine ⟨?_, ?_, Wf.of_leaf _ rfl rfl⟩
 ·simp only [sm_node, hk, hn, smStr_of (show s.size ≤ 1048576 by omega), smL, smA_node, List.length_nil, List.all_nil, Bool.true_and]; rfl
 ·have : 100 * 1 ≤ 100 * 4 ^ k := Nat.mul_le_mul_left _ (Nat.one_le_pow _ _ (by decide))
  rw [szN_node_def]
  simp only [szL, List.map_nil, List.sum_nil, List.length_nil]; omega
theorem sm_mk {t : NodeT} (h1 : okI t.kind = true) (h2 : okI t.n = true) (h3 : smStr t.s = true) (h4 : smL smStr t.keys = true) (h5 : smL sm_node t.kids = true) : sm_node t = true := by
 obtain ⟨kind, n, s, keys, kids⟩ := t
 unfold smL at h5
 simp only [Bool.and_eq_true] at h5
 simp only [sm_node, Bool.and_eq_true]
 exact ⟨h1, h2, h3, h4, h5.1, by rw [smA_node_eq]; exact h5.2⟩
theorem snoc_ok {t x : NodeT} (h : sm_node t = true) (hx : sm_node x = true) (hz : t.kids.length + 1 ≤ 1048576) :
    sm_node ⟨t.kind, t.n, t.s, t.keys, t.kids ++ [x]⟩ = true ∧ szN_node ⟨t.kind, t.n, t.s, t.keys, t.kids ++ [x]⟩ = szN_node t + 1 + szN_node x := by
 obtain ⟨h1, h2, h3, h4, h5⟩ := sm_parts h
 refine ⟨sm_mk h1 h2 h3 h4 (smL_snoc h5 hx (by omega)), ?_⟩
 rw [szN_node_def, szN_node_def t, szL_append]
 simp only [szL, List.map_cons, List.map_nil, List.sum_cons, List.sum_nil, List.length_cons, List.length_nil]; omega
def flagN (b : Bool) : NodeT := ⟨1, bitI b, ByteArray.empty, [], []⟩
def intN (n : Int) : NodeT := ⟨2, n, ByteArray.empty, [], []⟩
def textN (s : BA) : NodeT := ⟨3, 0, s, [], []⟩
theorem flagN_ok (k : Nat) (b : Bool) : GT k (flagN b) := GT_leaf k rfl (by cases b <;> rfl) (by decide)
theorem intN_ok (k : Nat) {n : Int} (h : okI n = true) : GT k (intN n) := GT_leaf k rfl h (by decide)
theorem textN_ok (k : Nat) {s : BA} (h : s.size ≤ 8) : GT k (textN s) := GT_leaf k rfl rfl (by omega)
def wKind (t : NodeT) (x : Int) : NodeT := ⟨x, t.n, t.s, t.keys, t.kids⟩
def wN (t : NodeT) (x : Int) : NodeT := ⟨t.kind, x, t.s, t.keys, t.kids⟩
def wS (t : NodeT) (x : BA) : NodeT := ⟨t.kind, t.n, x, t.keys, t.kids⟩
def wKeys (t : NodeT) (x : List BA) : NodeT := ⟨t.kind, t.n, t.s, x, t.kids⟩
def wK (t : NodeT) (x : List NodeT) : NodeT := ⟨t.kind, t.n, t.s, t.keys, x⟩
def okT (t : NodeT) : Bool := sm_node t && Nat.ble (szN_node t) 6400
def okD (d : Nat) (t : NodeT) : Bool := sm_node t && Nat.ble (szN_node t) (6500 * (d + 1))
theorem okT_iff {t : NodeT} : okT t = true ↔ sm_node t = true ∧ szN_node t ≤ 6400 := by unfold okT; rw [Bool.and_eq_true, Nat.ble_eq]
theorem okD_iff {d : Nat} {t : NodeT} : okD d t = true ↔ sm_node t = true ∧ szN_node t ≤ 6500 * (d + 1) := by unfold okD; rw [Bool.and_eq_true, Nat.ble_eq]
theorem GT.okT {t : NodeT} (h : GT 3 t) : okT t = true := okT_iff.2 ⟨h.1, h.2.1⟩
theorem eqP_self (p : Path) : eqP p p = true := eqP_iff.2 rfl
theorem lim_keys {t : NodeT} (h : okT t = true) : Nat.ble (t.keys.length + 1) LIM = true := Nat.ble_eq_true_of_le (by
  have h1 := (okT_iff.1 h).2; have := (@lens_node t).1; have : (LIM : Nat) = 4294967296 := rfl; omega)
theorem lim_kids {t : NodeT} (h : okT t = true) : Nat.ble (t.kids.length + 1) LIM = true := Nat.ble_eq_true_of_le (by
  have h1 := (okT_iff.1 h).2; have := (@lens_node t).2; have : (LIM : Nat) = 4294967296 := rfl; omega)
theorem len_idx {α : Type} (xs : List α) (x : α) : (decide ((0 : Int) ≤ (xs.length : Int)) && decide ((xs.length : Int) < ((xs ++ [x]).length : Int))) = true := by
 rw [decide_eq_true (by omega), decide_eq_true (by simp; omega)]; rfl
theorem szL_set_le {α : Type} (f : α → Nat) : ∀ (xs : List α) (i : Nat) (y : α), szL f (xs.set i y) ≤ szL f xs + f y
 | [], i, y => by simp [szL]
 | x :: xs, 0, y => by simp only [List.set_cons_zero, szL_cons]; omega
 | x :: xs, i + 1, y => by have := szL_set_le f xs i y; simp only [List.set_cons_succ, szL_cons]; omega
theorem okD_of {d : Nat} {t : NodeT} (h : okT t = true) : okD d t = true := by
 obtain ⟨h1, h2⟩ := okT_iff.1 h
 exact okD_iff.2 ⟨h1, by omega⟩
theorem okD_set {d : Nat} {t y : NodeT} {i : Nat} (h : okT t = true) (hy : okD d y = true) : okD (d + 1) ⟨t.kind, t.n, t.s, t.keys, t.kids.set i y⟩ = true := by
 obtain ⟨h1, h2⟩ := okT_iff.1 h
 obtain ⟨h3, h4⟩ := okD_iff.1 hy
 obtain ⟨a1, a2, a3, a4, a5⟩ := sm_parts h1
 refine okD_iff.2 ⟨sm_mk a1 a2 a3 a4 (smL_set a5 i h3), ?_⟩
 have := szL_set_le szN_node t.kids i y
 rw [szN_node_def] at h2 ⊢
 simp only at this ⊢
 omega
theorem okD_kind {d : Nat} {t : NodeT} {k : Int} (h : okT t = true) (hk : okI k = true) : okD d ⟨k, t.n, t.s, t.keys, t.kids⟩ = true := by
 obtain ⟨h1, h2⟩ := okT_iff.1 h
 obtain ⟨a1, a2, a3, a4, a5⟩ := sm_parts h1
 refine okD_iff.2 ⟨sm_mk hk a2 a3 a4 a5, ?_⟩
 rw [szN_node_def] at h2 ⊢
 simp only at h2 ⊢; omega
theorem okD_n {d : Nat} {t : NodeT} {k : Int} (h : okT t = true) (hk : okI k = true) : okD d ⟨t.kind, k, t.s, t.keys, t.kids⟩ = true := by
 obtain ⟨h1, h2⟩ := okT_iff.1 h
 obtain ⟨a1, a2, a3, a4, a5⟩ := sm_parts h1
 refine okD_iff.2 ⟨sm_mk a1 hk a3 a4 a5, ?_⟩
 rw [szN_node_def] at h2 ⊢
 simp only at h2 ⊢; omega
theorem okD_s {d : Nat} {t : NodeT} {s : BA} (h : okT t = true) (hs : Nat.ble s.size 50 = true) : okD d ⟨t.kind, t.n, s, t.keys, t.kids⟩ = true := by
 obtain ⟨h1, h2⟩ := okT_iff.1 h
 obtain ⟨a1, a2, a3, a4, a5⟩ := sm_parts h1
 have hs := bleN hs
 refine okD_iff.2 ⟨sm_mk a1 a2 (smStr_of (show s.size ≤ 1048576 by omega)) a4 a5, ?_⟩
 rw [szN_node_def] at h2 ⊢
 simp only at h2 ⊢; omega
theorem okD_keys {d : Nat} {t : NodeT} (h : okT t = true) : okD d ⟨t.kind, t.n, t.s, t.keys ++ [bs [97]], t.kids⟩ = true := by
 obtain ⟨h1, h2⟩ := okT_iff.1 h
 obtain ⟨a1, a2, a3, a4, a5⟩ := sm_parts h1
 have := (@lens_node t).1
 refine okD_iff.2 ⟨sm_mk a1 a2 a3 (smL_snoc a4 rfl (by omega)) a5, ?_⟩
 rw [szN_node_def] at h2 ⊢
 simp only [szL_append, szL_cons] at h2 ⊢
 have : szL ByteArray.size [] = 0 := rfl
 have : (bs [97]).size = 1 := rfl
 omega
theorem okD_kids {d : Nat} {t : NodeT} {i : Nat} (h : okT t = true) : okD d ⟨t.kind, t.n, t.s, t.keys, (t.kids ++ [(⟨0, 0, ByteArray.empty, [], []⟩ : NodeT)]).set i ⟨0, 0, ByteArray.empty, [], []⟩⟩ = true := by
 obtain ⟨h1, h2⟩ := okT_iff.1 h
 obtain ⟨a1, a2, a3, a4, a5⟩ := sm_parts h1
 have := (@lens_node t).2
 have hz : sm_node ⟨0, 0, ByteArray.empty, [], []⟩ = true := by decide
 refine okD_iff.2 ⟨sm_mk a1 a2 a3 a4 (smL_set (smL_snoc a5 hz (by omega)) i hz), ?_⟩
 have := szL_set_le szN_node (t.kids ++ [(⟨0, 0, ByteArray.empty, [], []⟩ : NodeT)]) i ⟨0, 0, ByteArray.empty, [], []⟩
 have h0 : szN_node ⟨0, 0, ByteArray.empty, [], []⟩ = 0 := rfl
 have e : szL szN_node [] = 0 := rfl
 rw [szL_append, szL_cons, h0, e] at this
 rw [szN_node_def] at h2 ⊢
 simp only at this ⊢
 omega
end Go.Gm
namespace Go.Gm
open Go
variable {R : Type} {E : Env} {keep : Nat → Kp} {n : Nat}
theorem ev_seq (a b : Code) (st : St) (k : Kx R) : ev E keep n (.seq a b) st k = ev E keep n a st (seqK E keep n b k) := rfl
theorem seqK_n (b : Code) (k : Kx R) (st : St) : seqK E keep n b k .normal st = ev E keep n b st k := rfl
theorem seqK_r (b : Code) (k : Kx R) (st : St) : seqK E keep n b k .ret st = k .ret st := rfl
end Go.Gm
namespace Go.Gm
open Go
theorem Asc.lt {ks : List BA} (h : Asc ks) {i j : Nat} {a b : BA} (hij : i < j) (hi : ks[i]? = some a) (hj : ks[j]? = some b) : sLt a b = true := by
 obtain ⟨h1, e1⟩ := List.getElem?_eq_some_iff.1 hi
 obtain ⟨h2, e2⟩ := List.getElem?_eq_some_iff.1 hj
 have := List.pairwise_iff_getElem.1 h i j h1 h2 hij
 rw [e1, e2] at this; exact this
theorem natDig_short (n : Nat) : (natDig n).length ≤ n + 1 := by
 by_cases h : n < 10
 ·rw [natDig_lt h]; simp
 ·rw [natDig_ge h, List.length_append]
  have := natDig_short (n / 10)
  simp only [List.length_cons, List.length_nil]; omega
theorem digS_short (n : Nat) : (digS (n : Int)).size ≤ n + 1 := by
 rw [digS_nat]
 show (natDig n).toArray.size ≤ n + 1
 rw [List.size_toArray]; exact natDig_short n
theorem way_sz (x : NodeT) : ∀ p ∈ allPtrs x, szL ByteArray.size p ≤ 2 * szN_node x := by
 rw [allPtrs_def, szN_node_def]
 intro p hp
 rcases List.mem_cons.1 hp with rfl | hp
 ·show 0 + 0 ≤ _; omega
 ·refine allPA_all (Q := fun p => szL ByteArray.size p ≤ 2 * (x.s.size + szL ByteArray.size x.keys + szL szN_node x.kids)) _ _ _ _ (fun i y hy q hq => ?_) p hp
  have _hy : y ∈ x.kids := List.mem_of_getElem? hy
  have h1 := way_sz y q hq
  have hi := lt_of_get hy
  have h2 : x.kids.length + szN_node y ≤ szL szN_node x.kids := by
   have := split_at hy
   have e : x.kids.length = (x.kids.take i).length + 1 + (x.kids.drop (i + 1)).length := by
    conv => lhs; rw [this]
    rw [List.length_append, List.length_cons]; omega
   rw [e, this, szL_append, szL_cons]
   have a := szL_ge szN_node (x.kids.take i)
   have b := szL_ge szN_node (x.kids.drop (i + 1))
   rw [← this]
   omega
  rw [szL_cons]
  have hd := digS_short (0 + i)
  have hw : (wayAt x.kind x.keys (0 + i)).size + 1 ≤ x.kids.length + 1 ∨ (wayAt x.kind x.keys (0 + i)).size + 1 ≤ szL ByteArray.size x.keys := by
   unfold wayAt
   cases x.kind == (5 : Int)
   ·left; simp only [cond_false]; omega
   by_cases hl : ((0 + i : Nat) : Int) < (x.keys.length : Int)
   ·right
    rw [decide_eq_true hl]
    simp only [cond_true]
    have hg := atI_lt (t := .str) (xs := x.keys) (i := 0 + i) (by omega)
    have h3 := split_at hg
    have h4 : szL ByteArray.size x.keys = szL ByteArray.size (x.keys.take (0 + i)) + (1 + (atI (t := .str) x.keys (0 + i)).size + szL ByteArray.size (x.keys.drop (0 + i + 1))) := by
     conv => lhs; rw [h3]
     rw [szL_append, szL_cons]
    omega
   ·left; rw [decide_eq_false hl]; simp only [cond_true, cond_false]; omega
  omega
termination_by nd_node x
decreasing_by exact nd_node_kid _hy
def gWay (p : List BA) : Bool := smL smStr p && Nat.ble (szL ByteArray.size p) 52200
theorem gWay_iff {p : List BA} : gWay p = true ↔ smL smStr p = true ∧ szL ByteArray.size p ≤ 52200 := by unfold gWay; rw [Bool.and_eq_true, Nat.ble_eq]
theorem gPt_okD {t : NodeT} (h : okD 3 t = true) : gPt t = true := by
 obtain ⟨h1, h2⟩ := okD_iff.1 h
 have := nd_sz t
 simp only [gPt, h1, Bool.true_and]
 exact Nat.ble_eq_true_of_le (by omega)
theorem allPtrs_pos (t : NodeT) : 0 < ((allPtrs t).length : Int) := by rw [allPtrs_def, List.length_cons]; omega
theorem way_ok {t : NodeT} {p : List BA} (h : okD 3 t = true) (hp : p ∈ allPtrs t) : smL smStr p = true ∧ szL ByteArray.size p ≤ 52000 := by
 obtain ⟨h1, h2⟩ := okD_iff.1 h
 have h3 := way_sz t p hp
 have h4 := szL_ge ByteArray.size p
 refine ⟨?_, by omega⟩
 simp only [smL, allPtrs_parts t h1 p hp, Bool.and_true]
 exact Nat.ble_eq_true_of_le (by omega)
theorem gWay_of {p : List BA} (h : smL smStr p = true ∧ szL ByteArray.size p ≤ 52000) : gWay p = true := gWay_iff.2 ⟨h.1, by omega⟩
theorem gWay_snoc {p : List BA} {s : BA} (h : smL smStr p = true ∧ szL ByteArray.size p ≤ 52000) (hs : s.size ≤ 100) : gWay (p ++ [s]) = true := by
 refine gWay_iff.2 ⟨smL_snoc h.1 (smStr_of (by omega)) (by have := szL_ge ByteArray.size p; omega), ?_⟩
 rw [szL_append, szL_cons]
 have : szL ByteArray.size [] = 0 := rfl
 omega
noncomputable def patchRun (t0 : NodeT) : NodeT → Nat → List PopT → NodeT × Int
 | t, _, [] => (t, -1)
 | t, i, p :: r => cond (patchOne t p).2 (patchRun t0 (patchOne t p).1 (i + 1) r) (t0, (i : Int))
noncomputable def patchAll (t : NodeT) (l : List PopT) : NodeT × Int := cond (decide ((l.length : Int) > (200 : Int))) (t, 0) (patchRun t t 0 l)
noncomputable def gRun : NodeT → List PopT → Bool
 | t, [] => sm_node t
 | t, p :: r => gP2 t p && cond (patchOne t p).2 (gRun (patchOne t p).1 r) true
noncomputable def gPA (t : NodeT) (l : List PopT) : Bool := sm_node t && cond (decide ((l.length : Int) > (200 : Int))) true (gRun t l)
theorem patchRun_sm {t0 : NodeT} (h0 : sm_node t0 = true) : ∀ (l : List PopT) (t : NodeT) (i : Nat), gRun t l = true → sm_node (patchRun t0 t i l).1 = true
 | [], t, i, h => h
 | p :: r, t, i, h => by
  simp only [gRun, Bool.and_eq_true] at h
  simp only [patchRun]
  cases hc : (patchOne t p).2
  ·exact h0
  ·have h2 := h.2
   rw [hc] at h2
   exact patchRun_sm h0 r _ _ h2
theorem patchAll_sm {t : NodeT} {l : List PopT} (h : gPA t l = true) : sm_node (patchAll t l).1 = true := by
 simp only [gPA, Bool.and_eq_true] at h
 unfold patchAll
 cases hc : decide ((l.length : Int) > (200 : Int))
 ·have h2 := h.2
  rw [hc] at h2
  exact patchRun_sm h.1 l t 0 h2
 ·exact h.1
theorem patchRun_back {t0 : NodeT} : ∀ (l : List PopT) (t : NodeT) (i : Nat), (patchRun t0 t i l).2 ≥ 0 → (patchRun t0 t i l).1 = t0
 | [], t, i, h => by exact absurd h (by show ¬ ((-1 : Int) ≥ 0); omega)
 | p :: r, t, i, h => by
  simp only [patchRun] at h ⊢
  cases hc : (patchOne t p).2
  ·rfl
  ·rw [hc] at h
   exact patchRun_back r _ _ h
theorem patchAll_back {t : NodeT} {l : List PopT} (h : decide ((patchAll t l).2 ≥ (0 : Int)) = true) : (patchAll t l).1 = t := by
 have h := of_decide_eq_true h
 unfold patchAll at h ⊢
 cases hc : decide ((l.length : Int) > (200 : Int))
 ·rw [hc] at h
  exact patchRun_back l t 0 h
 ·rfl
theorem patchOne_no {t : NodeT} {p : PopT} (h : (patchOne t p).2 = false) : (patchOne t p).1 = t := by
 unfold patchOne at h ⊢
 cases hc : (patchedI t p).2
 ·rfl
 ·rw [hc] at h; cases h
theorem patchOne_test {t : NodeT} {p : PopT} (h : p.kind = 4) : (patchOne t p).1 = t := by
 unfold patchOne
 have e : (patchedI t p).1 = t := by unfold patchedI; rw [h]; rfl
 rw [e]
 cases (patchedI t p).2 <;> rfl
def gOp (p : PopT) : Bool := sm_pop p && Nat.ble (szN_pop p) 131000
theorem gOp_iff {p : PopT} : gOp p = true ↔ sm_pop p = true ∧ szN_pop p ≤ 131000 := by unfold gOp; rw [Bool.and_eq_true, Nat.ble_eq]
theorem gOp_of {k : Int} {w s : List BA} {x : NodeT} (hk : okI k = true) (hw : gWay w = true) (hs : gWay s = true) (hx : okD 3 x = true) : gOp ⟨k, w, s, x⟩ = true := by
 obtain ⟨a1, a2⟩ := gWay_iff.1 hw
 obtain ⟨b1, b2⟩ := gWay_iff.1 hs
 obtain ⟨c1, c2⟩ := okD_iff.1 hx
 refine gOp_iff.2 ⟨by simp only [sm_pop, hk, a1, b1, c1, Bool.and_self], ?_⟩
 show szL ByteArray.size w + szL ByteArray.size s + szN_node x ≤ 131000
 omega
theorem gWay_nil : gWay [] = true := by decide
theorem okD_zero : okD 3 ⟨0, 0, ByteArray.empty, [], []⟩ = true := by decide
theorem okD_at {t : NodeT} {p : List BA} (h : okD 3 t = true) : okD 3 (atPtr t p).1 = true := by
 obtain ⟨c1, c2⟩ := okD_iff.1 h
 exact okD_iff.2 ⟨atPtr_sm c1, Nat.le_trans (atPtr_sz t p) c2⟩
theorem GT.okD {t : NodeT} (h : GT 1 t) : okD 3 t = true := okD_iff.2 ⟨h.1, Nat.le_trans h.2.1 (by decide)⟩
theorem run_few {M : Nat} (hM : M ≤ 1300000) : ∀ (l : List PopT) (t : NodeT) (T : Nat), sm_node t = true → szN_node t ≤ T → (∀ p ∈ l, gOp p = true) → 2 ^ l.length * (T + 131001) ≤ M → gRun t l = true := by
 intro l
 induction l with
 | nil => intro t T hs _ _ _; exact hs
 | cons p r ih =>
  intro t T hs hT hl hb
  obtain ⟨h1, h2⟩ := gOp_iff.1 (hl p (by simp))
  have hp : 1 ≤ 2 ^ r.length := Nat.one_le_pow _ _ (by decide)
  have e : 2 ^ (p :: r).length = 2 * 2 ^ r.length := by rw [List.length_cons, Nat.pow_succ]; omega
  rw [e] at hb
  have hb2 : 2 * (T + 131001) ≤ M := Nat.le_trans (Nat.mul_le_mul_right _ (show 2 ≤ 2 * 2 ^ r.length by omega)) hb
  have hz : szN_node t + szN_pop p ≤ 1048576 := by omega
  have hk := patchOne_okN hs h1 hz
  have hb3 : 2 ^ r.length * (2 * T + 131001 + 131001) ≤ M := by
   have a : 2 * 2 ^ r.length * (T + 131001) = 2 ^ r.length * (2 * (T + 131001)) := by rw [Nat.mul_comm 2, Nat.mul_assoc]
   rw [a] at hb
   rw [show 2 * T + 131001 + 131001 = 2 * (T + 131001) by omega]; exact hb
  have := ih (patchOne t p).1 (2 * T + 131001) hk.1 (by omega) (fun q hq => hl q (by simp [hq])) hb3
  simp only [gRun, gP2, hs, h1, this, Bool.and_self, Bool.true_and]
  cases (patchOne t p).2 <;> rfl
theorem gPA_few {t : NodeT} {l : List PopT} (h : okD 3 t = true) (hn : l.length ≤ 3) (hl : ∀ p ∈ l, gOp p = true) : gPA t l = true := by
 obtain ⟨h1, h2⟩ := okD_iff.1 h
 have : gRun t l = true := run_few (M := 1256008) (by decide) l t 26000 h1 (by omega) hl (Nat.le_trans (Nat.mul_le_mul_right _ (Nat.pow_le_pow_right (by decide) hn)) (by decide))
 simp only [gPA, h1, decide_eq_false (show ¬ ((l.length : Int) > (200 : Int)) by omega), this, cond_false, Bool.and_self]
theorem gPA_zero {t : NodeT} {n : Nat} (h : okD 3 t = true) : gPA t (List.replicate n ⟨0, [], [], ⟨0, 0, ByteArray.empty, [], []⟩⟩) = true := by
 obtain ⟨h1, h2⟩ := okD_iff.1 h
 have hs : sm_pop ⟨0, [], [], ⟨0, 0, ByteArray.empty, [], []⟩⟩ = true := by decide
 have hp : (patchOne t ⟨0, [], [], ⟨0, 0, ByteArray.empty, [], []⟩⟩).2 = false := by
  have : (patchedI t ⟨0, [], [], ⟨0, 0, ByteArray.empty, [], []⟩⟩).2 = false := by
   unfold patchedI
   show (cond (!((atPtr t []).2)) (noNode, false) (noNode, false)).2 = false
   cases (atPtr t []).2 <;> rfl
  unfold patchOne
  rw [this]; rfl
 have : gRun t (List.replicate n ⟨0, [], [], ⟨0, 0, ByteArray.empty, [], []⟩⟩) = true := by
  cases n with
  | zero => exact h1
  | succ n =>
   rw [List.replicate_succ]
   simp only [gRun, gP2, h1, hs, hp, Bool.and_self, cond_false]
 unfold gPA
 rw [h1, this]
 cases decide ((((List.replicate n (⟨0, [], [], ⟨0, 0, ByteArray.empty, [], []⟩⟩ : PopT)).length : Nat) : Int) > (200 : Int)) <;> rfl
theorem COwn.rdX {w : World} {F : Nat → Prop} {c : Cv} {u : Value} (h : COwn w F c u) : CRd w F c u := by
 cases c with
 | v x => exact h
 | l t xs => obtain ⟨av, h0, h1⟩ := h; exact ⟨av, h0, h1.rd⟩
theorem ValOwn.rdX {w : World} {F : Nat → Prop} {t : Ty} {x : El t} {u : Value} (h : ValOwn w F t x u) : ValRd w F t x u := by
 obtain ⟨us, hf, Fs, h1, _, h3, h4⟩ := h
 refine ⟨us, hf, h3, fun j c hc => ?_⟩
 obtain ⟨z, hz, hcz⟩ := h4 j c hc
 exact ⟨z, hz, hcz.rdX.mono fun k hk => h1 j k hk⟩
theorem args_ro {wl w : World} {ROa : Nat → Prop} : ∀ {ms : List Am} {ds : List Dt} {us : List Value} {Fs : List (Nat → Prop)}, (∀ m ∈ ms, m = .ro) → ArgsOk wl w ROa ms ds us Fs → ArgsOk wl w ROa ms ds us (Fs.map fun _ _ => False)
 | _, _, _, _, _, .nil => .nil
 | m :: _, d :: _, _, _, hm, .cons h hs => by
  have := hm m (by simp)
  subst this
  refine .cons ?_ (args_ro (fun m hm' => hm m (by simp [hm'])) hs)
  cases d with
  | d t x => exact h
  | clo fn ys => exact h
theorem ress_down {wl w : World} : ∀ {ps : List Bool} {ds : List Dt} {us : List Value} {Gs : List (Nat → Prop)}, (∀ b ∈ ps, b = false) → RessOk wl w true ps ds us Gs → RessOk wl w false ps ds us Gs
 | _, _, _, _, _, .nil => .nil
 | _, _, _, _, hb, .val h hs => .val (show ValRd w _ _ _ _ from ValOwn.rdX h) (ress_down (fun b hb' => hb b (by simp [hb'])) hs)
 | _, _, _, _, hb, .ptr _ _ => by have := hb true (by simp); cases this
theorem spec_down {P : Program} {f : Nat} {modes : List Am} {res : List Bool} {q : Qt} (hm : ∀ m ∈ modes, m = .ro) (hb : ∀ b ∈ res, b = false) (hs : SpecOk P f (Spec.of modes res true q)) : SpecOk P f (Spec.of modes res false q) := by
 intro R ds k r hr wl w us Mf ROa Fs hWl hBs hA hp hFM hRM hRlt hMlt
 have hr' : (Spec.of modes res true q).fn ds k = some r := hr
 refine Calls.mono (hs ds k r hr' wl w us (fun _ => False) ROa (Fs.map fun _ _ => False) hWl hBs (args_ro hm hA) ?_ ?_ (fun _ _ h => h) hRlt (fun _ h => h.elim)) fun e w' ⟨outs, h1, h2⟩ => ⟨outs, h1, ?_⟩
 ·unfold PairApart
  rw [List.pairwise_map]
  exact List.Pairwise.imp (fun _ k hk => hk.elim) hp
 ·intro F hF k hk
  obtain ⟨_, _, rfl⟩ := List.mem_map.1 hF
  exact hk.elim
 ·obtain ⟨rs, Gs, Bs, he, hRes, hB, hB1, hB2, hG, _, hGB, hGlt, hBlt⟩ := h2.out
  obtain ⟨_, hG2⟩ := hG rfl
  refine ⟨⟨rs, Gs, Bs, he, ress_down hb hRes, hB, hB1, fun B hB k hk => (hB2 B hB k hk).imp (fun h => h.elim) id, fun h => (by cases h), fun _ G hG k hk => .inr ((hG2 G hG k hk).resolve_left id), hGB, hGlt, hBlt⟩, ?_⟩
  have hk := h2.kept
  exact ⟨hk.os, hk.tape, hk.output, hk.same.1, fun b h1 _ => hk.same.2 b h1 id⟩
theorem handed_shaped {H : Type} {enc : TypeId × Value → H} {a : Assume} {C : Checked} {os : Os} {f : FuncId} {fn : Func} {s : ChangeSpec} {conds : List PathCond} {apart fresh handsOn again : Bool}
 (own : ownKnob C.prog.godebug = none) (started : os.Started) (noInit : C.prog.inits.idxOf? f = none) (hfn : C.prog.funcs[f]? = some fn)
 (witness : ∃ (w : World) (tape : Tape) (i : Input), w.os = os ∧ (w.forCall tape i).Shaped C.prog ∧ i.vars = [] ∧ Input.okWide C.prog (w.forCall tape i) .any w.heap.size f i ∧
      s.pre6 enc C.prog fn conds apart (w.forCall tape i).memory i.args ∧ a.holds C.prog (lone (Frame.enter C.prog f i.args .normal) [] (w.forCall tape i)))
 (contract : ∀ (W : World) (base : Nat) (args : Array Value) (ds gs : List (DataW H)) (before : List MemPlace), W.ShapedOpen C.prog →
 (∀ (j : Nat) t v, fn.params[j]? = some t → args[j]? = some v → Value.okWide C.prog W .any base t v) →
      DataW.Whole enc C.prog fn.params.toList s.vars apart W args.toList ds gs before →
      Calls C.prog f args W fun e W' => ∃ v, e = .returned v ∧ s.post enc C.prog fn apart fresh handsOn again W args v W') :
    ReturnsInHanded a C os f .any (s.pre6 enc C.prog fn conds apart) (s.post enc C.prog fn apart fresh handsOn again) := by
 refine returnsInHanded_of_calls own started noInit witness ?_
 intro w tape i _ hsh _ hok hpre _
 obtain ⟨_, _, _, fn', hfn', _, _, _, _, hval⟩ := hok
 have e : fn' = fn := Option.some.inj (hfn'.symm.trans hfn)
 subst e
 obtain ⟨⟨ds, gs, before, hw, _⟩, _⟩ := hpre
 have hw' := DataW.Whole.of_heap (w' := w.forCall tape i) (by rfl) hw
 refine (contract (w.forCall tape i) w.heap.size i.args ds gs before hsh hval hw').mono fun e W' ⟨v, he, hp⟩ => ?_
 subst he
 exact ChangeSpec.post_blind hp
end Go.Gm

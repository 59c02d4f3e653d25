/- The G-machine, part 4: an evaluator of translated code on typed values, and that it is sound. No conditions. -/
import Derived.Test.YtklmnopgogcbhaaGm3
import Derived.Laws.Sem
import Derived.Laws.StructEq
import Derived.KernelRfl
import Derived.Lib.Bytealg
import Derived.Laws.Strings
import Derived.Laws.BitsLemmas
import Derived.DataReads
import Derived.ChangeArms
import Derived.ChangeShapes
import Derived.ChangeMaps5
import Derived.Carry
import Derived.ChangeCalls
import Derived.RowKit3
import Derived.Shelf.Strings.OnBuilder
import Derived.Laws.Cover4
import Derived.Laws.CopyRow
import Derived.Deep.RegionLaw
import Derived.Below
import Derived.Handed
/- A function, whole: how its arguments come in. -/
namespace Go.Gm
open Go

section ev
variable {R : Type}
def entry1 (j : Nat) (m : Am) (d : Dt) (st : St) (k : St → Option R) : Option R :=
  match m, d with
  | .ro, .d t x => impRes false st j (64 * j) [false] [.d t x] fun cs st _ => match cs with | [c] => k { st with slots := aset st.slots j (.c c) } | _ => none
  | .mov, .d t x => impRes true st j (64 * j) [false] [.d t x] fun cs st _ => match cs with | [c] => k { st with slots := aset st.slots j (.c c) } | _ => none
  | .mut, .d (.sl t) x => impRes true st j (64 * j) [false] [.d (.sl t) x] fun cs st _ => match cs with | [c] => k { st with slots := aset st.slots j (.c c) } | _ => none
  | .pmut, .d t x => impRes true st j (64 * j) [true] [.d t x] fun cs st _ => match cs with | [c] => k { st with slots := aset st.slots j (.c c) } | _ => none
  | .pro, .d t x => k { st with slots := aset st.slots j (.c (.one (.rp t x 0))) }
  | .kp, .d t x => (cmOf t (impK (enc t x))).bind fun c => k { st with slots := aset st.slots j (.c c) }
  | .fn, .clo f ys => k { st with slots := aset st.slots j (.c (.one (.cloR f ys))) }
  | _, _ => none
def entry : Nat → List Am → List Dt → St → (St → Option R) → Option R
  | _, [], [], st, k => k st
  | j, m :: ms, d :: ds, st, k => entry1 j m d st fun st => entry (j + 1) ms ds st k
  | _, _, _, _, _ => none
end ev

variable {R : Type} {P : Program} {E : Env} {w0 w : World} {Mf : Nat → Prop} {g : Gh} {st : St} {a : Act}

/-- What came in: F's blocks are the frame's from now on. -/
structure Came (g : Gh) (st : St) (g' : Gh) (st' : St) (F : Nat → Prop) : Prop where
  n : g'.n = g.n
  ro : g'.ro = g.ro
  own : ∀ id, OwnAt st' id → (OwnAt st id ∧ g'.rf id = g.rf id) ∨ ∀ k, g'.rf id k → F k
  box : ∀ b, BoxAt st' b → (BoxAt st b ∧ g'.bx b = g.bx b) ∨ F (g'.bx b)

theorem Came.free {g' : Gh} {st' : St} {F : Nat → Prop} (h : Came g st g' st' F) {k : Nat} (hf : Free w0 Mf g st k) (hk : ¬ F k) : Free w0 Mf g' st' k := {
  r := fun id hi hr => by
    rcases h.own id hi with ⟨h1, h2⟩ | h1
    · rw [h2] at hr; exact hf.r id h1 hr
    · exact hk (h1 k hr)
  ro := by rw [h.ro]; exact hf.ro
  b := fun b hb e => by
    rcases h.box b hb with ⟨h1, h2⟩ | h1
    · rw [h2] at e; exact hf.b b h1 e
    · rw [e] at h1; exact hk h1
  mine := hf.mine }
theorem Inv.comeVal (I : Inv w0 Mf g st a w) {d id : Nat} {t : Ty} {x : El t} {u : Value} {F : Nat → Prop} (hv : ValOwn w F t x u) (hf : ∀ k, F k → Free w0 Mf g st k ∧ k < w.heap.size) {k : List Cm → St → Dl → Option R} {r : R}
    (h : impRes true st d id [false] [.d t x] k = some r) : ∃ c g' st' δ, k [c] st' δ = some r ∧ Inv w0 Mf g' st' a w ∧ Came g st g' st' F ∧ CmRel w g' st' c u := by
  obtain ⟨vs, hform, hrow⟩ := hv
  obtain ⟨Fs, hO, hpF, hsub⟩ := hrow.list
  simp only [Gm.impRes] at h
  obtain ⟨ss, m, g1, st1, u1, h, I1, G1, hc⟩ := Inv.impOwn I hO (fun y hy => enc_flat' hy) hpF (fun F' hF n hn => hf n (hsub F' hF n hn)) h
  obtain ⟨c, hcm, h⟩ := bindS h
  obtain ⟨u', hform', hcm'⟩ := Form.of hcm (CsL.arr hc)
  have := hform.uniq hform'
  subst this
  refine ⟨c, g1, st1, _, h, I1, ⟨G1.n, G1.ro, fun id hi => ?_, fun b hb => ?_⟩, hcm'⟩
  · exact (G1.own id hi).imp (fun h => h) fun h k hk => let ⟨F', hF, hk'⟩ := h k hk; hsub F' hF k hk'
  · refine .inl ⟨?_, by rw [G1.bx]⟩
    rw [G1.eq] at hb; exact hb

theorem Inv.comePtr (I : Inv w0 Mf g st a w) {d id : Nat} {t : Ty} {x : El t} {u : Value} {F : Nat → Prop} (hv : PtrOwn g.n.wl w F t x u) (hf : ∀ k, F k → Free w0 Mf g st k ∧ k < w.heap.size) {k : List Cm → St → Dl → Option R} {r : R}
    (h : impRes true st d id [true] [.d t x] k = some r) : ∃ c g' st' δ, k [c] st' δ = some r ∧ Inv w0 Mf g' st' a w ∧ Came g st g' st' F ∧ CmRel w g' st' c u := by
  obtain ⟨b, vs, el, rfl, hGb, hb, hrow⟩ := hv
  simp only [Gm.impRes] at h
  split at h
  case h_2 => cases h
  rename_i hnone
  obtain ⟨ss, m, g1, st1, u1, h, I1, G1, hc⟩ := Inv.impB I hrow (fun y hy => enc_flat' hy) (fun n hn => hf n hn.1) h
  have hnone1 : aget st1.boxes d = none := by rw [G1.eq]; exact hnone
  obtain ⟨hfb, _⟩ := hf b hGb
  have I2 := I1.newBox (d := d) (nb := b) (t := t) hnone1 hb (CsL.arr hc) (fun id' hi h5 => by
      rcases G1.own id' hi with ⟨h6, h7⟩ | h6
      · rw [h7] at h5; exact hfb.r id' h6 h5
      · exact (h6 b h5).2 rfl) (by rw [G1.ro]; exact hfb.ro) (fun b' hb' => by rw [G1.bx]; rw [G1.eq] at hb'; exact hfb.b b' hb') hfb.mine
  refine ⟨_, _, _, _, h, I2, ⟨G1.n, G1.ro, fun id hi => ?_, fun b' hb' => ?_⟩, ?_⟩
  · exact (G1.own id hi).imp (fun h => h) fun h k hk => (h k hk).1
  · by_cases e : b' = d
    · subst e
      refine .inr ?_
      simp only [Gh.setB, if_true]; exact hGb
    · refine .inl ⟨?_, ?_⟩
      · simp only [BoxAt, aget_aset_ne _ _ e, G1.eq] at hb'; exact hb'
      · simp only [Gh.setB, e, if_false]; rw [G1.bx]
  · exact ⟨rfl, by simp [Gh.setB], by simp [aget_aset_self]⟩

/-- The blocks that are handed over or lent. -/
inductive Given : List Am → List (Nat → Prop) → Nat → Prop where
  | here {m ms F Fs k} (hm : m.reads = false) (h : F k) : Given (m :: ms) (F :: Fs) k
  | there {m ms F Fs k} (h : Given ms Fs k) : Given (m :: ms) (F :: Fs) k
theorem Given.any {ms : List Am} {Fs : List (Nat → Prop)} {k : Nat} (h : Given ms Fs k) : ∃ F ∈ Fs, F k := by
  induction h with
  | here _ h => exact ⟨_, by simp, h⟩
  | there _ ih => obtain ⟨F, hF, h⟩ := ih; exact ⟨F, by simp [hF], h⟩
theorem Given.none {ms : List Am} (h : ms.all Am.reads = true) {Fs : List (Nat → Prop)} {k : Nat} : ¬ Given ms Fs k := by
  intro hg
  induction hg with
  | here hm _ => simp only [List.all_cons, Bool.and_eq_true] at h; rw [hm] at h; cases h.1
  | there _ ih => simp only [List.all_cons, Bool.and_eq_true] at h; exact ih h.2

theorem entry_sound {ROa : Nat → Prop} : ∀ {ms : List Am} {ds : List Dt} {us : List Value} {Fs : List (Nat → Prop)} {j : Nat} {g : Gh} {st : St} {k : St → Option R} {r : R}, Inv w0 Mf g st a w → (∀ (i : Nat) u, us[i]? = some u → a.tmps[j + i]? = some u) →
    ArgsOk g.n.wl w ROa ms ds us Fs → PairApart Fs → (∀ n, Given ms Fs n → Free w0 Mf g st n ∧ n < w.heap.size) → g.ro = ROa → entry j ms ds st k = some r → ∃ g' st', k st' = some r ∧ g'.n = g.n ∧ Inv w0 Mf g' st' a w
  | [], ds, us, Fs, j, g, st, k, r, I, hus, hA, hp, hf, hro, h => by
    cases hA
    exact ⟨g, st, h, rfl, I⟩
  | m :: ms, ds0, us0, Fs0, j, g, st, k, r, I, hus, hA, hp, hf, hro, h => by
    cases hA with
    | cons hA1 hA2 =>
    rename_i d ds u us F Fs
    obtain ⟨hp1, hp2⟩ := List.pairwise_cons.1 hp
    simp only [entry] at h
    have hu : a.tmps[j]? = some u := hus 0 u rfl
    have hus' : ∀ (i : Nat) v, us[i]? = some v → a.tmps[j + 1 + i]? = some v := fun i v hv => by
      have := hus (i + 1) v (by simpa using hv)
      rw [Nat.add_assoc, Nat.add_comm 1 i]; exact this
    -- what is read
    have rd : ∀ {sv : Sv} {k' : St → Option R}, k' = (fun st => entry (j + 1) ms ds st k) → SvRel w g st sv u → k' { st with slots := aset st.slots j sv } = some r → ∃ g' st', k st' = some r ∧ g'.n = g.n ∧ Inv w0 Mf g' st' a w := by
      intro sv k' e hs h
      subst e
      exact entry_sound (I.note hu hs) hus' hA2 hp2 (fun n hn => let ⟨h1, h2⟩ := hf n (.there hn); ⟨⟨h1.r, h1.ro, h1.b, h1.mine⟩, h2⟩) hro h
    -- what is handed over or lent
    have mv : m.reads = false → ∀ {c : Cm} {g1 : Gh} {st1 : St} {k' : St → Option R}, k' = (fun st => entry (j + 1) ms ds st k) → Inv w0 Mf g1 st1 a w → Came g st g1 st1 F → CmRel w g1 st1 c u → k' { st1 with slots := aset st1.slots j (.c c) } = some r →
        ∃ g' st', k st' = some r ∧ g'.n = g.n ∧ Inv w0 Mf g' st' a w := by
      intro hm c g1 st1 k' e I1 C1 hc h
      subst e
      obtain ⟨g', st', h1, h2, h3⟩ := entry_sound (g := g1) (I1.note hu (sv := .c c) hc) hus' (by rw [C1.n]; exact hA2) hp2 (fun n hn => by
        obtain ⟨hfr, hlt⟩ := hf n (.there hn)
        have := C1.free hfr (fun hk => by
          obtain ⟨G, hG, hg⟩ := hn.any
          exact hp1 G hG n hk hg)
        exact ⟨⟨this.r, this.ro, this.b, this.mine⟩, hlt⟩) (by rw [C1.ro]; exact hro) h
      exact ⟨g', st', h1, h2.trans C1.n, h3⟩
    cases m with
    | ro =>
      cases d with
      | clo _ _ => cases hA1
      | d t x =>
        simp only [entry1] at h
        have hv : ValRd w ROa t x u := hA1
        have hR : RessOk g.n.wl w false [false] [.d t x] [u] [ROa] := .val (by simpa using hv) .nil
        obtain ⟨cms, δ, h, _, _, hc⟩ := impResRd (g := g) (st := st) hR (fun G hG n hn => by
          have : G = ROa := by simpa using hG
          subst this; rw [hro]; exact hn) h
        cases cms with
        | nil => exact hc.elim
        | cons c cs =>
          cases cs with
          | nil => exact rd rfl (sv := .c c) hc.1 h
          | cons _ _ => exact hc.2.elim
    | mov =>
      cases d with
      | clo _ _ => cases hA1
      | d t x =>
        simp only [entry1] at h
        obtain ⟨c, g1, st1, δ, h, I1, C1, hc⟩ := I.comeVal hA1 (fun n hn => hf n (.here rfl hn)) h
        exact mv rfl rfl I1 C1 hc h
    | «mut» =>
      cases d with
      | clo _ _ => cases hA1
      | d t x =>
        obtain ⟨e, xs, heq, hO⟩ := hA1
        cases heq
        simp only [entry1] at h
        have hflat : flatB u = true := by
          obtain ⟨av, h0, hav⟩ := hO
          rcases hav.1 [] _ rfl with ⟨_, h⟩ | ⟨_, _, _, _, _, h, _⟩ <;> rw [h0] at h <;> subst h <;> rfl
        have hv : ValOwn w F (.sl e) xs u := by
          refine ⟨#[u], by simp [Form, isSt, hflat], fun j => if j = 0 then F else fun _ => False, fun j k hk => ?_, fun j j' k hk hk' => ?_, by simp [enc], fun j c hc => ?_⟩
          · dsimp only at hk
            split at hk
            · exact hk
            · exact hk.elim
          · dsimp only at hk hk'
            by_cases e1 : j = 0
            · by_cases e2 : j' = 0
              · omega
              · simp [e2] at hk'
            · simp [e1] at hk
          · cases j with
            | zero =>
              simp only [enc, List.getElem?_cons_zero, Option.some.injEq] at hc
              subst hc
              exact ⟨u, rfl, by simpa [COwn] using hO⟩
            | succ j => simp [enc] at hc
        obtain ⟨c, g1, st1, δ, h, I1, C1, hc⟩ := I.comeVal hv (fun n hn => hf n (.here rfl hn)) h
        exact mv rfl rfl I1 C1 hc h
    | pro =>
      cases d with
      | clo _ _ => cases hA1
      | d t x =>
        simp only [entry1] at h
        refine rd rfl (sv := .c (.one (.rp t x 0))) ?_ h
        have hA1' : RpRel w ROa t x 0 u := hA1
        refine ⟨?_, ?_⟩
        · obtain ⟨b, o, cs, el, fz, e, _⟩ := hA1'; rw [e]; rfl
        · show RpRel w g.ro t x 0 u
          rw [hro]; exact hA1'
    | pmut =>
      cases d with
      | clo _ _ => cases hA1
      | d t x =>
        simp only [entry1] at h
        obtain ⟨c, g1, st1, δ, h, I1, C1, hc⟩ := I.comePtr hA1 (fun n hn => hf n (.here rfl hn)) h
        exact mv rfl rfl I1 C1 hc h
    | skp => cases h
    | kp =>
      cases d with
      | clo _ _ => cases hA1
      | d t x =>
        simp only [entry1] at h
        obtain ⟨vs, hform, hrow⟩ := (hA1 : ValKl g.n.wl t x u)
        obtain ⟨c, hcm, h⟩ := bindS h
        obtain ⟨u', hform', hcm'⟩ := Form.of hcm (impK_sound (w := w) (g := g) (st := st) hrow fun y hy => enc_flat' hy)
        have := hform.uniq hform'
        subst this
        exact rd rfl (sv := .c c) hcm' h
    | fn =>
      cases d with
      | d t x => cases hA1
      | clo f ys =>
        simp only [entry1] at h
        obtain ⟨ps, e, hl, hq⟩ := hA1
        refine rd rfl (sv := .c (.one (.cloR f ys))) ⟨by rw [e]; rfl, ps, e, hl, fun i y q hy hq' => ?_⟩ h
        rw [hro]; exact hq i y q hy hq'

end Go.Gm

/- A function, whole: how it is left, and what is so proved of it. -/
namespace Go.Gm
open Go

section ev
variable {R : Type}
/-- The results, as they stand behind the body. -/
def exitRes (E : Env) (st : St) (own : Bool) : List ResultVar → List Bool → List Nat → (List (Am × Nat × Sv) → Option R) → Option R
  | [], [], [], k => k []
  | .tmp t :: rs, p :: ps, T :: Ts, k => (aget st.slots t).bind fun s => exitRes E st own rs ps Ts fun l => k ((cond p .pmut (cond own .mov .ro), T, s) :: l)
  | .cell x T' :: rs, false :: ps, _ :: Ts, k => match aget st.slots x with
    | some (.c (.one (.pt b 0))) => (aget st.boxes b).bind fun y => (E.code T').bind fun t => cond (Nat.beq (esz t) y.cs.length)
        ((cmOf t y.cs).bind fun c => exitRes E st own rs ps Ts fun l => k ((cond own .mov .ro, T', .c c) :: l)) none
    | _ => none
  | _, _, _, _ => none
/-- What was lent, as it stands behind the body. -/
def backsOf (st : St) : Nat → List Am → (List (Am × Nat × Sv) → Option R) → Option R
  | _, [], k => k []
  | j, .mut :: ms, k => (aget st.slots j).bind fun s => backsOf st (j + 1) ms fun l => k ((.mut, 0, s) :: l)
  | j, .pmut :: ms, k => (aget st.slots j).bind fun s => backsOf st (j + 1) ms fun l => k ((.pmut, 0, s) :: l)
  | j, _ :: ms, k => backsOf st (j + 1) ms k
def backsChk : List Am → List Dt → List Dt → Bool
  | [], [], [] => true
  | .pmut :: ms, .d t0 _ :: ds0, .d t _ :: ds => Nat.beq (esz t) (esz t0) && backsChk ms ds0 ds
  | .mut :: ms, _ :: ds0, .d (.sl _) _ :: ds => backsChk ms ds0 ds
  | .mut :: _, _, _ => false
  | .pmut :: _, _, _ => false
  | _ :: ms, _ :: ds0, ds => backsChk ms ds0 ds
  | _, _, _ => false
/-- Which parameters must stay as they are. -/
def stays : Nat → List Am → List Nat
  | _, [] => []
  | j, .mut :: ms => j :: stays (j + 1) ms
  | j, .pmut :: ms => j :: stays (j + 1) ms
  | j, _ :: ms => stays (j + 1) ms

def evExit (E : Env) (modes : List Am) (res : List Bool) (own : Bool) (rvs : List ResultVar) (Ts : List Nat) (ds : List Dt) (st : St) (k : List Dt → Option R) : Option R :=
  exitRes E st own rvs res Ts fun l1 => backsOf st 0 modes fun l2 =>
    cond (own || (modes.all Am.reads && ((res.all fun p => !p) && l1.all fun a => a.2.2.cells.all fun c => c.names.1.isEmpty)))
      (passArgs E (l1 ++ l2) st fun outs _ _ _ => cond (backsChk modes ds (outs.drop l1.length)) (k outs) none) none
def evFn (E : Env) (keep : Nat → Kp) (rounds : Nat) (body : Code) (modes : List Am) (res : List Bool) (own : Bool) (rvs : List ResultVar) (Ts : List Nat) (ds : List Dt) (k : List Dt → Option R) : Option R :=
  entry 0 modes ds ⟨[], [], []⟩ fun st => ev E keep rounds body st fun e st => match e with
    | .exit _ => none
    | _ => evExit E modes res own rvs Ts ds st k
end ev

end Go.Gm

/- A function whose body the evaluator runs keeps its contract. -/
namespace Go.Gm
open Go

variable {wl : World} {R : Type} {P : Program} {E : Env} {w0 w w' : World} {Mf : Nat → Prop} {g : Gh} {st : St} {a : Act}

theorem codeOk_mono {N M : Nat} {ps : List Nat} (hNM : N ≤ M) : ∀ {c : Code}, codeOk N ps c = true → codeOk M ps c = true := by
  have ops : ∀ {l : List Oper}, opsOk N ps l = true → opsOk M ps l = true := by
    intro l h
    simp only [opsOk, List.all_eq_true] at h ⊢
    intro o ho
    have := h o ho
    cases hd : o.dst with
    | none => rfl
    | some d =>
      rw [hd] at this
      simp only [Bool.and_eq_true] at this ⊢
      refine ⟨?_, this.2⟩
      have h1 := this.1
      rw [Nat.blt_eq] at h1 ⊢
      omega
  intro c
  induction c with
  | region id o d => exact ops
  | seq a b iha ihb => intro h; simp only [codeOk, Bool.and_eq_true] at h ⊢; exact ⟨iha h.1, ihb h.2⟩
  | cond x a b iha ihb => intro h; simp only [codeOk, Bool.and_eq_true] at h ⊢; exact ⟨iha h.1, ihb h.2⟩
  | block id c ih => intro h; simp only [codeOk] at h ⊢; exact ih h
  | loop c ih => intro h; simp only [codeOk] at h ⊢; exact ih h
  | _ => intro h; rfl

/-! ### the results -/
def resMode (own : Bool) (p : Bool) : Am := cond p .pmut (cond own .mov .ro)
theorem SvL.len : ∀ {l : List (Nat × Sv)} {us : List Value}, SvL w g st l us → us.length = l.length
  | [], [], _ => rfl
  | [], _ :: _, h => h.elim
  | _ :: _, [], h => h.elim
  | _ :: _, _ :: _, h => by simp [SvL.len h.2]

/-- One result read off. -/
def readRes (tmps : Array Value) : ResultVar → Sem Value
  | .tmp t => pure (tmps.getD t undef)
  | .cell x t => do loadVar t (← asAddr (tmps.getD x undef))

theorem exitRes_sound (hE : E.Ok P) (I : Inv w0 Mf g st a w) {own : Bool} : ∀ {rvs : List ResultVar} {ps : List Bool} {Ts : List Nat} {k : List (Am × Nat × Sv) → Option R} {r : R}, exitRes E st own rvs ps Ts k = some r →
    ∃ l vs, k l = some r ∧ (rvs.mapM (readRes a.tmps)).run P w = .ok vs w ∧ SvL w g st (l.map (·.2)) vs ∧ l.map (·.1) = ps.map (resMode own)
  | [], [], [], k, r, h => ⟨[], [], h, by simp [Sem.run_pure], trivial, rfl⟩
  | .tmp t :: rvs, p :: ps, T :: Ts, k, r, h => by
    simp only [exitRes] at h
    obtain ⟨s, hs, h⟩ := bindS h
    obtain ⟨l, vs, h1, h2, h3, h4⟩ := exitRes_sound hE I h
    obtain ⟨u, hu, hr⟩ := I.slots t s hs
    refine ⟨_, u :: vs, h1, ?_, ⟨hr, h3⟩, by simp [h4, resMode]⟩
    have hu' : a.tmps.getD t undef = u := by simp [hu]
    simp only [List.mapM_cons, Sem.run_bind, readRes, Sem.run_pure, Result.andThen_ok, h2, hu']
  | .cell x T' :: rvs, false :: ps, _ :: Ts, k, r, h => by
    simp only [exitRes] at h
    split at h
    case h_2 => cases h
    rename_i b hs
    obtain ⟨y, hy, h⟩ := bindS h
    obtain ⟨t, ht, h⟩ := bindS h
    obtain ⟨hlen, h⟩ := condN h
    have hlen := beqN hlen
    obtain ⟨c, hc, h⟩ := bindS h
    obtain ⟨l, vs, h1, h2, h3, h4⟩ := exitRes_sound hE I h
    obtain ⟨u, hu, hr⟩ := I.slots x _ hs
    have hp : u = .pointer (some ⟨g.bx b, 0, none⟩) := hr.2.1
    subst hp
    obtain ⟨us, el, hb, hcs⟩ := I.boxes b y hy
    have hsz : us.size = y.cs.length := hcs.1
    have hex : us.extract 0 (0 + esz t) = us := by
      rw [Nat.zero_add, hlen, ← hsz]; simp
    obtain ⟨v, hv, hform⟩ := run_loadVar (P := P) (w := w) hE ht (off := 0) hb (by omega) (fun j v hj => by rw [hex] at hj; exact hcs.flat j v hj)
    rw [hex] at hform
    obtain ⟨v', hform', hcm⟩ := Form.of hc hcs
    have := hform.uniq hform'
    subst this
    refine ⟨_, v :: vs, h1, ?_, ⟨hcm, h3⟩, by simp [h4, resMode]⟩
    have hu' : a.tmps.getD x undef = .pointer (some ⟨g.bx b, 0, none⟩) := by simp [hu]
    simp only [List.mapM_cons, Sem.run_bind, readRes, hu', asAddr, Sem.run_pure, Result.andThen_ok, hv, h2]
  | [], [], _ :: _, k, r, h => by simp [exitRes] at h
  | [], _ :: _, _, k, r, h => by simp [exitRes] at h
  | .tmp _ :: _, [], _, k, r, h => by simp [exitRes] at h
  | .tmp _ :: _, _ :: _, [], k, r, h => by simp [exitRes] at h
  | .cell _ _ :: _, [], _, k, r, h => by simp [exitRes] at h
  | .cell _ _ :: _, true :: _, _, k, r, h => by simp [exitRes] at h
  | .cell _ _ :: _, false :: _, [], k, r, h => by simp [exitRes] at h

theorem run_results {fn : Func} {tmps : Array Value} {vs : List Value} (h : (fn.results.toList.mapM (readRes tmps)).run P w = .ok vs w) : (results fn tmps).run P w = .ok (packV vs) w := by
  have e : results fn tmps = (do let vs ← fn.results.mapM (readRes tmps); pure (if h : vs.size = 1 then vs[0] else .tuple vs)) := by
    unfold results
    congr
  rw [e, Array.mapM_eq_mapM_toList]
  simp only [Sem.run_bind, map_eq_pure_bind, bind_assoc, h, Result.andThen_ok, pure_bind, Sem.run_pure]
  cases vs with
  | nil => rfl
  | cons v vs =>
    cases vs with
    | nil => rfl
    | cons v' vs => simp [packV]

/-! ### what was lent -/
def isBack : Am → Bool | .mut | .pmut => true | _ => false
def backUs : List Am → List Value → List Value
  | m :: ms, u :: us => if isBack m then u :: backUs ms us else backUs ms us
  | _, _ => []

theorem backsOf_sound (I : Inv w0 Mf g st a w) : ∀ {ms : List Am} {us : List Value} {j : Nat} {k : List (Am × Nat × Sv) → Option R} {r : R}, ms.length = us.length → (∀ i ∈ stays j ms, ∀ n, i = j + n → a.tmps[i]? = us[n]?) → backsOf st j ms k = some r →
    ∃ l, k l = some r ∧ SvL w g st (l.map (·.2)) (backUs ms us) ∧ l.map (·.1) = ms.filter isBack
  | [], us, j, k, r, hl, hs, h => by
    cases us with
    | nil => exact ⟨[], h, trivial, rfl⟩
    | cons _ _ => simp at hl
  | m :: ms, us0, j, k, r, hl, hs, h => by
    cases us0 with
    | nil => simp at hl
    | cons u us =>
      have hl' : ms.length = us.length := by simpa using hl
      have skip : stays j (m :: ms) = stays (j + 1) ms → isBack m = false → backsOf st (j + 1) ms k = some r → ∃ l, k l = some r ∧ SvL w g st (l.map (·.2)) (backUs (m :: ms) (u :: us)) ∧ l.map (·.1) = (m :: ms).filter isBack := by
        intro e hb h
        obtain ⟨l, h1, h2, h3⟩ := backsOf_sound I hl' (fun i hi n hn => by
          have := hs i (by rw [e]; exact hi) (n + 1) (by omega)
          simpa using this) h
        exact ⟨l, h1, by simpa [backUs, hb] using h2, by simpa [hb] using h3⟩
      have take : stays j (m :: ms) = j :: stays (j + 1) ms → isBack m = true → ((aget st.slots j).bind fun s => backsOf st (j + 1) ms fun l => k ((m, 0, s) :: l)) = some r →
          ∃ l, k l = some r ∧ SvL w g st (l.map (·.2)) (backUs (m :: ms) (u :: us)) ∧ l.map (·.1) = (m :: ms).filter isBack := by
        intro e hb h
        obtain ⟨s, hslot, h⟩ := bindS h
        obtain ⟨l, h1, h2, h3⟩ := backsOf_sound I hl' (fun i hi n hn => by
          have := hs i (by rw [e]; exact List.mem_cons_of_mem _ hi) (n + 1) (by omega)
          simpa using this) h
        obtain ⟨v, hv, hr⟩ := I.slots j s hslot
        have hu := hs j (by rw [e]; simp) 0 (by omega)
        rw [hv] at hu
        have hvu : v = u := by simpa using hu
        subst hvu
        exact ⟨_, h1, by simpa [backUs, hb, SvL] using ⟨hr, h2⟩, by simp [hb, h3]⟩
      cases m with
      | ro => exact skip rfl rfl h
      | mov => exact skip rfl rfl h
      | pro => exact skip rfl rfl h
      | fn => exact skip rfl rfl h
      | skp => exact skip rfl rfl h
      | kp => exact skip rfl rfl h
      | «mut» => exact take rfl rfl h
      | pmut => exact take rfl rfl h

theorem ArgsOk.split {Pr : Nat → Prop} : ∀ {m1 m2 : List Am} {ds : List Dt} {us : List Value} {Fs : List (Nat → Prop)}, ArgsOk wl w Pr (m1 ++ m2) ds us Fs →
    ArgsOk wl w Pr m1 (ds.take m1.length) (us.take m1.length) (Fs.take m1.length) ∧ ArgsOk wl w Pr m2 (ds.drop m1.length) (us.drop m1.length) (Fs.drop m1.length)
  | [], m2, ds, us, Fs, h => ⟨by simpa using ArgsOk.nil, by simpa using h⟩
  | m :: m1, m2, _, _, _, h => by
    cases h with
    | cons h hs =>
      obtain ⟨h1, h2⟩ := ArgsOk.split hs
      exact ⟨.cons h h1, h2⟩

theorem ress_own {Pr : Nat → Prop} : ∀ {ps : List Bool} {ds : List Dt} {us : List Value} {Fs : List (Nat → Prop)}, ArgsOk wl w Pr (ps.map (resMode true)) ds us Fs → RessOk wl w true ps ds us Fs
  | [], _, _, _, h => by cases h; exact .nil
  | p :: ps, _, _, _, h => by
    cases h with
    | cons h hs =>
      rename_i d ds u us F Fs
      cases p with
      | true =>
        cases d with
        | clo _ _ => cases h
        | d t x => exact .ptr ⟨rfl, h⟩ (ress_own hs)
      | false =>
        cases d with
        | clo _ _ => cases h
        | d t x => exact .val (by simpa using (show ValOwn w F t x u from h)) (ress_own hs)
theorem ress_rd {Pr : Nat → Prop} : ∀ {ps : List Bool} {ds : List Dt} {us : List Value} {Fs : List (Nat → Prop)}, ps.all (fun p => !p) = true → ArgsOk wl w Pr (ps.map (resMode false)) ds us Fs → RessOk wl w false ps ds us (ps.map fun _ => Pr)
  | [], _, _, _, _, h => by cases h; exact .nil
  | p :: ps, _, _, _, hp, h => by
    simp only [List.all_cons, Bool.and_eq_true] at hp
    cases h with
    | cons h hs =>
      rename_i d ds u us F Fs
      cases p with
      | true => cases hp.1
      | false =>
        cases d with
        | clo _ _ => cases h
        | d t x => exact .val (by simpa using (show ValRd w Pr t x u from h)) (ress_rd hp.2 hs)

theorem backs_ok {Pr : Nat → Prop} : ∀ {ms : List Am} {ds0 ds : List Dt} {us : List Value} {Fs : List (Nat → Prop)}, ms.length = us.length → backsChk ms ds0 ds = true → ArgsOk wl w Pr (ms.filter isBack) ds (backUs ms us) Fs → BacksOk wl w ms ds0 us ds Fs
  | [], ds0, ds, us, Fs, hl, hc, h => by
    cases us with
    | cons _ _ => simp at hl
    | nil =>
      cases h
      cases ds0 with
      | nil => exact .nil
      | cons _ _ => simp [backsChk] at hc
  | m :: ms, ds0, ds, us0, Fs, hl, hc, h => by
    cases us0 with
    | nil => simp at hl
    | cons u us =>
      have hl' : ms.length = us.length := by simpa using hl
      cases m with
      | ro => cases ds0 with
        | nil => simp [backsChk] at hc
        | cons d0 ds0' => exact .skip trivial (backs_ok hl' (by simpa [backsChk] using hc) h)
      | mov => cases ds0 with
        | nil => simp [backsChk] at hc
        | cons d0 ds0' => exact .skip trivial (backs_ok hl' (by simpa [backsChk] using hc) h)
      | pro => cases ds0 with
        | nil => simp [backsChk] at hc
        | cons d0 ds0' => exact .skip trivial (backs_ok hl' (by simpa [backsChk] using hc) h)
      | fn => cases ds0 with
        | nil => simp [backsChk] at hc
        | cons d0 ds0' => exact .skip trivial (backs_ok hl' (by simpa [backsChk] using hc) h)
      | skp => cases ds0 with
        | nil => simp [backsChk] at hc
        | cons d0 ds0' => exact .skip trivial (backs_ok hl' (by simpa [backsChk] using hc) h)
      | kp => cases ds0 with
        | nil => simp [backsChk] at hc
        | cons d0 ds0' => exact .skip trivial (backs_ok hl' (by simpa [backsChk] using hc) h)
      | «mut» =>
        have h : ArgsOk wl w Pr (.mut :: ms.filter isBack) ds (u :: backUs ms us) Fs := h
        cases h with
        | cons h1 hs =>
          rename_i d ds F Fs
          cases d with
          | clo _ _ => cases h1
          | d t x =>
            obtain ⟨e, xs, heq, hO⟩ := h1
            cases heq
            cases ds0 with
            | nil => simp [backsChk] at hc
            | cons d0 ds0' => exact .mut hO (backs_ok hl' (by simpa [backsChk] using hc) hs)
      | pmut =>
        have h : ArgsOk wl w Pr (.pmut :: ms.filter isBack) ds (u :: backUs ms us) Fs := h
        cases h with
        | cons h1 hs =>
          rename_i d ds F Fs
          cases d with
          | clo _ _ => cases h1
          | d t x =>
            cases ds0 with
            | nil => simp [backsChk] at hc
            | cons d0 ds0' =>
              cases d0 with
              | clo _ _ => simp [backsChk] at hc
              | d t0 x0 =>
                simp only [backsChk, Bool.and_eq_true] at hc
                exact .pmut h1 (beqN hc.1) (backs_ok hl' hc.2 hs)

end Go.Gm

/- A function whose body the evaluator runs keeps its contract: the whole of it. -/
namespace Go.Gm
open Go

variable {wl : World} {R : Type} {P : Program} {E : Env} {w0 w w' : World} {Mf : Nat → Prop} {g : Gh} {st : St} {a : Act}

theorem Kept.mono {M N : Nat → Prop} (h : Kept w w' M) (hMN : ∀ k, M k → N k) : Kept w w' N :=
  ⟨h.os, h.tape, h.output, ⟨h.same.1, fun b hb hx => h.same.2 b hb fun hm => hx (hMN b hm)⟩⟩

theorem ArgsOk.len {ROa : Nat → Prop} {ms : List Am} {ds : List Dt} {us : List Value} {Fs : List (Nat → Prop)} (h : ArgsOk wl w ROa ms ds us Fs) : ms.length = us.length ∧ ds.length = us.length ∧ Fs.length = us.length := by
  induction h with
  | nil => exact ⟨rfl, rfl, rfl⟩
  | cons h hs ih => exact ⟨by simp [ih.1], by simp [ih.2.1], by simp [ih.2.2]⟩

theorem SvL.append' : ∀ {l m : List (Nat × Sv)} {us vs : List Value}, SvL w g st l us → SvL w g st m vs → SvL w g st (l ++ m) (us ++ vs)
  | [], _, [], _, _, h => h
  | [], _, _ :: _, _, h, _ => h.elim
  | _ :: _, _, [], _, h, _ => h.elim
  | _ :: _, _, _ :: _, _, h, h' => ⟨h.1, SvL.append' h.2 h'⟩
theorem SvL.arg : ∀ {l : List (Am × Nat × Sv)} {us : List Value}, SvL w g st (l.map (·.2)) us → ArgRel w g st l us
  | [], [], _ => trivial
  | [], _ :: _, h => h.elim
  | _ :: _, [], h => h.elim
  | (_, _, _) :: _, _ :: _, h => ⟨h.1, SvL.arg h.2⟩

theorem exit_core (hE : E.Ok P) {Mf' ROa : Nat → Prop} (I : Inv w Mf' g st a w') (hn : g.n.r0 = ROa ∧ g.n.wl = wl) {s : Spec} {fn : Func} {ds : List Dt} {us : List Value} (hl : s.modes.length = us.length)
    (hM : ∀ k, Mf' k → Mf k) (hM0 : s.modes.all Am.reads = true → ∀ k, ¬ Mf' k) {k : List Dt → Option R} {r : R} {l1 l2 : List (Am × Nat × Sv)} {vs : List Value}
    (hrun : (fn.results.toList.mapM (readRes a.tmps)).run P w' = .ok vs w') (hS1 : SvL w' g st (l1.map (·.2)) vs) (hm1 : l1.map (·.1) = s.res.map (resMode s.own)) (hS2 : SvL w' g st (l2.map (·.2)) (backUs s.modes us)) (hm2 : l2.map (·.1) = s.modes.filter isBack)
    (h : (cond (s.own || (s.modes.all Am.reads && ((s.res.all fun p => !p) && l1.all fun a => a.2.2.cells.all fun c => c.names.1.isEmpty)))
      (Gm.passArgs E (l1 ++ l2) st fun outs _ _ _ => cond (backsChk s.modes ds (outs.drop l1.length)) (k outs) none) none) = some r) :
    ∃ v, (results fn a.tmps).run P w' = .ok v w' ∧ ∃ outs, k outs = some r ∧ After wl w w' Mf ROa s ds us outs (.returned v) := by
  obtain ⟨hn, hwl⟩ := hn
  subst hwl
  obtain ⟨hcond, h⟩ := condN h
  simp only [Bool.or_eq_true, Bool.and_eq_true] at hcond
  refine ⟨packV vs, run_results hrun, ?_⟩
  have hS : SvL w' g st ((l1 ++ l2).map (·.2)) (vs ++ backUs s.modes us) := by rw [List.map_append]; exact hS1.append' hS2
  have hms : (l1 ++ l2).map (·.1) = s.res.map (resMode s.own) ++ s.modes.filter isBack := by rw [List.map_append, hm1, hm2]
  obtain ⟨st1, I1, hh⟩ := I.passArgs (E := E) (SvL.arg hS) h
  let ids := idsOf ((l1 ++ l2).map (·.2))
  have hback0 : s.own = false → l2 = [] := fun ho => by
    have := (hcond.resolve_left (by simp [ho])).1
    have hf : s.modes.filter isBack = [] := by
      rw [List.filter_eq_nil_iff]
      intro m hm hb
      have := List.all_eq_true.1 this m hm
      cases m <;> simp [Am.reads, isBack] at this hb
    rw [hf] at hm2
    exact List.map_eq_nil_iff.1 hm2
  obtain ⟨outs, bs, d, Fs, Hs, h, hA, hH, L, hpH, hkey⟩ := hh (Reach g st1 s.own ids) (fun x hx _ => by
    refine reach_rd (args := (l1 ++ l2).map (·.2)) ?_ (List.mem_map.2 ⟨x, hx, rfl⟩)
    cases ho : s.own with
    | true => exact .inl rfl
    | false =>
      refine .inr fun y hy c hc => ?_
      rw [hback0 ho, List.append_nil] at hy
      obtain ⟨z, hz, rfl⟩ := List.mem_map.1 hy
      have := (hcond.resolve_left (by simp [ho])).2.2
      simp only [List.all_eq_true, List.isEmpty_iff] at this
      exact this z hz c hc)
  rw [hms] at hA hH
  obtain ⟨hpF, hsub, _⟩ := hH.sub hpH
  obtain ⟨hchk, h⟩ := condN h
  refine ⟨outs, h, ?_⟩
  obtain ⟨hA1, hA2⟩ := hA.split
  have hn1 : (s.res.map (resMode s.own)).length = s.res.length := by simp
  have hvs : vs.length = s.res.length := by
    have h1 := hS1.len
    have h2 := congrArg List.length hm1
    simp only [List.length_map] at h1 h2
    omega
  have hl1 : l1.length = s.res.length := by
    have := congrArg List.length hm1
    simpa using this
  rw [hn1] at hA1 hA2
  rw [hl1] at hchk
  have hu1 : (vs ++ backUs s.modes us).take s.res.length = vs := by rw [← hvs]; simp
  have hu2 : (vs ++ backUs s.modes us).drop s.res.length = backUs s.modes us := by rw [← hvs]; simp
  rw [hu1] at hA1
  rw [hu2] at hA2
  have hB := backs_ok hl hchk hA2
  have hin : ∀ F ∈ Fs, ∀ n, F n → Any Hs n := fun F hF n hn => hsub n ⟨F, hF, hn⟩
  have hdrop : ∀ F ∈ Fs.drop s.res.length, F ∈ Fs := fun F hF => List.mem_of_mem_drop hF
  have htake : ∀ F ∈ Fs.take s.res.length, F ∈ Fs := fun F hF => List.mem_of_mem_take hF
  have hpF' : PairApart (Fs.take s.res.length ++ Fs.drop s.res.length) := by rw [List.take_append_drop]; exact hpF
  obtain ⟨hp1, hp2, hp3⟩ := List.pairwise_append.1 hpF'
  have hsrc : ∀ F ∈ Fs, ∀ n, F n → Mf n ∨ w.heap.size ≤ n := fun F hF n hn => ((I.lentFree L (hin F hF n hn)).1.mine).elim .inr fun h => .inl (hM n h)
  have hltF : ∀ F ∈ Fs, ∀ n, F n → n < w'.heap.size := fun F hF n hn => (I.lentFree L (hin F hF n hn)).2
  have kept : Kept w w' Mf := I.kept.mono hM
  cases ho : s.own with
  | true =>
    rw [ho] at hA1
    refine ⟨⟨vs, Fs.take s.res.length, Fs.drop s.res.length, rfl, by rw [ho]; exact ress_own hA1, hB, hp2, fun B hB' => hsrc B (hdrop B hB'), fun _ => ⟨hp1, fun G hG => hsrc G (htake G hG)⟩, fun e => by simp [ho] at e,
      fun G hG B hB' n hg hb => hp3 G hG B hB' n hg hb, fun G hG => hltF G (htake G hG), fun B hB' => hltF B (hdrop B hB')⟩, kept⟩
  | false =>
    rw [ho] at hA1
    obtain ⟨hread, hnop, _⟩ := hcond.resolve_left (by simp [ho])
    have hG : ∀ G ∈ s.res.map (fun _ => Reach g st1 false ids), ∀ n, G n → Reach g st1 false ids n := fun G hG n hn => by
      obtain ⟨_, _, rfl⟩ := List.mem_map.1 hG; exact hn
    refine ⟨⟨vs, s.res.map (fun _ => Reach g st1 false ids), Fs.drop s.res.length, rfl, ?_, hB, hp2, fun B hB' => hsrc B (hdrop B hB'), fun e => by simp [ho] at e, fun _ G hG' n hgn => ?_,
      fun G hG' B hB' n hg hb => (I.reach I1 L (hG G hG' n hg)).1 (hin B (hdrop B hB') n hb), fun G hG' n hg => (I.reach I1 L (hG G hG' n hg)).2, fun B hB' => hltF B (hdrop B hB')⟩, kept⟩
    · rw [ho]
      exact ress_rd hnop hA1
    · rcases hG G hG' n (by assumption) with h1 | ⟨_, id, _, h2, h3⟩ | ⟨e, _⟩
      · rcases I.apart.mine_ro n h1 with h4 | h4 | h4
        · rw [hn] at h4; exact .inl h4
        · exact .inr h4
        · exact (hM0 hread n h4).elim
      · rcases I1.apart.mine_r id n h2 h3 with h4 | h4
        · exact .inr h4
        · exact (hM0 hread n h4).elim
      · cases e

theorem exit_sound (hE : E.Ok P) {Mf' ROa : Nat → Prop} (I : Inv w Mf' g st a w') (hn : g.n.r0 = ROa ∧ g.n.wl = wl) {s : Spec} {fn : Func} {Ts : List Nat} {ds : List Dt} {us : List Value} (hl : s.modes.length = us.length)
    (hstay : ∀ j ∈ stays 0 s.modes, a.tmps[j]? = us[j]?) (hM : ∀ k, Mf' k → Mf k) (hM0 : s.modes.all Am.reads = true → ∀ k, ¬ Mf' k) {k : List Dt → Option R} {r : R}
    (h : evExit E s.modes s.res s.own fn.results.toList Ts ds st k = some r) :
    ∃ v, (results fn a.tmps).run P w' = .ok v w' ∧ ∃ outs, k outs = some r ∧ After wl w w' Mf ROa s ds us outs (.returned v) := by
  unfold evExit at h
  obtain ⟨l1, vs, h, hrun, hS1, hm1⟩ := exitRes_sound hE I h
  obtain ⟨l2, h, hS2, hm2⟩ := backsOf_sound I (us := us) hl (fun i hi n hin => by rw [hstay i hi]; congr 1; omega) h
  exact exit_core hE I hn hl hM hM0 hrun hS1 hm1 hS2 hm2 h

/-- A function whose body the evaluator runs keeps its contract. -/
theorem fn_sound (hE : E.Ok P) (hN : E.Natl) {f : Nat} {fn : Func} {c : Code} (hf : P.funcs[f]? = some fn) (hb : fn.body = some c) (s : Spec) (hsh : s.shape = []) (Ts : List Nat) (hok : codeOk fn.ntmps (stays 0 s.modes) c = true)
    (hrun : ∀ {R : Type} (ds : List Dt) (k : List Dt → Option R) (r : R), s.fn ds k = some r → ∃ keep rounds, evFn E keep rounds c s.modes s.res s.own fn.results.toList Ts ds k = some r) : SpecOk P f s := by
  intro R ds k r h wl w us Mf ROa Fs hWl hBs hA hp hFM hRM hRlt hMlt
  obtain ⟨keep, rounds, h⟩ := hrun ds k r h
  unfold evFn at h
  obtain ⟨hl1, _, _⟩ := hA.len
  rw [hsh]
  show Calls P f us.toArray w _
  refine calls_of_wp hf hb ?_
  let a0 : Act := { tmps := us.toArray ++ Array.replicate (fn.ntmps - us.toArray.size) undef, defers := [] }
  let F0 : Fx := ⟨a0.tmps.size, ROa, wl⟩
  let g0 : Gh := { rv := fun _ _ => undef, rf := fun _ _ => False, bx := fun _ => 0, ro := ROa, n := F0 }
  have hsz : fn.ntmps ≤ F0.sz := by
    show fn.ntmps ≤ (us.toArray ++ Array.replicate (fn.ntmps - us.toArray.size) undef).size
    simp; omega
  have hgive : ∀ n, Given s.modes Fs n → Mf n := fun n hg => by obtain ⟨F, hF, h⟩ := hg.any; exact hFM F hF n h
  have noO : ∀ id, ¬ OwnAt ⟨[], [], []⟩ id := fun id ⟨r, h, _⟩ => by simp [aget] at h
  have noB : ∀ b, ¬ BoxAt ⟨[], [], []⟩ b := fun b h => by simp [BoxAt, aget] at h
  have I0 : Inv w (Given s.modes Fs) g0 ⟨[], [], []⟩ a0 w :=
    { slots := fun s sv h => by simp [aget] at h
      boxes := fun b x h => by simp [aget] at h
      roots := fun id r h => by simp [aget] at h
      apart := {
        rr := fun id id' k h => (noO id h).elim
        rb := fun id b h => (noO id h).elim
        bb := fun b b' h => (noB b h).elim
        ro_r := fun id k h => (noO id h).elim
        ro_b := fun b h => (noB b h).elim
        mine_r := fun id k h => (noO id h).elim
        mine_b := fun b h => (noB b h).elim
        lt_r := fun id k h => (noO id h).elim
        lt_ro := hRlt
        mine_ro := fun k h => .inl h }
      kept := ⟨rfl, rfl, rfl, Nat.le_refl _, fun _ _ _ => rfl⟩
      defers := rfl
      size := rfl
      base := ⟨hBs, fun k h hg => hRM k h (hgive k hg), fun k h => h⟩ }
  have hus : ∀ (i : Nat) u, us[i]? = some u → a0.tmps[0 + i]? = some u := fun i u hu => by
    have hi : i < us.length := by
      rcases Nat.lt_or_ge i us.length with h' | h'
      · exact h'
      · simp [List.getElem?_eq_none h'] at hu
    show (us.toArray ++ Array.replicate (fn.ntmps - us.toArray.size) undef)[0 + i]? = some u
    rw [Nat.zero_add, Array.getElem?_append_left (by simpa using hi)]
    simpa using hu
  obtain ⟨g1, st1, h, hg1, I1⟩ := entry_sound (ROa := ROa) I0 hus hA hp (fun n hg => ⟨⟨fun id h => (noO id h).elim, fun h => hRM n h (hgive n hg), fun b h => (noB b h).elim, .inr hg⟩, hMlt n (hgive n hg)⟩) rfl h
  have hstay0 : Stay (stays 0 s.modes) (fun j => us[j]?) a0.tmps := by
    have hmem : ∀ {ms : List Am} {j : Nat} {x : Nat}, x ∈ stays j ms → x < j + ms.length := by
      intro ms
      induction ms with
      | nil => intro j x h; simp [stays] at h
      | cons m ms ih =>
        intro j x h
        cases m <;> simp only [stays, List.mem_cons] at h <;> first
          | (have := ih h; simp only [List.length_cons]; omega)
          | (rcases h with rfl | h
             · simp
             · have := ih h; simp only [List.length_cons]; omega)
    intro j hj
    have hj' := hmem hj
    have hlt : j < us.length := by omega
    have := hus j us[j] (by simp [hlt])
    rw [Nat.zero_add] at this
    rw [this]; simp [hlt]
  refine ev_sound hE hN (F := F0) hWl c (codeOk_mono hsz hok) h hg1 I1 hstay0 fun e g' st' a' w' hk hg' I' hJ' => ?_
  have fin : evExit E s.modes s.res s.own fn.results.toList Ts ds st' k = some r → a'.defers = [] ∧ ∃ v, (results fn a'.tmps).run P w' = .ok v w' ∧ ∃ outs, k outs = some r ∧ After wl w w' Mf ROa s ds us outs (.returned v) := fun hk =>
    ⟨I'.defers, exit_sound hE I' ⟨by rw [hg'], by rw [hg']⟩ hl1 hJ' hgive (fun hall n hn => Given.none hall hn) hk⟩
  cases e with
  | normal => exact fin hk
  | ret => exact fin hk
  | exit id => cases hk

end Go.Gm

/- What the printed texts lean on. -/
namespace Go.Gm
open Go

section
variable {R : Type}
def seqK (E : Env) (keep : Nat → Kp) (n : Nat) (b : Code) (k : Ex → St → Option R) : Ex → St → Option R := fun e st => match e with
  | .normal => ev E keep n b st k
  | e => k e st
def blockK (id : Nat) (k : Ex → St → Option R) : Ex → St → Option R := fun e st => match e with
  | .exit id' => cond (Nat.beq id' id) (k .normal st) (k (.exit id') st)
  | e => k e st
def exitK (E : Env) (modes : List Am) (res : List Bool) (own : Bool) (rvs : List ResultVar) (Ts : List Nat) (ds : List Dt) (k : List Dt → Option R) : Ex → St → Option R := fun e st => match e with
  | .exit _ => none
  | _ => evExit E modes res own rvs Ts ds st k
end
def cAt : List Nat → Code → Code
  | [], c => c
  | i :: p, .seq a b => cond (Nat.beq i 0) (cAt p a) (cAt p b)
  | i :: p, .cond _ a b => cond (Nat.beq i 0) (cAt p a) (cAt p b)
  | _ :: p, .block _ a => cAt p a
  | _ :: p, .loop a => cAt p a
  | _, c => c
def kat : List Kp → Nat → Kp
  | [], _ => ⟨[], [], [], []⟩
  | a :: r, n => cond (Nat.beq n 0) a (kat r (n - 1))
def bs (l : List Nat) : ByteArray := ⟨(l.map UInt8.ofNat).toArray⟩

/-- A contract by a function of the arguments: is it in reach, and what comes out. -/
def Spec.of (modes : List Am) (res : List Bool) (own : Bool) (q : List Dt → Option (Bool × List Dt)) : Spec :=
  { modes, res, own, fn := fun ds k => match q ds with | some (g, outs) => cond g (k outs) none | none => none }
theorem Spec.of_natl (modes : List Am) (res : List Bool) (own : Bool) (q : List Dt → Option (Bool × List Dt)) : (Spec.of modes res own q).Natl := by
  intro ds
  show ∃ q' : Option (List Dt), ∀ (R : Type) (k : List Dt → Option R), (match q ds with | some (g, outs) => cond g (k outs) none | none => none) = q'.bind k
  cases q ds with
  | none => exact ⟨none, fun _ _ => rfl⟩
  | some go =>
    obtain ⟨g, outs⟩ := go
    cases g with
    | true => exact ⟨some outs, fun _ _ => rfl⟩
    | false => exact ⟨none, fun _ _ => rfl⟩
theorem Spec.of_some {modes : List Am} {res : List Bool} {own : Bool} {q : List Dt → Option (Bool × List Dt)} {R : Type} {ds : List Dt} {k : List Dt → Option R} {r : R} (h : (Spec.of modes res own q).fn ds k = some r) :
    ∃ outs, q ds = some (true, outs) ∧ k outs = some r := by
  have h : (match q ds with | some (g, outs) => cond g (k outs) none | none => none) = some r := h
  cases hq : q ds with
  | none => rw [hq] at h; cases h
  | some go =>
    obtain ⟨g, outs⟩ := go
    rw [hq] at h
    obtain ⟨h1, h2⟩ := condN h
    exact ⟨outs, by rw [h1], h2⟩

/-- The body does what the contract says. -/
theorem spec_ok {P : Program} {E : Env} (hE : E.Ok P) (hN : E.Natl) {f : Nat} {fn : Func} (hf : P.funcs[f]? = some fn) {c : Code} (hb : fn.body = some c) {modes : List Am} {res : List Bool} {own : Bool} {q : List Dt → Option (Bool × List Dt)} (Ts : List Nat)
    (hok : codeOk fn.ntmps (stays 0 modes) c = true)
    (hrun : ∀ ds outs, q ds = some (true, outs) → ∃ keep rounds, ∀ {R : Type} (k : List Dt → Option R), evFn E keep rounds c modes res own fn.results.toList Ts ds k = k outs) : SpecOk P f (Spec.of modes res own q) := by
  refine fn_sound hE hN hf hb _ rfl Ts hok fun ds k r h => ?_
  obtain ⟨outs, hq, hk⟩ := Spec.of_some h
  obtain ⟨keep, rounds, he⟩ := hrun ds outs hq
  exact ⟨keep, rounds, (he k).trans hk⟩

/-! ### the table of a program -/
structure Tab where
  code : List (Nat × Ty)
  eqs : List (Nat × List Ty)
  fld : List (Nat × List (Nat × Nat))
def sget : List (Nat × Spec) → Nat → Option Spec
  | [], _ => none
  | (k, v) :: r, n => cond (Nat.beq n k) (some v) (sget r n)
def Tab.env (t : Tab) (l : List (Nat × Spec)) : Env :=
  { code := fun T => aget t.code T, eq := fun T => aget t.eqs T, fld := fun T f => (aget t.fld T).bind fun l => l[f]?, spec := fun f => sget l f }
theorem sget_mem : ∀ {l : List (Nat × Spec)} {f : Nat} {s : Spec}, sget l f = some s → (f, s) ∈ l
  | (k, v) :: r, f, s, h => by
    simp only [sget] at h
    cases hb : Nat.beq f k with
    | true => rw [hb] at h; cases h; rw [beqN hb]; simp
    | false => rw [hb] at h; exact List.mem_cons_of_mem _ (sget_mem h)

/-- A contract kept by a function that may be called. -/
def Good (P : Program) (x : Nat × Spec) : Prop := (SpecOk P x.1 x.2 ∧ ∃ fn, P.funcs[x.1]? = some fn ∧ fn.body.isSome ∧ fn.name ≠ "runtime.NumGoroutine") ∧ x.2.Natl
theorem Tab.natl (t : Tab) {P : Program} {l : List (Nat × Spec)} (h : ∀ x ∈ l, Good P x) : (t.env l).Natl := fun _ _ hs => (h _ (sget_mem hs)).2

structure Tab.Ok (t : Tab) (P : Program) : Prop where
  info : ∀ x ∈ t.code, ∃ i zv, P.info? x.1 = some i ∧ i.size = esz x.2 ∧ i.bytes ≤ 1024 ∧ i.zero = some zv ∧ zv.cells = (zvals x.2).toArray
  und : ∀ x ∈ t.code, UndOk (t.env []) P x.1 x.2
  fld : ∀ x ∈ t.fld, ∃ fs : Array Field, P.underlying x.1 = some (.struct fs) ∧ x.2 = fs.toList.map (fun f => (f.offset, f.type)) ∧ (∀ y ∈ x.2, (aget t.code y.2).isSome) ∧ (fs.toList.mapM (fun f => (P.info? f.type).map fun i => (f.offset, i.size))).isSome
  sts : ∀ x ∈ t.code, isSt x.2 = true → x.1 ∈ t.fld.map (·.1)
  eqs : ∀ x ∈ t.eqs, ∀ (us vs : Array Value) (e : Bool), eqVals x.2 us.toList vs.toList = some e → ∀ w,
    (Op.equal x.1 (.agg us) (.agg vs)).run P w = .ok e w ∧ (∀ op a b, (eqGuard op x.1 a b (.agg us) (.agg vs)).run P w = .ok () w)
  ord : P.follows .mixedOrders = true

theorem UndOk.env {t : Tab} {l : List (Nat × Spec)} {P : Program} {T : Nat} {ty : Ty} (h : UndOk (t.env []) P T ty) : UndOk (t.env l) P T ty := by
  unfold UndOk at *
  cases ty <;> exact h

theorem Tab.Ok.env {t : Tab} {P : Program} (h : t.Ok P) {l : List (Nat × Spec)} (hl : ∀ x ∈ l, Good P x) : (t.env l).Ok P := {
  info := fun T ty hT => h.info (T, ty) (aget_mem hT)
  und := fun T ty hT => (h.und (T, ty) (aget_mem hT)).env
  fld := fun T f off ft hf => by
    have hf : (aget t.fld T).bind (fun l => l[f]?) = some (off, ft) := hf
    obtain ⟨L, hL, hf⟩ := Option.bind_eq_some_iff.1 hf
    obtain ⟨fs, h1, h2, h3, _⟩ := h.fld (T, L) (aget_mem hL)
    have h2 : L = fs.toList.map (fun f => (f.offset, f.type)) := h2
    have hc := h3 (off, ft) (List.mem_of_getElem? hf)
    obtain ⟨ty, hty⟩ := Option.isSome_iff_exists.1 hc
    rw [h2] at hf
    obtain ⟨fd, hfd, he⟩ : ∃ fd, fs.toList[f]? = some fd ∧ (fd.offset, fd.type) = (off, ft) := by simpa using hf
    cases he
    exact ⟨fs, fd, ty, h1, by simpa using hfd, rfl, rfl, hty⟩
  sts := fun T fs hu hT => by
    obtain ⟨ty, hty⟩ := Option.isSome_iff_exists.1 hT
    have hm := aget_mem (l := t.code) hty
    have hund := h.und (T, ty) hm
    cases hs : isSt ty with
    | false =>
      exfalso
      cases ty with
      | i k => have h1 : P.underlying T = some (.int k) := hund; rw [hu] at h1; cases h1
      | bool => have h1 : P.underlying T = some .bool := hund; rw [hu] at h1; cases h1
      | str => have h1 : P.underlying T = some .string := hund; rw [hu] at h1; cases h1
      | sl e => obtain ⟨el, h1, _⟩ := (hund : ∃ el, P.underlying T = some (.slice el) ∧ (t.env []).code el = some e); rw [hu] at h1; cases h1
      | _ => cases hs
    | true =>
      have hk := h.sts (T, ty) hm hs
      obtain ⟨x, hx, he⟩ := List.mem_map.1 hk
      obtain ⟨fs', h1, _, _, h4⟩ := h.fld x hx
      have he : x.1 = T := he
      rw [he, hu] at h1
      cases h1
      exact Option.isSome_iff_exists.1 h4
  spec := fun f s hs => (hl (f, s) (sget_mem hs)).1
  eqs := fun T ts hT => h.eqs (T, ts) (aget_mem hT)
  ord := h.ord }
/-! ### the table, asked -/
def vSame : Value → Value → Bool
  | .int k n, .int k' n' => decide (k = k') && decide (n = n')
  | .bool a, .bool b => decide (a = b)
  | .string a, .string b => decide (a.data = b.data)
  | .slice none 0 0, .slice none 0 0 => true
  | _, _ => false
theorem vSame_eq {u v : Value} (h : vSame u v = true) : u = v := by
  unfold vSame at h
  split at h
  · simp only [Bool.and_eq_true, decide_eq_true_eq] at h; rw [h.1, h.2]
  · simp only [decide_eq_true_eq] at h; rw [h]
  · rename_i a b
    simp only [decide_eq_true_eq] at h
    cases a; cases b; cases h; rfl
  · rfl
  · cases h
def vsSame : List Value → List Value → Bool
  | [], [] => true
  | u :: us, v :: vs => vSame u v && vsSame us vs
  | _, _ => false
theorem vsSame_eq : ∀ {us vs : List Value}, vsSame us vs = true → us = vs
  | [], [], _ => rfl
  | [], _ :: _, h => by cases h
  | _ :: _, [], h => by cases h
  | u :: us, v :: vs, h => by
    simp only [vsSame, Bool.and_eq_true] at h
    rw [vSame_eq h.1, vsSame_eq h.2]
def infoChk (P : Program) (x : Nat × Ty) : Bool :=
  match P.info? x.1 with
  | some i => Nat.beq i.size (esz x.2) && (Nat.ble i.bytes 1024 && (match i.zero with | some zv => vsSame zv.cells.toList (zvals x.2) | none => false))
  | none => false
theorem infoChk_ok {P : Program} {l : List (Nat × Ty)} (h : l.all (infoChk P) = true) : ∀ x ∈ l, ∃ i zv, P.info? x.1 = some i ∧ i.size = esz x.2 ∧ i.bytes ≤ 1024 ∧ i.zero = some zv ∧ zv.cells = (zvals x.2).toArray := by
  intro x hx
  have h := List.all_eq_true.1 h x hx
  unfold infoChk at h
  split at h
  · rename_i i hi
    simp only [Bool.and_eq_true] at h
    obtain ⟨h1, h2, h3⟩ := h
    split at h3
    · rename_i zv hz
      exact ⟨i, zv, hi, beqN h1, bleN h2, hz, by have := vsSame_eq h3; apply Array.ext'; simpa using this⟩
    · cases h3
  · cases h

theorem leC_self (i b : Nat) : leC i b i b = true := leC_iff.2 (.inr ⟨rfl, Nat.le_refl _⟩)
theorem leC_lt {a b i j : Nat} (h : a < i) : leC a b i j = true := leC_iff.2 (.inl h)
end Go.Gm

/- Contracts of functions that are not walked by the evaluator: one plain result, nothing turned. -/
namespace Go.Gm
open Go

variable {wl : World} {w w' : World} {Mf ROa : Nat → Prop}

theorem valRd_v {Pr : Nat → Prop} {t : Ty} {x : El t} {v u : Value} (he : enc t x = [.v v]) (hs : isSt t = false) (h : ValRd w Pr t x u) : u = v := by
  obtain ⟨us, hf, hr⟩ := h
  obtain ⟨e, _⟩ := hf.size hs
  subst e
  rw [he] at hr
  obtain ⟨z, hz, hc⟩ := hr.2 0 (.v v) rfl
  have hz : u = z := by simpa using hz
  rw [hz]; exact hc
theorem valOwn_v {F : Nat → Prop} {t : Ty} {x : El t} {v : Value} (he : enc t x = [.v v]) (hs : isSt t = false) (hf : flatB v = true) : ValOwn w F t x v := by
  refine ⟨#[v], by simp [Form, hs, hf], fun _ _ => False, fun _ _ h => h.elim, fun _ _ _ h => h.elim, by simp [he], fun j c hc => ?_⟩
  rw [he] at hc
  cases j with
  | zero => simp only [List.getElem?_cons_zero, Option.some.injEq] at hc; subst hc; exact ⟨v, rfl, rfl⟩
  | succ j => simp at hc

theorem backs_none : ∀ {ms : List Am} {ds : List Dt} {us : List Value}, ms.all Am.reads = true → ms.length = us.length → ds.length = us.length → BacksOk wl w ms ds us [] []
  | [], [], [], _, _, _ => .nil
  | m :: ms, d :: ds, u :: us, h, h1, h2 => by
    simp only [List.all_cons, Bool.and_eq_true] at h
    refine .skip ?_ (backs_none h.2 (by simpa using h1) (by simpa using h2))
    cases m <;> first | trivial | exact absurd h.1 (by simp [Am.reads])
  | [], _ :: _, [], _, _, h => by simp at h
  | [], _, _ :: _, _, h, _ => by simp at h
  | _ :: _, _, [], _, h, _ => by simp at h
  | _ :: _, [], _ :: _, _, _, h => by simp at h

theorem After.one {s : Spec} (hown : s.own = true) (hres : s.res = [false]) (hm : s.modes.all Am.reads = true) {ds : List Dt} {us : List Value} (h1 : s.modes.length = us.length) (h2 : ds.length = us.length) {t : Ty} {x : El t} {v : Value} (he : enc t x = [.v v])
    (hs : isSt t = false) (hf : flatB v = true) : After wl w w Mf ROa s ds us [.d t x] (.returned v) := by
  refine ⟨⟨[v], [fun _ => False], [], rfl, ?_, ?_, List.Pairwise.nil, fun B hB => by simp at hB, fun _ => ⟨by unfold PairApart; simp, fun G hG k hk => ?_⟩, fun e => absurd (hown.symm.trans e) (by simp), fun G hG B hB => by simp at hB, fun G hG k hk => ?_, fun B hB => by simp at hB⟩, ⟨rfl, rfl, rfl, Nat.le_refl _, fun _ _ _ => rfl⟩⟩
  · rw [hown, hres]; exact .val (by simpa using valOwn_v he hs hf) .nil
  · rw [hres]; exact backs_none hm h1 h2
  · have : G = fun _ => False := by simpa using hG
    subst this; exact hk.elim
  · have : G = fun _ => False := by simpa using hG
    subst this; exact hk.elim

/-- A contract of one plain result, from what the function does with these values. -/
theorem spec_plain {P : Program} {f : Nat} {modes : List Am} {q : List Dt → Option (Bool × List Dt)} (hm : modes.all Am.reads = true)
    (h : ∀ ds outs, q ds = some (true, outs) → ∃ t x v, outs = [.d t x] ∧ enc t x = [.v v] ∧ isSt t = false ∧ flatB v = true ∧
      ∀ {wl : World} w us ROa Fs, ArgsOk wl w ROa modes ds us Fs → Calls P f us.toArray w fun e w' => e = .returned v ∧ w' = w) : SpecOk P f (Spec.of modes [false] true q) := by
  intro R ds k r hr wl w us Mf ROa Fs hWl hBs hA hp hFM hRM hRlt hMlt
  obtain ⟨outs, hq, hk⟩ := Spec.of_some hr
  obtain ⟨t, x, v, rfl, he, hs, hf, hc⟩ := h ds outs hq
  refine Calls.mono (hc w us ROa Fs hA) ?_
  rintro e w' ⟨rfl, rfl⟩
  obtain ⟨h1, h2, _⟩ := hA.len
  exact ⟨_, hk, After.one rfl rfl hm h1 h2 he hs hf⟩

end Go.Gm

/- Plain laws of loops and of the small functions. -/
namespace Go.Gm
open Go

theorem wrap_id {x : Int} (h : -9223372036854775808 ≤ x) (h' : x < 9223372036854775808) : IntKind.wrap .i64 x = x := by
  rw [IntKind.wrap_i64]; omega

theorem sEq_iff {x y : ByteArray} : sEq x y = true ↔ x = y := by
  unfold sEq
  constructor
  · intro h
    have h := (beq_iff_eq.1 h)
    rw [ByteArray.toList_eq, ByteArray.toList_eq] at h
    cases x; cases y
    simp at h
    rw [h]
  · rintro rfl; simp
theorem sEq_self (x : ByteArray) : sEq x x = true := sEq_iff.2 rfl

/-- A counter below the length. -/
theorem idx {n j : Nat} (h : j < n) (hb : n ≤ 9223372036854775807) : decide ((j : Int) < (n : Int)) = true ∧ decide ((0 : Int) ≤ (j : Int)) = true ∧ IntKind.wrap .i64 ((j : Int) + (1 : Int)) = ((j + 1 : Nat) : Int) ∧ Int.toNat (j : Int) = j :=
  ⟨by simp; omega, by simp, by rw [wrap_id (by omega) (by omega)]; omega, by simp⟩
theorem idxE (n : Nat) : decide ((n : Int) < (n : Int)) = false := by simp

def allN (p : Nat → Bool) : Nat → Nat → Bool
  | _, 0 => true
  | j, d + 1 => p j && allN p (j + 1) d

theorem loop_idx {R : Type} {F : Nat → Int → Option R} {n : Nat} {p : Nat → Bool} {good bad : Option R} (hs : ∀ m j, j < n → F (m + 1) (j : Int) = cond (p j) (F m ((j + 1 : Nat) : Int)) bad) (he : ∀ m, F (m + 1) (n : Int) = good) :
    ∀ d j m, j + d = n → d < m → F m (j : Int) = cond (allN p j d) good bad := by
  intro d
  induction d with
  | zero =>
    intro j m hj hm
    obtain ⟨m, rfl⟩ : ∃ m', m = m' + 1 := ⟨m - 1, by omega⟩
    have : j = n := by omega
    subst this
    rw [he]; rfl
  | succ d ih =>
    intro j m hj hm
    obtain ⟨m, rfl⟩ : ∃ m', m = m' + 1 := ⟨m - 1, by omega⟩
    rw [hs m j (by omega), ih (j + 1) m (by omega) (by omega)]
    simp only [allN]
    cases p j <;> rfl

theorem allN_iff {p : Nat → Bool} : ∀ {d j : Nat}, allN p j d = true ↔ ∀ i, j ≤ i → i < j + d → p i = true
  | 0, j => by simp only [allN, true_iff]; intro i h1 h2; omega
  | d + 1, j => by
    simp only [allN, Bool.and_eq_true, allN_iff]
    constructor
    · rintro ⟨h1, h2⟩ i h3 h4
      by_cases e : i = j
      · subst e; exact h1
      · exact h2 i (by omega) (by omega)
    · intro h
      exact ⟨h j (Nat.le_refl _) (by omega), fun i h1 h2 => h i (by omega) (by omega)⟩
end Go.Gm

/- Plain laws: loops over lists. -/
namespace Go.Gm
open Go

theorem lt_of_get {α : Type} {xs : List α} {j : Nat} {x : α} (h : xs[j]? = some x) : j < xs.length := by
  rcases Nat.lt_or_ge j xs.length with h' | h'
  · exact h'
  · simp [List.getElem?_eq_none h'] at h
theorem drop_get {α : Type} {xs : List α} {j : Nat} (h : j < xs.length) : ∃ x, xs[j]? = some x ∧ xs.drop j = x :: xs.drop (j + 1) :=
  ⟨xs[j], by simp [h], by simp⟩

/-! ### sizes -/
def WIDE : Nat := 9223372036854775807
def okStr (s : ByteArray) : Bool := Nat.ble s.size WIDE
def okL {α : Type} (f : α → Bool) (xs : List α) : Bool := Nat.ble xs.length WIDE && xs.all f
end Go.Gm

/- From what an input reads as to typed values. Its printed part by mk57.py of this session. -/
namespace Go.Gm
open Go

def cellTy : Cv → Ty
  | .v (.int k _) => .i k
  | .v (.bool _) => .bool
  | .v (.string _) => .str
  | .l t _ => .sl t
  | _ => .bool
/-- The leaves of a type. -/
def sig (t : Ty) : List Ty := (enc t (zero t)).map cellTy
def CTy : Ty → Cv → Prop
  | .i k, c => ∃ n, c = .v (.int k n)
  | .bool, c => ∃ b, c = .v (.bool b)
  | .str, c => ∃ s, c = .v (.string s)
  | .sl e, c => ∃ xs, c = .l e xs
  | _, _ => False
def TyL : List Ty → List Cv → Prop
  | [], [] => True
  | a :: l, c :: cs => CTy a c ∧ TyL l cs
  | _, _ => False
theorem TyL.cons {a : Ty} {l : List Ty} : ∀ {cs : List Cv}, TyL (a :: l) cs → ∃ c cs', cs = c :: cs' ∧ CTy a c ∧ TyL l cs'
  | c :: cs, h => ⟨c, cs, rfl, h.1, h.2⟩
theorem TyL.nil : ∀ {cs : List Cv}, TyL [] cs → cs = []
  | [], _ => rfl
theorem TyL.append : ∀ {l m : List Ty} {cs ds : List Cv}, TyL l cs → TyL m ds → TyL (l ++ m) (cs ++ ds)
  | [], _, [], _, _, h => h
  | [], _, _ :: _, _, h, _ => h.elim
  | _ :: _, _, [], _, h, _ => h.elim
  | _ :: _, _, _ :: _, _, h, h' => ⟨h.1, TyL.append h.2 h'⟩
theorem TyL.len : ∀ {l : List Ty} {cs : List Cv}, TyL l cs → cs.length = l.length
  | [], [], _ => rfl
  | [], _ :: _, h => h.elim
  | _ :: _, [], h => h.elim
  | _ :: _, _ :: _, h => by simp [TyL.len h.2]

theorem enc_ty_node (x : NodeT) : TyL (sig .node) (enc .node x) := ⟨⟨_, rfl⟩, ⟨_, rfl⟩, ⟨_, rfl⟩, ⟨_, rfl⟩, ⟨_, rfl⟩, trivial⟩
theorem full_node {cs : List Cv} (h0 : TyL (sig .node) cs) : ∃ x : NodeT, enc .node x = cs := by
  obtain ⟨_, _, rfl, ⟨a0, rfl⟩, h1⟩ := TyL.cons h0
  obtain ⟨_, _, rfl, ⟨a1, rfl⟩, h2⟩ := TyL.cons h1
  obtain ⟨_, _, rfl, ⟨a2, rfl⟩, h3⟩ := TyL.cons h2
  obtain ⟨_, _, rfl, ⟨a3, rfl⟩, h4⟩ := TyL.cons h3
  obtain ⟨_, _, rfl, ⟨a4, rfl⟩, h5⟩ := TyL.cons h4
  cases TyL.nil h5
  exact ⟨⟨a0, a1, a2, a3, a4⟩, rfl⟩
theorem enc_ty_metric (x : MetricT) : TyL (sig .metric) (enc .metric x) := ⟨⟨_, rfl⟩, ⟨_, rfl⟩, ⟨_, rfl⟩, trivial⟩
theorem full_metric {cs : List Cv} (h0 : TyL (sig .metric) cs) : ∃ x : MetricT, enc .metric x = cs := by
  obtain ⟨_, _, rfl, ⟨a0, rfl⟩, h1⟩ := TyL.cons h0
  obtain ⟨_, _, rfl, ⟨a1, rfl⟩, h2⟩ := TyL.cons h1
  obtain ⟨_, _, rfl, ⟨a2, rfl⟩, h3⟩ := TyL.cons h2
  cases TyL.nil h3
  exact ⟨⟨a0, a1, a2⟩, rfl⟩
theorem enc_ty_pace (x : PaceT) : TyL (sig .pace) (enc .pace x) := ⟨⟨_, rfl⟩, ⟨_, rfl⟩, ⟨_, rfl⟩, ⟨_, rfl⟩, trivial⟩
theorem full_pace {cs : List Cv} (h0 : TyL (sig .pace) cs) : ∃ x : PaceT, enc .pace x = cs := by
  obtain ⟨_, _, rfl, ⟨a0, rfl⟩, h1⟩ := TyL.cons h0
  obtain ⟨_, _, rfl, ⟨a1, rfl⟩, h2⟩ := TyL.cons h1
  obtain ⟨_, _, rfl, ⟨a2, rfl⟩, h3⟩ := TyL.cons h2
  obtain ⟨_, _, rfl, ⟨a3, rfl⟩, h4⟩ := TyL.cons h3
  cases TyL.nil h4
  exact ⟨⟨a0, a1, a2, a3⟩, rfl⟩
theorem enc_ty_note (x : NoteT) : TyL (sig .note) (enc .note x) := ⟨⟨_, rfl⟩, ⟨_, rfl⟩, trivial⟩
theorem full_note {cs : List Cv} (h0 : TyL (sig .note) cs) : ∃ x : NoteT, enc .note x = cs := by
  obtain ⟨_, _, rfl, ⟨a0, rfl⟩, h1⟩ := TyL.cons h0
  obtain ⟨_, _, rfl, ⟨a1, rfl⟩, h2⟩ := TyL.cons h1
  cases TyL.nil h2
  exact ⟨⟨a0, a1⟩, rfl⟩
theorem enc_ty_order (x : OrderT) : TyL (sig .order) (enc .order x) := ⟨⟨_, rfl⟩, ⟨_, rfl⟩, ⟨_, rfl⟩, ⟨_, rfl⟩, ⟨_, rfl⟩, ⟨_, rfl⟩, ⟨_, rfl⟩, ⟨_, rfl⟩, ⟨_, rfl⟩, ⟨_, rfl⟩, trivial⟩
theorem full_order {cs : List Cv} (h0 : TyL (sig .order) cs) : ∃ x : OrderT, enc .order x = cs := by
  obtain ⟨_, _, rfl, ⟨a0, rfl⟩, h1⟩ := TyL.cons h0
  obtain ⟨_, _, rfl, ⟨a1, rfl⟩, h2⟩ := TyL.cons h1
  obtain ⟨_, _, rfl, ⟨a2, rfl⟩, h3⟩ := TyL.cons h2
  obtain ⟨_, _, rfl, ⟨a3, rfl⟩, h4⟩ := TyL.cons h3
  obtain ⟨_, _, rfl, ⟨a4, rfl⟩, h5⟩ := TyL.cons h4
  obtain ⟨_, _, rfl, ⟨a5, rfl⟩, h6⟩ := TyL.cons h5
  obtain ⟨_, _, rfl, ⟨a6, rfl⟩, h7⟩ := TyL.cons h6
  obtain ⟨_, _, rfl, ⟨a7, rfl⟩, h8⟩ := TyL.cons h7
  obtain ⟨_, _, rfl, ⟨a8, rfl⟩, h9⟩ := TyL.cons h8
  obtain ⟨_, _, rfl, ⟨a9, rfl⟩, h10⟩ := TyL.cons h9
  cases TyL.nil h10
  exact ⟨⟨a0, a1, a2, a3, a4, ⟨a5, a6, a7, a8⟩, a9⟩, rfl⟩
theorem enc_ty_item (x : ItemT) : TyL (sig .item) (enc .item x) := ⟨⟨_, rfl⟩, ⟨_, rfl⟩, ⟨_, rfl⟩, ⟨_, rfl⟩, ⟨_, rfl⟩, ⟨_, rfl⟩, ⟨_, rfl⟩, ⟨_, rfl⟩, ⟨_, rfl⟩, ⟨_, rfl⟩, ⟨_, rfl⟩, trivial⟩
theorem full_item {cs : List Cv} (h0 : TyL (sig .item) cs) : ∃ x : ItemT, enc .item x = cs := by
  obtain ⟨_, _, rfl, ⟨a0, rfl⟩, h1⟩ := TyL.cons h0
  obtain ⟨_, _, rfl, ⟨a1, rfl⟩, h2⟩ := TyL.cons h1
  obtain ⟨_, _, rfl, ⟨a2, rfl⟩, h3⟩ := TyL.cons h2
  obtain ⟨_, _, rfl, ⟨a3, rfl⟩, h4⟩ := TyL.cons h3
  obtain ⟨_, _, rfl, ⟨a4, rfl⟩, h5⟩ := TyL.cons h4
  obtain ⟨_, _, rfl, ⟨a5, rfl⟩, h6⟩ := TyL.cons h5
  obtain ⟨_, _, rfl, ⟨a6, rfl⟩, h7⟩ := TyL.cons h6
  obtain ⟨_, _, rfl, ⟨a7, rfl⟩, h8⟩ := TyL.cons h7
  obtain ⟨_, _, rfl, ⟨a8, rfl⟩, h9⟩ := TyL.cons h8
  obtain ⟨_, _, rfl, ⟨a9, rfl⟩, h10⟩ := TyL.cons h9
  obtain ⟨_, _, rfl, ⟨a10, rfl⟩, h11⟩ := TyL.cons h10
  cases TyL.nil h11
  exact ⟨⟨⟨a0, a1, a2, a3, a4, ⟨a5, a6, a7, a8⟩, a9⟩, a10⟩, rfl⟩
theorem enc_ty_store (x : StoreT) : TyL (sig .store) (enc .store x) := ⟨⟨_, rfl⟩, ⟨_, rfl⟩, trivial⟩
theorem full_store {cs : List Cv} (h0 : TyL (sig .store) cs) : ∃ x : StoreT, enc .store x = cs := by
  obtain ⟨_, _, rfl, ⟨a0, rfl⟩, h1⟩ := TyL.cons h0
  obtain ⟨_, _, rfl, ⟨a1, rfl⟩, h2⟩ := TyL.cons h1
  cases TyL.nil h2
  exact ⟨⟨a0, a1⟩, rfl⟩
theorem enc_ty_answer (x : AnswerT) : TyL (sig .answer) (enc .answer x) := ⟨⟨_, rfl⟩, ⟨_, rfl⟩, ⟨_, rfl⟩, trivial⟩
theorem full_answer {cs : List Cv} (h0 : TyL (sig .answer) cs) : ∃ x : AnswerT, enc .answer x = cs := by
  obtain ⟨_, _, rfl, ⟨a0, rfl⟩, h1⟩ := TyL.cons h0
  obtain ⟨_, _, rfl, ⟨a1, rfl⟩, h2⟩ := TyL.cons h1
  obtain ⟨_, _, rfl, ⟨a2, rfl⟩, h3⟩ := TyL.cons h2
  cases TyL.nil h3
  exact ⟨⟨a0, a1, a2⟩, rfl⟩
theorem enc_ty_sample (x : SampleT) : TyL (sig .sample) (enc .sample x) := ⟨⟨_, rfl⟩, ⟨_, rfl⟩, trivial⟩
theorem full_sample {cs : List Cv} (h0 : TyL (sig .sample) cs) : ∃ x : SampleT, enc .sample x = cs := by
  obtain ⟨_, _, rfl, ⟨a0, rfl⟩, h1⟩ := TyL.cons h0
  obtain ⟨_, _, rfl, ⟨a1, rfl⟩, h2⟩ := TyL.cons h1
  cases TyL.nil h2
  exact ⟨⟨a0, a1⟩, rfl⟩
theorem enc_ty_rcd (x : RcdT) : TyL (sig .rcd) (enc .rcd x) := ⟨⟨_, rfl⟩, ⟨_, rfl⟩, trivial⟩
theorem full_rcd {cs : List Cv} (h0 : TyL (sig .rcd) cs) : ∃ x : RcdT, enc .rcd x = cs := by
  obtain ⟨_, _, rfl, ⟨a0, rfl⟩, h1⟩ := TyL.cons h0
  obtain ⟨_, _, rfl, ⟨a1, rfl⟩, h2⟩ := TyL.cons h1
  cases TyL.nil h2
  exact ⟨⟨a0, a1⟩, rfl⟩
theorem enc_ty_scale (x : ScaleT) : TyL (sig .scale) (enc .scale x) := ⟨⟨_, rfl⟩, ⟨_, rfl⟩, ⟨_, rfl⟩, trivial⟩
theorem full_scale {cs : List Cv} (h0 : TyL (sig .scale) cs) : ∃ x : ScaleT, enc .scale x = cs := by
  obtain ⟨_, _, rfl, ⟨a0, rfl⟩, h1⟩ := TyL.cons h0
  obtain ⟨_, _, rfl, ⟨a1, rfl⟩, h2⟩ := TyL.cons h1
  obtain ⟨_, _, rfl, ⟨a2, rfl⟩, h3⟩ := TyL.cons h2
  cases TyL.nil h3
  exact ⟨⟨a0, a1, a2⟩, rfl⟩
theorem enc_ty_feed (x : FeedT) : TyL (sig .feed) (enc .feed x) := ⟨⟨_, rfl⟩, ⟨_, rfl⟩, trivial⟩
theorem full_feed {cs : List Cv} (h0 : TyL (sig .feed) cs) : ∃ x : FeedT, enc .feed x = cs := by
  obtain ⟨_, _, rfl, ⟨a0, rfl⟩, h1⟩ := TyL.cons h0
  obtain ⟨_, _, rfl, ⟨a1, rfl⟩, h2⟩ := TyL.cons h1
  cases TyL.nil h2
  exact ⟨⟨a0, a1⟩, rfl⟩
theorem enc_ty_told (x : ToldT) : TyL (sig .told) (enc .told x) := ⟨⟨_, rfl⟩, ⟨_, rfl⟩, ⟨_, rfl⟩, trivial⟩
theorem full_told {cs : List Cv} (h0 : TyL (sig .told) cs) : ∃ x : ToldT, enc .told x = cs := by
  obtain ⟨_, _, rfl, ⟨a0, rfl⟩, h1⟩ := TyL.cons h0
  obtain ⟨_, _, rfl, ⟨a1, rfl⟩, h2⟩ := TyL.cons h1
  obtain ⟨_, _, rfl, ⟨a2, rfl⟩, h3⟩ := TyL.cons h2
  cases TyL.nil h3
  exact ⟨⟨a0, a1, a2⟩, rfl⟩
theorem enc_ty_world (x : WorldT) : TyL (sig .world) (enc .world x) := ⟨⟨_, rfl⟩, ⟨_, rfl⟩, ⟨_, rfl⟩, ⟨_, rfl⟩, ⟨_, rfl⟩, trivial⟩
theorem full_world {cs : List Cv} (h0 : TyL (sig .world) cs) : ∃ x : WorldT, enc .world x = cs := by
  obtain ⟨_, _, rfl, ⟨a0, rfl⟩, h1⟩ := TyL.cons h0
  obtain ⟨_, _, rfl, ⟨a1, rfl⟩, h2⟩ := TyL.cons h1
  obtain ⟨_, _, rfl, ⟨a2, rfl⟩, h3⟩ := TyL.cons h2
  obtain ⟨_, _, rfl, ⟨a3, rfl⟩, h4⟩ := TyL.cons h3
  obtain ⟨_, _, rfl, ⟨a4, rfl⟩, h5⟩ := TyL.cons h4
  cases TyL.nil h5
  exact ⟨⟨⟨a0, a1⟩, a2, a3, a4⟩, rfl⟩
theorem enc_ty_deed (x : DeedT) : TyL (sig .deed) (enc .deed x) := ⟨⟨_, rfl⟩, ⟨_, rfl⟩, ⟨_, rfl⟩, ⟨_, rfl⟩, ⟨_, rfl⟩, ⟨_, rfl⟩, trivial⟩
theorem full_deed {cs : List Cv} (h0 : TyL (sig .deed) cs) : ∃ x : DeedT, enc .deed x = cs := by
  obtain ⟨_, _, rfl, ⟨a0, rfl⟩, h1⟩ := TyL.cons h0
  obtain ⟨_, _, rfl, ⟨a1, rfl⟩, h2⟩ := TyL.cons h1
  obtain ⟨_, _, rfl, ⟨a2, rfl⟩, h3⟩ := TyL.cons h2
  obtain ⟨_, _, rfl, ⟨a3, rfl⟩, h4⟩ := TyL.cons h3
  obtain ⟨_, _, rfl, ⟨a4, rfl⟩, h5⟩ := TyL.cons h4
  obtain ⟨_, _, rfl, ⟨a5, rfl⟩, h6⟩ := TyL.cons h5
  cases TyL.nil h6
  exact ⟨⟨a0, a1, a2, a3, a4, a5⟩, rfl⟩
theorem enc_ty_pop (x : PopT) : TyL (sig .pop) (enc .pop x) := ⟨⟨_, rfl⟩, ⟨_, rfl⟩, ⟨_, rfl⟩, ⟨_, rfl⟩, ⟨_, rfl⟩, ⟨_, rfl⟩, ⟨_, rfl⟩, ⟨_, rfl⟩, trivial⟩
theorem full_pop {cs : List Cv} (h0 : TyL (sig .pop) cs) : ∃ x : PopT, enc .pop x = cs := by
  obtain ⟨_, _, rfl, ⟨a0, rfl⟩, h1⟩ := TyL.cons h0
  obtain ⟨_, _, rfl, ⟨a1, rfl⟩, h2⟩ := TyL.cons h1
  obtain ⟨_, _, rfl, ⟨a2, rfl⟩, h3⟩ := TyL.cons h2
  obtain ⟨_, _, rfl, ⟨a3, rfl⟩, h4⟩ := TyL.cons h3
  obtain ⟨_, _, rfl, ⟨a4, rfl⟩, h5⟩ := TyL.cons h4
  obtain ⟨_, _, rfl, ⟨a5, rfl⟩, h6⟩ := TyL.cons h5
  obtain ⟨_, _, rfl, ⟨a6, rfl⟩, h7⟩ := TyL.cons h6
  obtain ⟨_, _, rfl, ⟨a7, rfl⟩, h8⟩ := TyL.cons h7
  cases TyL.nil h8
  exact ⟨⟨a0, a1, a2, ⟨a3, a4, a5, a6, a7⟩⟩, rfl⟩
theorem enc_ty_rule (x : RuleT) : TyL (sig .rule) (enc .rule x) := ⟨⟨_, rfl⟩, ⟨_, rfl⟩, ⟨_, rfl⟩, ⟨_, rfl⟩, ⟨_, rfl⟩, ⟨_, rfl⟩, trivial⟩
theorem full_rule {cs : List Cv} (h0 : TyL (sig .rule) cs) : ∃ x : RuleT, enc .rule x = cs := by
  obtain ⟨_, _, rfl, ⟨a0, rfl⟩, h1⟩ := TyL.cons h0
  obtain ⟨_, _, rfl, ⟨a1, rfl⟩, h2⟩ := TyL.cons h1
  obtain ⟨_, _, rfl, ⟨a2, rfl⟩, h3⟩ := TyL.cons h2
  obtain ⟨_, _, rfl, ⟨a3, rfl⟩, h4⟩ := TyL.cons h3
  obtain ⟨_, _, rfl, ⟨a4, rfl⟩, h5⟩ := TyL.cons h4
  obtain ⟨_, _, rfl, ⟨a5, rfl⟩, h6⟩ := TyL.cons h5
  cases TyL.nil h6
  exact ⟨⟨a0, a1, a2, a3, a4, a5⟩, rfl⟩
theorem enc_ty_pick (x : PickT) : TyL (sig .pick) (enc .pick x) := ⟨⟨_, rfl⟩, ⟨_, rfl⟩, ⟨_, rfl⟩, trivial⟩
theorem full_pick {cs : List Cv} (h0 : TyL (sig .pick) cs) : ∃ x : PickT, enc .pick x = cs := by
  obtain ⟨_, _, rfl, ⟨a0, rfl⟩, h1⟩ := TyL.cons h0
  obtain ⟨_, _, rfl, ⟨a1, rfl⟩, h2⟩ := TyL.cons h1
  obtain ⟨_, _, rfl, ⟨a2, rfl⟩, h3⟩ := TyL.cons h2
  cases TyL.nil h3
  exact ⟨⟨a0, a1, a2⟩, rfl⟩
theorem enc_ty_event (x : EventT) : TyL (sig .event) (enc .event x) := ⟨⟨_, rfl⟩, ⟨_, rfl⟩, ⟨_, rfl⟩, ⟨_, rfl⟩, ⟨_, rfl⟩, ⟨_, rfl⟩, ⟨_, rfl⟩, ⟨_, rfl⟩, ⟨_, rfl⟩, ⟨_, rfl⟩, ⟨_, rfl⟩, ⟨_, rfl⟩, ⟨_, rfl⟩, trivial⟩
theorem full_event {cs : List Cv} (h0 : TyL (sig .event) cs) : ∃ x : EventT, enc .event x = cs := by
  obtain ⟨_, _, rfl, ⟨a0, rfl⟩, h1⟩ := TyL.cons h0
  obtain ⟨_, _, rfl, ⟨a1, rfl⟩, h2⟩ := TyL.cons h1
  obtain ⟨_, _, rfl, ⟨a2, rfl⟩, h3⟩ := TyL.cons h2
  obtain ⟨_, _, rfl, ⟨a3, rfl⟩, h4⟩ := TyL.cons h3
  obtain ⟨_, _, rfl, ⟨a4, rfl⟩, h5⟩ := TyL.cons h4
  obtain ⟨_, _, rfl, ⟨a5, rfl⟩, h6⟩ := TyL.cons h5
  obtain ⟨_, _, rfl, ⟨a6, rfl⟩, h7⟩ := TyL.cons h6
  obtain ⟨_, _, rfl, ⟨a7, rfl⟩, h8⟩ := TyL.cons h7
  obtain ⟨_, _, rfl, ⟨a8, rfl⟩, h9⟩ := TyL.cons h8
  obtain ⟨_, _, rfl, ⟨a9, rfl⟩, h10⟩ := TyL.cons h9
  obtain ⟨_, _, rfl, ⟨a10, rfl⟩, h11⟩ := TyL.cons h10
  obtain ⟨_, _, rfl, ⟨a11, rfl⟩, h12⟩ := TyL.cons h11
  obtain ⟨_, _, rfl, ⟨a12, rfl⟩, h13⟩ := TyL.cons h12
  cases TyL.nil h13
  exact ⟨⟨a0, a1, ⟨⟨a2, a3, a4, a5, a6, ⟨a7, a8, a9, a10⟩, a11⟩, a12⟩⟩, rfl⟩
theorem enc_ty_hist (x : HistT) : TyL (sig .hist) (enc .hist x) := ⟨⟨_, rfl⟩, ⟨_, rfl⟩, trivial⟩
theorem full_hist {cs : List Cv} (h0 : TyL (sig .hist) cs) : ∃ x : HistT, enc .hist x = cs := by
  obtain ⟨_, _, rfl, ⟨a0, rfl⟩, h1⟩ := TyL.cons h0
  obtain ⟨_, _, rfl, ⟨a1, rfl⟩, h2⟩ := TyL.cons h1
  cases TyL.nil h2
  exact ⟨⟨a0, a1⟩, rfl⟩
theorem enc_ty_fail (x : FailT) : TyL (sig .fail) (enc .fail x) := ⟨⟨_, rfl⟩, ⟨_, rfl⟩, trivial⟩
theorem full_fail {cs : List Cv} (h0 : TyL (sig .fail) cs) : ∃ x : FailT, enc .fail x = cs := by
  obtain ⟨_, _, rfl, ⟨a0, rfl⟩, h1⟩ := TyL.cons h0
  obtain ⟨_, _, rfl, ⟨a1, rfl⟩, h2⟩ := TyL.cons h1
  cases TyL.nil h2
  exact ⟨⟨a0, a1⟩, rfl⟩
theorem enc_ty_work (x : WorkT) : TyL (sig .work) (enc .work x) := ⟨⟨_, rfl⟩, ⟨_, rfl⟩, ⟨_, rfl⟩, ⟨_, rfl⟩, trivial⟩
theorem full_work {cs : List Cv} (h0 : TyL (sig .work) cs) : ∃ x : WorkT, enc .work x = cs := by
  obtain ⟨_, _, rfl, ⟨a0, rfl⟩, h1⟩ := TyL.cons h0
  obtain ⟨_, _, rfl, ⟨a1, rfl⟩, h2⟩ := TyL.cons h1
  obtain ⟨_, _, rfl, ⟨a2, rfl⟩, h3⟩ := TyL.cons h2
  obtain ⟨_, _, rfl, ⟨a3, rfl⟩, h4⟩ := TyL.cons h3
  cases TyL.nil h4
  exact ⟨⟨a0, a1, a2, a3⟩, rfl⟩
theorem enc_ty_row (x : RowT) : TyL (sig .row) (enc .row x) := ⟨⟨_, rfl⟩, ⟨_, rfl⟩, ⟨_, rfl⟩, trivial⟩
theorem full_row {cs : List Cv} (h0 : TyL (sig .row) cs) : ∃ x : RowT, enc .row x = cs := by
  obtain ⟨_, _, rfl, ⟨a0, rfl⟩, h1⟩ := TyL.cons h0
  obtain ⟨_, _, rfl, ⟨a1, rfl⟩, h2⟩ := TyL.cons h1
  obtain ⟨_, _, rfl, ⟨a2, rfl⟩, h3⟩ := TyL.cons h2
  cases TyL.nil h3
  exact ⟨⟨a0, a1, a2⟩, rfl⟩
theorem enc_ty_reader (x : ReaderT) : TyL (sig .reader) (enc .reader x) := ⟨⟨_, rfl⟩, ⟨_, rfl⟩, ⟨_, rfl⟩, ⟨_, rfl⟩, trivial⟩
theorem full_reader {cs : List Cv} (h0 : TyL (sig .reader) cs) : ∃ x : ReaderT, enc .reader x = cs := by
  obtain ⟨_, _, rfl, ⟨a0, rfl⟩, h1⟩ := TyL.cons h0
  obtain ⟨_, _, rfl, ⟨a1, rfl⟩, h2⟩ := TyL.cons h1
  obtain ⟨_, _, rfl, ⟨a2, rfl⟩, h3⟩ := TyL.cons h2
  obtain ⟨_, _, rfl, ⟨a3, rfl⟩, h4⟩ := TyL.cons h3
  cases TyL.nil h4
  exact ⟨⟨a0, a1, a2, a3⟩, rfl⟩
theorem enc_ty_outliner (x : OutlinerT) : TyL (sig .outliner) (enc .outliner x) := ⟨⟨_, rfl⟩, ⟨_, rfl⟩, ⟨_, rfl⟩, ⟨_, rfl⟩, trivial⟩
theorem full_outliner {cs : List Cv} (h0 : TyL (sig .outliner) cs) : ∃ x : OutlinerT, enc .outliner x = cs := by
  obtain ⟨_, _, rfl, ⟨a0, rfl⟩, h1⟩ := TyL.cons h0
  obtain ⟨_, _, rfl, ⟨a1, rfl⟩, h2⟩ := TyL.cons h1
  obtain ⟨_, _, rfl, ⟨a2, rfl⟩, h3⟩ := TyL.cons h2
  obtain ⟨_, _, rfl, ⟨a3, rfl⟩, h4⟩ := TyL.cons h3
  cases TyL.nil h4
  exact ⟨⟨a0, a1, a2, a3⟩, rfl⟩
theorem enc_ty_cur (x : CurT) : TyL (sig .cur) (enc .cur x) := ⟨⟨_, rfl⟩, ⟨_, rfl⟩, ⟨_, rfl⟩, trivial⟩
theorem full_cur {cs : List Cv} (h0 : TyL (sig .cur) cs) : ∃ x : CurT, enc .cur x = cs := by
  obtain ⟨_, _, rfl, ⟨a0, rfl⟩, h1⟩ := TyL.cons h0
  obtain ⟨_, _, rfl, ⟨a1, rfl⟩, h2⟩ := TyL.cons h1
  obtain ⟨_, _, rfl, ⟨a2, rfl⟩, h3⟩ := TyL.cons h2
  cases TyL.nil h3
  exact ⟨⟨a0, a1, a2⟩, rfl⟩
theorem enc_ty : ∀ (t : Ty) (x : El t), TyL (sig t) (enc t x)
  | .i _, _ => ⟨⟨_, rfl⟩, trivial⟩
  | .bool, _ => ⟨⟨_, rfl⟩, trivial⟩
  | .str, _ => ⟨⟨_, rfl⟩, trivial⟩
  | .sl _, _ => ⟨⟨_, rfl⟩, trivial⟩
  | .node, x => enc_ty_node x
  | .metric, x => enc_ty_metric x
  | .pace, x => enc_ty_pace x
  | .note, x => enc_ty_note x
  | .order, x => enc_ty_order x
  | .item, x => enc_ty_item x
  | .store, x => enc_ty_store x
  | .answer, x => enc_ty_answer x
  | .sample, x => enc_ty_sample x
  | .rcd, x => enc_ty_rcd x
  | .scale, x => enc_ty_scale x
  | .feed, x => enc_ty_feed x
  | .told, x => enc_ty_told x
  | .world, x => enc_ty_world x
  | .deed, x => enc_ty_deed x
  | .pop, x => enc_ty_pop x
  | .rule, x => enc_ty_rule x
  | .pick, x => enc_ty_pick x
  | .event, x => enc_ty_event x
  | .hist, x => enc_ty_hist x
  | .fail, x => enc_ty_fail x
  | .work, x => enc_ty_work x
  | .row, x => enc_ty_row x
  | .reader, x => enc_ty_reader x
  | .outliner, x => enc_ty_outliner x
  | .cur, x => enc_ty_cur x
theorem full : ∀ (t : Ty) {cs : List Cv}, TyL (sig t) cs → ∃ x : El t, enc t x = cs
  | .i k, _, h => by obtain ⟨_, _, rfl, ⟨a, rfl⟩, h2⟩ := TyL.cons h; cases TyL.nil h2; exact ⟨a, rfl⟩
  | .bool, _, h => by obtain ⟨_, _, rfl, ⟨a, rfl⟩, h2⟩ := TyL.cons h; cases TyL.nil h2; exact ⟨a, rfl⟩
  | .str, _, h => by obtain ⟨_, _, rfl, ⟨a, rfl⟩, h2⟩ := TyL.cons h; cases TyL.nil h2; exact ⟨a, rfl⟩
  | .sl e, _, h => by obtain ⟨_, _, rfl, ⟨a, rfl⟩, h2⟩ := TyL.cons h; cases TyL.nil h2; exact ⟨a, rfl⟩
  | .node, _, h => full_node h
  | .metric, _, h => full_metric h
  | .pace, _, h => full_pace h
  | .note, _, h => full_note h
  | .order, _, h => full_order h
  | .item, _, h => full_item h
  | .store, _, h => full_store h
  | .answer, _, h => full_answer h
  | .sample, _, h => full_sample h
  | .rcd, _, h => full_rcd h
  | .scale, _, h => full_scale h
  | .feed, _, h => full_feed h
  | .told, _, h => full_told h
  | .world, _, h => full_world h
  | .deed, _, h => full_deed h
  | .pop, _, h => full_pop h
  | .rule, _, h => full_rule h
  | .pick, _, h => full_pick h
  | .event, _, h => full_event h
  | .hist, _, h => full_hist h
  | .fail, _, h => full_fail h
  | .work, _, h => full_work h
  | .row, _, h => full_row h
  | .reader, _, h => full_reader h
  | .outliner, _, h => full_outliner h
  | .cur, _, h => full_cur h

/-- What is read is not longer than anything can be. -/
inductive WideC : Cv → Prop
  | int {k : IntKind} {n : Int} (h : (Lit.int k n).wf = true) : WideC (.v (.int k n))
  | bool {b : Bool} : WideC (.v (.bool b))
  | str {s : ByteArray} (h : s.size ≤ maxLen) : WideC (.v (.string s))
  | lst {t : Ty} {xs : List (El t)} (h : xs.length ≤ maxLen) (hx : ∀ x ∈ xs, ∀ c ∈ enc t x, WideC c) : WideC (.l t xs)

/-- Every field where the one ahead of it ends; the leaves of a struct are those of its fields. -/
def tiles (code : List (Nat × Ty)) : Nat → List (Nat × Nat) → Option (List Ty)
  | _, [] => some []
  | o, (off, ft) :: r => (aget code ft).bind fun t => cond (Nat.beq off o) ((tiles code (o + esz t) r).bind fun l => some (sig t ++ l)) none
def tileChk (t : Tab) : Bool := t.code.all fun x => !isSt x.2 || (match aget t.fld x.1 with | some L => decide (tiles t.code 0 L = some (sig x.2)) | none => false)

variable {H : Type} {en : TypeId × Value → H} {P : Program} {w : World} {tb : Tab}

theorem Tab.Ok.cells (h : tb.Ok P) {T : Nat} {t : Ty} (hT : aget tb.code T = some t) : P.cellsOf T = esz t := by
  obtain ⟨i, zv, h1, h2, _⟩ := h.info (T, t) (aget_mem hT)
  simp [Program.cellsOf, h1, h2]

def AnyB (w : World) (k : Nat) : Prop := k < w.heap.size

theorem RowL.append {Pr : Nat → Prop} : ∀ {cs ds : List Cv} {us vs : List Value}, RowL w Pr cs us → RowL w Pr ds vs → RowL w Pr (cs ++ ds) (us ++ vs)
  | [], _, [], _, _, h => h
  | [], _, _ :: _, _, h, _ => h.elim
  | _ :: _, _, [], _, h, _ => h.elim
  | _ :: _, _, _ :: _, _, h, h' => ⟨h.1, RowL.append h.2 h'⟩

/-- Fields, one by one. -/
theorem fields_rd {fuel : Nat} (hOk : tb.Ok P) (IH : ∀ (T : Nat) (t : Ty) (cs : List Value) (y : DataW H × List MemPlace), aget tb.code T = some t → DataW.trod en P w 0 (fun _ => true) true fuel T cs = some y →
      ∃ x : El t, RowL w (AnyB w) (enc t x) cs ∧ ∀ c ∈ enc t x, WideC c) (cs : List Value) :
    ∀ (fs : List Field) (o : Nat) (l : List Ty), tiles tb.code o (fs.map fun f => (f.offset, f.type)) = some l → (∀ f ∈ fs, ∃ y, DataW.trod en P w 0 (fun _ => true) true fuel f.type ((cs.drop f.offset).take (P.cellsOf f.type)) = some y) →
      cs.length = o + l.length → ∃ cvs, TyL l cvs ∧ RowL w (AnyB w) cvs (cs.drop o) ∧ ∀ c ∈ cvs, WideC c
  | [], o, l, ht, _, hl => by
    simp only [List.map_nil, tiles, Option.some.injEq] at ht
    subst ht
    refine ⟨[], trivial, ?_, fun c h => by cases h⟩
    rw [List.drop_of_length_le (by simpa using Nat.le_of_eq hl)]
    trivial
  | f :: fs, o, l, ht, hm, hl => by
    simp only [List.map_cons, tiles] at ht
    obtain ⟨t, hft, ht⟩ := bindS ht
    obtain ⟨ho, ht⟩ := condN ht
    obtain ⟨l', ht3, hl'⟩ := bindS ht
    have ho := beqN ho
    simp only [Option.some.injEq] at hl'
    subst hl'
    obtain ⟨y, hy⟩ := hm f (by simp)
    rw [hOk.cells hft, ho] at hy
    obtain ⟨x, hx1, hx2⟩ := IH f.type t _ y hft hy
    have hsz : (sig t).length = esz t := by
      have := (enc_ty t x).len
      rw [← this, enc_length]
    obtain ⟨cvs, h1, h2, h3⟩ := fields_rd hOk IH cs fs (o + esz t) l' ht3 (fun f h => hm f (by simp [h])) (by simp at hl; omega)
    refine ⟨enc t x ++ cvs, (enc_ty t x).append h1, ?_, fun c hc => (List.mem_append.1 hc).elim (hx2 c) (h3 c)⟩
    have e : cs.drop o = (cs.drop o).take (esz t) ++ cs.drop (o + esz t) := by
      rw [← List.drop_drop, List.take_append_drop]
    rw [e]
    exact hx1.append h2

end Go.Gm

/- From what an input reads as to typed values, whole. -/
namespace Go.Gm
open Go

variable {H : Type} {en : TypeId × Value → H} {P : Program} {w : World} {tb : Tab}

open Classical in
/-- A list that is read, out of its rows. -/
theorem RdSl.mk {Pr : Nat → Prop} {t : Ty} {xs : List (El t)} {b o cap : Nat} {cs : Array Value} {el : Nat} {fz : Nat × Nat} (hcap : xs.length ≤ cap) (hP : Pr b) (hb : w.heap[b]? = some (.cells cs el fz))
    (hr : ∀ (i : Nat) x (j : Nat) c, xs[i]? = some x → (enc t x)[j]? = some c → ∃ u, cs[o + i * esz t + j]? = some u ∧ CRd w Pr c u) : RdSl w Pr t xs (.slice (some ⟨b, o, none⟩) xs.length cap) := by
  let Good : Nat → Nat → (Path → Value) → Prop := fun i j f => ∀ x (t' : Ty) (ys : List (El t')), xs[i]? = some x → (enc t x)[j]? = some (.l t' ys) → cs[o + i * esz t + j]? = some (f []) ∧ TreeRd w Pr t' ys f
  have hgood : ∀ i j, ∃ f, Good i j f := by
    intro i j
    by_cases h : ∃ (x : El t) (t' : Ty) (ys : List (El t')), xs[i]? = some x ∧ (enc t x)[j]? = some (.l t' ys)
    · obtain ⟨x, t', ys, hx, hc⟩ := h
      obtain ⟨u, hu, hrd⟩ := hr i x j _ hx hc
      obtain ⟨av, h0, h1⟩ := hrd
      refine ⟨av, fun x2 t2 ys2 hx2 hc2 => ?_⟩
      rw [hx] at hx2; cases hx2
      rw [hc] at hc2; cases hc2
      exact ⟨by rw [h0]; exact hu, h1⟩
    · exact ⟨fun _ => .nilFunc, fun x t' ys hx hc => (h ⟨x, t', ys, hx, hc⟩).elim⟩
  let kid : Nat → Nat → Path → Value := fun i j => Classical.choose (hgood i j)
  have hkid : ∀ i j, Good i j (kid i j) := fun i j => Classical.choose_spec (hgood i j)
  let av : Path → Value
    | [] => .slice (some ⟨b, o, none⟩) xs.length cap
    | (i, j) :: q => kid i j q
  refine ⟨av, rfl, fun p s hs => ?_⟩
  cases p with
  | nil =>
    simp only [subR, Option.some.injEq] at hs
    subst hs
    refine ⟨_, cap, rfl, hcap, fun _ => ⟨b, o, cs, el, fz, rfl, hP, hb, fun i x j c hx hc => ?_⟩⟩
    obtain ⟨u, hu, hrd⟩ := hr i x j c hx hc
    refine ⟨u, hu, ?_⟩
    cases c with
    | v y => exact hrd
    | l t' ys =>
      have := (hkid i j x t' ys hx hc).1
      rw [hu] at this
      show u = kid i j []
      exact (Option.some.inj this)
  | cons ij q =>
    obtain ⟨i, j⟩ := ij
    simp only [subR] at hs
    split at hs
    · rename_i x hx
      split at hs
      · rename_i t' ys hc
        exact (hkid i j x t' ys hx hc).2 q s hs
      · cases hs
    · cases hs

theorem RdSl.nil {Pr : Nat → Prop} (t : Ty) (a : Option Addr) (cap : Nat) : RdSl w Pr t [] (.slice a 0 cap) := by
  refine ⟨fun _ => .slice a 0 cap, rfl, fun p s hs => ?_⟩
  cases p with
  | nil => simp only [subR, Option.some.injEq] at hs; subst hs; exact ⟨a, cap, rfl, Nat.zero_le _, fun h => (h rfl).elim⟩
  | cons ij q => simp [subR] at hs

theorem lt_of_get' {α : Type} {xs : List α} {j : Nat} {x : α} (h : xs[j]? = some x) : j < xs.length := by
  rcases Nat.lt_or_ge j xs.length with h' | h'
  · exact h'
  · simp [List.getElem?_eq_none h'] at h

theorem open_row (hOk : tb.Ok P) (hT : tileChk tb = true) : ∀ (fuel : Nat) (T : Nat) (t : Ty) (cs : List Value) (y : DataW H × List MemPlace), aget tb.code T = some t → DataW.trod en P w 0 (fun _ => true) true fuel T cs = some y →
    ∃ x : El t, RowL w (AnyB w) (enc t x) cs ∧ ∀ c ∈ enc t x, WideC c := by
  intro fuel
  induction fuel with
  | zero => intro T t cs y _ h; simp [DataW.trod] at h
  | succ fuel IH =>
    intro T t cs y hc h
    have hu := hOk.und (T, t) (aget_mem hc)
    have str : isSt t = true → ∃ x : El t, RowL w (AnyB w) (enc t x) cs ∧ ∀ c ∈ enc t x, WideC c := by
      intro hs
      have h1 := List.all_eq_true.1 hT (T, t) (aget_mem hc)
      simp only [hs, Bool.not_true, Bool.false_or] at h1
      split at h1
      · rename_i L hL
        have h1 := of_decide_eq_true h1
        obtain ⟨fs, hf1, hf2, _, _⟩ := hOk.fld (T, L) (aget_mem hL)
        have hf2 : L = fs.toList.map (fun f => (f.offset, f.type)) := hf2
        obtain ⟨xs, n, hn, _, hlen, hxs, hall⟩ := DataW.trod_struct hf1 h
        have hn : fuel = n := by omega
        subst hn
        rw [hOk.cells hc] at hlen
        have hsig : (sig t).length = esz t := by simp [sig, enc_length]
        obtain ⟨cvs, h2, h3, h4⟩ := fields_rd hOk IH cs fs.toList 0 (sig t) (by rw [← hf2]; exact h1) (fun f hf => by
          obtain ⟨i, hi⟩ := List.mem_iff_getElem?.1 hf
          have hi' : fs[i]? = some f := by simpa using hi
          have hlt : i < xs.length := by
            rw [hxs]
            rcases Nat.lt_or_ge i fs.size with h' | h'
            · exact h'
            · simp [Array.getElem?_eq_none h'] at hi'
          exact ⟨xs[i], by rw [hall i f hi']; simp [hlt]⟩) (by omega)
        obtain ⟨x, hx⟩ := full t h2
        subst hx
        exact ⟨x, by simpa using h3, h4⟩
      · cases h1
    cases t with
    | i k =>
      have hu : P.underlying T = some (.int k) := hu
      obtain ⟨n, rfl, _, hw⟩ := DataW.trod_int hu h
      exact ⟨n, ⟨rfl, trivial⟩, fun c hc => by have : c = .v (.int k n) := by simpa [enc] using hc
                                               subst this; exact .int hw⟩
    | bool =>
      have hu : P.underlying T = some .bool := hu
      obtain ⟨b, rfl, _⟩ := DataW.trod_bool hu h
      exact ⟨b, ⟨rfl, trivial⟩, fun c hc => by have : c = .v (.bool b) := by simpa [enc] using hc
                                               subst this; exact .bool⟩
    | str =>
      have hu : P.underlying T = some .string := hu
      obtain ⟨s, rfl, _, hs⟩ := DataW.trod_string hu h
      exact ⟨s, ⟨rfl, trivial⟩, fun c hc => by have : c = .v (.string s) := by simpa [enc] using hc
                                               subst this; exact .str hs⟩
    | sl e =>
      obtain ⟨el, hu, hel⟩ := (hu : ∃ el, P.underlying T = some (.slice el) ∧ (tb.env []).code el = some e)
      have hel : aget tb.code el = some e := hel
      rcases DataW.trod_slice hu h with ⟨rfl, _⟩ | ⟨a, len, cap, elems, rest, n, hn, rfl, _, _, hl, hm, hlen, hall, _, _⟩
      · exact ⟨[], ⟨RdSl.nil e none 0, trivial⟩, fun c hc => by
          have : c = .l e [] := by simpa [enc] using hc
          subst this; exact .lst (by simp) (fun x hx => by cases hx)⟩
      · have hn : fuel = n := by omega
        subst hn
        rw [hOk.cells hel] at hall
        have hone : ∀ i, i < len → ∃ (x : El e) (us : List Value), w.cells? 0 (a.add (i * esz e)) (esz e) = some us ∧ RowL w (AnyB w) (enc e x) us ∧ ∀ c ∈ enc e x, WideC c := by
          intro i hi
          have h1 := hall i hi
          have : elems[i]? = some (elems[i]'(by omega)) := by simp
          rw [this] at h1
          obtain ⟨us, hus, hy⟩ := Option.bind_eq_some_iff.1 h1
          obtain ⟨x, hx1, hx2⟩ := IH el e us _ hel hy
          exact ⟨x, us, hus, hx1, hx2⟩
        have hch : ∃ f : Nat → El e, ∀ i, i < len → ∃ us : List Value, w.cells? 0 (a.add (i * esz e)) (esz e) = some us ∧ RowL w (AnyB w) (enc e (f i)) us ∧ ∀ c ∈ enc e (f i), WideC c :=
          ⟨fun i => if h : i < len then Classical.choose (hone i h) else zero e, fun i hi => by
            simp only [dif_pos hi]; exact Classical.choose_spec (hone i hi)⟩
        obtain ⟨f, hf⟩ := hch
        let xs : List (El e) := (List.range len).map f
        have hxl : xs.length = len := by simp [xs]
        have hxi : ∀ (i : Nat) x, xs[i]? = some x → i < len ∧ x = f i := fun i x hx => by
          have hi : i < len := by have := lt_of_get' hx; omega
          refine ⟨hi, ?_⟩
          simp only [xs, List.getElem?_map, List.getElem?_range hi, Option.map_some, Option.some.injEq] at hx
          exact hx.symm
        refine ⟨xs, ⟨?_, trivial⟩, fun c hc => ?_⟩
        · show RdSl w (AnyB w) e xs (.slice (some a) len cap)
          by_cases h0 : len = 0
          · have : xs = [] := List.length_eq_zero_iff.1 (by omega)
            rw [this, h0]; exact RdSl.nil e _ _
          · have he : 0 < esz e := esz_pos e
            have hcell : ∀ i j, i < len → j < esz e → ∀ us : List Value, w.cells? 0 (a.add (i * esz e)) (esz e) = some us → w.cell? ((a.add (i * esz e)).add j) = us[j]? := fun i j _ hj us hus => (World.cells?_some hus).2.2 j hj
            obtain ⟨us0, hus0, hr0, _⟩ := hf 0 (by omega)
            have hfirst : ∃ c, w.cell? a = some c := by
              have h1 := hcell 0 0 (by omega) he us0 hus0
              have hl0 := (World.cells?_some hus0).2.1
              have : us0[0]? = some (us0[0]'(by omega)) := by simp
              rw [this] at h1
              exact ⟨_, by simpa [Addr.add] using h1⟩
            obtain ⟨c0, hc0⟩ := hfirst
            obtain ⟨b, o, sp⟩ := a
            have hb : ∃ cs el' fz, w.heap[b]? = some (.cells cs el' fz) ∧ sp = none := by
              unfold World.cell? at hc0
              simp only at hc0
              split at hc0
              · rename_i cs el' fz hheap
                split at hc0
                · cases hc0
                · rename_i hsp
                  exact ⟨cs, el', fz, hheap, by cases sp <;> simp_all⟩
              · cases hc0
            obtain ⟨cs, el', fz, hheap, rfl⟩ := hb
            have hblt : b < w.heap.size := (Array.getElem?_eq_some_iff.1 hheap).1
            have := RdSl.mk (w := w) (Pr := AnyB w) (t := e) (xs := xs) (b := b) (o := o) (cap := cap) (cs := cs) (el := el') (fz := fz) (by omega) hblt hheap (fun i x j c hx hcj => by
              obtain ⟨hi, rfl⟩ := hxi i x hx
              obtain ⟨us, hus, hrow, _⟩ := hf i hi
              obtain ⟨z, hz, hrd⟩ := hrow.get j c hcj
              have hj : j < esz e := by
                have := lt_of_get' hcj
                rw [enc_length] at this; exact this
              have h1 := hcell i j hi hj us hus
              rw [hz] at h1
              refine ⟨z, ?_, hrd⟩
              have ha : ((⟨b, o, none⟩ : Addr).add (i * esz e)).add j = ⟨b, o + i * esz e + j, none⟩ := by rw [addrAdd, addrAdd]
              rw [ha, cellIn hheap] at h1
              exact h1)
            rw [hxl] at this
            exact this
        · have : c = .l e xs := by simpa [enc] using hc
          subst this
          refine .lst (by omega) (fun x hx c hc => ?_)
          obtain ⟨i, hi⟩ := List.mem_iff_getElem?.1 hx
          obtain ⟨hlt, rfl⟩ := hxi i x hi
          obtain ⟨_, _, _, h3⟩ := hf i hlt
          exact h3 c hc
    | _ => exact str rfl

end Go.Gm

/- A law's row from its contract. -/
namespace Go.Gm
open Go Go.ChangeShapes Go.WideShapes Go.RowKit

variable {H : Type} {en : TypeId × Value → H} {P : Program} {w : World} {tb : Tab}

/-- Typed arguments, each no longer than anything can be. -/
inductive DsOk : List Ty → List Dt → Prop
  | nil : DsOk [] []
  | cons {t : Ty} {ts : List Ty} {x : El t} {ds : List Dt} (hx : ∀ c ∈ enc t x, WideC c) (h : DsOk ts ds) : DsOk (t :: ts) (.d t x :: ds)
def Codes (tb : Tab) : List Nat → List Ty → Prop
  | [], [] => True
  | T :: Ts, t :: ts => aget tb.code T = some t ∧ Codes tb Ts ts
  | _, _ => False

theorem form_of (hOk : tb.Ok P) {T : Nat} {t : Ty} (hc : aget tb.code T = some t) {base : Nat} {v : Value} (hv : Value.okWide P w .any base T v) {us : List Value} (hus : v.cells.toList = us) {x : El t} (hr : RowL w (AnyB w) (enc t x) us) : ValRd w (AnyB w) t x v := by
  have hrow : RowRd w (AnyB w) (enc t x) us.toArray := ⟨by simpa using hr.len, fun j c hj => by simpa using hr.get j c hj⟩
  have hu := hOk.und (T, t) (aget_mem hc)
  refine ⟨us.toArray, ?_, hrow⟩
  have ea : v.cells = us.toArray := by rw [← hus]
  have str : isSt t = true → (∃ fs, P.underlying T = some (.struct fs)) → Form t v us.toArray := by
    intro hs ⟨fs, hfs⟩
    simp only [Value.okWide, hfs] at hv
    obtain ⟨cs, rfl, _, _⟩ := hv
    simp only [Form, hs, if_true]
    rw [← ea]; rfl
  have one : isSt t = false → (∀ c ∈ enc t x, ∀ z, CRd w (AnyB w) c z → flatB z = true) → us.length = 1 → (∀ cs, v ≠ .agg cs) → Form t v us.toArray := by
    intro hs hfl hl hna
    have hv1 : v.cells = #[v] := by cases v <;> first | rfl | exact absurd rfl (hna _)
    rw [hv1] at ea
    simp only [Form, hs, Bool.false_eq_true, if_false]
    refine ⟨ea.symm, ?_⟩
    cases us with
    | nil => simp at hl
    | cons u us =>
      have hlen := hr.len
      obtain ⟨c, hcc⟩ : ∃ c, (enc t x)[0]? = some c := by
        cases he : enc t x with
        | nil => rw [he] at hlen; simp at hlen
        | cons c cs => exact ⟨c, rfl⟩
      obtain ⟨z, hz, hrd⟩ := hr.get 0 c hcc
      simp only [List.getElem?_cons_zero, Option.some.injEq] at hz
      subst hz
      have : v = u := by
        have := congrArg (fun a => a[0]?) ea
        simpa using this
      rw [this]
      exact hfl c (List.mem_of_getElem? hcc) u hrd
  have hlen := hr.len
  cases t with
  | i k =>
    have hu : P.underlying T = some (.int k) := hu
    refine one rfl (fun c hc z hz => ?_) (by simpa [enc] using hlen) (fun cs e => ?_)
    · have : c = .v (.int k x) := by simpa [enc] using hc
      subst this; cases hz; rfl
    · subst e; simp [Value.okWide, hu, Cell.okWide, Cell.ok] at hv
  | bool =>
    have hu : P.underlying T = some .bool := hu
    refine one rfl (fun c hc z hz => ?_) (by simpa [enc] using hlen) (fun cs e => ?_)
    · have : c = .v (.bool x) := by simpa [enc] using hc
      subst this; cases hz; rfl
    · subst e; simp [Value.okWide, hu, Cell.okWide, Cell.ok] at hv
  | str =>
    have hu : P.underlying T = some .string := hu
    refine one rfl (fun c hc z hz => ?_) (by simpa [enc] using hlen) (fun cs e => ?_)
    · have : c = .v (.string x) := by simpa [enc] using hc
      subst this; cases hz; rfl
    · subst e; simp [Value.okWide, hu, Cell.okWide, Cell.ok] at hv
  | sl e =>
    obtain ⟨el, hu, _⟩ := (hu : ∃ el, P.underlying T = some (.slice el) ∧ (tb.env []).code el = some e)
    refine one rfl (fun c hc z hz => ?_) (by simpa [enc] using hlen) (fun cs e' => ?_)
    · have : c = .l e x := by simpa [enc] using hc
      subst this
      obtain ⟨av, h0, h1⟩ := hz
      obtain ⟨a, cap, e1, _⟩ := h1 [] _ rfl
      rw [← h0, e1]; rfl
    · subst e'; simp [Value.okWide, hu, Cell.okWide, Cell.ok] at hv
  | _ => exact str rfl hu

theorem open_args {wl : World} (hOk : tb.Ok P) (hT : tileChk tb = true) {base : Nat} : ∀ {Ts : List Nat} {ts : List Ty} {vs : List Value} {dd : List (DataW H)} {ps : List MemPlace}, Codes tb Ts ts → (∀ (j : Nat) T v, Ts[j]? = some T → vs[j]? = some v → Value.okWide P w .any base T v) →
    DataW.TrodAll en P w 0 (fun _ => true) true Ts vs dd ps → ∃ ds : List Dt, ArgsOk wl w (AnyB w) (ts.map fun _ => .ro) ds vs (ts.map fun _ _ => False) ∧ DsOk ts ds
  | [], [], vs, dd, ps, _, _, h => by
    obtain ⟨rfl, _, _⟩ := trodAll_nil h
    exact ⟨[], .nil, .nil⟩
  | [], _ :: _, _, _, _, h, _, _ => h.elim
  | _ :: _, [], _, _, _, h, _, _ => h.elim
  | T :: Ts, t :: ts, vs, dd, ps, hc, hv, h => by
    obtain ⟨v, vs', d, ds', p, q, rfl, rfl, rfl, h1, h2⟩ := trodAll_cons h
    obtain ⟨fuel, hf⟩ := h1
    obtain ⟨x, hx1, hx2⟩ := open_row hOk hT fuel T t _ _ hc.1 hf
    obtain ⟨ds, h3, h4⟩ := open_args hOk hT hc.2 (fun j T' v' hj hj' => hv (j + 1) T' v' (by simpa using hj) (by simpa using hj')) h2
    exact ⟨.d t x :: ds, ArgsOk.cons (m := .ro) (F := fun _ => False) (show ArgOk wl w (AnyB w) .ro (.d t x) v _ from form_of hOk hc.1 (hv 0 T v rfl rfl) rfl hx1) h3, .cons hx2 h4⟩

theorem trodAll_later (hl : laidOutB P = true) {W W' : World} (hb : Below W.heap.size W W') : ∀ {Ts : List Nat} {vs : List Value} {dd : List (DataW H)} {ps : List MemPlace}, (∀ T ∈ Ts, P.readableRec T = true ∧ T < P.types.size) →
    DataW.TrodAll en P W 0 (fun _ => true) true Ts vs dd ps → (∀ x ∈ ps, x.block < W.heap.size) → DataW.TrodAll en P W' 0 (fun b => decide (b < W.heap.size)) true Ts vs dd ps
  | [], vs, dd, ps, _, h, _ => by
    obtain ⟨rfl, rfl, rfl⟩ := trodAll_nil h
    exact trodAll_mk0
  | T :: Ts, vs, dd, ps, hr, h, hlt => by
    obtain ⟨v, vs', d, ds', p, q, rfl, rfl, rfl, h1, h2⟩ := trodAll_cons h
    exact ⟨p, q, Below.trod hl (hr T (by simp)).1 (hr T (by simp)).2 h1 hb (fun x hx => hlt x (by simp [hx])), trodAll_later hl hb (fun T' hT' => hr T' (by simp [hT'])) h2 (fun x hx => hlt x (by simp [hx])), rfl⟩

theorem ArgsOk.kept {w : World} : ∀ {ts : List Ty} {ds : List Dt} {us : List Value} {Fs : List (Nat → Prop)}, ArgsOk w w (AnyB w) (ts.map fun _ => .ro) ds us Fs → ArgsOk w w (AnyB w) (ts.map fun _ => .kp) ds us Fs
  | [], _, _, _, h => by cases h; exact .nil
  | t :: ts, _, _, _, h => by
    cases h with
    | cons h hs =>
      rename_i d ds u us F Fs
      refine ArgsOk.cons (m := .kp) ?_ (ArgsOk.kept hs)
      cases d with
      | clo _ _ => exact h
      | d t x =>
        obtain ⟨us, hf, hr⟩ := h
        refine ⟨us, hf, hr.1, fun j c hj => ?_⟩
        obtain ⟨z, hz, hc⟩ := hr.2 j c hj
        refine ⟨z, hz, ?_⟩
        cases c with
        | v x => exact hc
        | l t xs => exact RdSl.mono (fun _ _ => trivial) hc

/-- What a law's row asks, from its contract: it returns true; its arguments read as they did. -/
theorem law_contract (hOk : tb.Ok P) (hT : tileChk tb = true) (hl : laidOutB P = true) {f : Nat} {fn : Func} {Ts : List Nat} {ts : List Ty} (hp : fn.params.toList = Ts) (hc : Codes tb Ts ts) {q : List Dt → Option (Bool × List Dt)} {m : Am} (hm : m = .ro ∨ m = .kp)
    (hs : SpecOk P f (Spec.of (ts.map fun _ => m) [false] true q)) (hq : ∀ ds, DsOk ts ds → q ds = some (true, [.d .bool true])) {Tb : Nat} (hres : fn.resultTypes = #[Tb]) (hTb : P.underlying Tb = some .bool)
    (hrd : Ts.all (fun T => P.readableRec T && decide (T < P.types.size)) = true) {s : ChangeSpec} (hvars : s.vars = []) (hfn : ∀ ds : List (DataW H), ds.length = Ts.length → s.fn H ds = { results := [.lit (.bool true)], args := ds })
    {apart : Bool} (W : World) (base : Nat) (args : Array Value) (dd gs : List (DataW H)) (before : List MemPlace)
    (hval : ∀ (j : Nat) t v, fn.params[j]? = some t → args[j]? = some v → Value.okWide P W .any base t v) (hW : DataW.Whole en P fn.params.toList s.vars apart W args.toList dd gs before) (hWl : W.ShapedOpen P) :
    Calls P f args W fun e W' => ∃ v, e = .returned v ∧ s.post en P fn apart true false false W args v W' := by
  have hW0 := hW
  obtain ⟨p, q', hA, hV, hbe, hfz, hnd⟩ := hW
  rw [hvars] at hV
  obtain ⟨hgs, hq'⟩ := trodVars_none hV
  subst hgs hq'
  rw [hp] at hA
  obtain ⟨ds, hargs, hds⟩ := open_args hOk hT (base := base) hc (fun j T v hj hj' => hval j T v (by
    have : fn.params.toList[j]? = some T := by rw [hp]; exact hj
    simpa using this) (by simpa using hj')) hA
  replace hargs : ArgsOk W W (AnyB W) (ts.map fun _ => m) ds args.toList (ts.map fun _ _ => False) := by
    rcases hm with rfl | rfl
    · exact hargs
    · exact hargs.kept
  have hap : PairApart (ts.map fun _ _ => False : List (Nat → Prop)) := by
    unfold PairApart
    rw [List.pairwise_map]
    exact List.pairwise_iff_getElem.2 fun _ _ _ _ _ k h => h.elim
  have hout := hs (R := List Dt) ds some [.d .bool true] (by
    show (match q ds with | some (g, outs) => cond g (some outs) none | none => none) = some [.d .bool true]
    rw [hq ds hds]; rfl) W W args.toList (fun _ => False) (AnyB W) _ hWl (fun b o hb => ⟨Array.getElem?_eq_some_iff.1 hb |>.1, hb⟩) hargs hap (fun F hF k hk => by
      obtain ⟨_, _, rfl⟩ := List.mem_map.1 hF; exact hk) (fun k _ h => h) (fun k hk => hk) (fun k hk => hk.elim)
  have hargs' : args.toList.toArray = args := by simp
  replace hout : Calls P f args.toList.toArray W _ := hout
  rw [hargs'] at hout
  refine hout.mono ?_
  rintro e W' ⟨outs, ho, hA'⟩
  have ho : outs = [.d .bool true] := Option.some.inj ho
  subst ho
  obtain ⟨rs, Gs, Bs, he, hRes, _⟩ := hA'.out
  have hv : e = .returned (.bool true) := by
    have hRes : RessOk W W' true [false] [.d .bool true] rs Gs := hRes
    cases hRes with
    | val h hs' =>
      rename_i u us F Fs
      cases hs'
      simp only [if_true] at h
      obtain ⟨us, hform, hrow⟩ := h
      obtain ⟨e1, _⟩ := hform.size rfl
      obtain ⟨Fs', _, _, _, hr⟩ := hrow
      obtain ⟨z, hz, hcz⟩ := hr 0 (.v (.bool true)) rfl
      subst e1
      have hcz : z = .bool true := hcz
      subst hcz
      have hz := (Option.some.inj hz)
      rw [he]
      show Ending.returned (packV [_]) = _
      rw [show packV [_] = _ from rfl]
      exact congrArg Ending.returned hz
  have hB : Below W.heap.size W W' := ⟨hA'.kept.os, hA'.kept.tape, hA'.kept.output, hA'.kept.same.1, fun k hk => hA'.kept.same.2 k hk (fun h => h)⟩
  refine ⟨_, hv, ?_⟩
  have hlen : dd.length = Ts.length := (trodAll_length hA).2
  have hfn' := hfn (dd ++ []) (by simpa using hlen)
  refine ⟨dd, [], before, [], p, [], hW0, ?_, ?_, ?_, hB.frame _, fun h => by cases h⟩
  · rw [hfn', hres]
    exact trodAll_mk1 ⟨1, by simp [DataW.trod, Value.cells, hTb]⟩
  · rw [hfn', hp]
    simp only [List.append_nil]
    exact trodAll_later hl hB (fun T hT' => by simpa using List.all_eq_true.1 hrd T hT') hA (fun x hx => hW0.lt x (by rw [hbe]; simp [hx]))
  · rw [hvars, hfn']
    exact rfl

end Go.Gm

/- Plain functions: picks. -/
namespace Go.Gm
open Go

def inR (x lo hi : Int) : Bool := decide (x ≥ lo) && decide (x ≤ hi)
def letter (c : Int) : Bool := (decide (c ≥ (97 : Int)) && decide (c ≤ (122 : Int))) || (decide (c ≥ (65 : Int)) && decide (c ≤ (90 : Int)))
def digit (c : Int) : Bool := decide (c ≥ (48 : Int)) && decide (c ≤ (57 : Int))
def idxB (s : ByteArray) (c : Int) : Int := Lib.indexByte s.data.toList c.toNat.toUInt8
def okPick (x : PickT) : Bool := okStr x.key && okL okStr x.vals
def byteAt (s : ByteArray) (j : Nat) : Int := (((ByteArray.data s).getD j 0).toNat : Int)
/-- One sign of a plain text. -/
def plainC (i c : Int) : Bool := letter c || (!(i == (0 : Int)) && (digit c || ((c == (95 : Int)) || ((c == (46 : Int)) || ((c == (47 : Int)) || (c == (45 : Int)))))))
noncomputable def plainOk (s : ByteArray) : Bool :=
  allN (fun j => plainC (j : Int) (byteAt s j)) 0 s.size && (inR (s.size : Int) 1 60 && (!(sEq s (bs [110,117,108,108])) && (!(sEq s (bs [116,114,117,101])) && !(sEq s (bs [102,97,108,115,101])))))
theorem idx4 {n : Nat} (h : n < 256) : decide (idxB (bs [95,46,47,45]) (n : Int) < 0) = !(((n : Int) == (95 : Int)) || (((n : Int) == (46 : Int)) || (((n : Int) == (47 : Int)) || ((n : Int) == (45 : Int))))) := by
  have h1 : (List.range 256).all (fun n => decide (idxB (bs [95,46,47,45]) (n : Int) < 0) == !(((n : Int) == (95 : Int)) || (((n : Int) == (46 : Int)) || (((n : Int) == (47 : Int)) || ((n : Int) == (45 : Int)))))) = true := by kernel_rfl
  exact beq_iff_eq.1 (List.all_eq_true.1 h1 n (List.mem_range.2 h))
theorem idxM {n j : Nat} (h : j < n) (h0 : 0 < j) (hb : n ≤ 9223372036854775807) : IntKind.wrap .i64 ((j : Int) - (1 : Int)) = ((j - 1 : Nat) : Int) := by
  rw [wrap_id (by omega) (by omega)]; omega
/-- One value of a row of them: it is plain and above the one ahead of it. -/
noncomputable def valC (xs : List ByteArray) (j : Nat) : Bool := plainOk (atI (t := .str) xs j) && (!(decide ((j : Int) > (0 : Int))) || sLt (atI (t := .str) xs (j - 1)) (atI (t := .str) xs j))
noncomputable def valsOk (xs : List ByteArray) : Bool := allN (valC xs) 0 xs.length
noncomputable def pickOk (p : PickT) : Bool :=
  valsOk p.vals && (plainOk p.key && (((p.op == (1 : Int) || p.op == (2 : Int)) && inR (p.vals.length : Int) 1 1) || (((p.op == (3 : Int) || p.op == (4 : Int)) && inR (p.vals.length : Int) 1 4) || ((p.op == (5 : Int) || p.op == (6 : Int)) && inR (p.vals.length : Int) 0 0))))
theorem okStr_at {xs : List ByteArray} (h : xs.all okStr = true) {j : Nat} (hj : j < xs.length) : okStr (atI (t := .str) xs j) = true := by
  obtain ⟨x, hx, _⟩ := drop_get hj
  rw [atI_of (t := .str) hx]; exact List.all_eq_true.1 h x (List.mem_of_getElem? hx)

end Go.Gm

/- Plain functions and laws of all structs: sizes, sameness. Printed by mkp3.py of this session. -/
namespace Go.Gm
open Go

def okI (n : Int) : Bool := decide (-9223372036854775808 ≤ n) && decide (n ≤ 9223372036854775807)
theorem okI_iff {n : Int} : okI n = true ↔ -9223372036854775808 ≤ n ∧ n ≤ 9223372036854775807 := by simp [okI]
def smStr (s : ByteArray) : Bool := Nat.ble s.size 1048576
def smL {α : Type} (f : α → Bool) (xs : List α) : Bool := Nat.ble xs.length 1048576 && xs.all f
theorem okStr_sm {s : ByteArray} (h : smStr s = true) : okStr s = true := Nat.ble_eq_true_of_le (Nat.le_trans (bleN h) (by decide))
theorem okL_sm {α : Type} {f g : α → Bool} {xs : List α} (h : smL f xs = true) (hf : ∀ x, f x = true → g x = true) : okL g xs = true := by
  simp only [smL, Bool.and_eq_true] at h
  unfold okL
  rw [Nat.ble_eq_true_of_le (Nat.le_trans (bleN h.1) (by decide : 1048576 ≤ WIDE)), Bool.true_and, List.all_eq_true]
  exact fun x hx => hf x (List.all_eq_true.1 h.2 x hx)
theorem smL_len {α : Type} {f : α → Bool} {xs : List α} (h : smL f xs = true) : xs.length ≤ 1048576 := by
  simp only [smL, Bool.and_eq_true] at h; exact bleN h.1
theorem smL_all {α : Type} {f : α → Bool} {xs : List α} (h : smL f xs = true) : xs.all f = true := by
  simp only [smL, Bool.and_eq_true] at h; exact h.2
def same {α : Type} (x : α) : α := x
theorem smL_at {t : Ty} {f : El t → Bool} {xs : List (El t)} (h : smL f xs = true) {j : Nat} (hj : j < xs.length) : f (atI xs j) = true := by
  obtain ⟨x, hx, _⟩ := drop_get hj
  rw [atI_of hx]; exact List.all_eq_true.1 (smL_all h) x (List.mem_of_getElem? hx)
def sm_metric (x : MetricT) : Bool := (smStr x.name && (okI x.kind && okI x.goal))
def sm_pace (x : PaceT) : Bool := (okI x.up && (okI x.down && (okI x.upSpan && okI x.downSpan)))
def sm_note (x : NoteT) : Bool := (smStr x.key && smStr x.text)
def sm_order (x : OrderT) : Bool := (smStr x.name && (smStr x.target && (okI x.low && (okI x.high && (smL sm_metric x.metrics && (sm_pace x.pace && smL sm_note x.notes))))))
def sm_item (x : ItemT) : Bool := (sm_order x.order && okI x.ver)
def sm_store (x : StoreT) : Bool := (smL sm_item x.items && okI x.next)
def ok_pick (x : PickT) : Bool := (okI x.op && (okStr x.key && okL okStr x.vals))
def sm_pick (x : PickT) : Bool := (okI x.op && (smStr x.key && smL smStr x.vals))
theorem ok_pick_sm {x : PickT} (h : sm_pick x = true) : ok_pick x = true := by
  simp only [sm_pick, Bool.and_eq_true] at h
  obtain ⟨h0, h1, h2⟩ := h
  unfold ok_pick
  rw [h0, okStr_sm h1, okL_sm (g := okStr) h2 (fun _ hx => okStr_sm hx)]; rfl
end Go.Gm

/- Plain functions: what is to be looked at. -/
namespace Go.Gm
open Go

def firstN (p : Nat → Bool) : Nat → Nat → Option Nat
  | _, 0 => none
  | j, d + 1 => cond (p j) (some j) (firstN p (j + 1) d)
theorem loop_find {R : Type} {F : Nat → Int → Option R} {n : Nat} {p : Nat → Bool} {hit : Int → Option R} {miss : Option R} (hs : ∀ m j, j < n → F (m + 1) (j : Int) = cond (p j) (hit (j : Int)) (F m ((j + 1 : Nat) : Int)))
    (he : ∀ m, F (m + 1) (n : Int) = miss) : ∀ d j m, j + d = n → d < m → F m (j : Int) = (firstN p j d).elim miss (fun i => hit (i : Int)) := by
  intro d
  induction d with
  | zero =>
    intro j m hj hm
    obtain ⟨m, rfl⟩ : ∃ m', m = m' + 1 := ⟨m - 1, by omega⟩
    have : j = n := by omega
    subst this
    rw [he]; rfl
  | succ d ih =>
    intro j m hj hm
    obtain ⟨m, rfl⟩ : ∃ m', m = m' + 1 := ⟨m - 1, by omega⟩
    rw [hs m j (by omega), ih (j + 1) m (by omega) (by omega)]
    simp only [firstN]
    cases p j <;> rfl
theorem firstN_some {p : Nat → Bool} : ∀ {d j i : Nat}, firstN p j d = some i → j ≤ i ∧ i < j + d ∧ p i = true ∧ ∀ k, j ≤ k → k < i → p k = false
  | 0, _, _, h => by cases h
  | d + 1, j, i, h => by
    simp only [firstN] at h
    cases hp : p j with
    | true => rw [hp] at h; cases h; exact ⟨Nat.le_refl _, by omega, hp, fun k h1 h2 => by omega⟩
    | false =>
      rw [hp] at h
      obtain ⟨h1, h2, h3, h4⟩ := firstN_some h
      refine ⟨by omega, by omega, h3, fun k hk hk' => ?_⟩
      by_cases e : k = j
      · subst e; exact hp
      · exact h4 k (by omega) hk'
/-- A place as a number; -1 without one. -/
def plc (o : Option Nat) : Int := o.elim (-1) fun i => (i : Int)

def failEq (f : FailT) (s : ByteArray) : Bool := sEq f.name s
def failO (xs : List FailT) (s : ByteArray) : Option Nat := firstN (fun j => failEq (atI (t := .fail) xs j) s) 0 xs.length
def failAt (xs : List FailT) (s : ByteArray) : Int := plc (failO xs s)
def minI (a b : Int) : Int := if a < b then a else b
end Go.Gm

/- Contracts of library functions that are not walked by the evaluator: one plain result, what was there stays. -/
namespace Go.Gm
open Go

variable {wl : World} {w w' : World} {Mf ROa : Nat → Prop}

end Go.Gm

/- Contracts of functions that call themselves, by a measure. -/
namespace Go.Gm
open Go

abbrev Q := List Dt → Option (Bool × List Dt)
end Go.Gm

/- Plain laws: numbers as texts, joined texts. -/
namespace Go.Gm
open Go

/-! ### loops that carry something on -/
theorem loop_acc {α A R : Type} {xs : List α} {F : Nat → Nat → A → Option R} {f : A → α → A} {good : A → Option R} (inv : Nat → A → Prop)
    (hi : ∀ (j : Nat) a x, xs[j]? = some x → inv j a → inv (j + 1) (f a x))
    (hs : ∀ m (j : Nat) a x, xs[j]? = some x → inv j a → F (m + 1) j a = F m (j + 1) (f a x)) (he : ∀ m a, inv xs.length a → F (m + 1) xs.length a = good a) :
    ∀ (d j m : Nat) (a : A), j + d = xs.length → d < m → inv j a → F m j a = good ((xs.drop j).foldl f a) := by
  intro d
  induction d with
  | zero =>
    intro j m a hj hm hia
    obtain ⟨m, rfl⟩ : ∃ m', m = m' + 1 := ⟨m - 1, by omega⟩
    have : j = xs.length := by omega
    subst this
    rw [he m a hia, List.drop_length]; rfl
  | succ d ih =>
    intro j m a hj hm hia
    obtain ⟨m, rfl⟩ : ∃ m', m = m' + 1 := ⟨m - 1, by omega⟩
    obtain ⟨x, hx, hd⟩ := drop_get (show j < xs.length by omega)
    rw [hs m j a x hx hia, hd, List.foldl_cons]
    exact ih (j + 1) m _ (by omega) (by omega) (hi j a x hx hia)

theorem inR_iff {c l h : Int} : inR c l h = true ↔ l ≤ c ∧ c ≤ h := by unfold inR; simp
end Go.Gm

/- Plain functions: picks, their texts, what they fit. -/
namespace Go.Gm
open Go

def gLenW {α : Type} (x : List α) : Bool := Nat.ble x.length WIDE
theorem gLenW_le {α : Type} {x : List α} (h : gLenW x = true) : x.length ≤ 9223372036854775807 := bleN h
theorem gLenW_of {α : Type} {x : List α} (h : x.length ≤ 9223372036854775807) : gLenW x = true := Nat.ble_eq_true_of_le h
theorem gLenW_sm {α : Type} {f : α → Bool} {x : List α} (h : smL f x = true) : gLenW x = true := gLenW_of (Nat.le_trans (smL_len h) (by decide))

/-! ### the first one -/
theorem firstN_drop {t : Ty} {q : El t → Bool} {xs : List (El t)} : ∀ (d j : Nat), j + d = xs.length →
    (firstN (fun j => q (atI xs j)) j d).isSome = (xs.drop j).any q ∧ (∀ i, firstN (fun j => q (atI xs j)) j d = some i → (xs.drop j).find? q = some (atI xs i)) ∧ (firstN (fun j => q (atI xs j)) j d = none → (xs.drop j).find? q = none)
  | 0, j, h => by
    have : j = xs.length := by omega
    subst this
    rw [List.drop_length]
    refine ⟨rfl, ?_, fun _ => rfl⟩
    intro i h; cases h
  | d + 1, j, h => by
    obtain ⟨x, hx, hd⟩ := drop_get (show j < xs.length by omega)
    obtain ⟨h1, h2, h3⟩ := firstN_drop (q := q) (xs := xs) d (j + 1) (by omega)
    rw [hd]
    simp only [firstN, atI_of hx, List.any_cons, List.find?_cons]
    cases hq : q x with
    | true => exact ⟨rfl, fun i hi => by cases hi; rw [atI_of hx], fun h => by cases h⟩
    | false => exact ⟨by simpa using h1, h2, h3⟩
theorem firstN_any {t : Ty} (q : El t → Bool) (xs : List (El t)) : (firstN (fun j => q (atI xs j)) 0 xs.length).isSome = xs.any q := by
  have := (firstN_drop (q := q) (xs := xs) xs.length 0 (by omega)).1
  rwa [List.drop_zero] at this
theorem firstN_find {t : Ty} {q : El t → Bool} {xs : List (El t)} {i : Nat} (h : firstN (fun j => q (atI xs j)) 0 xs.length = some i) : xs.find? q = some (atI xs i) := by
  have := (firstN_drop (q := q) (xs := xs) xs.length 0 (by omega)).2.1 i h
  rwa [List.drop_zero] at this
theorem firstN_find_no {t : Ty} {q : El t → Bool} {xs : List (El t)} (h : firstN (fun j => q (atI xs j)) 0 xs.length = none) : xs.find? q = none := by
  have := (firstN_drop (q := q) (xs := xs) xs.length 0 (by omega)).2.2 h
  rwa [List.drop_zero] at this
theorem plc_ge (o : Option Nat) : decide (plc o ≥ 0) = o.isSome := by
  cases o with
  | none => rfl
  | some i => simp [plc]
/-- The place of the first that is so; -1 without one. -/
def findI {t : Ty} (q : El t → Bool) (xs : List (El t)) : Int := plc (firstN (fun j => q (atI xs j)) 0 xs.length)
theorem findI_ge {t : Ty} (q : El t → Bool) (xs : List (El t)) : decide (findI q xs ≥ 0) = xs.any q := by
  unfold findI; rw [plc_ge, firstN_any]
theorem findI_cases {t : Ty} (q : El t → Bool) (xs : List (El t)) : (findI q xs = -1 ∧ xs.find? q = none ∧ xs.any q = false) ∨ ∃ i : Nat, findI q xs = i ∧ i < xs.length ∧ xs.find? q = some (atI xs i) ∧ xs.any q = true ∧ q (atI xs i) = true := by
  unfold findI
  have ha := firstN_any q xs
  cases h : firstN (fun j => q (atI xs j)) 0 xs.length with
  | none => rw [h] at ha; exact .inl ⟨rfl, firstN_find_no h, ha.symm⟩
  | some i =>
    rw [h] at ha
    obtain ⟨_, h2, h3, _⟩ := firstN_some h
    exact .inr ⟨i, rfl, by omega, firstN_find h, ha.symm, h3⟩

/-- A loop from the last one down. -/
theorem loop_down {α A R : Type} {xs : List α} {F : Nat → Int → A → Option R} {f : A → α → A} {good : A → Option R}
    (hs : ∀ m (j : Nat) a x, xs[j]? = some x → F (m + 1) (j : Int) a = F m ((j : Int) - 1) (f a x)) (he : ∀ m a, F (m + 1) (-1) a = good a) :
    ∀ (d m : Nat) (a : A), d ≤ xs.length → d < m → F m ((d : Int) - 1) a = good ((xs.take d).foldr (fun x a => f a x) a) := by
  intro d
  induction d with
  | zero =>
    intro m a _ hm
    obtain ⟨m, rfl⟩ : ∃ m', m = m' + 1 := ⟨m - 1, by omega⟩
    exact he m a
  | succ d ih =>
    intro m a hd hm
    obtain ⟨m, rfl⟩ : ∃ m', m = m' + 1 := ⟨m - 1, by omega⟩
    obtain ⟨x, hx, _⟩ := drop_get (show d < xs.length by omega)
    rw [show ((d + 1 : Nat) : Int) - 1 = (d : Int) by omega, hs m d a x hx, ih m _ (by omega) (by omega)]
    have : xs.take (d + 1) = xs.take d ++ [x] := by rw [List.take_add_one, hx]; rfl
    rw [this, List.foldr_append]; rfl
theorem foldl_and {α : Type} (q : α → Bool) : ∀ (xs : List α) (b : Bool), xs.foldl (fun b x => b && q x) b = (b && xs.all q)
  | [], b => by simp
  | x :: xs, b => by
    rw [List.foldl_cons, foldl_and q xs, List.all_cons]
    cases b <;> simp

theorem okPick_sm {p : PickT} (h : sm_pick p = true) : okPick p = true := by
  have := ok_pick_sm h
  simp only [ok_pick, Bool.and_eq_true] at this
  unfold okPick
  rw [this.2.1, this.2.2]; rfl
/-! ### what picks fit -/
def isIn (xs : List ByteArray) (s : ByteArray) : Bool := xs.any fun x => sEq x s
theorem sEq_comm (x y : ByteArray) : sEq x y = sEq y x := by rw [Bool.eq_iff_iff, sEq_iff, sEq_iff, eq_comm]
def idxS (xs : List ByteArray) (s : ByteArray) : Int := findI (t := .str) (fun x => sEq s x) xs
theorem idxS_isIn (xs : List ByteArray) (s : ByteArray) : decide (idxS xs s ≥ 0) = isIn xs s := by
  unfold idxS isIn
  rw [findI_ge]
  congr 1; funext x; exact sEq_comm s x
def noteIs (n : NoteT) (p : PickT) : Bool := sEq n.key p.key
def noteAt (ns : List NoteT) (p : PickT) : Int := findI (t := .note) (fun n => noteIs n p) ns
/-- What a pick asks is among the notes. -/
def among (p : PickT) (ns : List NoteT) : Bool := (ns.find? fun n => noteIs n p).elim false fun n => isIn p.vals n.text
noncomputable def fits (p : PickT) (ns : List NoteT) : Bool :=
  pickOk p && cond (p.op == (1 : Int) || p.op == (3 : Int)) (among p ns) (cond (p.op == (2 : Int) || p.op == (4 : Int)) (!(among p ns)) (cond (p.op == (5 : Int)) (ns.any fun n => noteIs n p) (!(ns.any fun n => noteIs n p))))
def gFits (p : PickT) (ns : List NoteT) : Bool := okPick p && gLenW ns
noncomputable def fitsNot (p : PickT) (i : ItemT) : Bool := !(fits p i.order.notes)
def gFitsAll (ps : List PickT) (i : ItemT) : Bool := gLenW ps && (ps.all okPick && gLenW i.order.notes)
noncomputable def fitsNotAt (ps : List PickT) (i : ItemT) : Int := findI (t := .pick) (fun p => fitsNot p i) ps
noncomputable def fitsNotAny (ps : List PickT) (i : ItemT) : Bool := ps.any fun p => fitsNot p i
noncomputable def chosenStep (ps : List PickT) (out : List ByteArray) (i : ItemT) : List ByteArray := cond (fitsNotAny ps i) out (out ++ [i.order.name])
noncomputable def chosen (s : StoreT) (ps : List PickT) : List ByteArray := s.items.foldl (chosenStep ps) []
def gChosen (s : StoreT) (ps : List PickT) : Bool := sm_store s && smL sm_pick ps
theorem all_at {t : Ty} {q : El t → Bool} {xs : List (El t)} (h : xs.all q = true) {j : Nat} (hj : j < xs.length) : q (atI xs j) = true := by
  obtain ⟨x, hx, _⟩ := drop_get hj
  rw [atI_of hx]; exact List.all_eq_true.1 h x (List.mem_of_getElem? hx)
theorem any_not {α : Type} (q : α → Bool) (xs : List α) : (!(xs.any fun x => !(q x))) = xs.all q := by
  induction xs with
  | nil => rfl
  | cons x r ih => rw [List.any_cons, List.all_cons, ← ih]; cases q x <;> simp
theorem find_pair (p : PickT) : ∀ ns : List NoteT, ns.foldr (fun n (a : Bool × ByteArray) => cond (noteIs n p) (true, n.text) a) (false, ByteArray.empty) = ((ns.any fun n => noteIs n p), ((ns.find? fun n => noteIs n p).elim ByteArray.empty fun n => n.text))
  | [] => rfl
  | n :: r => by
    rw [List.foldr_cons, find_pair p r, List.any_cons, List.find?_cons]
    cases noteIs n p <;> rfl
theorem find_any {α : Type} (q : α → Bool) (xs : List α) : (xs.find? q).isSome = xs.any q := by
  induction xs with
  | nil => rfl
  | cons x r ih => rw [List.find?_cons, List.any_cons, ← ih]; cases q x <;> simp

end Go.Gm

/- Plain functions and laws: marks that are written into lists one after another, and whether they are held. Printed by mkp7.py of this session. -/
namespace Go.Gm
open Go

theorem okI_of {n : Int} (h0 : -9223372036854775808 ≤ n) (h : n ≤ 9223372036854775807) : okI n = true := okI_iff.2 ⟨h0, h⟩
end Go.Gm

/- Plain laws: what is chosen. -/
namespace Go.Gm
open Go

end Go.Gm

/- Plain functions: names, what is to be looked at. -/
namespace Go.Gm
open Go

def nameC (i c : Int) : Bool := (decide (c ≥ (97 : Int)) && decide (c ≤ (122 : Int))) || (!(i == (0 : Int)) && (digit c || (c == (45 : Int))))
def nameOk (s : ByteArray) : Bool := allN (fun j => nameC (j : Int) (byteAt s j)) 0 s.size && inR (s.size : Int) 1 20
def nameAt (xs : List ByteArray) (j : Nat) : Bool := nameOk (atI (t := .str) xs j) && !(isIn (xs.take j) (atI (t := .str) xs j))
def namesOk (xs : List ByteArray) : Bool := allN (nameAt xs) 0 xs.length && decide ((xs.length : Int) ≤ 6)
def inBusy (s : ByteArray) (w : WorkT) : Bool := isIn w.busy s
def notBusy (s : ByteArray) (w : WorkT) : Bool := !(isIn w.busy s)
def inBusyAny (xs : List ByteArray) (w : WorkT) : Bool := xs.any fun s => inBusy s w
def notBusyAny (xs : List ByteArray) (w : WorkT) : Bool := xs.any fun s => notBusy s w
def failC (xs : List FailT) (j : Nat) : Bool := nameOk (atI (t := .fail) xs j).name && (!(failAt xs (atI (t := .fail) xs j).name != (j : Int)) && inR (atI (t := .fail) xs j).n 1 20)
def workQOk (w : WorkT) : Bool :=
  namesOk w.list && (namesOk w.busy && (namesOk w.again && (!(decide ((w.fails.length : Int) > 12)) && (!(inBusyAny w.list w) && (!(notBusyAny w.again w) && allN (failC w.fails) 0 w.fails.length)))))
end Go.Gm

/- Plain functions: amounts, orders and worlds as texts. -/
namespace Go.Gm
open Go

end Go.Gm

/- Contracts of two or three functions that call each other, by measures. -/
namespace Go.Gm
open Go

structure Rc where
  f : Nat
  ms : List Am
  rs : List Bool
  ow : Bool
  mu : List Dt → Nat
  q : Q
end Go.Gm

/- Plain functions and laws of trees: nodes and rules. Printed by mkp11.py of this session. -/
namespace Go.Gm
open Go

abbrev eR (x : RuleT) : RuleT := ⟨x.kind, x.keys, x.kids, x.need, x.low, x.high⟩
end Go.Gm

/- Plain functions: texts, keys, rules. -/
namespace Go.Gm
open Go

def textOk (s : ByteArray) : Bool := allN (fun j => inR (byteAt s j) 32 126) 0 s.size && decide ((s.size : Int) ≤ 400)
end Go.Gm

/- Contracts of functions of which one argument, the first, comes in cell by cell: its lists are lent, each by itself. -/
namespace Go.Gm
open Go

section ev
variable {wl : World} {R : Type}
def cellsOf : List Am → List Sc → Option (List (Am × Nat × Sv))
  | [], [] => some []
  | .mut :: ms, c :: cs => (cellsOf ms cs).bind fun l => some ((.mut, 0, .c (.one c)) :: l)
  | .skp :: ms, _ :: cs => cellsOf ms cs
  | _, _ => none
end ev

variable {R : Type} {P : Program} {E : Env} {w0 w w' : World} {Mf : Nat → Prop} {g : Gh} {st : St} {a : Act}

end Go.Gm

/- Contracts of library functions that are not walked by the evaluator: one result, the caller's own. -/
namespace Go.Gm
open Go

variable {wl : World} {P : Program} {w w' : World} {Mf ROa : Nat → Prop}

end Go.Gm

/- Plain functions: what is to be looked at, taken and added. -/
namespace Go.Gm
open Go

theorem limLe {α : Type} {xs : List α} (h : xs.length ≤ 1048576) : Nat.ble xs.length LIM = true := Nat.ble_eq_true_of_le (by have : (LIM : Nat) = 4294967296 := rfl; omega)
theorem smL_snoc {α : Type} {f : α → Bool} {x : α} {r : List α} (h : smL f r = true) (hx : f x = true) (hl : r.length < 1048576) : smL f (r ++ [x]) = true := by
  simp only [smL, Bool.and_eq_true, List.all_append, List.all_cons, List.all_nil, List.length_append, List.length_cons, List.length_nil] at h ⊢
  exact ⟨Nat.ble_eq_true_of_le (by omega), h.2, hx, trivial⟩
def takeN (w : WorkT) (x : ByteArray) (r : List ByteArray) : WorkT := ⟨r, w.busy ++ [x], w.again, w.fails⟩
def workTake (w : WorkT) : WorkT × ByteArray × Bool :=
  cond (workQOk w) (match w.list with
    | [] => (w, ByteArray.empty, false)
    | x :: r => cond (workQOk (takeN w x r)) (takeN w x r, x, true) (w, ByteArray.empty, false)) (w, ByteArray.empty, false)
def addAgain (w : WorkT) (s : ByteArray) : WorkT := ⟨w.list, w.busy, w.again ++ [s], w.fails⟩
def addList (w : WorkT) (s : ByteArray) : WorkT := ⟨w.list ++ [s], w.busy, w.again, w.fails⟩
def workAdd (w : WorkT) (s : ByteArray) : WorkT × Bool :=
  cond (workQOk w) (cond (isIn w.list s || isIn w.again s) (w, true)
    (cond (isIn w.busy s) (cond (workQOk (addAgain w s)) (addAgain w s, true) (w, false)) (cond (workQOk (addList w s)) (addList w s, true) (w, false)))) (w, false)
end Go.Gm

/- Plain laws: marks of structs, list by list; how many there are. Printed by mkp14.py of this session. -/
namespace Go.Gm
open Go

end Go.Gm

/- Plain functions: orders. -/
namespace Go.Gm
open Go

def hasPre (a b : ByteArray) : Bool := decide ((a.size : Int) ≥ (b.size : Int)) && sEq (a.extract 0 b.size) b
def ours (a : ByteArray) : Bool := hasPre a (bs [113,117,97,121,47])
def isMany (n : Int) : Bool := inR n 0 1000
def paceOk (p : PaceT) : Bool := inR p.up 0 1000 && (inR p.down 0 1000 && (inR p.upSpan 0 3600 && inR p.downSpan 0 3600))
def metricOk (m : MetricT) : Bool := nameOk m.name && (inR m.kind 1 3 && inR m.goal 1 1000000)
noncomputable def noteC (xs : List NoteT) (j : Nat) : Bool :=
  plainOk (atI (t := .note) xs j).key && (!(hasPre (atI (t := .note) xs j).key (bs [113,117,97,121,47])) && (textOk (atI (t := .note) xs j).text && (!(decide (((atI (t := .note) xs j).text.size : Int) > 40)) &&
    (!(decide ((j : Int) > 0)) || sLt (atI (t := .note) xs (j - 1)).key (atI (t := .note) xs j).key))))
noncomputable def notesOk (xs : List NoteT) : Bool := allN (noteC xs) 0 xs.length && decide ((xs.length : Int) ≤ 4)
def metC (xs : List MetricT) (j : Nat) : Bool := metricOk (atI (t := .metric) xs j) && (!(decide ((j : Int) > 0)) || sLt (atI (t := .metric) xs (j - 1)).name (atI (t := .metric) xs j).name)
def metsOk (xs : List MetricT) : Bool := allN (metC xs) 0 xs.length && decide ((xs.length : Int) ≤ 4)
noncomputable def orderOk (o : OrderT) : Bool :=
  nameOk o.name && (nameOk o.target && (inR o.low 1 o.high && (decide (o.high ≤ 1000) && (metsOk o.metrics && (paceOk o.pace && notesOk o.notes)))))
theorem eta_metric (x : MetricT) : (⟨x.name, x.kind, x.goal⟩ : MetricT) = x := rfl
theorem eta_order (x : OrderT) : (⟨x.name, x.target, x.low, x.high, x.metrics, x.pace, x.notes⟩ : OrderT) = x := rfl
theorem eta_order2 (x : OrderT) : (⟨x.name, x.target, x.low, x.high, x.metrics, ⟨x.pace.up, x.pace.down, x.pace.upSpan, x.pace.downSpan⟩, x.notes⟩ : OrderT) = x := rfl
end Go.Gm

/- Plain functions: what has happened. -/
namespace Go.Gm
open Go

noncomputable def eventC (h : HistT) (j : Nat) : Bool :=
  ((atI (t := .event) h.list j).seq == h.base + 1 + (j : Int)) && (inR (atI (t := .event) h.list j).kind 1 2 && (orderOk (atI (t := .event) h.list j).item.order && inR (atI (t := .event) h.list j).item.ver 1 100000))
noncomputable def histOk (h : HistT) : Bool := inR h.base 0 100000 && (!(decide ((h.list.length : Int) > 60)) && allN (eventC h) 0 h.list.length)
noncomputable def since (h : HistT) (n : Int) : List EventT × Bool := cond (histOk h && inR n h.base (h.base + (h.list.length : Int))) (h.list.drop (n - h.base).toNat, true) ([], false)
theorem foldl_snoc {α : Type} (xs out : List α) : xs.foldl (fun o x => o ++ [x]) out = out ++ xs := by
  induction xs generalizing out with
  | nil => simp
  | cons x r ih => rw [List.foldl_cons, ih]; simp
end Go.Gm

/- Plain functions: stores, measures and worlds that are right. -/
namespace Go.Gm
open Go

def verIs (x y : ItemT) : Bool := x.ver == y.ver
def verIn (xs : List ItemT) (y : ItemT) : Bool := xs.any fun x => verIs x y
noncomputable def itemC (xs : List ItemT) (next : Int) (j : Nat) : Bool :=
  orderOk (atI (t := .item) xs j).order && (inR (atI (t := .item) xs j).ver 1 (next - 1) && ((!(decide ((j : Int) > 0)) || sLt (atI (t := .item) xs (j - 1)).order.name (atI (t := .item) xs j).order.name) &&
    !(verIn (xs.take j) (atI (t := .item) xs j))))
noncomputable def storeOk (s : StoreT) : Bool := inR s.next 1 100000 && (decide ((s.items.length : Int) ≤ 6) && allN (itemC s.items s.next) 0 s.items.length)
theorem allN_drop {t : Ty} (q : El t → Bool) (xs : List (El t)) : ∀ (d j : Nat), j + d ≤ xs.length → allN (fun k => !(q (atI xs k))) j d = !(((xs.drop j).take d).any q)
  | 0, j, _ => by simp [allN]
  | d + 1, j, h => by
    obtain ⟨x, hx, hd⟩ := drop_get (xs := xs) (j := j) (by omega)
    rw [hd, List.take_succ_cons, List.any_cons, allN, allN_drop q xs d (j + 1) (by omega), atI_of hx, Bool.not_or]
theorem allN_take {t : Ty} (q : El t → Bool) (xs : List (El t)) (j : Nat) (h : j ≤ xs.length) : allN (fun k => !(q (atI xs k))) 0 j = !((xs.take j).any q) := by
  have := allN_drop q xs j 0 (by omega)
  rwa [List.drop_zero] at this
end Go.Gm

/- slices.Delete: from what it does with cells to a contract. -/
namespace Go.Gm
open Go

variable {wl : World} {P : Program} {E : Env} {w w' : World}

/-- Of an own list some elements, each once, in whatever order. -/
theorem TreeOwn.pick {F : Nat → Prop} {t : Ty} {xs ys : List (El t)} {av : Path → Value} (h : TreeOwn w F t xs av) (σ : Nat → Nat) (hσ : ∀ i y, ys[i]? = some y → xs[σ i]? = some y) (hinj : ∀ i i', σ i = σ i' → i = i')
    (hsame : SameBut (fun k => blk (av []) = some k) w w') {v : Value} (hblk : ∀ k, blk v = some k → blk (av []) = some k) (hn : NodeOwn w' F t ys v fun i j => av [(σ i, j)]) : OwnSl w' F t ys v := by
  have hsub : ∀ i j p s, subR t ys ((i, j) :: p) = some s → subR t xs ((σ i, j) :: p) = some s := by
    intro i j p s hs
    simp only [subR] at hs ⊢
    split at hs
    · rename_i y hy
      rw [hσ i y hy]; exact hs
    · cases hs
  refine ⟨fun p => match p with | [] => v | (i, j) :: p => av ((σ i, j) :: p), rfl, fun p s hs => ?_, fun p q s s' k hp hq hk hk' => ?_⟩
  · cases p with
    | nil => simp only [subR, Option.some.injEq] at hs; subst hs; exact hn
    | cons x p =>
      obtain ⟨i, j⟩ := x
      have hs' := hsub i j p s hs
      exact (h.1 _ s hs').here hsame fun k hk e => by have := h.2 _ [] s ⟨t, xs⟩ k hs' rfl hk e; cases this
  · cases p with
    | nil => cases q with
      | nil => rfl
      | cons y q =>
        obtain ⟨i, j⟩ := y
        have := h.2 [] _ ⟨t, xs⟩ s' k rfl (hsub i j q s' hq) (hblk k hk) hk'
        cases this
    | cons x p =>
      obtain ⟨i, j⟩ := x
      cases q with
      | nil =>
        have := h.2 _ [] s ⟨t, xs⟩ k (hsub i j p s hp) rfl hk (hblk k hk')
        cases this
      | cons y q =>
        obtain ⟨i', j'⟩ := y
        have := h.2 _ _ s s' k (hsub i j p s hp) (hsub i' j' q s' hq) hk hk'
        simp only [List.cons.injEq, Prod.mk.injEq] at this
        obtain ⟨⟨h1, rfl⟩, rfl⟩ := this
        rw [hinj _ _ h1]

end Go.Gm

/- Lists with some elements taken out. -/
namespace Go.Gm
open Go
def delL {α : Type} (xs : List α) (i j : Int) : List α := xs.take i.toNat ++ xs.drop j.toNat
end Go.Gm

/- Plain functions: names taken out of lists; what was looked at. -/
namespace Go.Gm
open Go

/-! ### names -/
def strIs (s t : ByteArray) : Bool := sEq s t
def butName (xs : List ByteArray) (s : ByteArray) : List ByteArray := xs.filter fun x => !(strIs x s)
theorem butName_no {xs : List ByteArray} {s : ByteArray} (h : isIn xs s = false) : butName xs s = xs := by
  unfold butName
  rw [List.filter_eq_self]
  intro x hx
  unfold isIn at h
  rw [List.any_eq_false] at h
  have := h x hx
  simp only [strIs]
  cases hq : sEq x s
  · rfl
  · exact (this hq).elim
def failedI (xs : List FailT) (s : ByteArray) (ok : Bool) : List FailT :=
  match failO xs s with
  | none => cond ok xs (xs ++ [⟨s, (1 : Int)⟩])
  | some i => cond ok (delL xs (i : Int) ((i + 1 : Nat) : Int)) (xs.set i ⟨(atI (t := .fail) xs i).name, minI ((atI (t := .fail) xs i).n + 1) 20⟩)
/-! ### what was looked at -/
def doneW (w : WorkT) (s : ByteArray) (ok : Bool) : WorkT := ⟨cond (isIn w.again s || !ok) (w.list ++ [s]) w.list, butName w.busy s, butName w.again s, failedI w.fails s ok⟩
def workDone (w : WorkT) (s : ByteArray) (ok : Bool) : WorkT × Bool :=
  cond (workQOk w) (cond (isIn w.busy s) (cond (workQOk (doneW w s ok)) (doneW w s ok, true) (w, false)) (w, false)) (w, false)
end Go.Gm

/- Plain laws: what failed waits longer. -/
namespace Go.Gm
open Go

def bigC (xs : List Int) : Bool := decide ((xs.length : Int) > (1048576 : Int))
end Go.Gm

/- Plain laws: a name is looked at by one at a time. -/
namespace Go.Gm
open Go

theorem isIn_iff {xs : List ByteArray} {s : ByteArray} : isIn xs s = true ↔ s ∈ xs := by
  unfold isIn
  rw [List.any_eq_true]
  constructor
  · rintro ⟨x, hx, he⟩
    rw [sEq_iff] at he; subst he; exact hx
  · intro h; exact ⟨s, h, sEq_self s⟩
theorem isIn_not {xs : List ByteArray} {s : ByteArray} : isIn xs s = false ↔ s ∉ xs := by
  rw [← isIn_iff]; cases isIn xs s <;> simp
theorem mem_butName {xs : List ByteArray} {s t : ByteArray} : t ∈ butName xs s ↔ t ∈ xs ∧ t ≠ s := by
  unfold butName strIs
  rw [List.mem_filter]
  constructor
  · rintro ⟨h1, h2⟩
    refine ⟨h1, fun e => ?_⟩
    rw [e, sEq_self] at h2; cases h2
  · rintro ⟨h1, h2⟩
    refine ⟨h1, ?_⟩
    cases hq : sEq t s
    · rfl
    · exact (h2 (sEq_iff.1 hq)).elim
theorem butName_nodup {xs : List ByteArray} {s : ByteArray} (h : xs.Nodup) : (butName xs s).Nodup := List.Pairwise.sublist List.filter_sublist h
theorem butName_len (xs : List ByteArray) (s : ByteArray) : xs.Nodup → xs.length ≤ (butName xs s).length + 1 := by
  induction xs with
  | nil => intro _; simp
  | cons x r ih =>
    intro h
    have h := List.pairwise_cons.1 h
    unfold butName
    rw [List.filter_cons]
    cases hq : strIs x s
    · simp only [Bool.not_false, if_true, List.length_cons]
      have := ih h.2
      unfold butName at this; omega
    · have e : x = s := sEq_iff.1 hq
      have : r.filter (fun y => !(strIs y s)) = r := by
        rw [List.filter_eq_self]
        intro y hy
        cases hq' : strIs y s
        · rfl
        · exact (h.1 y hy (e.trans (sEq_iff.1 hq').symm)).elim
      simp only [Bool.not_true, Bool.false_eq_true, if_false, this, List.length_cons]
      omega
theorem nodup_le : ∀ (ys xs : List ByteArray), xs.Nodup → (∀ s ∈ xs, s ∈ ys) → xs.length ≤ ys.length
  | [], xs, _, h => by
    cases xs with
    | nil => exact Nat.le_refl _
    | cons x r => have := h x (by simp); cases this
  | y :: ys, xs, hn, h => by
    have h1 := butName_len xs y hn
    have h2 := nodup_le ys (butName xs y) (butName_nodup hn) fun s hs => by
      obtain ⟨h3, h4⟩ := mem_butName.1 hs
      rcases List.mem_cons.1 (h s h3) with e | h5
      · exact (h4 e).elim
      · exact h5
    rw [List.length_cons]; omega
theorem nodup_snoc {xs : List ByteArray} {s : ByteArray} (h : xs.Nodup) (hs : s ∉ xs) : (xs ++ [s]).Nodup := by
  unfold List.Nodup
  rw [List.pairwise_append]
  refine ⟨h, List.pairwise_singleton _ _, fun a ha b hb => ?_⟩
  rw [List.mem_singleton] at hb
  subst hb
  exact fun e => hs (e ▸ ha)

def four : List ByteArray := [bs [97], bs [98], bs [99], bs [100]]
theorem four_ok : ∀ s ∈ four, nameOk s = true ∧ smStr s = true := by
  intro s hs
  simp only [four, List.mem_cons, List.not_mem_nil, or_false] at hs
  rcases hs with rfl | rfl | rfl | rfl <;> exact ⟨by decide, by decide⟩
theorem four_len : four.length = 4 := rfl
theorem namesOk_of {xs : List ByteArray} (hn : xs.Nodup) (h : ∀ s ∈ xs, s ∈ four) : namesOk xs = true := by
  have hl := nodup_le four xs hn h
  rw [four_len] at hl
  unfold namesOk
  rw [Bool.and_eq_true, allN_iff]
  refine ⟨fun j _ hj => ?_, decide_eq_true (by omega)⟩
  have hj : j < xs.length := by omega
  have hx := atI_lt (t := .str) hj
  have hm := List.mem_of_getElem? hx
  unfold nameAt
  rw [(four_ok _ (h _ hm)).1, Bool.true_and, isIn_not.2]
  · rfl
  · intro hin
    obtain ⟨i, hi⟩ := List.getElem?_of_mem hin
    rw [List.getElem?_take] at hi
    split at hi
    · rename_i hij
      have := List.pairwise_iff_getElem.1 hn i j (by omega) hj hij
      rw [List.getElem?_eq_getElem (by omega)] at hi hx
      exact this ((Option.some.inj hi).trans (Option.some.inj hx).symm)
    · cases hi

/-- What holds of the work all the while. -/
structure WInv (w : WorkT) : Prop where
  sub : ∀ s, s ∈ w.list ∨ s ∈ w.busy ∨ s ∈ w.again → s ∈ four
  nl : w.list.Nodup
  nb : w.busy.Nodup
  na : w.again.Nodup
  apart : ∀ s ∈ w.list, s ∉ w.busy
  sel : ∀ s ∈ w.again, s ∈ w.busy
  fails : w.fails = []
theorem WInv.ok {w : WorkT} (h : WInv w) : workQOk w = true := by
  have h1 := namesOk_of h.nl fun s hs => h.sub s (.inl hs)
  have h2 := namesOk_of h.nb fun s hs => h.sub s (.inr (.inl hs))
  have h3 := namesOk_of h.na fun s hs => h.sub s (.inr (.inr hs))
  have h4 : inBusyAny w.list w = false := by
    unfold inBusyAny inBusy
    rw [List.any_eq_false]
    intro x hx
    rw [isIn_not.2 (h.apart x hx)]; decide
  have h5 : notBusyAny w.again w = false := by
    unfold notBusyAny notBusy
    rw [List.any_eq_false]
    intro x hx
    rw [isIn_iff.2 (h.sel x hx)]; decide
  unfold workQOk
  rw [h1, h2, h3, h4, h5, h.fails]
  rfl
/-- What is asked for. -/
def Asks (w : WorkT) (s : ByteArray) : Prop := s ∈ w.list ∨ s ∈ w.again

theorem WInv.add {w : WorkT} (h : WInv w) {s : ByteArray} (hs : s ∈ four) : (workAdd w s).2 = true ∧ WInv (workAdd w s).1 ∧ (workAdd w s).1.busy = w.busy ∧ ∀ t, Asks (workAdd w s).1 t ↔ Asks w t ∨ t = s := by
  unfold workAdd
  rw [h.ok]
  simp only [cond_true]
  cases h1 : isIn w.list s || isIn w.again s
  · rw [Bool.or_eq_false_iff, isIn_not, isIn_not] at h1
    obtain ⟨hl, ha⟩ := h1
    simp only [cond_false]
    cases hb : isIn w.busy s
    · have hb' := isIn_not.1 hb
      have I : WInv (addList w s) := by
        refine ⟨fun t ht => ?_, nodup_snoc h.nl hl, h.nb, h.na, fun t ht => ?_, h.sel, h.fails⟩
        · rcases ht with ht | ht
          · rcases List.mem_append.1 ht with ht | ht
            · exact h.sub t (.inl ht)
            · rw [List.mem_singleton] at ht; subst ht; exact hs
          · exact h.sub t (.inr ht)
        · rcases List.mem_append.1 ht with ht | ht
          · exact h.apart t ht
          · rw [List.mem_singleton] at ht; subst ht; exact hb'
      rw [I.ok]
      refine ⟨rfl, I, rfl, fun t => ?_⟩
      show t ∈ w.list ++ [s] ∨ t ∈ w.again ↔ (t ∈ w.list ∨ t ∈ w.again) ∨ t = s
      rw [List.mem_append, List.mem_singleton, or_right_comm]
    · have hb' := isIn_iff.1 hb
      have I : WInv (addAgain w s) := by
        refine ⟨fun t ht => ?_, h.nl, h.nb, nodup_snoc h.na ha, h.apart, fun t ht => ?_, h.fails⟩
        · rcases ht with ht | ht | ht
          · exact h.sub t (.inl ht)
          · exact h.sub t (.inr (.inl ht))
          · rcases List.mem_append.1 ht with ht | ht
            · exact h.sub t (.inr (.inr ht))
            · rw [List.mem_singleton] at ht; subst ht; exact hs
        · rcases List.mem_append.1 ht with ht | ht
          · exact h.sel t ht
          · rw [List.mem_singleton] at ht; subst ht; exact hb'
      rw [I.ok]
      refine ⟨rfl, I, rfl, fun t => ?_⟩
      show t ∈ w.list ∨ t ∈ w.again ++ [s] ↔ (t ∈ w.list ∨ t ∈ w.again) ∨ t = s
      rw [List.mem_append, List.mem_singleton, or_assoc]
  · refine ⟨rfl, h, rfl, fun t => ⟨fun ht => .inl ht, fun ht => ?_⟩⟩
    rcases ht with ht | rfl
    · exact ht
    · rw [Bool.or_eq_true, isIn_iff, isIn_iff] at h1; exact h1
theorem WInv.take1 {w : WorkT} (h : WInv w) {x : ByteArray} {r : List ByteArray} (hl : w.list = x :: r) : workTake w = (takeN w x r, x, true) ∧ WInv (takeN w x r) ∧ x ∉ w.busy ∧ x ∈ four ∧ Asks w x ∧ ∀ t, Asks (takeN w x r) t ↔ Asks w t ∧ t ≠ x := by
  have hx : x ∈ w.list := by rw [hl]; simp
  have hxb := h.apart x hx
  have hn := h.nl
  rw [hl] at hn
  have hn := List.pairwise_cons.1 hn
  have hr : ∀ t ∈ r, t ∈ w.list := fun t ht => by rw [hl]; simp [ht]
  have I : WInv (takeN w x r) := by
    refine ⟨fun t ht => ?_, hn.2, nodup_snoc h.nb hxb, h.na, fun t ht => ?_, fun t ht => List.mem_append.2 (.inl (h.sel t ht)), h.fails⟩
    · rcases ht with ht | ht | ht
      · exact h.sub t (.inl (hr t ht))
      · rcases List.mem_append.1 ht with ht | ht
        · exact h.sub t (.inr (.inl ht))
        · rw [List.mem_singleton] at ht; subst ht; exact h.sub _ (.inl hx)
      · exact h.sub t (.inr (.inr ht))
    · intro hb
      rcases List.mem_append.1 hb with hb | hb
      · exact h.apart t (hr t ht) hb
      · rw [List.mem_singleton] at hb; exact hn.1 t ht hb.symm
  refine ⟨?_, I, hxb, h.sub x (.inl hx), .inl hx, fun t => ⟨fun ht => ?_, fun ht => ?_⟩⟩
  · unfold workTake
    rw [h.ok, hl]
    simp only [cond_true, I.ok]
  · rcases ht with ht | ht
    · exact ⟨.inl (hr t ht), fun e => hn.1 t ht e.symm⟩
    · exact ⟨.inr ht, fun e => hxb (e ▸ h.sel t ht)⟩
  · obtain ⟨ht | ht, hne⟩ := ht
    · rw [hl] at ht
      rcases List.mem_cons.1 ht with e | ht
      · exact (hne e).elim
      · exact .inl ht
    · exact .inr ht
theorem WInv.done {w : WorkT} (h : WInv w) (s : ByteArray) : (workDone w s true).2 = isIn w.busy s ∧ WInv (workDone w s true).1 ∧ (workDone w s true).1.busy = butName w.busy s ∧ ∀ t, Asks (workDone w s true).1 t ↔ Asks w t := by
  unfold workDone
  rw [h.ok]
  simp only [cond_true]
  cases hb : isIn w.busy s
  · exact ⟨rfl, h, (butName_no hb).symm, fun t => Iff.rfl⟩
  · have hb' := isIn_iff.1 hb
    have hf : failedI w.fails s true = [] := by rw [h.fails]; rfl
    have hsl : s ∉ w.list := fun hs => h.apart s hs hb'
    have hlist : (doneW w s true).list = cond (isIn w.again s) (w.list ++ [s]) w.list := by simp [doneW]
    have hmem : ∀ t, t ∈ (doneW w s true).list ↔ t ∈ w.list ∨ (t = s ∧ s ∈ w.again) := by
      intro t
      rw [hlist]
      cases ha : isIn w.again s
      · have := isIn_not.1 ha
        simp only [cond_false]
        exact ⟨.inl, fun ht => ht.elim id fun ⟨_, h2⟩ => (this h2).elim⟩
      · have := isIn_iff.1 ha
        simp only [cond_true, List.mem_append, List.mem_singleton]
        exact ⟨fun ht => ht.imp id fun e => ⟨e, this⟩, fun ht => ht.imp id fun e => e.1⟩
    have I : WInv (doneW w s true) := by
      refine ⟨fun t ht => ?_, ?_, butName_nodup h.nb, butName_nodup h.na, fun t ht => ?_, fun t ht => ?_, hf⟩
      · rcases ht with ht | ht | ht
        · rcases (hmem t).1 ht with ht | ⟨rfl, ht⟩
          · exact h.sub t (.inl ht)
          · exact h.sub _ (.inr (.inr ht))
        · exact h.sub t (.inr (.inl (mem_butName.1 ht).1))
        · exact h.sub t (.inr (.inr (mem_butName.1 ht).1))
      · rw [hlist]
        cases isIn w.again s
        · exact h.nl
        · exact nodup_snoc h.nl hsl
      · intro hq
        obtain ⟨h1, h2⟩ := mem_butName.1 hq
        rcases (hmem t).1 ht with ht | ⟨e, _⟩
        · exact h.apart t ht h1
        · exact h2 e
      · obtain ⟨h1, h2⟩ := mem_butName.1 ht
        exact mem_butName.2 ⟨h.sel t h1, h2⟩
    rw [I.ok]
    refine ⟨rfl, I, rfl, fun t => ?_⟩
    show t ∈ (doneW w s true).list ∨ t ∈ butName w.again s ↔ t ∈ w.list ∨ t ∈ w.again
    rw [hmem, mem_butName]
    constructor
    · rintro ((h1 | ⟨rfl, h1⟩) | ⟨h1, _⟩)
      · exact .inl h1
      · exact .inr h1
      · exact .inr h1
    · rintro (h1 | h1)
      · exact .inl (.inl h1)
      · by_cases e : t = s
        · subst e; exact .inl (.inr ⟨rfl, h1⟩)
        · exact .inr ⟨h1, e⟩

/-- What holds ahead of each round. -/
structure Round (w : WorkT) (asked busy : List ByteArray) : Prop where
  inv : WInv w
  busy : busy = w.busy
  nd : asked.Nodup
  asked : ∀ t, t ∈ asked ↔ Asks w t
theorem Round.four {w : WorkT} {asked busy : List ByteArray} (h : Round w asked busy) : ∀ s ∈ asked, s ∈ four := fun s hs => by
  rcases (h.asked s).1 hs with h1 | h1
  · exact h.inv.sub s (.inl h1)
  · exact h.inv.sub s (.inr (.inr h1))
theorem Round.start : Round ⟨[], [], [], []⟩ [] [] :=
  ⟨⟨fun s h => by simp at h, List.Pairwise.nil, List.Pairwise.nil, List.Pairwise.nil, fun s h => by simp at h, fun s h => by simp at h, rfl⟩, rfl, List.Pairwise.nil, fun t => by simp [Asks]⟩
def askedA (asked : List ByteArray) (s : ByteArray) : List ByteArray := cond (!(isIn asked s)) (asked ++ [s]) asked
theorem Round.add {w : WorkT} {asked busy : List ByteArray} (h : Round w asked busy) {s : ByteArray} (hs : s ∈ Gm.four) : Round (workAdd w s).1 (askedA asked s) busy := by
  obtain ⟨h1, h2, h3, h4⟩ := h.inv.add hs
  refine ⟨h2, by rw [h3]; exact h.busy, ?_, fun t => ?_⟩
  · unfold askedA
    cases hq : isIn asked s
    · exact nodup_snoc h.nd (isIn_not.1 hq)
    · exact h.nd
  · rw [h4, ← h.asked t]
    unfold askedA
    cases hq : isIn asked s
    · simp only [Bool.not_false, cond_true, List.mem_append, List.mem_singleton]
    · have := isIn_iff.1 hq
      simp only [Bool.not_true, cond_false]
      exact ⟨.inl, fun ht => ht.elim id fun e => e ▸ this⟩
theorem Round.take {w : WorkT} {asked busy : List ByteArray} (h : Round w asked busy) {x : ByteArray} {r : List ByteArray} (hl : w.list = x :: r) : Round (takeN w x r) (butName asked x) (busy ++ [x]) ∧ isIn busy x = false := by
  obtain ⟨_, h2, h3, _, _, h4⟩ := h.inv.take1 hl
  refine ⟨⟨h2, by rw [h.busy]; rfl, butName_nodup h.nd, fun t => ?_⟩, isIn_not.2 (by rw [h.busy]; exact h3)⟩
  rw [mem_butName, h.asked t, h4]
theorem Round.done {w : WorkT} {asked busy : List ByteArray} (h : Round w asked busy) (s : ByteArray) : (workDone w s true).2 = isIn busy s ∧ Round (workDone w s true).1 asked (butName busy s) := by
  obtain ⟨h1, h2, h3, h4⟩ := h.inv.done s
  refine ⟨by rw [h1, h.busy], h2, by rw [h3, h.busy], h.nd, fun t => ?_⟩
  rw [h.asked t, h4]

end Go.Gm
namespace Go.Gm
open Go
end Go.Gm
namespace Go.Gm
end Go.Gm

/- The cursor of the draws: what stays true of it. -/
namespace Go.Gm
open Go

def gCur (c : CurT) : Bool := decide (0 ≤ c.i) && Nat.ble c.b.length 1048576
theorem gCur_iff {c : CurT} : gCur c = true ↔ 0 ≤ c.i ∧ c.b.length ≤ 1048576 := by
  unfold gCur
  rw [Bool.and_eq_true, decide_eq_true_eq, Nat.ble_eq]
def gCode (b : List Int) : Bool := Nat.ble b.length 1048576
def gPickS (c : CurT) (l : List ByteArray) : Bool := gCur c && (!l.isEmpty && Nat.ble l.length 1048576)
def gPickI (c : CurT) (l : List Int) : Bool := gCur c && (!l.isEmpty && Nat.ble l.length 1048576)
theorem and255 (A : Int) : 0 ≤ ((BitVec.toNat (BitVec.ofInt (IntKind.bits .i64) A &&& BitVec.ofInt (IntKind.bits .i64) (255 : Int)) : Nat) : Int) ∧
    ((BitVec.toNat (BitVec.ofInt (IntKind.bits .i64) A &&& BitVec.ofInt (IntKind.bits .i64) (255 : Int)) : Nat) : Int) ≤ 255 := by
  refine ⟨Int.natCast_nonneg _, ?_⟩
  have h : BitVec.toNat (BitVec.ofInt (IntKind.bits .i64) A &&& BitVec.ofInt (IntKind.bits .i64) (255 : Int)) ≤ 255 := by
    rw [BitVec.toNat_and]
    exact Nat.le_trans Nat.and_le_right (by decide)
  omega
theorem and255w (A : Int) : 0 ≤ IntKind.wrap .i64 ((BitVec.toNat (BitVec.ofInt (IntKind.bits .i64) A &&& BitVec.ofInt (IntKind.bits .i64) (255 : Int)) : Nat) : Int) ∧
    IntKind.wrap .i64 ((BitVec.toNat (BitVec.ofInt (IntKind.bits .i64) A &&& BitVec.ofInt (IntKind.bits .i64) (255 : Int)) : Nat) : Int) ≤ 255 := by
  have := and255 A
  rw [wrap_id (by omega) (by omega)]; exact this
theorem tmod_bd {x n : Int} (h : 0 ≤ x) (hn : 0 < n) : 0 ≤ Int.tmod x n ∧ Int.tmod x n < n := ⟨Int.tmod_nonneg n h, Int.tmod_lt_of_pos x hn⟩
theorem below4 {x y z w : Int} (hx : 0 ≤ x ∧ x ≤ 255) (hy : 0 ≤ y ∧ y ≤ 255) (hz : 0 ≤ z ∧ z ≤ 255) (hw : 0 ≤ w ∧ w ≤ 255) :
    0 ≤ IntKind.wrap .i64 ((IntKind.wrap .i64 ((IntKind.wrap .i64 ((IntKind.wrap .i64 (x * (16777216 : Int))) + (IntKind.wrap .i64 (y * (65536 : Int))))) + (IntKind.wrap .i64 (z * (256 : Int))))) + w) := by
  rw [wrap_id (x := x * 16777216) (by omega) (by omega), wrap_id (x := y * 65536) (by omega) (by omega), wrap_id (x := z * 256) (by omega) (by omega), wrap_id (x := x * 16777216 + y * 65536) (by omega) (by omega),
    wrap_id (x := x * 16777216 + y * 65536 + z * 256) (by omega) (by omega), wrap_id (by omega) (by omega)]
  omega
theorem mem_atI {t : Ty} {xs : List (El t)} {i : Int} (h0 : 0 ≤ i) (h : i < (xs.length : Int)) : atI xs (Int.toNat i) ∈ xs :=
  List.mem_of_getElem? (atI_lt (by omega))
theorem idxOk {α : Type} {xs : List α} {i : Int} (h0 : 0 ≤ i) (h : i < (xs.length : Int)) : (decide ((0 : Int) ≤ i) && decide (i < (xs.length : Int))) = true := by
  rw [decide_eq_true h0, decide_eq_true h]; rfl
theorem lenPos {α : Type} {xs : List α} (h : (!xs.isEmpty) = true) : 0 < (xs.length : Int) := by
  cases xs with
  | nil => cases h
  | cons x r => simp

theorem gPickS_of {c : CurT} {l : List ByteArray} (h : gCur c = true) (hl : (!l.isEmpty && Nat.ble l.length 1048576) = true) : gPickS c l = true := by
  unfold gPickS; rw [h, hl]; rfl
theorem gPickI_of {c : CurT} {l : List Int} (h : gCur c = true) (hl : (!l.isEmpty && Nat.ble l.length 1048576) = true) : gPickI c l = true := by
  unfold gPickI; rw [h, hl]; rfl
theorem eta_cur (c : CurT) : (⟨c.b, c.i, c.h⟩ : CurT) = c := by cases c; rfl

open Classical in
/-- Are they the same? -/
noncomputable def eqB {α : Type} (a b : α) : Bool := decide (a = b)
theorem eqB_iff {α : Type} {a b : α} : eqB a b = true ↔ a = b := by unfold eqB; simp
noncomputable def gSame {α : Type} (f : α → Bool) (a b : α) : Bool := f a && eqB a b
theorem gSame_iff {α : Type} {f : α → Bool} {a b : α} : gSame f a b = true ↔ f a = true ∧ a = b := by unfold gSame; rw [Bool.and_eq_true, eqB_iff]
theorem gSame_self {α : Type} {f : α → Bool} {a : α} (h : f a = true) : gSame f a a = true := gSame_iff.2 ⟨h, rfl⟩
theorem gCode_of {b : List Int} (h : bigC b = false) : gCode b = true := by
  unfold bigC at h
  have := of_decide_eq_false h
  exact Nat.ble_eq_true_of_le (by omega)
theorem bab_self (a : ByteArray) : (a == a) = true := by rw [beq_toListBytes]; exact beq_self_eq_true _

theorem smStr_in {l : List ByteArray} {s : ByteArray} (h : s ∈ l) (hl : (l.all smStr) = true) : smStr s = true := List.all_eq_true.1 hl s h
theorem wrap_in (x : Int) : -9223372036854775808 ≤ IntKind.wrap .i64 x ∧ IntKind.wrap .i64 x ≤ 9223372036854775807 := by
  have h0 := Int.emod_nonneg x (show (18446744073709551616 : Int) ≠ 0 by decide)
  have h1 := Int.emod_lt_of_pos x (show (0 : Int) < 18446744073709551616 by decide)
  have e : IntKind.wrap .i64 x = if (true && decide (x % 18446744073709551616 ≥ 9223372036854775808)) = true then x % 18446744073709551616 - 18446744073709551616 else x % 18446744073709551616 := rfl
  rw [e]
  split
  · rename_i h
    have := of_decide_eq_true (show decide (x % 18446744073709551616 ≥ 9223372036854775808) = true by simpa using h)
    omega
  · rename_i h
    have : ¬ (x % 18446744073709551616 ≥ 9223372036854775808) := fun hh => h (by simp [hh])
    omega
def paceNew : PaceT := ⟨0, 0, 0, 300⟩
theorem okI_wrap (x : Int) : okI (IntKind.wrap .i64 x) = true := by
  have := wrap_in x
  exact okI_of this.1 this.2

theorem ble_lim {n : Nat} (h : n ≤ 1048576) : Nat.ble (n + 1) LIM = true := Nat.ble_eq_true_of_le (by have : (LIM : Nat) = 4294967296 := rfl; omega)

end Go.Gm

/- What has happened, done again. -/
namespace Go.Gm
open Go
end Go.Gm

/- Drawn stores: what stays small. -/
namespace Go.Gm
open Go
def itemAt (s : StoreT) (nm : ByteArray) : Int := plc (firstN (fun j => sEq (atI (t := .item) s.items j).order.name nm) 0 s.items.length)
theorem itemAt_bd (s : StoreT) (nm : ByteArray) : itemAt s nm < 0 ∨ ∃ i : Nat, itemAt s nm = (i : Int) ∧ i < s.items.length := by
  unfold itemAt
  cases h : firstN (fun j => sEq (atI (t := .item) s.items j).order.name nm) 0 s.items.length with
  | none => exact .inl (show (-1 : Int) < 0 by omega)
  | some i => obtain ⟨_, h2, _⟩ := firstN_some h; exact .inr ⟨i, rfl, by omega⟩
def storeNew : StoreT := ⟨[], 1⟩
theorem store_parts {s : StoreT} (h : sm_store s = true) : smL sm_item s.items = true ∧ okI s.next = true := by
  simpa only [sm_store, Bool.and_eq_true] using h
theorem store_mk {xs : List ItemT} {n : Int} (h : smL sm_item xs = true) (hn : okI n = true) : sm_store ⟨xs, n⟩ = true := by
  simp only [sm_store, h, hn, Bool.and_self]
theorem item_mk {o : OrderT} {n : Int} (h : sm_order o = true) (hn : okI n = true) : sm_item ⟨o, n⟩ = true := by
  simp only [sm_item, h, hn, Bool.and_self]
theorem items_put {xs : List ItemT} {x : ItemT} (h : smL sm_item xs = true) (hx : sm_item x = true) (hl : xs.length ≤ 1000) (q : Nat) : smL sm_item (xs.take q ++ [x] ++ xs.drop q) = true := by
  simp only [smL, Bool.and_eq_true] at h ⊢
  refine ⟨Nat.ble_eq_true_of_le (by simp only [List.length_append, List.length_take, List.length_drop, List.length_cons, List.length_nil]; omega), List.all_eq_true.2 fun y hy => ?_⟩
  simp only [List.mem_append, List.mem_singleton] at hy
  rcases hy with (hy | rfl) | hy
  · exact List.all_eq_true.1 h.2 y (List.mem_of_mem_take hy)
  · exact hx
  · exact List.all_eq_true.1 h.2 y (List.mem_of_mem_drop hy)
theorem items_cut {xs : List ItemT} (h : smL sm_item xs = true) (q r : Nat) (hq : q ≤ r) : smL sm_item (xs.take q ++ xs.drop r) = true := by
  have hl := smL_len h
  simp only [smL, Bool.and_eq_true] at h ⊢
  refine ⟨Nat.ble_eq_true_of_le (by simp only [List.length_append, List.length_take, List.length_drop]; omega), List.all_eq_true.2 fun y hy => ?_⟩
  simp only [List.mem_append] at hy
  rcases hy with hy | hy
  · exact List.all_eq_true.1 h.2 y (List.mem_of_mem_take hy)
  · exact List.all_eq_true.1 h.2 y (List.mem_of_mem_drop hy)
theorem items_set {xs : List ItemT} {x : ItemT} (h : smL sm_item xs = true) (hx : sm_item x = true) (q : Nat) : smL sm_item (xs.set q x) = true := by
  simp only [smL, Bool.and_eq_true] at h ⊢
  refine ⟨by rw [List.length_set]; exact h.1, List.all_eq_true.2 fun y hy => ?_⟩
  rcases List.mem_or_eq_of_mem_set hy with hy | rfl
  · exact List.all_eq_true.1 h.2 y hy
  · exact hx
def gSP (s : StoreT) (o : OrderT) : Bool := sm_store s && (sm_order o && Nat.ble s.items.length 1000)
def gSD (s : StoreT) (_ : ByteArray) : Bool := sm_store s && Nat.ble s.items.length 1000
theorem lim_le {n : Nat} (h : n ≤ 3000) : Nat.ble n LIM = true := Nat.ble_eq_true_of_le (by have : (LIM : Nat) = 4294967296 := rfl; omega)
theorem item_at {xs : List ItemT} (h : smL sm_item xs = true) (i : Nat) : sm_item (atI (t := .item) xs i) = true := by
  by_cases hi : i < xs.length
  · exact List.all_eq_true.1 (smL_all h) _ (List.mem_of_getElem? (atI_lt (t := .item) hi))
  · simp only [atI, List.getD_eq_getElem?_getD, List.getElem?_eq_none (Nat.le_of_not_lt hi), Option.getD_none]; rfl
end Go.Gm

/- Plain functions and laws: marks of trees. Printed by mkp17.py of this session. -/
namespace Go.Gm
open Go

end Go.Gm

/- Plain functions: numbers that are read, ways into trees. -/
namespace Go.Gm
open Go

end Go.Gm

/- Drawn orders: what stays small when something is put into them. -/
namespace Go.Gm
open Go
theorem smL_set {α : Type} {f : α → Bool} {xs : List α} {i : Nat} {y : α} (h : smL f xs = true) (hy : f y = true) : smL f (xs.set i y) = true := by
  unfold smL at *
  simp only [Bool.and_eq_true, List.all_eq_true, List.length_set] at *
  refine ⟨h.1, fun x hx => ?_⟩
  rcases List.mem_or_eq_of_mem_set hx with hx | rfl
  · exact h.2 x hx
  · exact hy
theorem smL_app {α : Type} {f : α → Bool} {r : List α} {x : α} (h : smL f r = true) (hx : f x = true) (hl : Nat.blt r.length 1048576 = true) : smL f (r ++ [x]) = true :=
  smL_snoc h hx (by rw [Nat.blt_eq] at hl; exact hl)
theorem met_at {xs : List MetricT} (h : smL sm_metric xs = true) (i : Nat) : sm_metric (atI (t := .metric) xs i) = true := by
  by_cases hi : i < xs.length
  · exact List.all_eq_true.1 (smL_all h) _ (List.mem_of_getElem? (atI_lt (t := .metric) hi))
  · simp only [atI, List.getD_eq_getElem?_getD, List.getElem?_eq_none (Nat.le_of_not_lt hi), Option.getD_none]; rfl
theorem met_at_name {xs : List MetricT} (h : smL sm_metric xs = true) (i : Nat) : smStr (atI (t := .metric) xs i).name = true := by
  have := met_at h i; simp only [sm_metric, Bool.and_eq_true] at this; exact this.1
theorem met_at_kind {xs : List MetricT} (h : smL sm_metric xs = true) (i : Nat) : okI (atI (t := .metric) xs i).kind = true := by
  have := met_at h i; simp only [sm_metric, Bool.and_eq_true] at this; exact this.2.1
theorem blt_of {n m : Nat} (h : n < m) : Nat.blt n m = true := by rw [Nat.blt_eq]; exact h
end Go.Gm

/- What is chosen by a pick, and by its opposite. -/
namespace Go.Gm
open Go
def flipOp (o : Int) : Int := atI (t := .i .i64) ([(0 : Int), (2 : Int), (1 : Int), (4 : Int), (3 : Int), (6 : Int), (5 : Int)] : List Int) (Int.toNat o)
def opposite (p : PickT) : PickT := ⟨flipOp p.op, p.key, p.vals⟩
theorem chosen_filter (s : StoreT) (ps : List PickT) : chosen s ps = (s.items.filter fun x => !(fitsNotAny ps x)).map fun x => x.order.name := by
  have key : ∀ (xs : List ItemT) (out : List ByteArray), xs.foldl (chosenStep ps) out = out ++ (xs.filter fun x => !(fitsNotAny ps x)).map fun x => x.order.name := by
    intro xs
    induction xs with
    | nil => intro out; simp
    | cons x r ih =>
      intro out
      rw [List.foldl_cons, ih]
      unfold chosenStep
      cases h : fitsNotAny ps x <;> simp [h]
  unfold chosen
  rw [key]; rfl
theorem chosen_lenL (s : StoreT) (ps : List PickT) : (chosen s ps).length ≤ s.items.length := by
  rw [chosen_filter, List.length_map]
  exact List.length_filter_le _ _
theorem chosen_nilL (s : StoreT) : (chosen s []).length = s.items.length := by
  rw [chosen_filter, List.length_map]
  have : (s.items.filter fun x => !(fitsNotAny [] x)) = s.items := List.filter_eq_self.2 fun x _ => rfl
  rw [this]
theorem chosen_sub {s : StoreT} {ps : List PickT} {p : PickT} (hp : p ∈ ps) {n : ByteArray} (h : n ∈ chosen s ps) : isIn (chosen s [p]) n = true := by
  rw [chosen_filter] at h
  obtain ⟨x, hx, rfl⟩ := List.mem_map.1 h
  obtain ⟨h1, h2⟩ := List.mem_filter.1 hx
  unfold isIn
  refine List.any_eq_true.2 ⟨x.order.name, ?_, sEq_self _⟩
  rw [chosen_filter]
  refine List.mem_map.2 ⟨x, List.mem_filter.2 ⟨h1, ?_⟩, rfl⟩
  simp only [fitsNotAny, Bool.not_eq_true', List.any_eq_false, List.any_cons, List.any_nil, Bool.or_false] at h2 ⊢
  simpa using h2 p hp
theorem pickOk_op {p : PickT} (h : pickOk p = true) : p.op = 1 ∨ p.op = 2 ∨ p.op = 3 ∨ p.op = 4 ∨ p.op = 5 ∨ p.op = 6 := by
  unfold pickOk at h
  simp only [Bool.and_eq_true, Bool.or_eq_true, beq_iff_eq] at h
  omega
theorem fits_flip {p : PickT} (h : pickOk p = true) (ns : List NoteT) : fits (opposite p) ns = !(fits p ns) := by
  have ho := pickOk_op h
  obtain ⟨op, key, vals⟩ := p
  simp only at ho
  have e2 : ∀ o, among ⟨o, key, vals⟩ ns = among ⟨0, key, vals⟩ ns := fun _ => rfl
  have e3 : ∀ o n, noteIs n ⟨o, key, vals⟩ = noteIs n ⟨0, key, vals⟩ := fun _ _ => rfl
  rcases ho with rfl | rfl | rfl | rfl | rfl | rfl
  · have hq : pickOk ⟨2, key, vals⟩ = true := by unfold pickOk at h ⊢; simpa using h
    have : opposite ⟨1, key, vals⟩ = ⟨2, key, vals⟩ := rfl
    rw [this]; unfold fits; rw [h, hq]
    simp [e2]
  · have hq : pickOk ⟨1, key, vals⟩ = true := by unfold pickOk at h ⊢; simpa using h
    have : opposite ⟨2, key, vals⟩ = ⟨1, key, vals⟩ := rfl
    rw [this]; unfold fits; rw [h, hq]
    simp [e2]
  · have hq : pickOk ⟨4, key, vals⟩ = true := by unfold pickOk at h ⊢; simpa using h
    have : opposite ⟨3, key, vals⟩ = ⟨4, key, vals⟩ := rfl
    rw [this]; unfold fits; rw [h, hq]
    simp [e2]
  · have hq : pickOk ⟨3, key, vals⟩ = true := by unfold pickOk at h ⊢; simpa using h
    have : opposite ⟨4, key, vals⟩ = ⟨3, key, vals⟩ := rfl
    rw [this]; unfold fits; rw [h, hq]
    simp [e2]
  · have hq : pickOk ⟨6, key, vals⟩ = true := by unfold pickOk at h ⊢; simpa using h
    have : opposite ⟨5, key, vals⟩ = ⟨6, key, vals⟩ := rfl
    rw [this]; unfold fits; rw [h, hq]
    simp [e3]
  · have hq : pickOk ⟨5, key, vals⟩ = true := by unfold pickOk at h ⊢; simpa using h
    have : opposite ⟨6, key, vals⟩ = ⟨5, key, vals⟩ := rfl
    rw [this]; unfold fits; rw [h, hq]
    simp [e3]
theorem filter_both {α : Type} (q : α → Bool) : ∀ xs : List α, (xs.filter fun x => !(q x)).length + (xs.filter q).length = xs.length
  | [] => rfl
  | x :: r => by
    have := filter_both q r
    cases h : q x <;> simp [h] <;> omega
theorem chosen_flip {s : StoreT} {p : PickT} (h : pickOk p = true) : (chosen s [opposite p]).length + (chosen s [p]).length = s.items.length := by
  rw [chosen_filter, chosen_filter, List.length_map, List.length_map]
  have e : ∀ (q : PickT) (x : ItemT), (!(fitsNotAny [q] x)) = fits q x.order.notes := by
    intro q x
    simp [fitsNotAny, fitsNot]
  simp only [e, fits_flip h]
  exact filter_both (fun x : ItemT => fits p x.order.notes) s.items
theorem take_drop_one {t : Ty} {xs : List (El t)} {j : Nat} (h : j < xs.length) : (xs.take (j + 1)).drop j = [atI xs j] := by
  have hx := atI_lt h
  rw [List.drop_take, show j + 1 - j = 1 by omega, List.drop_eq_getElem_cons h]
  rw [List.getElem?_eq_getElem h] at hx
  simp only [List.take_succ_cons, List.take_zero, Option.some.inj hx]
theorem pick_mk {o : Int} {k : ByteArray} {vs : List ByteArray} (ho : okI o = true) (hk : smStr k = true) (hv : smL smStr vs = true) : sm_pick ⟨o, k, vs⟩ = true := by
  simp only [sm_pick, ho, hk, hv, Bool.and_self]
theorem pick_at {xs : List PickT} (h : smL sm_pick xs = true) {i : Nat} (hi : i < xs.length) : sm_pick (atI (t := .pick) xs i) = true :=
  List.all_eq_true.1 (smL_all h) _ (List.mem_of_getElem? (atI_lt (t := .pick) hi))
theorem notes_put {x : ItemT} {ns : List NoteT} (h : sm_item x = true) (hn : smL sm_note ns = true) : sm_item ⟨⟨x.order.name, x.order.target, x.order.low, x.order.high, x.order.metrics, x.order.pace, ns⟩, x.ver⟩ = true := by
  simp only [sm_item, sm_order, Bool.and_eq_true] at h ⊢
  exact ⟨⟨h.1.1, h.1.2.1, h.1.2.2.1, h.1.2.2.2.1, h.1.2.2.2.2.1, h.1.2.2.2.2.2.1, hn⟩, h.2⟩
end Go.Gm

/- The closing of a row, with what is known of the world at the start. -/
namespace Go.Gm
open Go

theorem handed_shaped {H : Type} {enc : TypeId × Value → H} {a : Assume} {C : Checked} {os : Os} {f : FuncId} {fn : Func} {s : ChangeSpec} {conds : List PathCond} {apart fresh handsOn again : Bool}
    (own : ownKnob C.prog.godebug = none) (started : os.Started) (noInit : C.prog.inits.idxOf? f = none) (hfn : C.prog.funcs[f]? = some fn)
    (witness : ∃ (w : World) (tape : Tape) (i : Input), w.os = os ∧ (w.forCall tape i).Shaped C.prog ∧ i.vars = [] ∧ Input.okWide C.prog (w.forCall tape i) .any w.heap.size f i ∧
      s.pre6 enc C.prog fn conds apart (w.forCall tape i).memory i.args ∧ a.holds C.prog (lone (Frame.enter C.prog f i.args .normal) [] (w.forCall tape i)))
    (contract : ∀ (W : World) (base : Nat) (args : Array Value) (ds gs : List (DataW H)) (before : List MemPlace), W.ShapedOpen C.prog →
      (∀ (j : Nat) t v, fn.params[j]? = some t → args[j]? = some v → Value.okWide C.prog W .any base t v) →
      DataW.Whole enc C.prog fn.params.toList s.vars apart W args.toList ds gs before →
      Calls C.prog f args W fun e W' => ∃ v, e = .returned v ∧ s.post enc C.prog fn apart fresh handsOn again W args v W') :
    ReturnsInHanded a C os f .any (s.pre6 enc C.prog fn conds apart) (s.post enc C.prog fn apart fresh handsOn again) := by
  refine returnsInHanded_of_calls own started noInit witness ?_
  intro w tape i _ hsh _ hok hpre _
  obtain ⟨_, _, _, fn', hfn', _, _, _, _, hval⟩ := hok
  have e : fn' = fn := Option.some.inj (hfn'.symm.trans hfn)
  subst e
  obtain ⟨⟨ds, gs, before, hw, _⟩, _⟩ := hpre
  have hw' := DataW.Whole.of_heap (w' := w.forCall tape i) (by rfl) hw
  refine (contract (w.forCall tape i) w.heap.size i.args ds gs before hsh hval hw').mono fun e W' ⟨v, he, hp⟩ => ?_
  subst he
  exact ChangeSpec.post_blind hp

end Go.Gm

/- What answers a bool alone may be read alone as well as be the caller's own. -/
namespace Go.Gm
open Go
theorem bool_rd {w : World} {F : Nat → Prop} {b : Bool} {u : Value} (h : ValRd w F .bool b u) : u = .bool b := by
  obtain ⟨us, hform, hrow⟩ := h
  obtain ⟨e1, _⟩ := hform.size rfl
  obtain ⟨_, hr⟩ := hrow
  obtain ⟨z, hz, hcz⟩ := hr 0 (.v (.bool b)) rfl
  subst e1
  have hcz : z = .bool b := hcz
  subst hcz
  exact Option.some.inj hz
theorem spec_up {P : Program} {f : Nat} {modes : List Am} {q : Q} (hs : SpecOk P f (Spec.of modes [false] false q)) (hq : ∀ ds outs, q ds = some (true, outs) → ∃ b : Bool, outs = [.d .bool b]) : SpecOk P f (Spec.of modes [false] true q) := by
  intro R ds k r hr wl w us Mf ROa Fs hWl hBs hA hp hFM hRM hRlt hMlt
  obtain ⟨outs, ho, hk⟩ := Spec.of_some hr
  obtain ⟨b, rfl⟩ := hq ds outs ho
  have hr0 : (Spec.of modes [false] false q).fn ds some = some [.d .bool b] := by
    show (match q ds with | some (g, outs) => cond g (some outs) none | none => none) = some _
    rw [ho]; rfl
  refine Calls.mono (hs ds some _ hr0 wl w us Mf ROa Fs hWl hBs hA hp hFM hRM hRlt hMlt) fun e w' ⟨outs, h1, h2⟩ => ?_
  have h1 : outs = [.d .bool b] := Option.some.inj h1
  subst h1
  refine ⟨_, hk, ?_, h2.kept⟩
  obtain ⟨rs, Gs, Bs, he, hRes, hB, hB1, hB2, _, _, _, _, hB3⟩ := h2.out
  have hRes : RessOk wl w' false [false] [.d .bool b] rs Gs := hRes
  cases hRes with
  | val h hs' =>
    cases hs'
    have h : ValRd w' _ .bool b _ := h
    have e := bool_rd h
    subst e
    refine ⟨_, [fun _ => False], Bs, he, ?_, hB, hB1, hB2, fun _ => ⟨List.pairwise_singleton _ _, fun G hG k hk => ?_⟩, fun h => (by cases h), fun G hG B _ k hk => ?_, fun G hG k hk => ?_, hB3⟩
    · exact .val (show ValOwn w' (fun _ => False) .bool b _ from valOwn_v rfl rfl rfl) .nil
    all_goals
      rw [List.mem_singleton.1 hG] at hk
      exact hk.elim
end Go.Gm

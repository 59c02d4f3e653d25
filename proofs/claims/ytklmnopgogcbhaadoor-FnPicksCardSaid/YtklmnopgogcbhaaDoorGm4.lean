/- The G-machine, part 4: an evaluator of translated code on typed values, and that it is sound. No conditions. -/
import Derived.Test.YtklmnopgogcbhaaDoorGm3
import Derived.Laws.Sem
import Derived.Laws.StructEq
import Derived.KernelRfl
import Derived.Lib.Bytealg
import Derived.Laws.Strings
import Derived.Laws.BitsLemmas
import Derived.Lib.Replace
import Derived.Lib.SplitLaws
import Derived.DataReads
import Derived.ChangeArms
import Derived.ChangeShapes
import Derived.ChangeMaps5
import Derived.Carry
import Derived.ChangeCalls
import Derived.RowKit3
import Derived.Shelf.Strings.OnBuilder
import Derived.Laws.Cover4
import Derived.Laws.CopyRow
import Derived.Deep.RegionLaw
import Derived.Below
import Derived.Lib.IndexMore
import Derived.Lib.CutLaws
import Derived.Handed
/- A function, whole: how its arguments come in. -/
namespace Go.Gm
open Go

section ev
variable {R : Type}
def entry1 (j : Nat) (m : Am) (d : Dt) (st : St) (k : St → Option R) : Option R :=
  match m, d with
  | .ro, .d t x => impRes false st j (64 * j) [false] [.d t x] fun cs st _ => match cs with | [c] => k { st with slots := aset st.slots j (.c c) } | _ => none
  | .mov, .d t x => impRes true st j (64 * j) [false] [.d t x] fun cs st _ => match cs with | [c] => k { st with slots := aset st.slots j (.c c) } | _ => none
  | .mut, .d (.sl t) x => impRes true st j (64 * j) [false] [.d (.sl t) x] fun cs st _ => match cs with | [c] => k { st with slots := aset st.slots j (.c c) } | _ => none
  | .pmut, .d t x => impRes true st j (64 * j) [true] [.d t x] fun cs st _ => match cs with | [c] => k { st with slots := aset st.slots j (.c c) } | _ => none
  | .pro, .d t x => k { st with slots := aset st.slots j (.c (.one (.rp t x 0))) }
  | .kp, .d t x => (cmOf t (impK (enc t x))).bind fun c => k { st with slots := aset st.slots j (.c c) }
  | .fn, .clo f ys => k { st with slots := aset st.slots j (.c (.one (.cloR f ys))) }
  | _, _ => none
def entry : Nat → List Am → List Dt → St → (St → Option R) → Option R
  | _, [], [], st, k => k st
  | j, m :: ms, d :: ds, st, k => entry1 j m d st fun st => entry (j + 1) ms ds st k
  | _, _, _, _, _ => none
end ev

variable {R : Type} {P : Program} {E : Env} {w0 w : World} {Mf : Nat → Prop} {g : Gh} {st : St} {a : Act}

/-- What came in: F's blocks are the frame's from now on. -/
structure Came (g : Gh) (st : St) (g' : Gh) (st' : St) (F : Nat → Prop) : Prop where
  n : g'.n = g.n
  ro : g'.ro = g.ro
  own : ∀ id, OwnAt st' id → (OwnAt st id ∧ g'.rf id = g.rf id) ∨ ∀ k, g'.rf id k → F k
  box : ∀ b, BoxAt st' b → (BoxAt st b ∧ g'.bx b = g.bx b) ∨ F (g'.bx b)

theorem Came.free {g' : Gh} {st' : St} {F : Nat → Prop} (h : Came g st g' st' F) {k : Nat} (hf : Free w0 Mf g st k) (hk : ¬ F k) : Free w0 Mf g' st' k := {
  r := fun id hi hr => by
    rcases h.own id hi with ⟨h1, h2⟩ | h1
    · rw [h2] at hr; exact hf.r id h1 hr
    · exact hk (h1 k hr)
  ro := by rw [h.ro]; exact hf.ro
  b := fun b hb e => by
    rcases h.box b hb with ⟨h1, h2⟩ | h1
    · rw [h2] at e; exact hf.b b h1 e
    · rw [e] at h1; exact hk h1
  mine := hf.mine }
theorem Inv.comeVal (I : Inv w0 Mf g st a w) {d id : Nat} {t : Ty} {x : El t} {u : Value} {F : Nat → Prop} (hv : ValOwn w F t x u) (hf : ∀ k, F k → Free w0 Mf g st k ∧ k < w.heap.size) {k : List Cm → St → Dl → Option R} {r : R}
    (h : impRes true st d id [false] [.d t x] k = some r) : ∃ c g' st' δ, k [c] st' δ = some r ∧ Inv w0 Mf g' st' a w ∧ Came g st g' st' F ∧ CmRel w g' st' c u := by
  obtain ⟨vs, hform, hrow⟩ := hv
  obtain ⟨Fs, hO, hpF, hsub⟩ := hrow.list
  simp only [Gm.impRes] at h
  obtain ⟨ss, m, g1, st1, u1, h, I1, G1, hc⟩ := Inv.impOwn I hO (fun y hy => enc_flat' hy) hpF (fun F' hF n hn => hf n (hsub F' hF n hn)) h
  obtain ⟨c, hcm, h⟩ := bindS h
  obtain ⟨u', hform', hcm'⟩ := Form.of hcm (CsL.arr hc)
  have := hform.uniq hform'
  subst this
  refine ⟨c, g1, st1, _, h, I1, ⟨G1.n, G1.ro, fun id hi => ?_, fun b hb => ?_⟩, hcm'⟩
  · exact (G1.own id hi).imp (fun h => h) fun h k hk => let ⟨F', hF, hk'⟩ := h k hk; hsub F' hF k hk'
  · refine .inl ⟨?_, by rw [G1.bx]⟩
    rw [G1.eq] at hb; exact hb

theorem Inv.comePtr (I : Inv w0 Mf g st a w) {d id : Nat} {t : Ty} {x : El t} {u : Value} {F : Nat → Prop} (hv : PtrOwn g.n.wl w F t x u) (hf : ∀ k, F k → Free w0 Mf g st k ∧ k < w.heap.size) {k : List Cm → St → Dl → Option R} {r : R}
    (h : impRes true st d id [true] [.d t x] k = some r) : ∃ c g' st' δ, k [c] st' δ = some r ∧ Inv w0 Mf g' st' a w ∧ Came g st g' st' F ∧ CmRel w g' st' c u := by
  obtain ⟨b, vs, el, rfl, hGb, hb, hrow⟩ := hv
  simp only [Gm.impRes] at h
  split at h
  case h_2 => cases h
  rename_i hnone
  obtain ⟨ss, m, g1, st1, u1, h, I1, G1, hc⟩ := Inv.impB I hrow (fun y hy => enc_flat' hy) (fun n hn => hf n hn.1) h
  have hnone1 : aget st1.boxes d = none := by rw [G1.eq]; exact hnone
  obtain ⟨hfb, _⟩ := hf b hGb
  have I2 := I1.newBox (d := d) (nb := b) (t := t) hnone1 hb (CsL.arr hc) (fun id' hi h5 => by
      rcases G1.own id' hi with ⟨h6, h7⟩ | h6
      · rw [h7] at h5; exact hfb.r id' h6 h5
      · exact (h6 b h5).2 rfl) (by rw [G1.ro]; exact hfb.ro) (fun b' hb' => by rw [G1.bx]; rw [G1.eq] at hb'; exact hfb.b b' hb') hfb.mine
  refine ⟨_, _, _, _, h, I2, ⟨G1.n, G1.ro, fun id hi => ?_, fun b' hb' => ?_⟩, ?_⟩
  · exact (G1.own id hi).imp (fun h => h) fun h k hk => (h k hk).1
  · by_cases e : b' = d
    · subst e
      refine .inr ?_
      simp only [Gh.setB, if_true]; exact hGb
    · refine .inl ⟨?_, ?_⟩
      · simp only [BoxAt, aget_aset_ne _ _ e, G1.eq] at hb'; exact hb'
      · simp only [Gh.setB, e, if_false]; rw [G1.bx]
  · exact ⟨rfl, by simp [Gh.setB], by simp [aget_aset_self]⟩

/-- The blocks that are handed over or lent. -/
inductive Given : List Am → List (Nat → Prop) → Nat → Prop where
  | here {m ms F Fs k} (hm : m.reads = false) (h : F k) : Given (m :: ms) (F :: Fs) k
  | there {m ms F Fs k} (h : Given ms Fs k) : Given (m :: ms) (F :: Fs) k
theorem Given.any {ms : List Am} {Fs : List (Nat → Prop)} {k : Nat} (h : Given ms Fs k) : ∃ F ∈ Fs, F k := by
  induction h with
  | here _ h => exact ⟨_, by simp, h⟩
  | there _ ih => obtain ⟨F, hF, h⟩ := ih; exact ⟨F, by simp [hF], h⟩
theorem Given.none {ms : List Am} (h : ms.all Am.reads = true) {Fs : List (Nat → Prop)} {k : Nat} : ¬ Given ms Fs k := by
  intro hg
  induction hg with
  | here hm _ => simp only [List.all_cons, Bool.and_eq_true] at h; rw [hm] at h; cases h.1
  | there _ ih => simp only [List.all_cons, Bool.and_eq_true] at h; exact ih h.2

theorem entry_sound {ROa : Nat → Prop} : ∀ {ms : List Am} {ds : List Dt} {us : List Value} {Fs : List (Nat → Prop)} {j : Nat} {g : Gh} {st : St} {k : St → Option R} {r : R}, Inv w0 Mf g st a w → (∀ (i : Nat) u, us[i]? = some u → a.tmps[j + i]? = some u) →
    ArgsOk g.n.wl w ROa ms ds us Fs → PairApart Fs → (∀ n, Given ms Fs n → Free w0 Mf g st n ∧ n < w.heap.size) → g.ro = ROa → entry j ms ds st k = some r → ∃ g' st', k st' = some r ∧ g'.n = g.n ∧ Inv w0 Mf g' st' a w
  | [], ds, us, Fs, j, g, st, k, r, I, hus, hA, hp, hf, hro, h => by
    cases hA
    exact ⟨g, st, h, rfl, I⟩
  | m :: ms, ds0, us0, Fs0, j, g, st, k, r, I, hus, hA, hp, hf, hro, h => by
    cases hA with
    | cons hA1 hA2 =>
    rename_i d ds u us F Fs
    obtain ⟨hp1, hp2⟩ := List.pairwise_cons.1 hp
    simp only [entry] at h
    have hu : a.tmps[j]? = some u := hus 0 u rfl
    have hus' : ∀ (i : Nat) v, us[i]? = some v → a.tmps[j + 1 + i]? = some v := fun i v hv => by
      have := hus (i + 1) v (by simpa using hv)
      rw [Nat.add_assoc, Nat.add_comm 1 i]; exact this
    -- what is read
    have rd : ∀ {sv : Sv} {k' : St → Option R}, k' = (fun st => entry (j + 1) ms ds st k) → SvRel w g st sv u → k' { st with slots := aset st.slots j sv } = some r → ∃ g' st', k st' = some r ∧ g'.n = g.n ∧ Inv w0 Mf g' st' a w := by
      intro sv k' e hs h
      subst e
      exact entry_sound (I.note hu hs) hus' hA2 hp2 (fun n hn => let ⟨h1, h2⟩ := hf n (.there hn); ⟨⟨h1.r, h1.ro, h1.b, h1.mine⟩, h2⟩) hro h
    -- what is handed over or lent
    have mv : m.reads = false → ∀ {c : Cm} {g1 : Gh} {st1 : St} {k' : St → Option R}, k' = (fun st => entry (j + 1) ms ds st k) → Inv w0 Mf g1 st1 a w → Came g st g1 st1 F → CmRel w g1 st1 c u → k' { st1 with slots := aset st1.slots j (.c c) } = some r →
        ∃ g' st', k st' = some r ∧ g'.n = g.n ∧ Inv w0 Mf g' st' a w := by
      intro hm c g1 st1 k' e I1 C1 hc h
      subst e
      obtain ⟨g', st', h1, h2, h3⟩ := entry_sound (g := g1) (I1.note hu (sv := .c c) hc) hus' (by rw [C1.n]; exact hA2) hp2 (fun n hn => by
        obtain ⟨hfr, hlt⟩ := hf n (.there hn)
        have := C1.free hfr (fun hk => by
          obtain ⟨G, hG, hg⟩ := hn.any
          exact hp1 G hG n hk hg)
        exact ⟨⟨this.r, this.ro, this.b, this.mine⟩, hlt⟩) (by rw [C1.ro]; exact hro) h
      exact ⟨g', st', h1, h2.trans C1.n, h3⟩
    cases m with
    | ro =>
      cases d with
      | clo _ _ => cases hA1
      | d t x =>
        simp only [entry1] at h
        have hv : ValRd w ROa t x u := hA1
        have hR : RessOk g.n.wl w false [false] [.d t x] [u] [ROa] := .val (by simpa using hv) .nil
        obtain ⟨cms, δ, h, _, _, hc⟩ := impResRd (g := g) (st := st) hR (fun G hG n hn => by
          have : G = ROa := by simpa using hG
          subst this; rw [hro]; exact hn) h
        cases cms with
        | nil => exact hc.elim
        | cons c cs =>
          cases cs with
          | nil => exact rd rfl (sv := .c c) hc.1 h
          | cons _ _ => exact hc.2.elim
    | mov =>
      cases d with
      | clo _ _ => cases hA1
      | d t x =>
        simp only [entry1] at h
        obtain ⟨c, g1, st1, δ, h, I1, C1, hc⟩ := I.comeVal hA1 (fun n hn => hf n (.here rfl hn)) h
        exact mv rfl rfl I1 C1 hc h
    | «mut» =>
      cases d with
      | clo _ _ => cases hA1
      | d t x =>
        obtain ⟨e, xs, heq, hO⟩ := hA1
        cases heq
        simp only [entry1] at h
        have hflat : flatB u = true := by
          obtain ⟨av, h0, hav⟩ := hO
          rcases hav.1 [] _ rfl with ⟨_, h⟩ | ⟨_, _, _, _, _, h, _⟩ <;> rw [h0] at h <;> subst h <;> rfl
        have hv : ValOwn w F (.sl e) xs u := by
          refine ⟨#[u], by simp [Form, isSt, hflat], fun j => if j = 0 then F else fun _ => False, fun j k hk => ?_, fun j j' k hk hk' => ?_, by simp [enc], fun j c hc => ?_⟩
          · dsimp only at hk
            split at hk
            · exact hk
            · exact hk.elim
          · dsimp only at hk hk'
            by_cases e1 : j = 0
            · by_cases e2 : j' = 0
              · omega
              · simp [e2] at hk'
            · simp [e1] at hk
          · cases j with
            | zero =>
              simp only [enc, List.getElem?_cons_zero, Option.some.injEq] at hc
              subst hc
              exact ⟨u, rfl, by simpa [COwn] using hO⟩
            | succ j => simp [enc] at hc
        obtain ⟨c, g1, st1, δ, h, I1, C1, hc⟩ := I.comeVal hv (fun n hn => hf n (.here rfl hn)) h
        exact mv rfl rfl I1 C1 hc h
    | pro =>
      cases d with
      | clo _ _ => cases hA1
      | d t x =>
        simp only [entry1] at h
        refine rd rfl (sv := .c (.one (.rp t x 0))) ?_ h
        have hA1' : RpRel w ROa t x 0 u := hA1
        refine ⟨?_, ?_⟩
        · obtain ⟨b, o, cs, el, fz, e, _⟩ := hA1'; rw [e]; rfl
        · show RpRel w g.ro t x 0 u
          rw [hro]; exact hA1'
    | pmut =>
      cases d with
      | clo _ _ => cases hA1
      | d t x =>
        simp only [entry1] at h
        obtain ⟨c, g1, st1, δ, h, I1, C1, hc⟩ := I.comePtr hA1 (fun n hn => hf n (.here rfl hn)) h
        exact mv rfl rfl I1 C1 hc h
    | skp => cases h
    | kp =>
      cases d with
      | clo _ _ => cases hA1
      | d t x =>
        simp only [entry1] at h
        obtain ⟨vs, hform, hrow⟩ := (hA1 : ValKl g.n.wl t x u)
        obtain ⟨c, hcm, h⟩ := bindS h
        obtain ⟨u', hform', hcm'⟩ := Form.of hcm (impK_sound (w := w) (g := g) (st := st) hrow fun y hy => enc_flat' hy)
        have := hform.uniq hform'
        subst this
        exact rd rfl (sv := .c c) hcm' h
    | fn =>
      cases d with
      | d t x => cases hA1
      | clo f ys =>
        simp only [entry1] at h
        obtain ⟨ps, e, hl, hq⟩ := hA1
        refine rd rfl (sv := .c (.one (.cloR f ys))) ⟨by rw [e]; rfl, ps, e, hl, fun i y q hy hq' => ?_⟩ h
        rw [hro]; exact hq i y q hy hq'

end Go.Gm

/- A function, whole: how it is left, and what is so proved of it. -/
namespace Go.Gm
open Go

section ev
variable {R : Type}
/-- The results, as they stand behind the body. -/
def exitRes (E : Env) (st : St) (own : Bool) : List ResultVar → List Bool → List Nat → (List (Am × Nat × Sv) → Option R) → Option R
  | [], [], [], k => k []
  | .tmp t :: rs, p :: ps, T :: Ts, k => (aget st.slots t).bind fun s => exitRes E st own rs ps Ts fun l => k ((cond p .pmut (cond own .mov .ro), T, s) :: l)
  | .cell x T' :: rs, false :: ps, _ :: Ts, k => match aget st.slots x with
    | some (.c (.one (.pt b 0))) => (aget st.boxes b).bind fun y => (E.code T').bind fun t => cond (Nat.beq (esz t) y.cs.length)
        ((cmOf t y.cs).bind fun c => exitRes E st own rs ps Ts fun l => k ((cond own .mov .ro, T', .c c) :: l)) none
    | _ => none
  | _, _, _, _ => none
/-- What was lent, as it stands behind the body. -/
def backsOf (st : St) : Nat → List Am → (List (Am × Nat × Sv) → Option R) → Option R
  | _, [], k => k []
  | j, .mut :: ms, k => (aget st.slots j).bind fun s => backsOf st (j + 1) ms fun l => k ((.mut, 0, s) :: l)
  | j, .pmut :: ms, k => (aget st.slots j).bind fun s => backsOf st (j + 1) ms fun l => k ((.pmut, 0, s) :: l)
  | j, _ :: ms, k => backsOf st (j + 1) ms k
def backsChk : List Am → List Dt → List Dt → Bool
  | [], [], [] => true
  | .pmut :: ms, .d t0 _ :: ds0, .d t _ :: ds => Nat.beq (esz t) (esz t0) && backsChk ms ds0 ds
  | .mut :: ms, _ :: ds0, .d (.sl _) _ :: ds => backsChk ms ds0 ds
  | .mut :: _, _, _ => false
  | .pmut :: _, _, _ => false
  | _ :: ms, _ :: ds0, ds => backsChk ms ds0 ds
  | _, _, _ => false
/-- Which parameters must stay as they are. -/
def stays : Nat → List Am → List Nat
  | _, [] => []
  | j, .mut :: ms => j :: stays (j + 1) ms
  | j, .pmut :: ms => j :: stays (j + 1) ms
  | j, _ :: ms => stays (j + 1) ms

def evExit (E : Env) (modes : List Am) (res : List Bool) (own : Bool) (rvs : List ResultVar) (Ts : List Nat) (ds : List Dt) (st : St) (k : List Dt → Option R) : Option R :=
  exitRes E st own rvs res Ts fun l1 => backsOf st 0 modes fun l2 =>
    cond (own || (modes.all Am.reads && ((res.all fun p => !p) && l1.all fun a => a.2.2.cells.all fun c => c.names.1.isEmpty)))
      (passArgs E (l1 ++ l2) st fun outs _ _ _ => cond (backsChk modes ds (outs.drop l1.length)) (k outs) none) none
def evFn (E : Env) (keep : Nat → Kp) (rounds : Nat) (body : Code) (modes : List Am) (res : List Bool) (own : Bool) (rvs : List ResultVar) (Ts : List Nat) (ds : List Dt) (k : List Dt → Option R) : Option R :=
  entry 0 modes ds ⟨[], [], []⟩ fun st => ev E keep rounds body st fun e st => match e with
    | .exit _ => none
    | _ => evExit E modes res own rvs Ts ds st k
end ev

end Go.Gm

/- A function whose body the evaluator runs keeps its contract. -/
namespace Go.Gm
open Go

variable {wl : World} {R : Type} {P : Program} {E : Env} {w0 w w' : World} {Mf : Nat → Prop} {g : Gh} {st : St} {a : Act}

theorem codeOk_mono {N M : Nat} {ps : List Nat} (hNM : N ≤ M) : ∀ {c : Code}, codeOk N ps c = true → codeOk M ps c = true := by
  have ops : ∀ {l : List Oper}, opsOk N ps l = true → opsOk M ps l = true := by
    intro l h
    simp only [opsOk, List.all_eq_true] at h ⊢
    intro o ho
    have := h o ho
    cases hd : o.dst with
    | none => rfl
    | some d =>
      rw [hd] at this
      simp only [Bool.and_eq_true] at this ⊢
      refine ⟨?_, this.2⟩
      have h1 := this.1
      rw [Nat.blt_eq] at h1 ⊢
      omega
  intro c
  induction c with
  | region id o d => exact ops
  | seq a b iha ihb => intro h; simp only [codeOk, Bool.and_eq_true] at h ⊢; exact ⟨iha h.1, ihb h.2⟩
  | cond x a b iha ihb => intro h; simp only [codeOk, Bool.and_eq_true] at h ⊢; exact ⟨iha h.1, ihb h.2⟩
  | block id c ih => intro h; simp only [codeOk] at h ⊢; exact ih h
  | loop c ih => intro h; simp only [codeOk] at h ⊢; exact ih h
  | _ => intro h; rfl

/-! ### the results -/
def resMode (own : Bool) (p : Bool) : Am := cond p .pmut (cond own .mov .ro)
theorem SvL.len : ∀ {l : List (Nat × Sv)} {us : List Value}, SvL w g st l us → us.length = l.length
  | [], [], _ => rfl
  | [], _ :: _, h => h.elim
  | _ :: _, [], h => h.elim
  | _ :: _, _ :: _, h => by simp [SvL.len h.2]

/-- One result read off. -/
def readRes (tmps : Array Value) : ResultVar → Sem Value
  | .tmp t => pure (tmps.getD t undef)
  | .cell x t => do loadVar t (← asAddr (tmps.getD x undef))

theorem exitRes_sound (hE : E.Ok P) (I : Inv w0 Mf g st a w) {own : Bool} : ∀ {rvs : List ResultVar} {ps : List Bool} {Ts : List Nat} {k : List (Am × Nat × Sv) → Option R} {r : R}, exitRes E st own rvs ps Ts k = some r →
    ∃ l vs, k l = some r ∧ (rvs.mapM (readRes a.tmps)).run P w = .ok vs w ∧ SvL w g st (l.map (·.2)) vs ∧ l.map (·.1) = ps.map (resMode own)
  | [], [], [], k, r, h => ⟨[], [], h, by simp [Sem.run_pure], trivial, rfl⟩
  | .tmp t :: rvs, p :: ps, T :: Ts, k, r, h => by
    simp only [exitRes] at h
    obtain ⟨s, hs, h⟩ := bindS h
    obtain ⟨l, vs, h1, h2, h3, h4⟩ := exitRes_sound hE I h
    obtain ⟨u, hu, hr⟩ := I.slots t s hs
    refine ⟨_, u :: vs, h1, ?_, ⟨hr, h3⟩, by simp [h4, resMode]⟩
    have hu' : a.tmps.getD t undef = u := by simp [hu]
    simp only [List.mapM_cons, Sem.run_bind, readRes, Sem.run_pure, Result.andThen_ok, h2, hu']
  | .cell x T' :: rvs, false :: ps, _ :: Ts, k, r, h => by
    simp only [exitRes] at h
    split at h
    case h_2 => cases h
    rename_i b hs
    obtain ⟨y, hy, h⟩ := bindS h
    obtain ⟨t, ht, h⟩ := bindS h
    obtain ⟨hlen, h⟩ := condN h
    have hlen := beqN hlen
    obtain ⟨c, hc, h⟩ := bindS h
    obtain ⟨l, vs, h1, h2, h3, h4⟩ := exitRes_sound hE I h
    obtain ⟨u, hu, hr⟩ := I.slots x _ hs
    have hp : u = .pointer (some ⟨g.bx b, 0, none⟩) := hr.2.1
    subst hp
    obtain ⟨us, el, hb, hcs⟩ := I.boxes b y hy
    have hsz : us.size = y.cs.length := hcs.1
    have hex : us.extract 0 (0 + esz t) = us := by
      rw [Nat.zero_add, hlen, ← hsz]; simp
    obtain ⟨v, hv, hform⟩ := run_loadVar (P := P) (w := w) hE ht (off := 0) hb (by omega) (fun j v hj => by rw [hex] at hj; exact hcs.flat j v hj)
    rw [hex] at hform
    obtain ⟨v', hform', hcm⟩ := Form.of hc hcs
    have := hform.uniq hform'
    subst this
    refine ⟨_, v :: vs, h1, ?_, ⟨hcm, h3⟩, by simp [h4, resMode]⟩
    have hu' : a.tmps.getD x undef = .pointer (some ⟨g.bx b, 0, none⟩) := by simp [hu]
    simp only [List.mapM_cons, Sem.run_bind, readRes, hu', asAddr, Sem.run_pure, Result.andThen_ok, hv, h2]
  | [], [], _ :: _, k, r, h => by simp [exitRes] at h
  | [], _ :: _, _, k, r, h => by simp [exitRes] at h
  | .tmp _ :: _, [], _, k, r, h => by simp [exitRes] at h
  | .tmp _ :: _, _ :: _, [], k, r, h => by simp [exitRes] at h
  | .cell _ _ :: _, [], _, k, r, h => by simp [exitRes] at h
  | .cell _ _ :: _, true :: _, _, k, r, h => by simp [exitRes] at h
  | .cell _ _ :: _, false :: _, [], k, r, h => by simp [exitRes] at h

theorem run_results {fn : Func} {tmps : Array Value} {vs : List Value} (h : (fn.results.toList.mapM (readRes tmps)).run P w = .ok vs w) : (results fn tmps).run P w = .ok (packV vs) w := by
  have e : results fn tmps = (do let vs ← fn.results.mapM (readRes tmps); pure (if h : vs.size = 1 then vs[0] else .tuple vs)) := by
    unfold results
    congr
  rw [e, Array.mapM_eq_mapM_toList]
  simp only [Sem.run_bind, map_eq_pure_bind, bind_assoc, h, Result.andThen_ok, pure_bind, Sem.run_pure]
  cases vs with
  | nil => rfl
  | cons v vs =>
    cases vs with
    | nil => rfl
    | cons v' vs => simp [packV]

/-! ### what was lent -/
def isBack : Am → Bool | .mut | .pmut => true | _ => false
def backUs : List Am → List Value → List Value
  | m :: ms, u :: us => if isBack m then u :: backUs ms us else backUs ms us
  | _, _ => []

theorem backsOf_sound (I : Inv w0 Mf g st a w) : ∀ {ms : List Am} {us : List Value} {j : Nat} {k : List (Am × Nat × Sv) → Option R} {r : R}, ms.length = us.length → (∀ i ∈ stays j ms, ∀ n, i = j + n → a.tmps[i]? = us[n]?) → backsOf st j ms k = some r →
    ∃ l, k l = some r ∧ SvL w g st (l.map (·.2)) (backUs ms us) ∧ l.map (·.1) = ms.filter isBack
  | [], us, j, k, r, hl, hs, h => by
    cases us with
    | nil => exact ⟨[], h, trivial, rfl⟩
    | cons _ _ => simp at hl
  | m :: ms, us0, j, k, r, hl, hs, h => by
    cases us0 with
    | nil => simp at hl
    | cons u us =>
      have hl' : ms.length = us.length := by simpa using hl
      have skip : stays j (m :: ms) = stays (j + 1) ms → isBack m = false → backsOf st (j + 1) ms k = some r → ∃ l, k l = some r ∧ SvL w g st (l.map (·.2)) (backUs (m :: ms) (u :: us)) ∧ l.map (·.1) = (m :: ms).filter isBack := by
        intro e hb h
        obtain ⟨l, h1, h2, h3⟩ := backsOf_sound I hl' (fun i hi n hn => by
          have := hs i (by rw [e]; exact hi) (n + 1) (by omega)
          simpa using this) h
        exact ⟨l, h1, by simpa [backUs, hb] using h2, by simpa [hb] using h3⟩
      have take : stays j (m :: ms) = j :: stays (j + 1) ms → isBack m = true → ((aget st.slots j).bind fun s => backsOf st (j + 1) ms fun l => k ((m, 0, s) :: l)) = some r →
          ∃ l, k l = some r ∧ SvL w g st (l.map (·.2)) (backUs (m :: ms) (u :: us)) ∧ l.map (·.1) = (m :: ms).filter isBack := by
        intro e hb h
        obtain ⟨s, hslot, h⟩ := bindS h
        obtain ⟨l, h1, h2, h3⟩ := backsOf_sound I hl' (fun i hi n hn => by
          have := hs i (by rw [e]; exact List.mem_cons_of_mem _ hi) (n + 1) (by omega)
          simpa using this) h
        obtain ⟨v, hv, hr⟩ := I.slots j s hslot
        have hu := hs j (by rw [e]; simp) 0 (by omega)
        rw [hv] at hu
        have hvu : v = u := by simpa using hu
        subst hvu
        exact ⟨_, h1, by simpa [backUs, hb, SvL] using ⟨hr, h2⟩, by simp [hb, h3]⟩
      cases m with
      | ro => exact skip rfl rfl h
      | mov => exact skip rfl rfl h
      | pro => exact skip rfl rfl h
      | fn => exact skip rfl rfl h
      | skp => exact skip rfl rfl h
      | kp => exact skip rfl rfl h
      | «mut» => exact take rfl rfl h
      | pmut => exact take rfl rfl h

theorem ArgsOk.split {Pr : Nat → Prop} : ∀ {m1 m2 : List Am} {ds : List Dt} {us : List Value} {Fs : List (Nat → Prop)}, ArgsOk wl w Pr (m1 ++ m2) ds us Fs →
    ArgsOk wl w Pr m1 (ds.take m1.length) (us.take m1.length) (Fs.take m1.length) ∧ ArgsOk wl w Pr m2 (ds.drop m1.length) (us.drop m1.length) (Fs.drop m1.length)
  | [], m2, ds, us, Fs, h => ⟨by simpa using ArgsOk.nil, by simpa using h⟩
  | m :: m1, m2, _, _, _, h => by
    cases h with
    | cons h hs =>
      obtain ⟨h1, h2⟩ := ArgsOk.split hs
      exact ⟨.cons h h1, h2⟩

theorem ress_own {Pr : Nat → Prop} : ∀ {ps : List Bool} {ds : List Dt} {us : List Value} {Fs : List (Nat → Prop)}, ArgsOk wl w Pr (ps.map (resMode true)) ds us Fs → RessOk wl w true ps ds us Fs
  | [], _, _, _, h => by cases h; exact .nil
  | p :: ps, _, _, _, h => by
    cases h with
    | cons h hs =>
      rename_i d ds u us F Fs
      cases p with
      | true =>
        cases d with
        | clo _ _ => cases h
        | d t x => exact .ptr ⟨rfl, h⟩ (ress_own hs)
      | false =>
        cases d with
        | clo _ _ => cases h
        | d t x => exact .val (by simpa using (show ValOwn w F t x u from h)) (ress_own hs)
theorem ress_rd {Pr : Nat → Prop} : ∀ {ps : List Bool} {ds : List Dt} {us : List Value} {Fs : List (Nat → Prop)}, ps.all (fun p => !p) = true → ArgsOk wl w Pr (ps.map (resMode false)) ds us Fs → RessOk wl w false ps ds us (ps.map fun _ => Pr)
  | [], _, _, _, _, h => by cases h; exact .nil
  | p :: ps, _, _, _, hp, h => by
    simp only [List.all_cons, Bool.and_eq_true] at hp
    cases h with
    | cons h hs =>
      rename_i d ds u us F Fs
      cases p with
      | true => cases hp.1
      | false =>
        cases d with
        | clo _ _ => cases h
        | d t x => exact .val (by simpa using (show ValRd w Pr t x u from h)) (ress_rd hp.2 hs)

theorem backs_ok {Pr : Nat → Prop} : ∀ {ms : List Am} {ds0 ds : List Dt} {us : List Value} {Fs : List (Nat → Prop)}, ms.length = us.length → backsChk ms ds0 ds = true → ArgsOk wl w Pr (ms.filter isBack) ds (backUs ms us) Fs → BacksOk wl w ms ds0 us ds Fs
  | [], ds0, ds, us, Fs, hl, hc, h => by
    cases us with
    | cons _ _ => simp at hl
    | nil =>
      cases h
      cases ds0 with
      | nil => exact .nil
      | cons _ _ => simp [backsChk] at hc
  | m :: ms, ds0, ds, us0, Fs, hl, hc, h => by
    cases us0 with
    | nil => simp at hl
    | cons u us =>
      have hl' : ms.length = us.length := by simpa using hl
      cases m with
      | ro => cases ds0 with
        | nil => simp [backsChk] at hc
        | cons d0 ds0' => exact .skip trivial (backs_ok hl' (by simpa [backsChk] using hc) h)
      | mov => cases ds0 with
        | nil => simp [backsChk] at hc
        | cons d0 ds0' => exact .skip trivial (backs_ok hl' (by simpa [backsChk] using hc) h)
      | pro => cases ds0 with
        | nil => simp [backsChk] at hc
        | cons d0 ds0' => exact .skip trivial (backs_ok hl' (by simpa [backsChk] using hc) h)
      | fn => cases ds0 with
        | nil => simp [backsChk] at hc
        | cons d0 ds0' => exact .skip trivial (backs_ok hl' (by simpa [backsChk] using hc) h)
      | skp => cases ds0 with
        | nil => simp [backsChk] at hc
        | cons d0 ds0' => exact .skip trivial (backs_ok hl' (by simpa [backsChk] using hc) h)
      | kp => cases ds0 with
        | nil => simp [backsChk] at hc
        | cons d0 ds0' => exact .skip trivial (backs_ok hl' (by simpa [backsChk] using hc) h)
      | «mut» =>
        have h : ArgsOk wl w Pr (.mut :: ms.filter isBack) ds (u :: backUs ms us) Fs := h
        cases h with
        | cons h1 hs =>
          rename_i d ds F Fs
          cases d with
          | clo _ _ => cases h1
          | d t x =>
            obtain ⟨e, xs, heq, hO⟩ := h1
            cases heq
            cases ds0 with
            | nil => simp [backsChk] at hc
            | cons d0 ds0' => exact .mut hO (backs_ok hl' (by simpa [backsChk] using hc) hs)
      | pmut =>
        have h : ArgsOk wl w Pr (.pmut :: ms.filter isBack) ds (u :: backUs ms us) Fs := h
        cases h with
        | cons h1 hs =>
          rename_i d ds F Fs
          cases d with
          | clo _ _ => cases h1
          | d t x =>
            cases ds0 with
            | nil => simp [backsChk] at hc
            | cons d0 ds0' =>
              cases d0 with
              | clo _ _ => simp [backsChk] at hc
              | d t0 x0 =>
                simp only [backsChk, Bool.and_eq_true] at hc
                exact .pmut h1 (beqN hc.1) (backs_ok hl' hc.2 hs)

end Go.Gm

/- A function whose body the evaluator runs keeps its contract: the whole of it. -/
namespace Go.Gm
open Go

variable {wl : World} {R : Type} {P : Program} {E : Env} {w0 w w' : World} {Mf : Nat → Prop} {g : Gh} {st : St} {a : Act}

theorem Kept.mono {M N : Nat → Prop} (h : Kept w w' M) (hMN : ∀ k, M k → N k) : Kept w w' N :=
  ⟨h.os, h.tape, h.output, ⟨h.same.1, fun b hb hx => h.same.2 b hb fun hm => hx (hMN b hm)⟩⟩

theorem ArgsOk.len {ROa : Nat → Prop} {ms : List Am} {ds : List Dt} {us : List Value} {Fs : List (Nat → Prop)} (h : ArgsOk wl w ROa ms ds us Fs) : ms.length = us.length ∧ ds.length = us.length ∧ Fs.length = us.length := by
  induction h with
  | nil => exact ⟨rfl, rfl, rfl⟩
  | cons h hs ih => exact ⟨by simp [ih.1], by simp [ih.2.1], by simp [ih.2.2]⟩

theorem SvL.append' : ∀ {l m : List (Nat × Sv)} {us vs : List Value}, SvL w g st l us → SvL w g st m vs → SvL w g st (l ++ m) (us ++ vs)
  | [], _, [], _, _, h => h
  | [], _, _ :: _, _, h, _ => h.elim
  | _ :: _, _, [], _, h, _ => h.elim
  | _ :: _, _, _ :: _, _, h, h' => ⟨h.1, SvL.append' h.2 h'⟩
theorem SvL.arg : ∀ {l : List (Am × Nat × Sv)} {us : List Value}, SvL w g st (l.map (·.2)) us → ArgRel w g st l us
  | [], [], _ => trivial
  | [], _ :: _, h => h.elim
  | _ :: _, [], h => h.elim
  | (_, _, _) :: _, _ :: _, h => ⟨h.1, SvL.arg h.2⟩

theorem exit_core (hE : E.Ok P) {Mf' ROa : Nat → Prop} (I : Inv w Mf' g st a w') (hn : g.n.r0 = ROa ∧ g.n.wl = wl) {s : Spec} {fn : Func} {ds : List Dt} {us : List Value} (hl : s.modes.length = us.length)
    (hM : ∀ k, Mf' k → Mf k) (hM0 : s.modes.all Am.reads = true → ∀ k, ¬ Mf' k) {k : List Dt → Option R} {r : R} {l1 l2 : List (Am × Nat × Sv)} {vs : List Value}
    (hrun : (fn.results.toList.mapM (readRes a.tmps)).run P w' = .ok vs w') (hS1 : SvL w' g st (l1.map (·.2)) vs) (hm1 : l1.map (·.1) = s.res.map (resMode s.own)) (hS2 : SvL w' g st (l2.map (·.2)) (backUs s.modes us)) (hm2 : l2.map (·.1) = s.modes.filter isBack)
    (h : (cond (s.own || (s.modes.all Am.reads && ((s.res.all fun p => !p) && l1.all fun a => a.2.2.cells.all fun c => c.names.1.isEmpty)))
      (Gm.passArgs E (l1 ++ l2) st fun outs _ _ _ => cond (backsChk s.modes ds (outs.drop l1.length)) (k outs) none) none) = some r) :
    ∃ v, (results fn a.tmps).run P w' = .ok v w' ∧ ∃ outs, k outs = some r ∧ After wl w w' Mf ROa s ds us outs (.returned v) := by
  obtain ⟨hn, hwl⟩ := hn
  subst hwl
  obtain ⟨hcond, h⟩ := condN h
  simp only [Bool.or_eq_true, Bool.and_eq_true] at hcond
  refine ⟨packV vs, run_results hrun, ?_⟩
  have hS : SvL w' g st ((l1 ++ l2).map (·.2)) (vs ++ backUs s.modes us) := by rw [List.map_append]; exact hS1.append' hS2
  have hms : (l1 ++ l2).map (·.1) = s.res.map (resMode s.own) ++ s.modes.filter isBack := by rw [List.map_append, hm1, hm2]
  obtain ⟨st1, I1, hh⟩ := I.passArgs (E := E) (SvL.arg hS) h
  let ids := idsOf ((l1 ++ l2).map (·.2))
  have hback0 : s.own = false → l2 = [] := fun ho => by
    have := (hcond.resolve_left (by simp [ho])).1
    have hf : s.modes.filter isBack = [] := by
      rw [List.filter_eq_nil_iff]
      intro m hm hb
      have := List.all_eq_true.1 this m hm
      cases m <;> simp [Am.reads, isBack] at this hb
    rw [hf] at hm2
    exact List.map_eq_nil_iff.1 hm2
  obtain ⟨outs, bs, d, Fs, Hs, h, hA, hH, L, hpH, hkey⟩ := hh (Reach g st1 s.own ids) (fun x hx _ => by
    refine reach_rd (args := (l1 ++ l2).map (·.2)) ?_ (List.mem_map.2 ⟨x, hx, rfl⟩)
    cases ho : s.own with
    | true => exact .inl rfl
    | false =>
      refine .inr fun y hy c hc => ?_
      rw [hback0 ho, List.append_nil] at hy
      obtain ⟨z, hz, rfl⟩ := List.mem_map.1 hy
      have := (hcond.resolve_left (by simp [ho])).2.2
      simp only [List.all_eq_true, List.isEmpty_iff] at this
      exact this z hz c hc)
  rw [hms] at hA hH
  obtain ⟨hpF, hsub, _⟩ := hH.sub hpH
  obtain ⟨hchk, h⟩ := condN h
  refine ⟨outs, h, ?_⟩
  obtain ⟨hA1, hA2⟩ := hA.split
  have hn1 : (s.res.map (resMode s.own)).length = s.res.length := by simp
  have hvs : vs.length = s.res.length := by
    have h1 := hS1.len
    have h2 := congrArg List.length hm1
    simp only [List.length_map] at h1 h2
    omega
  have hl1 : l1.length = s.res.length := by
    have := congrArg List.length hm1
    simpa using this
  rw [hn1] at hA1 hA2
  rw [hl1] at hchk
  have hu1 : (vs ++ backUs s.modes us).take s.res.length = vs := by rw [← hvs]; simp
  have hu2 : (vs ++ backUs s.modes us).drop s.res.length = backUs s.modes us := by rw [← hvs]; simp
  rw [hu1] at hA1
  rw [hu2] at hA2
  have hB := backs_ok hl hchk hA2
  have hin : ∀ F ∈ Fs, ∀ n, F n → Any Hs n := fun F hF n hn => hsub n ⟨F, hF, hn⟩
  have hdrop : ∀ F ∈ Fs.drop s.res.length, F ∈ Fs := fun F hF => List.mem_of_mem_drop hF
  have htake : ∀ F ∈ Fs.take s.res.length, F ∈ Fs := fun F hF => List.mem_of_mem_take hF
  have hpF' : PairApart (Fs.take s.res.length ++ Fs.drop s.res.length) := by rw [List.take_append_drop]; exact hpF
  obtain ⟨hp1, hp2, hp3⟩ := List.pairwise_append.1 hpF'
  have hsrc : ∀ F ∈ Fs, ∀ n, F n → Mf n ∨ w.heap.size ≤ n := fun F hF n hn => ((I.lentFree L (hin F hF n hn)).1.mine).elim .inr fun h => .inl (hM n h)
  have hltF : ∀ F ∈ Fs, ∀ n, F n → n < w'.heap.size := fun F hF n hn => (I.lentFree L (hin F hF n hn)).2
  have kept : Kept w w' Mf := I.kept.mono hM
  cases ho : s.own with
  | true =>
    rw [ho] at hA1
    refine ⟨⟨vs, Fs.take s.res.length, Fs.drop s.res.length, rfl, by rw [ho]; exact ress_own hA1, hB, hp2, fun B hB' => hsrc B (hdrop B hB'), fun _ => ⟨hp1, fun G hG => hsrc G (htake G hG)⟩, fun e => by simp [ho] at e,
      fun G hG B hB' n hg hb => hp3 G hG B hB' n hg hb, fun G hG => hltF G (htake G hG), fun B hB' => hltF B (hdrop B hB')⟩, kept⟩
  | false =>
    rw [ho] at hA1
    obtain ⟨hread, hnop, _⟩ := hcond.resolve_left (by simp [ho])
    have hG : ∀ G ∈ s.res.map (fun _ => Reach g st1 false ids), ∀ n, G n → Reach g st1 false ids n := fun G hG n hn => by
      obtain ⟨_, _, rfl⟩ := List.mem_map.1 hG; exact hn
    refine ⟨⟨vs, s.res.map (fun _ => Reach g st1 false ids), Fs.drop s.res.length, rfl, ?_, hB, hp2, fun B hB' => hsrc B (hdrop B hB'), fun e => by simp [ho] at e, fun _ G hG' n hgn => ?_,
      fun G hG' B hB' n hg hb => (I.reach I1 L (hG G hG' n hg)).1 (hin B (hdrop B hB') n hb), fun G hG' n hg => (I.reach I1 L (hG G hG' n hg)).2, fun B hB' => hltF B (hdrop B hB')⟩, kept⟩
    · rw [ho]
      exact ress_rd hnop hA1
    · rcases hG G hG' n (by assumption) with h1 | ⟨_, id, _, h2, h3⟩ | ⟨e, _⟩
      · rcases I.apart.mine_ro n h1 with h4 | h4 | h4
        · rw [hn] at h4; exact .inl h4
        · exact .inr h4
        · exact (hM0 hread n h4).elim
      · rcases I1.apart.mine_r id n h2 h3 with h4 | h4
        · exact .inr h4
        · exact (hM0 hread n h4).elim
      · cases e

theorem exit_sound (hE : E.Ok P) {Mf' ROa : Nat → Prop} (I : Inv w Mf' g st a w') (hn : g.n.r0 = ROa ∧ g.n.wl = wl) {s : Spec} {fn : Func} {Ts : List Nat} {ds : List Dt} {us : List Value} (hl : s.modes.length = us.length)
    (hstay : ∀ j ∈ stays 0 s.modes, a.tmps[j]? = us[j]?) (hM : ∀ k, Mf' k → Mf k) (hM0 : s.modes.all Am.reads = true → ∀ k, ¬ Mf' k) {k : List Dt → Option R} {r : R}
    (h : evExit E s.modes s.res s.own fn.results.toList Ts ds st k = some r) :
    ∃ v, (results fn a.tmps).run P w' = .ok v w' ∧ ∃ outs, k outs = some r ∧ After wl w w' Mf ROa s ds us outs (.returned v) := by
  unfold evExit at h
  obtain ⟨l1, vs, h, hrun, hS1, hm1⟩ := exitRes_sound hE I h
  obtain ⟨l2, h, hS2, hm2⟩ := backsOf_sound I (us := us) hl (fun i hi n hin => by rw [hstay i hi]; congr 1; omega) h
  exact exit_core hE I hn hl hM hM0 hrun hS1 hm1 hS2 hm2 h

/-- A function whose body the evaluator runs keeps its contract. -/
theorem fn_sound (hE : E.Ok P) (hN : E.Natl) {f : Nat} {fn : Func} {c : Code} (hf : P.funcs[f]? = some fn) (hb : fn.body = some c) (s : Spec) (hsh : s.shape = []) (Ts : List Nat) (hok : codeOk fn.ntmps (stays 0 s.modes) c = true)
    (hrun : ∀ {R : Type} (ds : List Dt) (k : List Dt → Option R) (r : R), s.fn ds k = some r → ∃ keep rounds, evFn E keep rounds c s.modes s.res s.own fn.results.toList Ts ds k = some r) : SpecOk P f s := by
  intro R ds k r h wl w us Mf ROa Fs hWl hBs hA hp hFM hRM hRlt hMlt
  obtain ⟨keep, rounds, h⟩ := hrun ds k r h
  unfold evFn at h
  obtain ⟨hl1, _, _⟩ := hA.len
  rw [hsh]
  show Calls P f us.toArray w _
  refine calls_of_wp hf hb ?_
  let a0 : Act := { tmps := us.toArray ++ Array.replicate (fn.ntmps - us.toArray.size) undef, defers := [] }
  let F0 : Fx := ⟨a0.tmps.size, ROa, wl⟩
  let g0 : Gh := { rv := fun _ _ => undef, rf := fun _ _ => False, bx := fun _ => 0, ro := ROa, n := F0 }
  have hsz : fn.ntmps ≤ F0.sz := by
    show fn.ntmps ≤ (us.toArray ++ Array.replicate (fn.ntmps - us.toArray.size) undef).size
    simp; omega
  have hgive : ∀ n, Given s.modes Fs n → Mf n := fun n hg => by obtain ⟨F, hF, h⟩ := hg.any; exact hFM F hF n h
  have noO : ∀ id, ¬ OwnAt ⟨[], [], []⟩ id := fun id ⟨r, h, _⟩ => by simp [aget] at h
  have noB : ∀ b, ¬ BoxAt ⟨[], [], []⟩ b := fun b h => by simp [BoxAt, aget] at h
  have I0 : Inv w (Given s.modes Fs) g0 ⟨[], [], []⟩ a0 w :=
    { slots := fun s sv h => by simp [aget] at h
      boxes := fun b x h => by simp [aget] at h
      roots := fun id r h => by simp [aget] at h
      apart := {
        rr := fun id id' k h => (noO id h).elim
        rb := fun id b h => (noO id h).elim
        bb := fun b b' h => (noB b h).elim
        ro_r := fun id k h => (noO id h).elim
        ro_b := fun b h => (noB b h).elim
        mine_r := fun id k h => (noO id h).elim
        mine_b := fun b h => (noB b h).elim
        lt_r := fun id k h => (noO id h).elim
        lt_ro := hRlt
        mine_ro := fun k h => .inl h }
      kept := ⟨rfl, rfl, rfl, Nat.le_refl _, fun _ _ _ => rfl⟩
      defers := rfl
      size := rfl
      base := ⟨hBs, fun k h hg => hRM k h (hgive k hg), fun k h => h⟩ }
  have hus : ∀ (i : Nat) u, us[i]? = some u → a0.tmps[0 + i]? = some u := fun i u hu => by
    have hi : i < us.length := by
      rcases Nat.lt_or_ge i us.length with h' | h'
      · exact h'
      · simp [List.getElem?_eq_none h'] at hu
    show (us.toArray ++ Array.replicate (fn.ntmps - us.toArray.size) undef)[0 + i]? = some u
    rw [Nat.zero_add, Array.getElem?_append_left (by simpa using hi)]
    simpa using hu
  obtain ⟨g1, st1, h, hg1, I1⟩ := entry_sound (ROa := ROa) I0 hus hA hp (fun n hg => ⟨⟨fun id h => (noO id h).elim, fun h => hRM n h (hgive n hg), fun b h => (noB b h).elim, .inr hg⟩, hMlt n (hgive n hg)⟩) rfl h
  have hstay0 : Stay (stays 0 s.modes) (fun j => us[j]?) a0.tmps := by
    have hmem : ∀ {ms : List Am} {j : Nat} {x : Nat}, x ∈ stays j ms → x < j + ms.length := by
      intro ms
      induction ms with
      | nil => intro j x h; simp [stays] at h
      | cons m ms ih =>
        intro j x h
        cases m <;> simp only [stays, List.mem_cons] at h <;> first
          | (have := ih h; simp only [List.length_cons]; omega)
          | (rcases h with rfl | h
             · simp
             · have := ih h; simp only [List.length_cons]; omega)
    intro j hj
    have hj' := hmem hj
    have hlt : j < us.length := by omega
    have := hus j us[j] (by simp [hlt])
    rw [Nat.zero_add] at this
    rw [this]; simp [hlt]
  refine ev_sound hE hN (F := F0) hWl c (codeOk_mono hsz hok) h hg1 I1 hstay0 fun e g' st' a' w' hk hg' I' hJ' => ?_
  have fin : evExit E s.modes s.res s.own fn.results.toList Ts ds st' k = some r → a'.defers = [] ∧ ∃ v, (results fn a'.tmps).run P w' = .ok v w' ∧ ∃ outs, k outs = some r ∧ After wl w w' Mf ROa s ds us outs (.returned v) := fun hk =>
    ⟨I'.defers, exit_sound hE I' ⟨by rw [hg'], by rw [hg']⟩ hl1 hJ' hgive (fun hall n hn => Given.none hall hn) hk⟩
  cases e with
  | normal => exact fin hk
  | ret => exact fin hk
  | exit id => cases hk

end Go.Gm

/- What the printed texts lean on. -/
namespace Go.Gm
open Go

section
variable {R : Type}
def seqK (E : Env) (keep : Nat → Kp) (n : Nat) (b : Code) (k : Ex → St → Option R) : Ex → St → Option R := fun e st => match e with
  | .normal => ev E keep n b st k
  | e => k e st
def blockK (id : Nat) (k : Ex → St → Option R) : Ex → St → Option R := fun e st => match e with
  | .exit id' => cond (Nat.beq id' id) (k .normal st) (k (.exit id') st)
  | e => k e st
def exitK (E : Env) (modes : List Am) (res : List Bool) (own : Bool) (rvs : List ResultVar) (Ts : List Nat) (ds : List Dt) (k : List Dt → Option R) : Ex → St → Option R := fun e st => match e with
  | .exit _ => none
  | _ => evExit E modes res own rvs Ts ds st k
end
def cAt : List Nat → Code → Code
  | [], c => c
  | i :: p, .seq a b => cond (Nat.beq i 0) (cAt p a) (cAt p b)
  | i :: p, .cond _ a b => cond (Nat.beq i 0) (cAt p a) (cAt p b)
  | _ :: p, .block _ a => cAt p a
  | _ :: p, .loop a => cAt p a
  | _, c => c
def kat : List Kp → Nat → Kp
  | [], _ => ⟨[], [], [], []⟩
  | a :: r, n => cond (Nat.beq n 0) a (kat r (n - 1))
def bs (l : List Nat) : ByteArray := ⟨(l.map UInt8.ofNat).toArray⟩

/-- A contract by a function of the arguments: is it in reach, and what comes out. -/
def Spec.of (modes : List Am) (res : List Bool) (own : Bool) (q : List Dt → Option (Bool × List Dt)) : Spec :=
  { modes, res, own, fn := fun ds k => match q ds with | some (g, outs) => cond g (k outs) none | none => none }
theorem Spec.of_natl (modes : List Am) (res : List Bool) (own : Bool) (q : List Dt → Option (Bool × List Dt)) : (Spec.of modes res own q).Natl := by
  intro ds
  show ∃ q' : Option (List Dt), ∀ (R : Type) (k : List Dt → Option R), (match q ds with | some (g, outs) => cond g (k outs) none | none => none) = q'.bind k
  cases q ds with
  | none => exact ⟨none, fun _ _ => rfl⟩
  | some go =>
    obtain ⟨g, outs⟩ := go
    cases g with
    | true => exact ⟨some outs, fun _ _ => rfl⟩
    | false => exact ⟨none, fun _ _ => rfl⟩
theorem Spec.of_some {modes : List Am} {res : List Bool} {own : Bool} {q : List Dt → Option (Bool × List Dt)} {R : Type} {ds : List Dt} {k : List Dt → Option R} {r : R} (h : (Spec.of modes res own q).fn ds k = some r) :
    ∃ outs, q ds = some (true, outs) ∧ k outs = some r := by
  have h : (match q ds with | some (g, outs) => cond g (k outs) none | none => none) = some r := h
  cases hq : q ds with
  | none => rw [hq] at h; cases h
  | some go =>
    obtain ⟨g, outs⟩ := go
    rw [hq] at h
    obtain ⟨h1, h2⟩ := condN h
    exact ⟨outs, by rw [h1], h2⟩

/-- The body does what the contract says. -/
theorem spec_ok {P : Program} {E : Env} (hE : E.Ok P) (hN : E.Natl) {f : Nat} {fn : Func} (hf : P.funcs[f]? = some fn) {c : Code} (hb : fn.body = some c) {modes : List Am} {res : List Bool} {own : Bool} {q : List Dt → Option (Bool × List Dt)} (Ts : List Nat)
    (hok : codeOk fn.ntmps (stays 0 modes) c = true)
    (hrun : ∀ ds outs, q ds = some (true, outs) → ∃ keep rounds, ∀ {R : Type} (k : List Dt → Option R), evFn E keep rounds c modes res own fn.results.toList Ts ds k = k outs) : SpecOk P f (Spec.of modes res own q) := by
  refine fn_sound hE hN hf hb _ rfl Ts hok fun ds k r h => ?_
  obtain ⟨outs, hq, hk⟩ := Spec.of_some h
  obtain ⟨keep, rounds, he⟩ := hrun ds outs hq
  exact ⟨keep, rounds, (he k).trans hk⟩

/-! ### the table of a program -/
structure Tab where
  code : List (Nat × Ty)
  eqs : List (Nat × List Ty)
  fld : List (Nat × List (Nat × Nat))
def sget : List (Nat × Spec) → Nat → Option Spec
  | [], _ => none
  | (k, v) :: r, n => cond (Nat.beq n k) (some v) (sget r n)
def Tab.env (t : Tab) (l : List (Nat × Spec)) : Env :=
  { code := fun T => aget t.code T, eq := fun T => aget t.eqs T, fld := fun T f => (aget t.fld T).bind fun l => l[f]?, spec := fun f => sget l f }
theorem sget_mem : ∀ {l : List (Nat × Spec)} {f : Nat} {s : Spec}, sget l f = some s → (f, s) ∈ l
  | (k, v) :: r, f, s, h => by
    simp only [sget] at h
    cases hb : Nat.beq f k with
    | true => rw [hb] at h; cases h; rw [beqN hb]; simp
    | false => rw [hb] at h; exact List.mem_cons_of_mem _ (sget_mem h)

/-- A contract kept by a function that may be called. -/
def Good (P : Program) (x : Nat × Spec) : Prop := (SpecOk P x.1 x.2 ∧ ∃ fn, P.funcs[x.1]? = some fn ∧ fn.body.isSome ∧ fn.name ≠ "runtime.NumGoroutine") ∧ x.2.Natl
theorem Tab.natl (t : Tab) {P : Program} {l : List (Nat × Spec)} (h : ∀ x ∈ l, Good P x) : (t.env l).Natl := fun _ _ hs => (h _ (sget_mem hs)).2

structure Tab.Ok (t : Tab) (P : Program) : Prop where
  info : ∀ x ∈ t.code, ∃ i zv, P.info? x.1 = some i ∧ i.size = esz x.2 ∧ i.bytes ≤ 1024 ∧ i.zero = some zv ∧ zv.cells = (zvals x.2).toArray
  und : ∀ x ∈ t.code, UndOk (t.env []) P x.1 x.2
  fld : ∀ x ∈ t.fld, ∃ fs : Array Field, P.underlying x.1 = some (.struct fs) ∧ x.2 = fs.toList.map (fun f => (f.offset, f.type)) ∧ (∀ y ∈ x.2, (aget t.code y.2).isSome) ∧ (fs.toList.mapM (fun f => (P.info? f.type).map fun i => (f.offset, i.size))).isSome
  sts : ∀ x ∈ t.code, isSt x.2 = true → x.1 ∈ t.fld.map (·.1)
  eqs : ∀ x ∈ t.eqs, ∀ (us vs : Array Value) (e : Bool), eqVals x.2 us.toList vs.toList = some e → ∀ w,
    (Op.equal x.1 (.agg us) (.agg vs)).run P w = .ok e w ∧ (∀ op a b, (eqGuard op x.1 a b (.agg us) (.agg vs)).run P w = .ok () w)
  ord : P.follows .mixedOrders = true

theorem UndOk.env {t : Tab} {l : List (Nat × Spec)} {P : Program} {T : Nat} {ty : Ty} (h : UndOk (t.env []) P T ty) : UndOk (t.env l) P T ty := by
  unfold UndOk at *
  cases ty <;> exact h

theorem Tab.Ok.env {t : Tab} {P : Program} (h : t.Ok P) {l : List (Nat × Spec)} (hl : ∀ x ∈ l, Good P x) : (t.env l).Ok P := {
  info := fun T ty hT => h.info (T, ty) (aget_mem hT)
  und := fun T ty hT => (h.und (T, ty) (aget_mem hT)).env
  fld := fun T f off ft hf => by
    have hf : (aget t.fld T).bind (fun l => l[f]?) = some (off, ft) := hf
    obtain ⟨L, hL, hf⟩ := Option.bind_eq_some_iff.1 hf
    obtain ⟨fs, h1, h2, h3, _⟩ := h.fld (T, L) (aget_mem hL)
    have h2 : L = fs.toList.map (fun f => (f.offset, f.type)) := h2
    have hc := h3 (off, ft) (List.mem_of_getElem? hf)
    obtain ⟨ty, hty⟩ := Option.isSome_iff_exists.1 hc
    rw [h2] at hf
    obtain ⟨fd, hfd, he⟩ : ∃ fd, fs.toList[f]? = some fd ∧ (fd.offset, fd.type) = (off, ft) := by simpa using hf
    cases he
    exact ⟨fs, fd, ty, h1, by simpa using hfd, rfl, rfl, hty⟩
  sts := fun T fs hu hT => by
    obtain ⟨ty, hty⟩ := Option.isSome_iff_exists.1 hT
    have hm := aget_mem (l := t.code) hty
    have hund := h.und (T, ty) hm
    cases hs : isSt ty with
    | false =>
      exfalso
      cases ty with
      | i k => have h1 : P.underlying T = some (.int k) := hund; rw [hu] at h1; cases h1
      | bool => have h1 : P.underlying T = some .bool := hund; rw [hu] at h1; cases h1
      | str => have h1 : P.underlying T = some .string := hund; rw [hu] at h1; cases h1
      | sl e => obtain ⟨el, h1, _⟩ := (hund : ∃ el, P.underlying T = some (.slice el) ∧ (t.env []).code el = some e); rw [hu] at h1; cases h1
      | _ => cases hs
    | true =>
      have hk := h.sts (T, ty) hm hs
      obtain ⟨x, hx, he⟩ := List.mem_map.1 hk
      obtain ⟨fs', h1, _, _, h4⟩ := h.fld x hx
      have he : x.1 = T := he
      rw [he, hu] at h1
      cases h1
      exact Option.isSome_iff_exists.1 h4
  spec := fun f s hs => (hl (f, s) (sget_mem hs)).1
  eqs := fun T ts hT => h.eqs (T, ts) (aget_mem hT)
  ord := h.ord }
/-! ### the table, asked -/
def vSame : Value → Value → Bool
  | .int k n, .int k' n' => decide (k = k') && decide (n = n')
  | .bool a, .bool b => decide (a = b)
  | .string a, .string b => decide (a.data = b.data)
  | .slice none 0 0, .slice none 0 0 => true
  | _, _ => false
theorem vSame_eq {u v : Value} (h : vSame u v = true) : u = v := by
  unfold vSame at h
  split at h
  · simp only [Bool.and_eq_true, decide_eq_true_eq] at h; rw [h.1, h.2]
  · simp only [decide_eq_true_eq] at h; rw [h]
  · rename_i a b
    simp only [decide_eq_true_eq] at h
    cases a; cases b; cases h; rfl
  · rfl
  · cases h
def vsSame : List Value → List Value → Bool
  | [], [] => true
  | u :: us, v :: vs => vSame u v && vsSame us vs
  | _, _ => false
theorem vsSame_eq : ∀ {us vs : List Value}, vsSame us vs = true → us = vs
  | [], [], _ => rfl
  | [], _ :: _, h => by cases h
  | _ :: _, [], h => by cases h
  | u :: us, v :: vs, h => by
    simp only [vsSame, Bool.and_eq_true] at h
    rw [vSame_eq h.1, vsSame_eq h.2]
def infoChk (P : Program) (x : Nat × Ty) : Bool :=
  match P.info? x.1 with
  | some i => Nat.beq i.size (esz x.2) && (Nat.ble i.bytes 1024 && (match i.zero with | some zv => vsSame zv.cells.toList (zvals x.2) | none => false))
  | none => false
theorem infoChk_ok {P : Program} {l : List (Nat × Ty)} (h : l.all (infoChk P) = true) : ∀ x ∈ l, ∃ i zv, P.info? x.1 = some i ∧ i.size = esz x.2 ∧ i.bytes ≤ 1024 ∧ i.zero = some zv ∧ zv.cells = (zvals x.2).toArray := by
  intro x hx
  have h := List.all_eq_true.1 h x hx
  unfold infoChk at h
  split at h
  · rename_i i hi
    simp only [Bool.and_eq_true] at h
    obtain ⟨h1, h2, h3⟩ := h
    split at h3
    · rename_i zv hz
      exact ⟨i, zv, hi, beqN h1, bleN h2, hz, by have := vsSame_eq h3; apply Array.ext'; simpa using this⟩
    · cases h3
  · cases h

end Go.Gm

/- Contracts of functions that are not walked by the evaluator: one plain result, nothing turned. -/
namespace Go.Gm
open Go

variable {wl : World} {w w' : World} {Mf ROa : Nat → Prop}

theorem valRd_v {Pr : Nat → Prop} {t : Ty} {x : El t} {v u : Value} (he : enc t x = [.v v]) (hs : isSt t = false) (h : ValRd w Pr t x u) : u = v := by
  obtain ⟨us, hf, hr⟩ := h
  obtain ⟨e, _⟩ := hf.size hs
  subst e
  rw [he] at hr
  obtain ⟨z, hz, hc⟩ := hr.2 0 (.v v) rfl
  have hz : u = z := by simpa using hz
  rw [hz]; exact hc
theorem valOwn_v {F : Nat → Prop} {t : Ty} {x : El t} {v : Value} (he : enc t x = [.v v]) (hs : isSt t = false) (hf : flatB v = true) : ValOwn w F t x v := by
  refine ⟨#[v], by simp [Form, hs, hf], fun _ _ => False, fun _ _ h => h.elim, fun _ _ _ h => h.elim, by simp [he], fun j c hc => ?_⟩
  rw [he] at hc
  cases j with
  | zero => simp only [List.getElem?_cons_zero, Option.some.injEq] at hc; subst hc; exact ⟨v, rfl, rfl⟩
  | succ j => simp at hc

theorem backs_none : ∀ {ms : List Am} {ds : List Dt} {us : List Value}, ms.all Am.reads = true → ms.length = us.length → ds.length = us.length → BacksOk wl w ms ds us [] []
  | [], [], [], _, _, _ => .nil
  | m :: ms, d :: ds, u :: us, h, h1, h2 => by
    simp only [List.all_cons, Bool.and_eq_true] at h
    refine .skip ?_ (backs_none h.2 (by simpa using h1) (by simpa using h2))
    cases m <;> first | trivial | exact absurd h.1 (by simp [Am.reads])
  | [], _ :: _, [], _, _, h => by simp at h
  | [], _, _ :: _, _, h, _ => by simp at h
  | _ :: _, _, [], _, h, _ => by simp at h
  | _ :: _, [], _ :: _, _, _, h => by simp at h

theorem After.one {s : Spec} (hown : s.own = true) (hres : s.res = [false]) (hm : s.modes.all Am.reads = true) {ds : List Dt} {us : List Value} (h1 : s.modes.length = us.length) (h2 : ds.length = us.length) {t : Ty} {x : El t} {v : Value} (he : enc t x = [.v v])
    (hs : isSt t = false) (hf : flatB v = true) : After wl w w Mf ROa s ds us [.d t x] (.returned v) := by
  refine ⟨⟨[v], [fun _ => False], [], rfl, ?_, ?_, List.Pairwise.nil, fun B hB => by simp at hB, fun _ => ⟨by unfold PairApart; simp, fun G hG k hk => ?_⟩, fun e => absurd (hown.symm.trans e) (by simp), fun G hG B hB => by simp at hB, fun G hG k hk => ?_, fun B hB => by simp at hB⟩, ⟨rfl, rfl, rfl, Nat.le_refl _, fun _ _ _ => rfl⟩⟩
  · rw [hown, hres]; exact .val (by simpa using valOwn_v he hs hf) .nil
  · rw [hres]; exact backs_none hm h1 h2
  · have : G = fun _ => False := by simpa using hG
    subst this; exact hk.elim
  · have : G = fun _ => False := by simpa using hG
    subst this; exact hk.elim

/-- A contract of one plain result, from what the function does with these values. -/
theorem spec_plain {P : Program} {f : Nat} {modes : List Am} {q : List Dt → Option (Bool × List Dt)} (hm : modes.all Am.reads = true)
    (h : ∀ ds outs, q ds = some (true, outs) → ∃ t x v, outs = [.d t x] ∧ enc t x = [.v v] ∧ isSt t = false ∧ flatB v = true ∧
      ∀ {wl : World} w us ROa Fs, ArgsOk wl w ROa modes ds us Fs → Calls P f us.toArray w fun e w' => e = .returned v ∧ w' = w) : SpecOk P f (Spec.of modes [false] true q) := by
  intro R ds k r hr wl w us Mf ROa Fs hWl hBs hA hp hFM hRM hRlt hMlt
  obtain ⟨outs, hq, hk⟩ := Spec.of_some hr
  obtain ⟨t, x, v, rfl, he, hs, hf, hc⟩ := h ds outs hq
  refine Calls.mono (hc w us ROa Fs hA) ?_
  rintro e w' ⟨rfl, rfl⟩
  obtain ⟨h1, h2, _⟩ := hA.len
  exact ⟨_, hk, After.one rfl rfl hm h1 h2 he hs hf⟩

end Go.Gm

/- Plain laws of loops and of the small functions. -/
namespace Go.Gm
open Go

theorem wrap_id {x : Int} (h : -9223372036854775808 ≤ x) (h' : x < 9223372036854775808) : IntKind.wrap .i64 x = x := by
  rw [IntKind.wrap_i64]; omega

theorem sEq_iff {x y : ByteArray} : sEq x y = true ↔ x = y := by
  unfold sEq
  constructor
  · intro h
    have h := (beq_iff_eq.1 h)
    rw [ByteArray.toList_eq, ByteArray.toList_eq] at h
    cases x; cases y
    simp at h
    rw [h]
  · rintro rfl; simp
theorem sEq_self (x : ByteArray) : sEq x x = true := sEq_iff.2 rfl

/-- A counter below the length. -/
theorem idx {n j : Nat} (h : j < n) (hb : n ≤ 9223372036854775807) : decide ((j : Int) < (n : Int)) = true ∧ decide ((0 : Int) ≤ (j : Int)) = true ∧ IntKind.wrap .i64 ((j : Int) + (1 : Int)) = ((j + 1 : Nat) : Int) ∧ Int.toNat (j : Int) = j :=
  ⟨by simp; omega, by simp, by rw [wrap_id (by omega) (by omega)]; omega, by simp⟩
theorem idxE (n : Nat) : decide ((n : Int) < (n : Int)) = false := by simp

def allN (p : Nat → Bool) : Nat → Nat → Bool
  | _, 0 => true
  | j, d + 1 => p j && allN p (j + 1) d

theorem loop_idx {R : Type} {F : Nat → Int → Option R} {n : Nat} {p : Nat → Bool} {good bad : Option R} (hs : ∀ m j, j < n → F (m + 1) (j : Int) = cond (p j) (F m ((j + 1 : Nat) : Int)) bad) (he : ∀ m, F (m + 1) (n : Int) = good) :
    ∀ d j m, j + d = n → d < m → F m (j : Int) = cond (allN p j d) good bad := by
  intro d
  induction d with
  | zero =>
    intro j m hj hm
    obtain ⟨m, rfl⟩ : ∃ m', m = m' + 1 := ⟨m - 1, by omega⟩
    have : j = n := by omega
    subst this
    rw [he]; rfl
  | succ d ih =>
    intro j m hj hm
    obtain ⟨m, rfl⟩ : ∃ m', m = m' + 1 := ⟨m - 1, by omega⟩
    rw [hs m j (by omega), ih (j + 1) m (by omega) (by omega)]
    simp only [allN]
    cases p j <;> rfl

theorem allN_iff {p : Nat → Bool} : ∀ {d j : Nat}, allN p j d = true ↔ ∀ i, j ≤ i → i < j + d → p i = true
  | 0, j => by simp only [allN, true_iff]; intro i h1 h2; omega
  | d + 1, j => by
    simp only [allN, Bool.and_eq_true, allN_iff]
    constructor
    · rintro ⟨h1, h2⟩ i h3 h4
      by_cases e : i = j
      · subst e; exact h1
      · exact h2 i (by omega) (by omega)
    · intro h
      exact ⟨h j (Nat.le_refl _) (by omega), fun i h1 h2 => h i (by omega) (by omega)⟩
end Go.Gm

/- Every byte that is c is replaced: what strings.ReplaceAll comes to at an old of one byte. -/
namespace Go.Gm
open Go

end Go.Gm

/- Plain laws: loops over lists. -/
namespace Go.Gm
open Go

theorem lt_of_get {α : Type} {xs : List α} {j : Nat} {x : α} (h : xs[j]? = some x) : j < xs.length := by
  rcases Nat.lt_or_ge j xs.length with h' | h'
  · exact h'
  · simp [List.getElem?_eq_none h'] at h
theorem drop_get {α : Type} {xs : List α} {j : Nat} (h : j < xs.length) : ∃ x, xs[j]? = some x ∧ xs.drop j = x :: xs.drop (j + 1) :=
  ⟨xs[j], by simp [h], by simp⟩

/-! ### sizes -/
def WIDE : Nat := 9223372036854775807
def okStr (s : ByteArray) : Bool := Nat.ble s.size WIDE
def okL {α : Type} (f : α → Bool) (xs : List α) : Bool := Nat.ble xs.length WIDE && xs.all f
def szL {α : Type} (f : α → Nat) (xs : List α) : Nat := xs.length + (xs.map f).sum
theorem szL_ge {α : Type} (f : α → Nat) (xs : List α) : xs.length ≤ szL f xs := Nat.le_add_right _ _

end Go.Gm

/- From what an input reads as to typed values. Its printed part by mk57.py of this session. -/
namespace Go.Gm
open Go

def cellTy : Cv → Ty
  | .v (.int k _) => .i k
  | .v (.bool _) => .bool
  | .v (.string _) => .str
  | .l t _ => .sl t
  | _ => .bool
/-- The leaves of a type. -/
def sig (t : Ty) : List Ty := (enc t (zero t)).map cellTy
def CTy : Ty → Cv → Prop
  | .i k, c => ∃ n, c = .v (.int k n)
  | .bool, c => ∃ b, c = .v (.bool b)
  | .str, c => ∃ s, c = .v (.string s)
  | .sl e, c => ∃ xs, c = .l e xs
  | _, _ => False
def TyL : List Ty → List Cv → Prop
  | [], [] => True
  | a :: l, c :: cs => CTy a c ∧ TyL l cs
  | _, _ => False
theorem TyL.cons {a : Ty} {l : List Ty} : ∀ {cs : List Cv}, TyL (a :: l) cs → ∃ c cs', cs = c :: cs' ∧ CTy a c ∧ TyL l cs'
  | c :: cs, h => ⟨c, cs, rfl, h.1, h.2⟩
theorem TyL.nil : ∀ {cs : List Cv}, TyL [] cs → cs = []
  | [], _ => rfl
theorem TyL.append : ∀ {l m : List Ty} {cs ds : List Cv}, TyL l cs → TyL m ds → TyL (l ++ m) (cs ++ ds)
  | [], _, [], _, _, h => h
  | [], _, _ :: _, _, h, _ => h.elim
  | _ :: _, _, [], _, h, _ => h.elim
  | _ :: _, _, _ :: _, _, h, h' => ⟨h.1, TyL.append h.2 h'⟩
theorem TyL.len : ∀ {l : List Ty} {cs : List Cv}, TyL l cs → cs.length = l.length
  | [], [], _ => rfl
  | [], _ :: _, h => h.elim
  | _ :: _, [], h => h.elim
  | _ :: _, _ :: _, h => by simp [TyL.len h.2]

theorem enc_ty_node (x : NodeT) : TyL (sig .node) (enc .node x) := ⟨⟨_, rfl⟩, ⟨_, rfl⟩, ⟨_, rfl⟩, ⟨_, rfl⟩, ⟨_, rfl⟩, trivial⟩
theorem full_node {cs : List Cv} (h0 : TyL (sig .node) cs) : ∃ x : NodeT, enc .node x = cs := by
  obtain ⟨_, _, rfl, ⟨a0, rfl⟩, h1⟩ := TyL.cons h0
  obtain ⟨_, _, rfl, ⟨a1, rfl⟩, h2⟩ := TyL.cons h1
  obtain ⟨_, _, rfl, ⟨a2, rfl⟩, h3⟩ := TyL.cons h2
  obtain ⟨_, _, rfl, ⟨a3, rfl⟩, h4⟩ := TyL.cons h3
  obtain ⟨_, _, rfl, ⟨a4, rfl⟩, h5⟩ := TyL.cons h4
  cases TyL.nil h5
  exact ⟨⟨a0, a1, a2, a3, a4⟩, rfl⟩
theorem enc_ty_metric (x : MetricT) : TyL (sig .metric) (enc .metric x) := ⟨⟨_, rfl⟩, ⟨_, rfl⟩, ⟨_, rfl⟩, trivial⟩
theorem full_metric {cs : List Cv} (h0 : TyL (sig .metric) cs) : ∃ x : MetricT, enc .metric x = cs := by
  obtain ⟨_, _, rfl, ⟨a0, rfl⟩, h1⟩ := TyL.cons h0
  obtain ⟨_, _, rfl, ⟨a1, rfl⟩, h2⟩ := TyL.cons h1
  obtain ⟨_, _, rfl, ⟨a2, rfl⟩, h3⟩ := TyL.cons h2
  cases TyL.nil h3
  exact ⟨⟨a0, a1, a2⟩, rfl⟩
theorem enc_ty_pace (x : PaceT) : TyL (sig .pace) (enc .pace x) := ⟨⟨_, rfl⟩, ⟨_, rfl⟩, ⟨_, rfl⟩, ⟨_, rfl⟩, trivial⟩
theorem full_pace {cs : List Cv} (h0 : TyL (sig .pace) cs) : ∃ x : PaceT, enc .pace x = cs := by
  obtain ⟨_, _, rfl, ⟨a0, rfl⟩, h1⟩ := TyL.cons h0
  obtain ⟨_, _, rfl, ⟨a1, rfl⟩, h2⟩ := TyL.cons h1
  obtain ⟨_, _, rfl, ⟨a2, rfl⟩, h3⟩ := TyL.cons h2
  obtain ⟨_, _, rfl, ⟨a3, rfl⟩, h4⟩ := TyL.cons h3
  cases TyL.nil h4
  exact ⟨⟨a0, a1, a2, a3⟩, rfl⟩
theorem enc_ty_note (x : NoteT) : TyL (sig .note) (enc .note x) := ⟨⟨_, rfl⟩, ⟨_, rfl⟩, trivial⟩
theorem full_note {cs : List Cv} (h0 : TyL (sig .note) cs) : ∃ x : NoteT, enc .note x = cs := by
  obtain ⟨_, _, rfl, ⟨a0, rfl⟩, h1⟩ := TyL.cons h0
  obtain ⟨_, _, rfl, ⟨a1, rfl⟩, h2⟩ := TyL.cons h1
  cases TyL.nil h2
  exact ⟨⟨a0, a1⟩, rfl⟩
theorem enc_ty_order (x : OrderT) : TyL (sig .order) (enc .order x) := ⟨⟨_, rfl⟩, ⟨_, rfl⟩, ⟨_, rfl⟩, ⟨_, rfl⟩, ⟨_, rfl⟩, ⟨_, rfl⟩, ⟨_, rfl⟩, ⟨_, rfl⟩, ⟨_, rfl⟩, ⟨_, rfl⟩, trivial⟩
theorem full_order {cs : List Cv} (h0 : TyL (sig .order) cs) : ∃ x : OrderT, enc .order x = cs := by
  obtain ⟨_, _, rfl, ⟨a0, rfl⟩, h1⟩ := TyL.cons h0
  obtain ⟨_, _, rfl, ⟨a1, rfl⟩, h2⟩ := TyL.cons h1
  obtain ⟨_, _, rfl, ⟨a2, rfl⟩, h3⟩ := TyL.cons h2
  obtain ⟨_, _, rfl, ⟨a3, rfl⟩, h4⟩ := TyL.cons h3
  obtain ⟨_, _, rfl, ⟨a4, rfl⟩, h5⟩ := TyL.cons h4
  obtain ⟨_, _, rfl, ⟨a5, rfl⟩, h6⟩ := TyL.cons h5
  obtain ⟨_, _, rfl, ⟨a6, rfl⟩, h7⟩ := TyL.cons h6
  obtain ⟨_, _, rfl, ⟨a7, rfl⟩, h8⟩ := TyL.cons h7
  obtain ⟨_, _, rfl, ⟨a8, rfl⟩, h9⟩ := TyL.cons h8
  obtain ⟨_, _, rfl, ⟨a9, rfl⟩, h10⟩ := TyL.cons h9
  cases TyL.nil h10
  exact ⟨⟨a0, a1, a2, a3, a4, ⟨a5, a6, a7, a8⟩, a9⟩, rfl⟩
theorem enc_ty_item (x : ItemT) : TyL (sig .item) (enc .item x) := ⟨⟨_, rfl⟩, ⟨_, rfl⟩, ⟨_, rfl⟩, ⟨_, rfl⟩, ⟨_, rfl⟩, ⟨_, rfl⟩, ⟨_, rfl⟩, ⟨_, rfl⟩, ⟨_, rfl⟩, ⟨_, rfl⟩, ⟨_, rfl⟩, trivial⟩
theorem full_item {cs : List Cv} (h0 : TyL (sig .item) cs) : ∃ x : ItemT, enc .item x = cs := by
  obtain ⟨_, _, rfl, ⟨a0, rfl⟩, h1⟩ := TyL.cons h0
  obtain ⟨_, _, rfl, ⟨a1, rfl⟩, h2⟩ := TyL.cons h1
  obtain ⟨_, _, rfl, ⟨a2, rfl⟩, h3⟩ := TyL.cons h2
  obtain ⟨_, _, rfl, ⟨a3, rfl⟩, h4⟩ := TyL.cons h3
  obtain ⟨_, _, rfl, ⟨a4, rfl⟩, h5⟩ := TyL.cons h4
  obtain ⟨_, _, rfl, ⟨a5, rfl⟩, h6⟩ := TyL.cons h5
  obtain ⟨_, _, rfl, ⟨a6, rfl⟩, h7⟩ := TyL.cons h6
  obtain ⟨_, _, rfl, ⟨a7, rfl⟩, h8⟩ := TyL.cons h7
  obtain ⟨_, _, rfl, ⟨a8, rfl⟩, h9⟩ := TyL.cons h8
  obtain ⟨_, _, rfl, ⟨a9, rfl⟩, h10⟩ := TyL.cons h9
  obtain ⟨_, _, rfl, ⟨a10, rfl⟩, h11⟩ := TyL.cons h10
  cases TyL.nil h11
  exact ⟨⟨⟨a0, a1, a2, a3, a4, ⟨a5, a6, a7, a8⟩, a9⟩, a10⟩, rfl⟩
theorem enc_ty_store (x : StoreT) : TyL (sig .store) (enc .store x) := ⟨⟨_, rfl⟩, ⟨_, rfl⟩, trivial⟩
theorem full_store {cs : List Cv} (h0 : TyL (sig .store) cs) : ∃ x : StoreT, enc .store x = cs := by
  obtain ⟨_, _, rfl, ⟨a0, rfl⟩, h1⟩ := TyL.cons h0
  obtain ⟨_, _, rfl, ⟨a1, rfl⟩, h2⟩ := TyL.cons h1
  cases TyL.nil h2
  exact ⟨⟨a0, a1⟩, rfl⟩
theorem enc_ty_answer (x : AnswerT) : TyL (sig .answer) (enc .answer x) := ⟨⟨_, rfl⟩, ⟨_, rfl⟩, ⟨_, rfl⟩, trivial⟩
theorem full_answer {cs : List Cv} (h0 : TyL (sig .answer) cs) : ∃ x : AnswerT, enc .answer x = cs := by
  obtain ⟨_, _, rfl, ⟨a0, rfl⟩, h1⟩ := TyL.cons h0
  obtain ⟨_, _, rfl, ⟨a1, rfl⟩, h2⟩ := TyL.cons h1
  obtain ⟨_, _, rfl, ⟨a2, rfl⟩, h3⟩ := TyL.cons h2
  cases TyL.nil h3
  exact ⟨⟨a0, a1, a2⟩, rfl⟩
theorem enc_ty_sample (x : SampleT) : TyL (sig .sample) (enc .sample x) := ⟨⟨_, rfl⟩, ⟨_, rfl⟩, trivial⟩
theorem full_sample {cs : List Cv} (h0 : TyL (sig .sample) cs) : ∃ x : SampleT, enc .sample x = cs := by
  obtain ⟨_, _, rfl, ⟨a0, rfl⟩, h1⟩ := TyL.cons h0
  obtain ⟨_, _, rfl, ⟨a1, rfl⟩, h2⟩ := TyL.cons h1
  cases TyL.nil h2
  exact ⟨⟨a0, a1⟩, rfl⟩
theorem enc_ty_rcd (x : RcdT) : TyL (sig .rcd) (enc .rcd x) := ⟨⟨_, rfl⟩, ⟨_, rfl⟩, trivial⟩
theorem full_rcd {cs : List Cv} (h0 : TyL (sig .rcd) cs) : ∃ x : RcdT, enc .rcd x = cs := by
  obtain ⟨_, _, rfl, ⟨a0, rfl⟩, h1⟩ := TyL.cons h0
  obtain ⟨_, _, rfl, ⟨a1, rfl⟩, h2⟩ := TyL.cons h1
  cases TyL.nil h2
  exact ⟨⟨a0, a1⟩, rfl⟩
theorem enc_ty_scale (x : ScaleT) : TyL (sig .scale) (enc .scale x) := ⟨⟨_, rfl⟩, ⟨_, rfl⟩, ⟨_, rfl⟩, trivial⟩
theorem full_scale {cs : List Cv} (h0 : TyL (sig .scale) cs) : ∃ x : ScaleT, enc .scale x = cs := by
  obtain ⟨_, _, rfl, ⟨a0, rfl⟩, h1⟩ := TyL.cons h0
  obtain ⟨_, _, rfl, ⟨a1, rfl⟩, h2⟩ := TyL.cons h1
  obtain ⟨_, _, rfl, ⟨a2, rfl⟩, h3⟩ := TyL.cons h2
  cases TyL.nil h3
  exact ⟨⟨a0, a1, a2⟩, rfl⟩
theorem enc_ty_feed (x : FeedT) : TyL (sig .feed) (enc .feed x) := ⟨⟨_, rfl⟩, ⟨_, rfl⟩, trivial⟩
theorem full_feed {cs : List Cv} (h0 : TyL (sig .feed) cs) : ∃ x : FeedT, enc .feed x = cs := by
  obtain ⟨_, _, rfl, ⟨a0, rfl⟩, h1⟩ := TyL.cons h0
  obtain ⟨_, _, rfl, ⟨a1, rfl⟩, h2⟩ := TyL.cons h1
  cases TyL.nil h2
  exact ⟨⟨a0, a1⟩, rfl⟩
theorem enc_ty_told (x : ToldT) : TyL (sig .told) (enc .told x) := ⟨⟨_, rfl⟩, ⟨_, rfl⟩, ⟨_, rfl⟩, trivial⟩
theorem full_told {cs : List Cv} (h0 : TyL (sig .told) cs) : ∃ x : ToldT, enc .told x = cs := by
  obtain ⟨_, _, rfl, ⟨a0, rfl⟩, h1⟩ := TyL.cons h0
  obtain ⟨_, _, rfl, ⟨a1, rfl⟩, h2⟩ := TyL.cons h1
  obtain ⟨_, _, rfl, ⟨a2, rfl⟩, h3⟩ := TyL.cons h2
  cases TyL.nil h3
  exact ⟨⟨a0, a1, a2⟩, rfl⟩
theorem enc_ty_world (x : WorldT) : TyL (sig .world) (enc .world x) := ⟨⟨_, rfl⟩, ⟨_, rfl⟩, ⟨_, rfl⟩, ⟨_, rfl⟩, ⟨_, rfl⟩, trivial⟩
theorem full_world {cs : List Cv} (h0 : TyL (sig .world) cs) : ∃ x : WorldT, enc .world x = cs := by
  obtain ⟨_, _, rfl, ⟨a0, rfl⟩, h1⟩ := TyL.cons h0
  obtain ⟨_, _, rfl, ⟨a1, rfl⟩, h2⟩ := TyL.cons h1
  obtain ⟨_, _, rfl, ⟨a2, rfl⟩, h3⟩ := TyL.cons h2
  obtain ⟨_, _, rfl, ⟨a3, rfl⟩, h4⟩ := TyL.cons h3
  obtain ⟨_, _, rfl, ⟨a4, rfl⟩, h5⟩ := TyL.cons h4
  cases TyL.nil h5
  exact ⟨⟨⟨a0, a1⟩, a2, a3, a4⟩, rfl⟩
theorem enc_ty_deed (x : DeedT) : TyL (sig .deed) (enc .deed x) := ⟨⟨_, rfl⟩, ⟨_, rfl⟩, ⟨_, rfl⟩, ⟨_, rfl⟩, ⟨_, rfl⟩, ⟨_, rfl⟩, trivial⟩
theorem full_deed {cs : List Cv} (h0 : TyL (sig .deed) cs) : ∃ x : DeedT, enc .deed x = cs := by
  obtain ⟨_, _, rfl, ⟨a0, rfl⟩, h1⟩ := TyL.cons h0
  obtain ⟨_, _, rfl, ⟨a1, rfl⟩, h2⟩ := TyL.cons h1
  obtain ⟨_, _, rfl, ⟨a2, rfl⟩, h3⟩ := TyL.cons h2
  obtain ⟨_, _, rfl, ⟨a3, rfl⟩, h4⟩ := TyL.cons h3
  obtain ⟨_, _, rfl, ⟨a4, rfl⟩, h5⟩ := TyL.cons h4
  obtain ⟨_, _, rfl, ⟨a5, rfl⟩, h6⟩ := TyL.cons h5
  cases TyL.nil h6
  exact ⟨⟨a0, a1, a2, a3, a4, a5⟩, rfl⟩
theorem enc_ty_pop (x : PopT) : TyL (sig .pop) (enc .pop x) := ⟨⟨_, rfl⟩, ⟨_, rfl⟩, ⟨_, rfl⟩, ⟨_, rfl⟩, ⟨_, rfl⟩, ⟨_, rfl⟩, ⟨_, rfl⟩, ⟨_, rfl⟩, trivial⟩
theorem full_pop {cs : List Cv} (h0 : TyL (sig .pop) cs) : ∃ x : PopT, enc .pop x = cs := by
  obtain ⟨_, _, rfl, ⟨a0, rfl⟩, h1⟩ := TyL.cons h0
  obtain ⟨_, _, rfl, ⟨a1, rfl⟩, h2⟩ := TyL.cons h1
  obtain ⟨_, _, rfl, ⟨a2, rfl⟩, h3⟩ := TyL.cons h2
  obtain ⟨_, _, rfl, ⟨a3, rfl⟩, h4⟩ := TyL.cons h3
  obtain ⟨_, _, rfl, ⟨a4, rfl⟩, h5⟩ := TyL.cons h4
  obtain ⟨_, _, rfl, ⟨a5, rfl⟩, h6⟩ := TyL.cons h5
  obtain ⟨_, _, rfl, ⟨a6, rfl⟩, h7⟩ := TyL.cons h6
  obtain ⟨_, _, rfl, ⟨a7, rfl⟩, h8⟩ := TyL.cons h7
  cases TyL.nil h8
  exact ⟨⟨a0, a1, a2, ⟨a3, a4, a5, a6, a7⟩⟩, rfl⟩
theorem enc_ty_rule (x : RuleT) : TyL (sig .rule) (enc .rule x) := ⟨⟨_, rfl⟩, ⟨_, rfl⟩, ⟨_, rfl⟩, ⟨_, rfl⟩, ⟨_, rfl⟩, ⟨_, rfl⟩, trivial⟩
theorem full_rule {cs : List Cv} (h0 : TyL (sig .rule) cs) : ∃ x : RuleT, enc .rule x = cs := by
  obtain ⟨_, _, rfl, ⟨a0, rfl⟩, h1⟩ := TyL.cons h0
  obtain ⟨_, _, rfl, ⟨a1, rfl⟩, h2⟩ := TyL.cons h1
  obtain ⟨_, _, rfl, ⟨a2, rfl⟩, h3⟩ := TyL.cons h2
  obtain ⟨_, _, rfl, ⟨a3, rfl⟩, h4⟩ := TyL.cons h3
  obtain ⟨_, _, rfl, ⟨a4, rfl⟩, h5⟩ := TyL.cons h4
  obtain ⟨_, _, rfl, ⟨a5, rfl⟩, h6⟩ := TyL.cons h5
  cases TyL.nil h6
  exact ⟨⟨a0, a1, a2, a3, a4, a5⟩, rfl⟩
theorem enc_ty_pick (x : PickT) : TyL (sig .pick) (enc .pick x) := ⟨⟨_, rfl⟩, ⟨_, rfl⟩, ⟨_, rfl⟩, trivial⟩
theorem full_pick {cs : List Cv} (h0 : TyL (sig .pick) cs) : ∃ x : PickT, enc .pick x = cs := by
  obtain ⟨_, _, rfl, ⟨a0, rfl⟩, h1⟩ := TyL.cons h0
  obtain ⟨_, _, rfl, ⟨a1, rfl⟩, h2⟩ := TyL.cons h1
  obtain ⟨_, _, rfl, ⟨a2, rfl⟩, h3⟩ := TyL.cons h2
  cases TyL.nil h3
  exact ⟨⟨a0, a1, a2⟩, rfl⟩
theorem enc_ty_event (x : EventT) : TyL (sig .event) (enc .event x) := ⟨⟨_, rfl⟩, ⟨_, rfl⟩, ⟨_, rfl⟩, ⟨_, rfl⟩, ⟨_, rfl⟩, ⟨_, rfl⟩, ⟨_, rfl⟩, ⟨_, rfl⟩, ⟨_, rfl⟩, ⟨_, rfl⟩, ⟨_, rfl⟩, ⟨_, rfl⟩, ⟨_, rfl⟩, trivial⟩
theorem full_event {cs : List Cv} (h0 : TyL (sig .event) cs) : ∃ x : EventT, enc .event x = cs := by
  obtain ⟨_, _, rfl, ⟨a0, rfl⟩, h1⟩ := TyL.cons h0
  obtain ⟨_, _, rfl, ⟨a1, rfl⟩, h2⟩ := TyL.cons h1
  obtain ⟨_, _, rfl, ⟨a2, rfl⟩, h3⟩ := TyL.cons h2
  obtain ⟨_, _, rfl, ⟨a3, rfl⟩, h4⟩ := TyL.cons h3
  obtain ⟨_, _, rfl, ⟨a4, rfl⟩, h5⟩ := TyL.cons h4
  obtain ⟨_, _, rfl, ⟨a5, rfl⟩, h6⟩ := TyL.cons h5
  obtain ⟨_, _, rfl, ⟨a6, rfl⟩, h7⟩ := TyL.cons h6
  obtain ⟨_, _, rfl, ⟨a7, rfl⟩, h8⟩ := TyL.cons h7
  obtain ⟨_, _, rfl, ⟨a8, rfl⟩, h9⟩ := TyL.cons h8
  obtain ⟨_, _, rfl, ⟨a9, rfl⟩, h10⟩ := TyL.cons h9
  obtain ⟨_, _, rfl, ⟨a10, rfl⟩, h11⟩ := TyL.cons h10
  obtain ⟨_, _, rfl, ⟨a11, rfl⟩, h12⟩ := TyL.cons h11
  obtain ⟨_, _, rfl, ⟨a12, rfl⟩, h13⟩ := TyL.cons h12
  cases TyL.nil h13
  exact ⟨⟨a0, a1, ⟨⟨a2, a3, a4, a5, a6, ⟨a7, a8, a9, a10⟩, a11⟩, a12⟩⟩, rfl⟩
theorem enc_ty_hist (x : HistT) : TyL (sig .hist) (enc .hist x) := ⟨⟨_, rfl⟩, ⟨_, rfl⟩, trivial⟩
theorem full_hist {cs : List Cv} (h0 : TyL (sig .hist) cs) : ∃ x : HistT, enc .hist x = cs := by
  obtain ⟨_, _, rfl, ⟨a0, rfl⟩, h1⟩ := TyL.cons h0
  obtain ⟨_, _, rfl, ⟨a1, rfl⟩, h2⟩ := TyL.cons h1
  cases TyL.nil h2
  exact ⟨⟨a0, a1⟩, rfl⟩
theorem enc_ty_fail (x : FailT) : TyL (sig .fail) (enc .fail x) := ⟨⟨_, rfl⟩, ⟨_, rfl⟩, trivial⟩
theorem full_fail {cs : List Cv} (h0 : TyL (sig .fail) cs) : ∃ x : FailT, enc .fail x = cs := by
  obtain ⟨_, _, rfl, ⟨a0, rfl⟩, h1⟩ := TyL.cons h0
  obtain ⟨_, _, rfl, ⟨a1, rfl⟩, h2⟩ := TyL.cons h1
  cases TyL.nil h2
  exact ⟨⟨a0, a1⟩, rfl⟩
theorem enc_ty_work (x : WorkT) : TyL (sig .work) (enc .work x) := ⟨⟨_, rfl⟩, ⟨_, rfl⟩, ⟨_, rfl⟩, ⟨_, rfl⟩, trivial⟩
theorem full_work {cs : List Cv} (h0 : TyL (sig .work) cs) : ∃ x : WorkT, enc .work x = cs := by
  obtain ⟨_, _, rfl, ⟨a0, rfl⟩, h1⟩ := TyL.cons h0
  obtain ⟨_, _, rfl, ⟨a1, rfl⟩, h2⟩ := TyL.cons h1
  obtain ⟨_, _, rfl, ⟨a2, rfl⟩, h3⟩ := TyL.cons h2
  obtain ⟨_, _, rfl, ⟨a3, rfl⟩, h4⟩ := TyL.cons h3
  cases TyL.nil h4
  exact ⟨⟨a0, a1, a2, a3⟩, rfl⟩
theorem enc_ty_row (x : RowT) : TyL (sig .row) (enc .row x) := ⟨⟨_, rfl⟩, ⟨_, rfl⟩, ⟨_, rfl⟩, trivial⟩
theorem full_row {cs : List Cv} (h0 : TyL (sig .row) cs) : ∃ x : RowT, enc .row x = cs := by
  obtain ⟨_, _, rfl, ⟨a0, rfl⟩, h1⟩ := TyL.cons h0
  obtain ⟨_, _, rfl, ⟨a1, rfl⟩, h2⟩ := TyL.cons h1
  obtain ⟨_, _, rfl, ⟨a2, rfl⟩, h3⟩ := TyL.cons h2
  cases TyL.nil h3
  exact ⟨⟨a0, a1, a2⟩, rfl⟩
theorem enc_ty_reader (x : ReaderT) : TyL (sig .reader) (enc .reader x) := ⟨⟨_, rfl⟩, ⟨_, rfl⟩, ⟨_, rfl⟩, ⟨_, rfl⟩, trivial⟩
theorem full_reader {cs : List Cv} (h0 : TyL (sig .reader) cs) : ∃ x : ReaderT, enc .reader x = cs := by
  obtain ⟨_, _, rfl, ⟨a0, rfl⟩, h1⟩ := TyL.cons h0
  obtain ⟨_, _, rfl, ⟨a1, rfl⟩, h2⟩ := TyL.cons h1
  obtain ⟨_, _, rfl, ⟨a2, rfl⟩, h3⟩ := TyL.cons h2
  obtain ⟨_, _, rfl, ⟨a3, rfl⟩, h4⟩ := TyL.cons h3
  cases TyL.nil h4
  exact ⟨⟨a0, a1, a2, a3⟩, rfl⟩
theorem enc_ty_outliner (x : OutlinerT) : TyL (sig .outliner) (enc .outliner x) := ⟨⟨_, rfl⟩, ⟨_, rfl⟩, ⟨_, rfl⟩, ⟨_, rfl⟩, trivial⟩
theorem full_outliner {cs : List Cv} (h0 : TyL (sig .outliner) cs) : ∃ x : OutlinerT, enc .outliner x = cs := by
  obtain ⟨_, _, rfl, ⟨a0, rfl⟩, h1⟩ := TyL.cons h0
  obtain ⟨_, _, rfl, ⟨a1, rfl⟩, h2⟩ := TyL.cons h1
  obtain ⟨_, _, rfl, ⟨a2, rfl⟩, h3⟩ := TyL.cons h2
  obtain ⟨_, _, rfl, ⟨a3, rfl⟩, h4⟩ := TyL.cons h3
  cases TyL.nil h4
  exact ⟨⟨a0, a1, a2, a3⟩, rfl⟩
theorem enc_ty_cur (x : CurT) : TyL (sig .cur) (enc .cur x) := ⟨⟨_, rfl⟩, ⟨_, rfl⟩, ⟨_, rfl⟩, trivial⟩
theorem full_cur {cs : List Cv} (h0 : TyL (sig .cur) cs) : ∃ x : CurT, enc .cur x = cs := by
  obtain ⟨_, _, rfl, ⟨a0, rfl⟩, h1⟩ := TyL.cons h0
  obtain ⟨_, _, rfl, ⟨a1, rfl⟩, h2⟩ := TyL.cons h1
  obtain ⟨_, _, rfl, ⟨a2, rfl⟩, h3⟩ := TyL.cons h2
  cases TyL.nil h3
  exact ⟨⟨a0, a1, a2⟩, rfl⟩
theorem enc_ty : ∀ (t : Ty) (x : El t), TyL (sig t) (enc t x)
  | .i _, _ => ⟨⟨_, rfl⟩, trivial⟩
  | .bool, _ => ⟨⟨_, rfl⟩, trivial⟩
  | .str, _ => ⟨⟨_, rfl⟩, trivial⟩
  | .sl _, _ => ⟨⟨_, rfl⟩, trivial⟩
  | .node, x => enc_ty_node x
  | .metric, x => enc_ty_metric x
  | .pace, x => enc_ty_pace x
  | .note, x => enc_ty_note x
  | .order, x => enc_ty_order x
  | .item, x => enc_ty_item x
  | .store, x => enc_ty_store x
  | .answer, x => enc_ty_answer x
  | .sample, x => enc_ty_sample x
  | .rcd, x => enc_ty_rcd x
  | .scale, x => enc_ty_scale x
  | .feed, x => enc_ty_feed x
  | .told, x => enc_ty_told x
  | .world, x => enc_ty_world x
  | .deed, x => enc_ty_deed x
  | .pop, x => enc_ty_pop x
  | .rule, x => enc_ty_rule x
  | .pick, x => enc_ty_pick x
  | .event, x => enc_ty_event x
  | .hist, x => enc_ty_hist x
  | .fail, x => enc_ty_fail x
  | .work, x => enc_ty_work x
  | .row, x => enc_ty_row x
  | .reader, x => enc_ty_reader x
  | .outliner, x => enc_ty_outliner x
  | .cur, x => enc_ty_cur x
theorem full : ∀ (t : Ty) {cs : List Cv}, TyL (sig t) cs → ∃ x : El t, enc t x = cs
  | .i k, _, h => by obtain ⟨_, _, rfl, ⟨a, rfl⟩, h2⟩ := TyL.cons h; cases TyL.nil h2; exact ⟨a, rfl⟩
  | .bool, _, h => by obtain ⟨_, _, rfl, ⟨a, rfl⟩, h2⟩ := TyL.cons h; cases TyL.nil h2; exact ⟨a, rfl⟩
  | .str, _, h => by obtain ⟨_, _, rfl, ⟨a, rfl⟩, h2⟩ := TyL.cons h; cases TyL.nil h2; exact ⟨a, rfl⟩
  | .sl e, _, h => by obtain ⟨_, _, rfl, ⟨a, rfl⟩, h2⟩ := TyL.cons h; cases TyL.nil h2; exact ⟨a, rfl⟩
  | .node, _, h => full_node h
  | .metric, _, h => full_metric h
  | .pace, _, h => full_pace h
  | .note, _, h => full_note h
  | .order, _, h => full_order h
  | .item, _, h => full_item h
  | .store, _, h => full_store h
  | .answer, _, h => full_answer h
  | .sample, _, h => full_sample h
  | .rcd, _, h => full_rcd h
  | .scale, _, h => full_scale h
  | .feed, _, h => full_feed h
  | .told, _, h => full_told h
  | .world, _, h => full_world h
  | .deed, _, h => full_deed h
  | .pop, _, h => full_pop h
  | .rule, _, h => full_rule h
  | .pick, _, h => full_pick h
  | .event, _, h => full_event h
  | .hist, _, h => full_hist h
  | .fail, _, h => full_fail h
  | .work, _, h => full_work h
  | .row, _, h => full_row h
  | .reader, _, h => full_reader h
  | .outliner, _, h => full_outliner h
  | .cur, _, h => full_cur h

/-- What is read is not longer than anything can be. -/
inductive WideC : Cv → Prop
  | int {k : IntKind} {n : Int} (h : (Lit.int k n).wf = true) : WideC (.v (.int k n))
  | bool {b : Bool} : WideC (.v (.bool b))
  | str {s : ByteArray} (h : s.size ≤ maxLen) : WideC (.v (.string s))
  | lst {t : Ty} {xs : List (El t)} (h : xs.length ≤ maxLen) (hx : ∀ x ∈ xs, ∀ c ∈ enc t x, WideC c) : WideC (.l t xs)

/-- Every field where the one ahead of it ends; the leaves of a struct are those of its fields. -/
def tiles (code : List (Nat × Ty)) : Nat → List (Nat × Nat) → Option (List Ty)
  | _, [] => some []
  | o, (off, ft) :: r => (aget code ft).bind fun t => cond (Nat.beq off o) ((tiles code (o + esz t) r).bind fun l => some (sig t ++ l)) none
def tileChk (t : Tab) : Bool := t.code.all fun x => !isSt x.2 || (match aget t.fld x.1 with | some L => decide (tiles t.code 0 L = some (sig x.2)) | none => false)

variable {H : Type} {en : TypeId × Value → H} {P : Program} {w : World} {tb : Tab}

theorem Tab.Ok.cells (h : tb.Ok P) {T : Nat} {t : Ty} (hT : aget tb.code T = some t) : P.cellsOf T = esz t := by
  obtain ⟨i, zv, h1, h2, _⟩ := h.info (T, t) (aget_mem hT)
  simp [Program.cellsOf, h1, h2]

def AnyB (w : World) (k : Nat) : Prop := k < w.heap.size

theorem RowL.append {Pr : Nat → Prop} : ∀ {cs ds : List Cv} {us vs : List Value}, RowL w Pr cs us → RowL w Pr ds vs → RowL w Pr (cs ++ ds) (us ++ vs)
  | [], _, [], _, _, h => h
  | [], _, _ :: _, _, h, _ => h.elim
  | _ :: _, _, [], _, h, _ => h.elim
  | _ :: _, _, _ :: _, _, h, h' => ⟨h.1, RowL.append h.2 h'⟩

/-- Fields, one by one. -/
theorem fields_rd {fuel : Nat} (hOk : tb.Ok P) (IH : ∀ (T : Nat) (t : Ty) (cs : List Value) (y : DataW H × List MemPlace), aget tb.code T = some t → DataW.trod en P w 0 (fun _ => true) true fuel T cs = some y →
      ∃ x : El t, RowL w (AnyB w) (enc t x) cs ∧ ∀ c ∈ enc t x, WideC c) (cs : List Value) :
    ∀ (fs : List Field) (o : Nat) (l : List Ty), tiles tb.code o (fs.map fun f => (f.offset, f.type)) = some l → (∀ f ∈ fs, ∃ y, DataW.trod en P w 0 (fun _ => true) true fuel f.type ((cs.drop f.offset).take (P.cellsOf f.type)) = some y) →
      cs.length = o + l.length → ∃ cvs, TyL l cvs ∧ RowL w (AnyB w) cvs (cs.drop o) ∧ ∀ c ∈ cvs, WideC c
  | [], o, l, ht, _, hl => by
    simp only [List.map_nil, tiles, Option.some.injEq] at ht
    subst ht
    refine ⟨[], trivial, ?_, fun c h => by cases h⟩
    rw [List.drop_of_length_le (by simpa using Nat.le_of_eq hl)]
    trivial
  | f :: fs, o, l, ht, hm, hl => by
    simp only [List.map_cons, tiles] at ht
    obtain ⟨t, hft, ht⟩ := bindS ht
    obtain ⟨ho, ht⟩ := condN ht
    obtain ⟨l', ht3, hl'⟩ := bindS ht
    have ho := beqN ho
    simp only [Option.some.injEq] at hl'
    subst hl'
    obtain ⟨y, hy⟩ := hm f (by simp)
    rw [hOk.cells hft, ho] at hy
    obtain ⟨x, hx1, hx2⟩ := IH f.type t _ y hft hy
    have hsz : (sig t).length = esz t := by
      have := (enc_ty t x).len
      rw [← this, enc_length]
    obtain ⟨cvs, h1, h2, h3⟩ := fields_rd hOk IH cs fs (o + esz t) l' ht3 (fun f h => hm f (by simp [h])) (by simp at hl; omega)
    refine ⟨enc t x ++ cvs, (enc_ty t x).append h1, ?_, fun c hc => (List.mem_append.1 hc).elim (hx2 c) (h3 c)⟩
    have e : cs.drop o = (cs.drop o).take (esz t) ++ cs.drop (o + esz t) := by
      rw [← List.drop_drop, List.take_append_drop]
    rw [e]
    exact hx1.append h2

end Go.Gm

/- From what an input reads as to typed values, whole. -/
namespace Go.Gm
open Go

variable {H : Type} {en : TypeId × Value → H} {P : Program} {w : World} {tb : Tab}

open Classical in
/-- A list that is read, out of its rows. -/
theorem RdSl.mk {Pr : Nat → Prop} {t : Ty} {xs : List (El t)} {b o cap : Nat} {cs : Array Value} {el : Nat} {fz : Nat × Nat} (hcap : xs.length ≤ cap) (hP : Pr b) (hb : w.heap[b]? = some (.cells cs el fz))
    (hr : ∀ (i : Nat) x (j : Nat) c, xs[i]? = some x → (enc t x)[j]? = some c → ∃ u, cs[o + i * esz t + j]? = some u ∧ CRd w Pr c u) : RdSl w Pr t xs (.slice (some ⟨b, o, none⟩) xs.length cap) := by
  let Good : Nat → Nat → (Path → Value) → Prop := fun i j f => ∀ x (t' : Ty) (ys : List (El t')), xs[i]? = some x → (enc t x)[j]? = some (.l t' ys) → cs[o + i * esz t + j]? = some (f []) ∧ TreeRd w Pr t' ys f
  have hgood : ∀ i j, ∃ f, Good i j f := by
    intro i j
    by_cases h : ∃ (x : El t) (t' : Ty) (ys : List (El t')), xs[i]? = some x ∧ (enc t x)[j]? = some (.l t' ys)
    · obtain ⟨x, t', ys, hx, hc⟩ := h
      obtain ⟨u, hu, hrd⟩ := hr i x j _ hx hc
      obtain ⟨av, h0, h1⟩ := hrd
      refine ⟨av, fun x2 t2 ys2 hx2 hc2 => ?_⟩
      rw [hx] at hx2; cases hx2
      rw [hc] at hc2; cases hc2
      exact ⟨by rw [h0]; exact hu, h1⟩
    · exact ⟨fun _ => .nilFunc, fun x t' ys hx hc => (h ⟨x, t', ys, hx, hc⟩).elim⟩
  let kid : Nat → Nat → Path → Value := fun i j => Classical.choose (hgood i j)
  have hkid : ∀ i j, Good i j (kid i j) := fun i j => Classical.choose_spec (hgood i j)
  let av : Path → Value
    | [] => .slice (some ⟨b, o, none⟩) xs.length cap
    | (i, j) :: q => kid i j q
  refine ⟨av, rfl, fun p s hs => ?_⟩
  cases p with
  | nil =>
    simp only [subR, Option.some.injEq] at hs
    subst hs
    refine ⟨_, cap, rfl, hcap, fun _ => ⟨b, o, cs, el, fz, rfl, hP, hb, fun i x j c hx hc => ?_⟩⟩
    obtain ⟨u, hu, hrd⟩ := hr i x j c hx hc
    refine ⟨u, hu, ?_⟩
    cases c with
    | v y => exact hrd
    | l t' ys =>
      have := (hkid i j x t' ys hx hc).1
      rw [hu] at this
      show u = kid i j []
      exact (Option.some.inj this)
  | cons ij q =>
    obtain ⟨i, j⟩ := ij
    simp only [subR] at hs
    split at hs
    · rename_i x hx
      split at hs
      · rename_i t' ys hc
        exact (hkid i j x t' ys hx hc).2 q s hs
      · cases hs
    · cases hs

theorem RdSl.nil {Pr : Nat → Prop} (t : Ty) (a : Option Addr) (cap : Nat) : RdSl w Pr t [] (.slice a 0 cap) := by
  refine ⟨fun _ => .slice a 0 cap, rfl, fun p s hs => ?_⟩
  cases p with
  | nil => simp only [subR, Option.some.injEq] at hs; subst hs; exact ⟨a, cap, rfl, Nat.zero_le _, fun h => (h rfl).elim⟩
  | cons ij q => simp [subR] at hs

theorem lt_of_get' {α : Type} {xs : List α} {j : Nat} {x : α} (h : xs[j]? = some x) : j < xs.length := by
  rcases Nat.lt_or_ge j xs.length with h' | h'
  · exact h'
  · simp [List.getElem?_eq_none h'] at h

theorem open_row (hOk : tb.Ok P) (hT : tileChk tb = true) : ∀ (fuel : Nat) (T : Nat) (t : Ty) (cs : List Value) (y : DataW H × List MemPlace), aget tb.code T = some t → DataW.trod en P w 0 (fun _ => true) true fuel T cs = some y →
    ∃ x : El t, RowL w (AnyB w) (enc t x) cs ∧ ∀ c ∈ enc t x, WideC c := by
  intro fuel
  induction fuel with
  | zero => intro T t cs y _ h; simp [DataW.trod] at h
  | succ fuel IH =>
    intro T t cs y hc h
    have hu := hOk.und (T, t) (aget_mem hc)
    have str : isSt t = true → ∃ x : El t, RowL w (AnyB w) (enc t x) cs ∧ ∀ c ∈ enc t x, WideC c := by
      intro hs
      have h1 := List.all_eq_true.1 hT (T, t) (aget_mem hc)
      simp only [hs, Bool.not_true, Bool.false_or] at h1
      split at h1
      · rename_i L hL
        have h1 := of_decide_eq_true h1
        obtain ⟨fs, hf1, hf2, _, _⟩ := hOk.fld (T, L) (aget_mem hL)
        have hf2 : L = fs.toList.map (fun f => (f.offset, f.type)) := hf2
        obtain ⟨xs, n, hn, _, hlen, hxs, hall⟩ := DataW.trod_struct hf1 h
        have hn : fuel = n := by omega
        subst hn
        rw [hOk.cells hc] at hlen
        have hsig : (sig t).length = esz t := by simp [sig, enc_length]
        obtain ⟨cvs, h2, h3, h4⟩ := fields_rd hOk IH cs fs.toList 0 (sig t) (by rw [← hf2]; exact h1) (fun f hf => by
          obtain ⟨i, hi⟩ := List.mem_iff_getElem?.1 hf
          have hi' : fs[i]? = some f := by simpa using hi
          have hlt : i < xs.length := by
            rw [hxs]
            rcases Nat.lt_or_ge i fs.size with h' | h'
            · exact h'
            · simp [Array.getElem?_eq_none h'] at hi'
          exact ⟨xs[i], by rw [hall i f hi']; simp [hlt]⟩) (by omega)
        obtain ⟨x, hx⟩ := full t h2
        subst hx
        exact ⟨x, by simpa using h3, h4⟩
      · cases h1
    cases t with
    | i k =>
      have hu : P.underlying T = some (.int k) := hu
      obtain ⟨n, rfl, _, hw⟩ := DataW.trod_int hu h
      exact ⟨n, ⟨rfl, trivial⟩, fun c hc => by have : c = .v (.int k n) := by simpa [enc] using hc
                                               subst this; exact .int hw⟩
    | bool =>
      have hu : P.underlying T = some .bool := hu
      obtain ⟨b, rfl, _⟩ := DataW.trod_bool hu h
      exact ⟨b, ⟨rfl, trivial⟩, fun c hc => by have : c = .v (.bool b) := by simpa [enc] using hc
                                               subst this; exact .bool⟩
    | str =>
      have hu : P.underlying T = some .string := hu
      obtain ⟨s, rfl, _, hs⟩ := DataW.trod_string hu h
      exact ⟨s, ⟨rfl, trivial⟩, fun c hc => by have : c = .v (.string s) := by simpa [enc] using hc
                                               subst this; exact .str hs⟩
    | sl e =>
      obtain ⟨el, hu, hel⟩ := (hu : ∃ el, P.underlying T = some (.slice el) ∧ (tb.env []).code el = some e)
      have hel : aget tb.code el = some e := hel
      rcases DataW.trod_slice hu h with ⟨rfl, _⟩ | ⟨a, len, cap, elems, rest, n, hn, rfl, _, _, hl, hm, hlen, hall, _, _⟩
      · exact ⟨[], ⟨RdSl.nil e none 0, trivial⟩, fun c hc => by
          have : c = .l e [] := by simpa [enc] using hc
          subst this; exact .lst (by simp) (fun x hx => by cases hx)⟩
      · have hn : fuel = n := by omega
        subst hn
        rw [hOk.cells hel] at hall
        have hone : ∀ i, i < len → ∃ (x : El e) (us : List Value), w.cells? 0 (a.add (i * esz e)) (esz e) = some us ∧ RowL w (AnyB w) (enc e x) us ∧ ∀ c ∈ enc e x, WideC c := by
          intro i hi
          have h1 := hall i hi
          have : elems[i]? = some (elems[i]'(by omega)) := by simp
          rw [this] at h1
          obtain ⟨us, hus, hy⟩ := Option.bind_eq_some_iff.1 h1
          obtain ⟨x, hx1, hx2⟩ := IH el e us _ hel hy
          exact ⟨x, us, hus, hx1, hx2⟩
        have hch : ∃ f : Nat → El e, ∀ i, i < len → ∃ us : List Value, w.cells? 0 (a.add (i * esz e)) (esz e) = some us ∧ RowL w (AnyB w) (enc e (f i)) us ∧ ∀ c ∈ enc e (f i), WideC c :=
          ⟨fun i => if h : i < len then Classical.choose (hone i h) else zero e, fun i hi => by
            simp only [dif_pos hi]; exact Classical.choose_spec (hone i hi)⟩
        obtain ⟨f, hf⟩ := hch
        let xs : List (El e) := (List.range len).map f
        have hxl : xs.length = len := by simp [xs]
        have hxi : ∀ (i : Nat) x, xs[i]? = some x → i < len ∧ x = f i := fun i x hx => by
          have hi : i < len := by have := lt_of_get' hx; omega
          refine ⟨hi, ?_⟩
          simp only [xs, List.getElem?_map, List.getElem?_range hi, Option.map_some, Option.some.injEq] at hx
          exact hx.symm
        refine ⟨xs, ⟨?_, trivial⟩, fun c hc => ?_⟩
        · show RdSl w (AnyB w) e xs (.slice (some a) len cap)
          by_cases h0 : len = 0
          · have : xs = [] := List.length_eq_zero_iff.1 (by omega)
            rw [this, h0]; exact RdSl.nil e _ _
          · have he : 0 < esz e := esz_pos e
            have hcell : ∀ i j, i < len → j < esz e → ∀ us : List Value, w.cells? 0 (a.add (i * esz e)) (esz e) = some us → w.cell? ((a.add (i * esz e)).add j) = us[j]? := fun i j _ hj us hus => (World.cells?_some hus).2.2 j hj
            obtain ⟨us0, hus0, hr0, _⟩ := hf 0 (by omega)
            have hfirst : ∃ c, w.cell? a = some c := by
              have h1 := hcell 0 0 (by omega) he us0 hus0
              have hl0 := (World.cells?_some hus0).2.1
              have : us0[0]? = some (us0[0]'(by omega)) := by simp
              rw [this] at h1
              exact ⟨_, by simpa [Addr.add] using h1⟩
            obtain ⟨c0, hc0⟩ := hfirst
            obtain ⟨b, o, sp⟩ := a
            have hb : ∃ cs el' fz, w.heap[b]? = some (.cells cs el' fz) ∧ sp = none := by
              unfold World.cell? at hc0
              simp only at hc0
              split at hc0
              · rename_i cs el' fz hheap
                split at hc0
                · cases hc0
                · rename_i hsp
                  exact ⟨cs, el', fz, hheap, by cases sp <;> simp_all⟩
              · cases hc0
            obtain ⟨cs, el', fz, hheap, rfl⟩ := hb
            have hblt : b < w.heap.size := (Array.getElem?_eq_some_iff.1 hheap).1
            have := RdSl.mk (w := w) (Pr := AnyB w) (t := e) (xs := xs) (b := b) (o := o) (cap := cap) (cs := cs) (el := el') (fz := fz) (by omega) hblt hheap (fun i x j c hx hcj => by
              obtain ⟨hi, rfl⟩ := hxi i x hx
              obtain ⟨us, hus, hrow, _⟩ := hf i hi
              obtain ⟨z, hz, hrd⟩ := hrow.get j c hcj
              have hj : j < esz e := by
                have := lt_of_get' hcj
                rw [enc_length] at this; exact this
              have h1 := hcell i j hi hj us hus
              rw [hz] at h1
              refine ⟨z, ?_, hrd⟩
              have ha : ((⟨b, o, none⟩ : Addr).add (i * esz e)).add j = ⟨b, o + i * esz e + j, none⟩ := by rw [addrAdd, addrAdd]
              rw [ha, cellIn hheap] at h1
              exact h1)
            rw [hxl] at this
            exact this
        · have : c = .l e xs := by simpa [enc] using hc
          subst this
          refine .lst (by omega) (fun x hx c hc => ?_)
          obtain ⟨i, hi⟩ := List.mem_iff_getElem?.1 hx
          obtain ⟨hlt, rfl⟩ := hxi i x hi
          obtain ⟨_, _, _, h3⟩ := hf i hlt
          exact h3 c hc
    | _ => exact str rfl

end Go.Gm

/- A law's row from its contract. -/
namespace Go.Gm
open Go Go.ChangeShapes Go.WideShapes Go.RowKit

variable {H : Type} {en : TypeId × Value → H} {P : Program} {w : World} {tb : Tab}

/-- Typed arguments, each no longer than anything can be. -/
inductive DsOk : List Ty → List Dt → Prop
  | nil : DsOk [] []
  | cons {t : Ty} {ts : List Ty} {x : El t} {ds : List Dt} (hx : ∀ c ∈ enc t x, WideC c) (h : DsOk ts ds) : DsOk (t :: ts) (.d t x :: ds)
def Codes (tb : Tab) : List Nat → List Ty → Prop
  | [], [] => True
  | T :: Ts, t :: ts => aget tb.code T = some t ∧ Codes tb Ts ts
  | _, _ => False

theorem form_of (hOk : tb.Ok P) {T : Nat} {t : Ty} (hc : aget tb.code T = some t) {base : Nat} {v : Value} (hv : Value.okWide P w .any base T v) {us : List Value} (hus : v.cells.toList = us) {x : El t} (hr : RowL w (AnyB w) (enc t x) us) : ValRd w (AnyB w) t x v := by
  have hrow : RowRd w (AnyB w) (enc t x) us.toArray := ⟨by simpa using hr.len, fun j c hj => by simpa using hr.get j c hj⟩
  have hu := hOk.und (T, t) (aget_mem hc)
  refine ⟨us.toArray, ?_, hrow⟩
  have ea : v.cells = us.toArray := by rw [← hus]
  have str : isSt t = true → (∃ fs, P.underlying T = some (.struct fs)) → Form t v us.toArray := by
    intro hs ⟨fs, hfs⟩
    simp only [Value.okWide, hfs] at hv
    obtain ⟨cs, rfl, _, _⟩ := hv
    simp only [Form, hs, if_true]
    rw [← ea]; rfl
  have one : isSt t = false → (∀ c ∈ enc t x, ∀ z, CRd w (AnyB w) c z → flatB z = true) → us.length = 1 → (∀ cs, v ≠ .agg cs) → Form t v us.toArray := by
    intro hs hfl hl hna
    have hv1 : v.cells = #[v] := by cases v <;> first | rfl | exact absurd rfl (hna _)
    rw [hv1] at ea
    simp only [Form, hs, Bool.false_eq_true, if_false]
    refine ⟨ea.symm, ?_⟩
    cases us with
    | nil => simp at hl
    | cons u us =>
      have hlen := hr.len
      obtain ⟨c, hcc⟩ : ∃ c, (enc t x)[0]? = some c := by
        cases he : enc t x with
        | nil => rw [he] at hlen; simp at hlen
        | cons c cs => exact ⟨c, rfl⟩
      obtain ⟨z, hz, hrd⟩ := hr.get 0 c hcc
      simp only [List.getElem?_cons_zero, Option.some.injEq] at hz
      subst hz
      have : v = u := by
        have := congrArg (fun a => a[0]?) ea
        simpa using this
      rw [this]
      exact hfl c (List.mem_of_getElem? hcc) u hrd
  have hlen := hr.len
  cases t with
  | i k =>
    have hu : P.underlying T = some (.int k) := hu
    refine one rfl (fun c hc z hz => ?_) (by simpa [enc] using hlen) (fun cs e => ?_)
    · have : c = .v (.int k x) := by simpa [enc] using hc
      subst this; cases hz; rfl
    · subst e; simp [Value.okWide, hu, Cell.okWide, Cell.ok] at hv
  | bool =>
    have hu : P.underlying T = some .bool := hu
    refine one rfl (fun c hc z hz => ?_) (by simpa [enc] using hlen) (fun cs e => ?_)
    · have : c = .v (.bool x) := by simpa [enc] using hc
      subst this; cases hz; rfl
    · subst e; simp [Value.okWide, hu, Cell.okWide, Cell.ok] at hv
  | str =>
    have hu : P.underlying T = some .string := hu
    refine one rfl (fun c hc z hz => ?_) (by simpa [enc] using hlen) (fun cs e => ?_)
    · have : c = .v (.string x) := by simpa [enc] using hc
      subst this; cases hz; rfl
    · subst e; simp [Value.okWide, hu, Cell.okWide, Cell.ok] at hv
  | sl e =>
    obtain ⟨el, hu, _⟩ := (hu : ∃ el, P.underlying T = some (.slice el) ∧ (tb.env []).code el = some e)
    refine one rfl (fun c hc z hz => ?_) (by simpa [enc] using hlen) (fun cs e' => ?_)
    · have : c = .l e x := by simpa [enc] using hc
      subst this
      obtain ⟨av, h0, h1⟩ := hz
      obtain ⟨a, cap, e1, _⟩ := h1 [] _ rfl
      rw [← h0, e1]; rfl
    · subst e'; simp [Value.okWide, hu, Cell.okWide, Cell.ok] at hv
  | _ => exact str rfl hu

theorem open_args {wl : World} (hOk : tb.Ok P) (hT : tileChk tb = true) {base : Nat} : ∀ {Ts : List Nat} {ts : List Ty} {vs : List Value} {dd : List (DataW H)} {ps : List MemPlace}, Codes tb Ts ts → (∀ (j : Nat) T v, Ts[j]? = some T → vs[j]? = some v → Value.okWide P w .any base T v) →
    DataW.TrodAll en P w 0 (fun _ => true) true Ts vs dd ps → ∃ ds : List Dt, ArgsOk wl w (AnyB w) (ts.map fun _ => .ro) ds vs (ts.map fun _ _ => False) ∧ DsOk ts ds
  | [], [], vs, dd, ps, _, _, h => by
    obtain ⟨rfl, _, _⟩ := trodAll_nil h
    exact ⟨[], .nil, .nil⟩
  | [], _ :: _, _, _, _, h, _, _ => h.elim
  | _ :: _, [], _, _, _, h, _, _ => h.elim
  | T :: Ts, t :: ts, vs, dd, ps, hc, hv, h => by
    obtain ⟨v, vs', d, ds', p, q, rfl, rfl, rfl, h1, h2⟩ := trodAll_cons h
    obtain ⟨fuel, hf⟩ := h1
    obtain ⟨x, hx1, hx2⟩ := open_row hOk hT fuel T t _ _ hc.1 hf
    obtain ⟨ds, h3, h4⟩ := open_args hOk hT hc.2 (fun j T' v' hj hj' => hv (j + 1) T' v' (by simpa using hj) (by simpa using hj')) h2
    exact ⟨.d t x :: ds, ArgsOk.cons (m := .ro) (F := fun _ => False) (show ArgOk wl w (AnyB w) .ro (.d t x) v _ from form_of hOk hc.1 (hv 0 T v rfl rfl) rfl hx1) h3, .cons hx2 h4⟩

theorem trodAll_later (hl : laidOutB P = true) {W W' : World} (hb : Below W.heap.size W W') : ∀ {Ts : List Nat} {vs : List Value} {dd : List (DataW H)} {ps : List MemPlace}, (∀ T ∈ Ts, P.readableRec T = true ∧ T < P.types.size) →
    DataW.TrodAll en P W 0 (fun _ => true) true Ts vs dd ps → (∀ x ∈ ps, x.block < W.heap.size) → DataW.TrodAll en P W' 0 (fun b => decide (b < W.heap.size)) true Ts vs dd ps
  | [], vs, dd, ps, _, h, _ => by
    obtain ⟨rfl, rfl, rfl⟩ := trodAll_nil h
    exact trodAll_mk0
  | T :: Ts, vs, dd, ps, hr, h, hlt => by
    obtain ⟨v, vs', d, ds', p, q, rfl, rfl, rfl, h1, h2⟩ := trodAll_cons h
    exact ⟨p, q, Below.trod hl (hr T (by simp)).1 (hr T (by simp)).2 h1 hb (fun x hx => hlt x (by simp [hx])), trodAll_later hl hb (fun T' hT' => hr T' (by simp [hT'])) h2 (fun x hx => hlt x (by simp [hx])), rfl⟩

theorem ArgsOk.kept {w : World} : ∀ {ts : List Ty} {ds : List Dt} {us : List Value} {Fs : List (Nat → Prop)}, ArgsOk w w (AnyB w) (ts.map fun _ => .ro) ds us Fs → ArgsOk w w (AnyB w) (ts.map fun _ => .kp) ds us Fs
  | [], _, _, _, h => by cases h; exact .nil
  | t :: ts, _, _, _, h => by
    cases h with
    | cons h hs =>
      rename_i d ds u us F Fs
      refine ArgsOk.cons (m := .kp) ?_ (ArgsOk.kept hs)
      cases d with
      | clo _ _ => exact h
      | d t x =>
        obtain ⟨us, hf, hr⟩ := h
        refine ⟨us, hf, hr.1, fun j c hj => ?_⟩
        obtain ⟨z, hz, hc⟩ := hr.2 j c hj
        refine ⟨z, hz, ?_⟩
        cases c with
        | v x => exact hc
        | l t xs => exact RdSl.mono (fun _ _ => trivial) hc

/-- What a law's row asks, from its contract: it returns true; its arguments read as they did. -/
theorem law_contract (hOk : tb.Ok P) (hT : tileChk tb = true) (hl : laidOutB P = true) {f : Nat} {fn : Func} {Ts : List Nat} {ts : List Ty} (hp : fn.params.toList = Ts) (hc : Codes tb Ts ts) {q : List Dt → Option (Bool × List Dt)} {m : Am} (hm : m = .ro ∨ m = .kp)
    (hs : SpecOk P f (Spec.of (ts.map fun _ => m) [false] true q)) (hq : ∀ ds, DsOk ts ds → q ds = some (true, [.d .bool true])) {Tb : Nat} (hres : fn.resultTypes = #[Tb]) (hTb : P.underlying Tb = some .bool)
    (hrd : Ts.all (fun T => P.readableRec T && decide (T < P.types.size)) = true) {s : ChangeSpec} (hvars : s.vars = []) (hfn : ∀ ds : List (DataW H), ds.length = Ts.length → s.fn H ds = { results := [.lit (.bool true)], args := ds })
    {apart : Bool} (W : World) (base : Nat) (args : Array Value) (dd gs : List (DataW H)) (before : List MemPlace)
    (hval : ∀ (j : Nat) t v, fn.params[j]? = some t → args[j]? = some v → Value.okWide P W .any base t v) (hW : DataW.Whole en P fn.params.toList s.vars apart W args.toList dd gs before) (hWl : W.ShapedOpen P) :
    Calls P f args W fun e W' => ∃ v, e = .returned v ∧ s.post en P fn apart true false false W args v W' := by
  have hW0 := hW
  obtain ⟨p, q', hA, hV, hbe, hfz, hnd⟩ := hW
  rw [hvars] at hV
  obtain ⟨hgs, hq'⟩ := trodVars_none hV
  subst hgs hq'
  rw [hp] at hA
  obtain ⟨ds, hargs, hds⟩ := open_args hOk hT (base := base) hc (fun j T v hj hj' => hval j T v (by
    have : fn.params.toList[j]? = some T := by rw [hp]; exact hj
    simpa using this) (by simpa using hj')) hA
  replace hargs : ArgsOk W W (AnyB W) (ts.map fun _ => m) ds args.toList (ts.map fun _ _ => False) := by
    rcases hm with rfl | rfl
    · exact hargs
    · exact hargs.kept
  have hap : PairApart (ts.map fun _ _ => False : List (Nat → Prop)) := by
    unfold PairApart
    rw [List.pairwise_map]
    exact List.pairwise_iff_getElem.2 fun _ _ _ _ _ k h => h.elim
  have hout := hs (R := List Dt) ds some [.d .bool true] (by
    show (match q ds with | some (g, outs) => cond g (some outs) none | none => none) = some [.d .bool true]
    rw [hq ds hds]; rfl) W W args.toList (fun _ => False) (AnyB W) _ hWl (fun b o hb => ⟨Array.getElem?_eq_some_iff.1 hb |>.1, hb⟩) hargs hap (fun F hF k hk => by
      obtain ⟨_, _, rfl⟩ := List.mem_map.1 hF; exact hk) (fun k _ h => h) (fun k hk => hk) (fun k hk => hk.elim)
  have hargs' : args.toList.toArray = args := by simp
  replace hout : Calls P f args.toList.toArray W _ := hout
  rw [hargs'] at hout
  refine hout.mono ?_
  rintro e W' ⟨outs, ho, hA'⟩
  have ho : outs = [.d .bool true] := Option.some.inj ho
  subst ho
  obtain ⟨rs, Gs, Bs, he, hRes, _⟩ := hA'.out
  have hv : e = .returned (.bool true) := by
    have hRes : RessOk W W' true [false] [.d .bool true] rs Gs := hRes
    cases hRes with
    | val h hs' =>
      rename_i u us F Fs
      cases hs'
      simp only [if_true] at h
      obtain ⟨us, hform, hrow⟩ := h
      obtain ⟨e1, _⟩ := hform.size rfl
      obtain ⟨Fs', _, _, _, hr⟩ := hrow
      obtain ⟨z, hz, hcz⟩ := hr 0 (.v (.bool true)) rfl
      subst e1
      have hcz : z = .bool true := hcz
      subst hcz
      have hz := (Option.some.inj hz)
      rw [he]
      show Ending.returned (packV [_]) = _
      rw [show packV [_] = _ from rfl]
      exact congrArg Ending.returned hz
  have hB : Below W.heap.size W W' := ⟨hA'.kept.os, hA'.kept.tape, hA'.kept.output, hA'.kept.same.1, fun k hk => hA'.kept.same.2 k hk (fun h => h)⟩
  refine ⟨_, hv, ?_⟩
  have hlen : dd.length = Ts.length := (trodAll_length hA).2
  have hfn' := hfn (dd ++ []) (by simpa using hlen)
  refine ⟨dd, [], before, [], p, [], hW0, ?_, ?_, ?_, hB.frame _, fun h => by cases h⟩
  · rw [hfn', hres]
    exact trodAll_mk1 ⟨1, by simp [DataW.trod, Value.cells, hTb]⟩
  · rw [hfn', hp]
    simp only [List.append_nil]
    exact trodAll_later hl hB (fun T hT' => by simpa using List.all_eq_true.1 hrd T hT') hA (fun x hx => hW0.lt x (by rw [hbe]; simp [hx]))
  · rw [hvars, hfn']
    exact rfl

end Go.Gm

/- Plain functions: picks. -/
namespace Go.Gm
open Go

def inR (x lo hi : Int) : Bool := decide (x ≥ lo) && decide (x ≤ hi)
def letter (c : Int) : Bool := (decide (c ≥ (97 : Int)) && decide (c ≤ (122 : Int))) || (decide (c ≥ (65 : Int)) && decide (c ≤ (90 : Int)))
def digit (c : Int) : Bool := decide (c ≥ (48 : Int)) && decide (c ≤ (57 : Int))
def idxB (s : ByteArray) (c : Int) : Int := Lib.indexByte s.data.toList c.toNat.toUInt8
def okPick (x : PickT) : Bool := okStr x.key && okL okStr x.vals
def byteAt (s : ByteArray) (j : Nat) : Int := (((ByteArray.data s).getD j 0).toNat : Int)
/-- One sign of a plain text. -/
def plainC (i c : Int) : Bool := letter c || (!(i == (0 : Int)) && (digit c || ((c == (95 : Int)) || ((c == (46 : Int)) || ((c == (47 : Int)) || (c == (45 : Int)))))))
noncomputable def plainOk (s : ByteArray) : Bool :=
  allN (fun j => plainC (j : Int) (byteAt s j)) 0 s.size && (inR (s.size : Int) 1 60 && (!(sEq s (bs [110,117,108,108])) && (!(sEq s (bs [116,114,117,101])) && !(sEq s (bs [102,97,108,115,101])))))
theorem idx4 {n : Nat} (h : n < 256) : decide (idxB (bs [95,46,47,45]) (n : Int) < 0) = !(((n : Int) == (95 : Int)) || (((n : Int) == (46 : Int)) || (((n : Int) == (47 : Int)) || ((n : Int) == (45 : Int))))) := by
  have h1 : (List.range 256).all (fun n => decide (idxB (bs [95,46,47,45]) (n : Int) < 0) == !(((n : Int) == (95 : Int)) || (((n : Int) == (46 : Int)) || (((n : Int) == (47 : Int)) || ((n : Int) == (45 : Int)))))) = true := by kernel_rfl
  exact beq_iff_eq.1 (List.all_eq_true.1 h1 n (List.mem_range.2 h))
theorem idxM {n j : Nat} (h : j < n) (h0 : 0 < j) (hb : n ≤ 9223372036854775807) : IntKind.wrap .i64 ((j : Int) - (1 : Int)) = ((j - 1 : Nat) : Int) := by
  rw [wrap_id (by omega) (by omega)]; omega
/-- One value of a row of them: it is plain and above the one ahead of it. -/
noncomputable def valC (xs : List ByteArray) (j : Nat) : Bool := plainOk (atI (t := .str) xs j) && (!(decide ((j : Int) > (0 : Int))) || sLt (atI (t := .str) xs (j - 1)) (atI (t := .str) xs j))
noncomputable def valsOk (xs : List ByteArray) : Bool := allN (valC xs) 0 xs.length
noncomputable def pickOk (p : PickT) : Bool :=
  valsOk p.vals && (plainOk p.key && (((p.op == (1 : Int) || p.op == (2 : Int)) && inR (p.vals.length : Int) 1 1) || (((p.op == (3 : Int) || p.op == (4 : Int)) && inR (p.vals.length : Int) 1 4) || ((p.op == (5 : Int) || p.op == (6 : Int)) && inR (p.vals.length : Int) 0 0))))
theorem okStr_at {xs : List ByteArray} (h : xs.all okStr = true) {j : Nat} (hj : j < xs.length) : okStr (atI (t := .str) xs j) = true := by
  obtain ⟨x, hx, _⟩ := drop_get hj
  rw [atI_of (t := .str) hx]; exact List.all_eq_true.1 h x (List.mem_of_getElem? hx)

end Go.Gm

/- Plain functions and laws of all structs: sizes, sameness. Printed by mkp3.py of this session. -/
namespace Go.Gm
open Go

def okI (n : Int) : Bool := decide (-9223372036854775808 ≤ n) && decide (n ≤ 9223372036854775807)
theorem okI_iff {n : Int} : okI n = true ↔ -9223372036854775808 ≤ n ∧ n ≤ 9223372036854775807 := by simp [okI]
def smStr (s : ByteArray) : Bool := Nat.ble s.size 1048576
def smL {α : Type} (f : α → Bool) (xs : List α) : Bool := Nat.ble xs.length 1048576 && xs.all f
theorem smStr_of {s : ByteArray} (h : s.size ≤ 1048576) : smStr s = true := Nat.ble_eq_true_of_le h
theorem sum_le {α : Type} (g : α → Nat) : ∀ {xs : List α} {x : α}, x ∈ xs → g x ≤ (xs.map g).sum
  | y :: ys, x, h => by
    simp only [List.map_cons, List.sum_cons]
    rcases List.mem_cons.1 h with rfl | h
    · exact Nat.le_add_right _ _
    · exact Nat.le_trans (sum_le g h) (Nat.le_add_left _ _)
theorem okStr_sm {s : ByteArray} (h : smStr s = true) : okStr s = true := Nat.ble_eq_true_of_le (Nat.le_trans (bleN h) (by decide))
theorem okL_sm {α : Type} {f g : α → Bool} {xs : List α} (h : smL f xs = true) (hf : ∀ x, f x = true → g x = true) : okL g xs = true := by
  simp only [smL, Bool.and_eq_true] at h
  unfold okL
  rw [Nat.ble_eq_true_of_le (Nat.le_trans (bleN h.1) (by decide : 1048576 ≤ WIDE)), Bool.true_and, List.all_eq_true]
  exact fun x hx => hf x (List.all_eq_true.1 h.2 x hx)
theorem smL_len {α : Type} {f : α → Bool} {xs : List α} (h : smL f xs = true) : xs.length ≤ 1048576 := by
  simp only [smL, Bool.and_eq_true] at h; exact bleN h.1
theorem smL_all {α : Type} {f : α → Bool} {xs : List α} (h : smL f xs = true) : xs.all f = true := by
  simp only [smL, Bool.and_eq_true] at h; exact h.2
def same {α : Type} (x : α) : α := x
def sm_metric (x : MetricT) : Bool := (smStr x.name && (okI x.kind && okI x.goal))
def sm_pace (x : PaceT) : Bool := (okI x.up && (okI x.down && (okI x.upSpan && okI x.downSpan)))
def sm_note (x : NoteT) : Bool := (smStr x.key && smStr x.text)
def ok_pick (x : PickT) : Bool := (okI x.op && (okStr x.key && okL okStr x.vals))
def sm_pick (x : PickT) : Bool := (okI x.op && (smStr x.key && smL smStr x.vals))
theorem ok_pick_sm {x : PickT} (h : sm_pick x = true) : ok_pick x = true := by
  simp only [sm_pick, Bool.and_eq_true] at h
  obtain ⟨h0, h1, h2⟩ := h
  unfold ok_pick
  rw [h0, okStr_sm h1, okL_sm (g := okStr) h2 (fun _ hx => okStr_sm hx)]; rfl
end Go.Gm

/- Plain functions: what is to be looked at. -/
namespace Go.Gm
open Go

def firstN (p : Nat → Bool) : Nat → Nat → Option Nat
  | _, 0 => none
  | j, d + 1 => cond (p j) (some j) (firstN p (j + 1) d)
theorem loop_find {R : Type} {F : Nat → Int → Option R} {n : Nat} {p : Nat → Bool} {hit : Int → Option R} {miss : Option R} (hs : ∀ m j, j < n → F (m + 1) (j : Int) = cond (p j) (hit (j : Int)) (F m ((j + 1 : Nat) : Int)))
    (he : ∀ m, F (m + 1) (n : Int) = miss) : ∀ d j m, j + d = n → d < m → F m (j : Int) = (firstN p j d).elim miss (fun i => hit (i : Int)) := by
  intro d
  induction d with
  | zero =>
    intro j m hj hm
    obtain ⟨m, rfl⟩ : ∃ m', m = m' + 1 := ⟨m - 1, by omega⟩
    have : j = n := by omega
    subst this
    rw [he]; rfl
  | succ d ih =>
    intro j m hj hm
    obtain ⟨m, rfl⟩ : ∃ m', m = m' + 1 := ⟨m - 1, by omega⟩
    rw [hs m j (by omega), ih (j + 1) m (by omega) (by omega)]
    simp only [firstN]
    cases p j <;> rfl
theorem firstN_some {p : Nat → Bool} : ∀ {d j i : Nat}, firstN p j d = some i → j ≤ i ∧ i < j + d ∧ p i = true ∧ ∀ k, j ≤ k → k < i → p k = false
  | 0, _, _, h => by cases h
  | d + 1, j, i, h => by
    simp only [firstN] at h
    cases hp : p j with
    | true => rw [hp] at h; cases h; exact ⟨Nat.le_refl _, by omega, hp, fun k h1 h2 => by omega⟩
    | false =>
      rw [hp] at h
      obtain ⟨h1, h2, h3, h4⟩ := firstN_some h
      refine ⟨by omega, by omega, h3, fun k hk hk' => ?_⟩
      by_cases e : k = j
      · subst e; exact hp
      · exact h4 k (by omega) hk'
/-- A place as a number; -1 without one. -/
def plc (o : Option Nat) : Int := o.elim (-1) fun i => (i : Int)

def failEq (f : FailT) (s : ByteArray) : Bool := sEq f.name s
def failO (xs : List FailT) (s : ByteArray) : Option Nat := firstN (fun j => failEq (atI (t := .fail) xs j) s) 0 xs.length
def failAt (xs : List FailT) (s : ByteArray) : Int := plc (failO xs s)
def minI (a b : Int) : Int := if a < b then a else b
end Go.Gm

/- Contracts of library functions that are not walked by the evaluator: one plain result, what was there stays. -/
namespace Go.Gm
open Go

variable {wl : World} {w w' : World} {Mf ROa : Nat → Prop}

theorem spec_grow {P : Program} {f : Nat} {modes : List Am} {q : List Dt → Option (Bool × List Dt)} (hm : modes.all Am.reads = true)
    (h : ∀ ds outs, q ds = some (true, outs) → ∃ t x v, outs = [.d t x] ∧ enc t x = [.v v] ∧ isSt t = false ∧ flatB v = true ∧
      ∀ {wl : World} w us ROa Fs, ArgsOk wl w ROa modes ds us Fs → (∀ k, ROa k → k < w.heap.size) → Calls P f us.toArray w fun e w' => e = .returned v ∧ RowKit.Below w.heap.size w w') : SpecOk P f (Spec.of modes [false] true q) := by
  intro R ds k r hr wl w us Mf ROa Fs hWl hBs hA hp hFM hRM hRlt hMlt
  obtain ⟨outs, hq, hk⟩ := Spec.of_some hr
  obtain ⟨t, x, v, rfl, he, hs, hf, hc⟩ := h ds outs hq
  refine Calls.mono (hc w us ROa Fs hA hRlt) ?_
  rintro e w' ⟨rfl, hB⟩
  obtain ⟨h1, h2, _⟩ := hA.len
  have hA' : After wl w' w' Mf ROa (Spec.of modes [false] true q) ds us [.d t x] (.returned v) := After.one rfl rfl hm h1 h2 he hs hf
  obtain ⟨⟨rs, Gs, Bs, e1, hR, hBk, a1, a2, a3, a4, a5, a6, a7⟩, _⟩ := hA'
  refine ⟨_, hk, ⟨⟨rs, Gs, Bs, e1, hR, hBk, a1, fun B hB' k hk => ?_, fun ho => ⟨(a3 ho).1, fun G hG k hk => ?_⟩, fun ho => absurd ho (by simp [Spec.of]), a5, a6, a7⟩, ?_⟩⟩
  · rcases a2 B hB' k hk with h | h
    · exact .inl h
    · exact .inr (Nat.le_trans hB.size h)
  · rcases (a3 ho).2 G hG k hk with h | h
    · exact .inl h
    · exact .inr (Nat.le_trans hB.size h)
  · exact ⟨hB.os, hB.tape, hB.output, hB.size, fun b hb _ => hB.block b hb⟩

theorem rdStrs {xs : List ByteArray} {u : Value} (h : ValRd w ROa (.sl .str) xs u) (hlt : ∀ k, ROa k → k < w.heap.size) :
    (xs = [] ∧ ∃ a c, u = .slice a 0 c) ∨ ∃ b o c, u = .slice (some ⟨b, o, none⟩) xs.length c ∧ xs.length ≤ c ∧ b < w.heap.size ∧ ∀ (j : Nat) x, xs[j]? = some x → w.cell? ⟨b, o + j, none⟩ = some (.string x) := by
  obtain ⟨us, hf, hr⟩ := h
  obtain ⟨e, _⟩ := hf.size rfl
  subst e
  obtain ⟨z, hz, hc⟩ := hr.2 0 (.l .str xs) rfl
  have hz : u = z := by simpa using hz
  subst hz
  obtain ⟨av, h0, h1⟩ := hc
  obtain ⟨a, cap, e1, hle, hrow⟩ := h1 [] ⟨.str, xs⟩ rfl
  rw [h0] at e1
  by_cases hn : xs = []
  · subst hn; exact .inl ⟨rfl, a, cap, e1⟩
  · obtain ⟨b, o, cs, el, fz, h2, h3, h4, h5⟩ := hrow hn
    refine .inr ⟨b, o, cap, by rw [← h2]; exact e1, hle, hlt b h3, fun j x hx => ?_⟩
    obtain ⟨v, hv, hcv⟩ := h5 j x 0 (.v (.string x)) hx rfl
    have e2 : esz .str = 1 := rfl
    rw [cellIn h4]
    have hcv : v = .string x := hcv
    simp only [e2, Nat.mul_one, Nat.add_zero] at hv
    rw [hv, hcv]

def joinS (xs : List ByteArray) (sep : ByteArray) : ByteArray := ⟨(Lib.join (xs.map (·.data.toList)) sep.data.toList).toArray⟩
end Go.Gm

/- Contracts of functions that call themselves, by a measure. -/
namespace Go.Gm
open Go

abbrev Q := List Dt → Option (Bool × List Dt)
end Go.Gm

/- Plain laws: numbers as texts, joined texts. -/
namespace Go.Gm
open Go

/-! ### loops that carry something on -/
theorem loop_acc {α A R : Type} {xs : List α} {F : Nat → Nat → A → Option R} {f : A → α → A} {good : A → Option R} (inv : Nat → A → Prop)
    (hi : ∀ (j : Nat) a x, xs[j]? = some x → inv j a → inv (j + 1) (f a x))
    (hs : ∀ m (j : Nat) a x, xs[j]? = some x → inv j a → F (m + 1) j a = F m (j + 1) (f a x)) (he : ∀ m a, inv xs.length a → F (m + 1) xs.length a = good a) :
    ∀ (d j m : Nat) (a : A), j + d = xs.length → d < m → inv j a → F m j a = good ((xs.drop j).foldl f a) := by
  intro d
  induction d with
  | zero =>
    intro j m a hj hm hia
    obtain ⟨m, rfl⟩ : ∃ m', m = m' + 1 := ⟨m - 1, by omega⟩
    have : j = xs.length := by omega
    subst this
    rw [he m a hia, List.drop_length]; rfl
  | succ d ih =>
    intro j m a hj hm hia
    obtain ⟨m, rfl⟩ : ∃ m', m = m' + 1 := ⟨m - 1, by omega⟩
    obtain ⟨x, hx, hd⟩ := drop_get (show j < xs.length by omega)
    rw [hs m j a x hx hia, hd, List.foldl_cons]
    exact ih (j + 1) m _ (by omega) (by omega) (hi j a x hx hia)

theorem ba_ext {x y : ByteArray} (h : x.data.toList = y.data.toList) : x = y := by
  cases x; cases y
  congr
  exact Array.toList_inj.1 h
/-! ### joined texts -/
def gJoinW (xs : List ByteArray) (sep : ByteArray) : Bool := Nat.ble (szL ByteArray.size xs) 17592186044416 && Nat.ble sep.size 4
theorem join_le (s : List UInt8) : ∀ (l : List ByteArray), (Lib.join (l.map (·.data.toList)) s).length ≤ (l.map ByteArray.size).sum + l.length * s.length
  | [] => by simp [Lib.join]
  | [x] => by
    rw [List.map_cons, List.map_nil, Lib.join_one]; simp
  | x :: y :: r => by
    have h1 := join_le s (y :: r)
    have e : Lib.join ((x :: y :: r).map (·.data.toList)) s = x.data.toList ++ s ++ Lib.join ((y :: r).map (·.data.toList)) s := by
      simp [Lib.join]
    rw [e]
    simp only [List.length_append, List.length_cons, List.map_cons, List.sum_cons] at h1 ⊢
    have h2 : x.data.toList.length = x.size := by simp
    have : (r.length + 1 + 1) * s.length = (r.length + 1) * s.length + s.length := by rw [Nat.add_mul]; simp
    rw [h2]
    omega
theorem gJoinW_len {xs : List ByteArray} {sep : ByteArray} (h : gJoinW xs sep = true) : (Lib.join (xs.map (·.data.toList)) sep.data.toList).length ≤ 140737488355328 := by
  simp only [gJoinW, Bool.and_eq_true] at h
  have h1 := bleN h.1
  have h2 := bleN h.2
  have h3 := join_le sep.data.toList xs
  have h4 : sep.data.toList.length = sep.size := by simp
  rw [h4] at h3
  unfold szL at h1
  have h5 : xs.length * sep.size ≤ 17592186044416 * 4 := Nat.mul_le_mul (by omega) h2
  omega
theorem app_le {a b : ByteArray} (h : a.size + b.size ≤ 9223372036854775807) : decide (ByteArray.size a + ByteArray.size b ≤ 9223372036854775807) = true := decide_eq_true h

theorem bs_size (l : List Nat) : (bs l).size = l.length := by
  show (List.toArray (l.map UInt8.ofNat)).size = l.length
  simp
theorem inR_iff {c l h : Int} : inR c l h = true ↔ l ≤ c ∧ c ≤ h := by unfold inR; simp
end Go.Gm

/- Plain functions: picks, their texts, what they fit. -/
namespace Go.Gm
open Go

def gLenW {α : Type} (x : List α) : Bool := Nat.ble x.length WIDE
theorem gLenW_le {α : Type} {x : List α} (h : gLenW x = true) : x.length ≤ 9223372036854775807 := bleN h
theorem gLenW_of {α : Type} {x : List α} (h : x.length ≤ 9223372036854775807) : gLenW x = true := Nat.ble_eq_true_of_le h
/-! ### the first one -/
theorem firstN_drop {t : Ty} {q : El t → Bool} {xs : List (El t)} : ∀ (d j : Nat), j + d = xs.length →
    (firstN (fun j => q (atI xs j)) j d).isSome = (xs.drop j).any q ∧ (∀ i, firstN (fun j => q (atI xs j)) j d = some i → (xs.drop j).find? q = some (atI xs i)) ∧ (firstN (fun j => q (atI xs j)) j d = none → (xs.drop j).find? q = none)
  | 0, j, h => by
    have : j = xs.length := by omega
    subst this
    rw [List.drop_length]
    refine ⟨rfl, ?_, fun _ => rfl⟩
    intro i h; cases h
  | d + 1, j, h => by
    obtain ⟨x, hx, hd⟩ := drop_get (show j < xs.length by omega)
    obtain ⟨h1, h2, h3⟩ := firstN_drop (q := q) (xs := xs) d (j + 1) (by omega)
    rw [hd]
    simp only [firstN, atI_of hx, List.any_cons, List.find?_cons]
    cases hq : q x with
    | true => exact ⟨rfl, fun i hi => by cases hi; rw [atI_of hx], fun h => by cases h⟩
    | false => exact ⟨by simpa using h1, h2, h3⟩
theorem firstN_any {t : Ty} (q : El t → Bool) (xs : List (El t)) : (firstN (fun j => q (atI xs j)) 0 xs.length).isSome = xs.any q := by
  have := (firstN_drop (q := q) (xs := xs) xs.length 0 (by omega)).1
  rwa [List.drop_zero] at this
theorem firstN_find {t : Ty} {q : El t → Bool} {xs : List (El t)} {i : Nat} (h : firstN (fun j => q (atI xs j)) 0 xs.length = some i) : xs.find? q = some (atI xs i) := by
  have := (firstN_drop (q := q) (xs := xs) xs.length 0 (by omega)).2.1 i h
  rwa [List.drop_zero] at this
theorem firstN_find_no {t : Ty} {q : El t → Bool} {xs : List (El t)} (h : firstN (fun j => q (atI xs j)) 0 xs.length = none) : xs.find? q = none := by
  have := (firstN_drop (q := q) (xs := xs) xs.length 0 (by omega)).2.2 h
  rwa [List.drop_zero] at this
theorem plc_ge (o : Option Nat) : decide (plc o ≥ 0) = o.isSome := by
  cases o with
  | none => rfl
  | some i => simp [plc]
/-- The place of the first that is so; -1 without one. -/
def findI {t : Ty} (q : El t → Bool) (xs : List (El t)) : Int := plc (firstN (fun j => q (atI xs j)) 0 xs.length)
theorem findI_ge {t : Ty} (q : El t → Bool) (xs : List (El t)) : decide (findI q xs ≥ 0) = xs.any q := by
  unfold findI; rw [plc_ge, firstN_any]
theorem findI_cases {t : Ty} (q : El t → Bool) (xs : List (El t)) : (findI q xs = -1 ∧ xs.find? q = none ∧ xs.any q = false) ∨ ∃ i : Nat, findI q xs = i ∧ i < xs.length ∧ xs.find? q = some (atI xs i) ∧ xs.any q = true ∧ q (atI xs i) = true := by
  unfold findI
  have ha := firstN_any q xs
  cases h : firstN (fun j => q (atI xs j)) 0 xs.length with
  | none => rw [h] at ha; exact .inl ⟨rfl, firstN_find_no h, ha.symm⟩
  | some i =>
    rw [h] at ha
    obtain ⟨_, h2, h3, _⟩ := firstN_some h
    exact .inr ⟨i, rfl, by omega, firstN_find h, ha.symm, h3⟩

/-- A loop from the last one down. -/
theorem loop_down {α A R : Type} {xs : List α} {F : Nat → Int → A → Option R} {f : A → α → A} {good : A → Option R}
    (hs : ∀ m (j : Nat) a x, xs[j]? = some x → F (m + 1) (j : Int) a = F m ((j : Int) - 1) (f a x)) (he : ∀ m a, F (m + 1) (-1) a = good a) :
    ∀ (d m : Nat) (a : A), d ≤ xs.length → d < m → F m ((d : Int) - 1) a = good ((xs.take d).foldr (fun x a => f a x) a) := by
  intro d
  induction d with
  | zero =>
    intro m a _ hm
    obtain ⟨m, rfl⟩ : ∃ m', m = m' + 1 := ⟨m - 1, by omega⟩
    exact he m a
  | succ d ih =>
    intro m a hd hm
    obtain ⟨m, rfl⟩ : ∃ m', m = m' + 1 := ⟨m - 1, by omega⟩
    obtain ⟨x, hx, _⟩ := drop_get (show d < xs.length by omega)
    rw [show ((d + 1 : Nat) : Int) - 1 = (d : Int) by omega, hs m d a x hx, ih m _ (by omega) (by omega)]
    have : xs.take (d + 1) = xs.take d ++ [x] := by rw [List.take_add_one, hx]; rfl
    rw [this, List.foldr_append]; rfl
theorem joinS_one (x s : ByteArray) : joinS [x] s = x := by apply ba_ext; simp [joinS, Lib.join]
theorem joinS_cons2 (x y s : ByteArray) (r : List ByteArray) : joinS (x :: y :: r) s = joinS ((x ++ s ++ y) :: r) s := by
  apply ba_ext
  cases r <;> simp [joinS, Lib.join]
theorem joinS_fold (s : ByteArray) : ∀ (r : List ByteArray) (x : ByteArray), joinS (x :: r) s = r.foldl (fun o y => o ++ s ++ y) x
  | [], x => joinS_one x s
  | y :: r, x => by rw [joinS_cons2, joinS_fold s r, List.foldl_cons]
theorem fold_pre (s a : ByteArray) : ∀ (r : List ByteArray) (x : ByteArray), r.foldl (fun o y => o ++ s ++ y) (a ++ x) = a ++ r.foldl (fun o y => o ++ s ++ y) x
  | [], x => rfl
  | y :: r, x => by
    rw [List.foldl_cons, List.foldl_cons, ← fold_pre s a r]
    rw [ByteArray.append_assoc, ByteArray.append_assoc, ByteArray.append_assoc]
theorem joinS_size (xs : List ByteArray) (s : ByteArray) : (joinS xs s).size ≤ (xs.map ByteArray.size).sum + xs.length * s.size := by
  have := join_le s.data.toList xs
  have h : (joinS xs s).size = (Lib.join (xs.map (·.data.toList)) s.data.toList).length := by
    show (List.toArray _).size = _
    simp
  rw [h]
  have h4 : s.data.toList.length = s.size := by simp
  rwa [h4] at this
theorem sumSz_le {xs : List ByteArray} {B : Nat} (h : ∀ x ∈ xs, x.size ≤ B) : (xs.map ByteArray.size).sum ≤ xs.length * B := by
  induction xs with
  | nil => simp
  | cons x r ih =>
    have h1 := h x (by simp)
    have h2 := ih fun y hy => h y (by simp [hy])
    simp only [List.map_cons, List.sum_cons, List.length_cons]
    rw [Nat.add_mul]; omega
theorem smStrs_size {xs : List ByteArray} (h : smL smStr xs = true) : (xs.map ByteArray.size).sum ≤ 1099511627776 := by
  have h1 := smL_len h
  have h2 : ∀ x ∈ xs, x.size ≤ 1048576 := fun x hx => bleN (List.all_eq_true.1 (smL_all h) x hx)
  have h3 := sumSz_le h2
  have : xs.length * 1048576 ≤ 1048576 * 1048576 := Nat.mul_le_mul_right _ h1
  omega
theorem gJoinW_sm {xs : List ByteArray} {s : ByteArray} (h : smL smStr xs = true) (hs : s.size ≤ 4) : gJoinW xs s = true := by
  unfold gJoinW szL
  have h1 := smL_len h
  have h2 := smStrs_size h
  rw [Nat.ble_eq_true_of_le (by omega), Nat.ble_eq_true_of_le hs]; rfl
theorem joinS_sm {xs : List ByteArray} {s : ByteArray} (h : smL smStr xs = true) (hs : s.size ≤ 4) : (joinS xs s).size ≤ 1099520000000 := by
  have h1 := smL_len h
  have h2 := smStrs_size h
  have h3 := joinS_size xs s
  have : xs.length * s.size ≤ 1048576 * 4 := Nat.mul_le_mul h1 hs
  omega

/-! ### texts of picks -/
def brack (xs : List ByteArray) : ByteArray := bs [40] ++ joinS xs (bs [44]) ++ bs [41]
theorem brack_fold (x : ByteArray) (r : List ByteArray) : r.foldl (fun o y => o ++ bs [44] ++ y) (bs [40] ++ x) ++ bs [41] = brack (x :: r) := by
  unfold brack
  rw [joinS_fold, fold_pre]
theorem okPick_sm {p : PickT} (h : sm_pick p = true) : okPick p = true := by
  have := ok_pick_sm h
  simp only [ok_pick, Bool.and_eq_true] at this
  unfold okPick
  rw [this.2.1, this.2.2]; rfl
noncomputable def pickText (p : PickT) : ByteArray :=
  cond (!(pickOk p)) ByteArray.empty
    (cond (p.op == (1 : Int)) (p.key ++ bs [61] ++ atI (t := .str) p.vals 0)
      (cond (p.op == (2 : Int)) (p.key ++ bs [33,61] ++ atI (t := .str) p.vals 0)
        (cond (p.op == (3 : Int)) (p.key ++ bs [32,105,110,32,40] ++ joinS p.vals (bs [44]) ++ bs [41])
          (cond (p.op == (4 : Int)) (p.key ++ bs [32,110,111,116,105,110,32,40] ++ joinS p.vals (bs [44]) ++ bs [41])
            (cond (p.op == (5 : Int)) p.key (bs [33] ++ p.key))))))
theorem in_brack (a : ByteArray) (xs : List ByteArray) : a ++ bs [32,105,110,32] ++ brack xs = a ++ bs [32,105,110,32,40] ++ joinS xs (bs [44]) ++ bs [41] := by
  unfold brack; apply ba_ext; simp [bs]
theorem out_brack (a : ByteArray) (xs : List ByteArray) : a ++ bs [32,110,111,116,105,110,32] ++ brack xs = a ++ bs [32,110,111,116,105,110,32,40] ++ joinS xs (bs [44]) ++ bs [41] := by
  unfold brack; apply ba_ext; simp [bs]
theorem pickOk_vals {p : PickT} (h : pickOk p = true) (ho : p.op = 1 ∨ p.op = 2 ∨ p.op = 3 ∨ p.op = 4) : 0 < p.vals.length := by
  unfold pickOk at h
  simp only [Bool.and_eq_true, Bool.or_eq_true, inR_iff, beq_iff_eq] at h
  omega

/-! ### what picks fit -/
def isIn (xs : List ByteArray) (s : ByteArray) : Bool := xs.any fun x => sEq x s
theorem sEq_comm (x y : ByteArray) : sEq x y = sEq y x := by rw [Bool.eq_iff_iff, sEq_iff, sEq_iff, eq_comm]
def idxS (xs : List ByteArray) (s : ByteArray) : Int := findI (t := .str) (fun x => sEq s x) xs
theorem idxS_isIn (xs : List ByteArray) (s : ByteArray) : decide (idxS xs s ≥ 0) = isIn xs s := by
  unfold idxS isIn
  rw [findI_ge]
  congr 1; funext x; exact sEq_comm s x
def noteIs (n : NoteT) (p : PickT) : Bool := sEq n.key p.key
def noteAt (ns : List NoteT) (p : PickT) : Int := findI (t := .note) (fun n => noteIs n p) ns
/-- What a pick asks is among the notes. -/
def among (p : PickT) (ns : List NoteT) : Bool := (ns.find? fun n => noteIs n p).elim false fun n => isIn p.vals n.text
noncomputable def fits (p : PickT) (ns : List NoteT) : Bool :=
  pickOk p && cond (p.op == (1 : Int) || p.op == (3 : Int)) (among p ns) (cond (p.op == (2 : Int) || p.op == (4 : Int)) (!(among p ns)) (cond (p.op == (5 : Int)) (ns.any fun n => noteIs n p) (!(ns.any fun n => noteIs n p))))
def gFits (p : PickT) (ns : List NoteT) : Bool := okPick p && gLenW ns
noncomputable def fitsNot (p : PickT) (i : ItemT) : Bool := !(fits p i.order.notes)
noncomputable def fitsNotAny (ps : List PickT) (i : ItemT) : Bool := ps.any fun p => fitsNot p i
noncomputable def chosenStep (ps : List PickT) (out : List ByteArray) (i : ItemT) : List ByteArray := cond (fitsNotAny ps i) out (out ++ [i.order.name])
noncomputable def chosen (s : StoreT) (ps : List PickT) : List ByteArray := s.items.foldl (chosenStep ps) []
theorem find_pair (p : PickT) : ∀ ns : List NoteT, ns.foldr (fun n (a : Bool × ByteArray) => cond (noteIs n p) (true, n.text) a) (false, ByteArray.empty) = ((ns.any fun n => noteIs n p), ((ns.find? fun n => noteIs n p).elim ByteArray.empty fun n => n.text))
  | [] => rfl
  | n :: r => by
    rw [List.foldr_cons, find_pair p r, List.any_cons, List.find?_cons]
    cases noteIs n p <;> rfl
theorem find_any {α : Type} (q : α → Bool) (xs : List α) : (xs.find? q).isSome = xs.any q := by
  induction xs with
  | nil => rfl
  | cons x r ih => rw [List.find?_cons, List.any_cons, ← ih]; cases q x <;> simp

end Go.Gm

/- Plain functions and laws: marks that are written into lists one after another, and whether they are held. Printed by mkp7.py of this session. -/
namespace Go.Gm
open Go

theorem okI_of {n : Int} (h0 : -9223372036854775808 ≤ n) (h : n ≤ 9223372036854775807) : okI n = true := okI_iff.2 ⟨h0, h⟩
end Go.Gm

/- Contracts of library functions that read the program's own variables: what they were at the start, they are. -/
namespace Go.Gm
open Go

variable {wl w w' : World} {Mf ROa : Nat → Prop}

theorem BaseOk.cell (h : BaseOk wl w ROa) {b o : Nat} {v : Value} (hc : wl.cell? ⟨b, o, none⟩ = some v) : w.cell? ⟨b, o, none⟩ = some v := by
  cases hb : wl.heap[b]? with
  | none => simp [World.cell?, hb] at hc
  | some x =>
    have := (h b x hb).2
    simpa [World.cell?, hb, this] using hc
end Go.Gm

/- strings.ReplaceAll, as the evaluator has it. -/
namespace Go.Gm
open Go
end Go.Gm

/- Plain laws: what is chosen. -/
namespace Go.Gm
open Go

end Go.Gm

/- Plain functions: names, what is to be looked at. -/
namespace Go.Gm
open Go

def nameC (i c : Int) : Bool := (decide (c ≥ (97 : Int)) && decide (c ≤ (122 : Int))) || (!(i == (0 : Int)) && (digit c || (c == (45 : Int))))
def nameOk (s : ByteArray) : Bool := allN (fun j => nameC (j : Int) (byteAt s j)) 0 s.size && inR (s.size : Int) 1 20
def nameAt (xs : List ByteArray) (j : Nat) : Bool := nameOk (atI (t := .str) xs j) && !(isIn (xs.take j) (atI (t := .str) xs j))
def namesOk (xs : List ByteArray) : Bool := allN (nameAt xs) 0 xs.length && decide ((xs.length : Int) ≤ 6)
def inBusy (s : ByteArray) (w : WorkT) : Bool := isIn w.busy s
def notBusy (s : ByteArray) (w : WorkT) : Bool := !(isIn w.busy s)
def inBusyAny (xs : List ByteArray) (w : WorkT) : Bool := xs.any fun s => inBusy s w
def notBusyAny (xs : List ByteArray) (w : WorkT) : Bool := xs.any fun s => notBusy s w
def failC (xs : List FailT) (j : Nat) : Bool := nameOk (atI (t := .fail) xs j).name && (!(failAt xs (atI (t := .fail) xs j).name != (j : Int)) && inR (atI (t := .fail) xs j).n 1 20)
def workQOk (w : WorkT) : Bool :=
  namesOk w.list && (namesOk w.busy && (namesOk w.again && (!(decide ((w.fails.length : Int) > 12)) && (!(inBusyAny w.list w) && (!(notBusyAny w.again w) && allN (failC w.fails) 0 w.fails.length)))))
end Go.Gm

/- Plain functions: amounts, orders and worlds as texts. -/
namespace Go.Gm
open Go

end Go.Gm

/- Contracts of two or three functions that call each other, by measures. -/
namespace Go.Gm
open Go

structure Rc where
  f : Nat
  ms : List Am
  rs : List Bool
  ow : Bool
  mu : List Dt → Nat
  q : Q
end Go.Gm

/- Plain functions and laws of trees: nodes and rules. Printed by mkp11.py of this session. -/
namespace Go.Gm
open Go

abbrev eR (x : RuleT) : RuleT := ⟨x.kind, x.keys, x.kids, x.need, x.low, x.high⟩
end Go.Gm

/- Plain functions: texts, keys, rules. -/
namespace Go.Gm
open Go

def textOk (s : ByteArray) : Bool := allN (fun j => inR (byteAt s j) 32 126) 0 s.size && decide ((s.size : Int) ≤ 400)
end Go.Gm

/- Contracts of functions of which one argument, the first, comes in cell by cell: its lists are lent, each by itself. -/
namespace Go.Gm
open Go

section ev
variable {wl : World} {R : Type}
def cellsOf : List Am → List Sc → Option (List (Am × Nat × Sv))
  | [], [] => some []
  | .mut :: ms, c :: cs => (cellsOf ms cs).bind fun l => some ((.mut, 0, .c (.one c)) :: l)
  | .skp :: ms, _ :: cs => cellsOf ms cs
  | _, _ => none
end ev

variable {R : Type} {P : Program} {E : Env} {w0 w w' : World} {Mf : Nat → Prop} {g : Gh} {st : St} {a : Act}

end Go.Gm

/- Contracts of library functions that are not walked by the evaluator: one result, the caller's own. -/
namespace Go.Gm
open Go

variable {wl : World} {P : Program} {w w' : World} {Mf ROa : Nat → Prop}

theorem backs_skip : ∀ {ms : List Am} {ds : List Dt} {us : List Value}, ms.all (fun m => !(isBack m)) = true → ms.length = us.length → ds.length = us.length → BacksOk wl w ms ds us [] []
  | [], [], [], _, _, _ => .nil
  | m :: ms, d :: ds, u :: us, h, h1, h2 => by
    simp only [List.all_cons, Bool.and_eq_true] at h
    refine .skip ?_ (backs_skip h.2 (by simpa using h1) (by simpa using h2))
    cases m <;> first | trivial | exact absurd h.1 (by simp [isBack])
  | [], _ :: _, [], _, _, h => by simp at h
  | [], _, _ :: _, _, h, _ => by simp at h
  | _ :: _, _, [], _, h, _ => by simp at h
  | _ :: _, [], _ :: _, _, _, h => by simp at h

theorem After.own1 {s : Spec} (hown : s.own = true) (hres : s.res = [false]) (hm : s.modes.all (fun m => !(isBack m)) = true) {ds : List Dt} {us : List Value} (h1 : s.modes.length = us.length) (h2 : ds.length = us.length) {t : Ty} {x : El t} {v : Value}
    {G : Nat → Prop} (hv : ValOwn w' G t x v) (hG : ∀ k, G k → (Mf k ∨ w.heap.size ≤ k) ∧ k < w'.heap.size) (hk : Kept w w' Mf) : After wl w w' Mf ROa s ds us [.d t x] (.returned v) := by
  refine ⟨⟨[v], [G], [], rfl, ?_, ?_, List.Pairwise.nil, fun B hB => by simp at hB, fun _ => ⟨List.pairwise_singleton _ _, fun G' hG' k hk => ?_⟩, fun e => absurd (hown.symm.trans e) (by simp), fun G hG B hB => by simp at hB, fun G' hG' k hk => ?_, fun B hB => by simp at hB⟩, hk⟩
  · rw [hown, hres]; exact .val (by simpa using hv) .nil
  · rw [hres]; exact backs_skip hm h1 h2
  · have : G' = G := by simpa using hG'
    subst this; exact (hG k hk).1
  · have : G' = G := by simpa using hG'
    subst this; exact (hG k hk).2

/-- A contract of one result of the caller's own, from what the function does with these values. -/
theorem spec_own1 {f : Nat} {modes : List Am} {q : List Dt → Option (Bool × List Dt)} (hm : modes.all (fun m => !(isBack m)) = true)
    (h : ∀ ds outs, q ds = some (true, outs) → ∃ t x, outs = [.d t x] ∧ ∀ {wl : World} (w : World) (us : List Value) (Mf ROa : Nat → Prop) (Fs : List (Nat → Prop)), ArgsOk wl w ROa modes ds us Fs → PairApart Fs → (∀ F ∈ Fs, ∀ k, F k → Mf k) →
      (∀ k, ROa k → ¬ Mf k) → (∀ k, ROa k → k < w.heap.size) → (∀ k, Mf k → k < w.heap.size) →
      Calls P f us.toArray w fun e w' => ∃ v G, e = .returned v ∧ Kept w w' Mf ∧ ValOwn w' G t x v ∧ ∀ k, G k → (Mf k ∨ w.heap.size ≤ k) ∧ k < w'.heap.size) : SpecOk P f (Spec.of modes [false] true q) := by
  intro R ds k r hr wl w us Mf ROa Fs hWl hBs hA hp hFM hRM hRlt hMlt
  obtain ⟨outs, hq, hk⟩ := Spec.of_some hr
  obtain ⟨t, x, rfl, hc⟩ := h ds outs hq
  refine Calls.mono (hc w us Mf ROa Fs hA hp hFM hRM hRlt hMlt) ?_
  rintro e w' ⟨v, G, rfl, h1, h2, h3⟩
  obtain ⟨hl1, hl2, _⟩ := hA.len
  exact ⟨_, hk, After.own1 rfl rfl hm hl1 hl2 h2 h3 h1⟩

theorem valOwn_sl {G : Nat → Prop} {t : Ty} {xs : List (El t)} {v : Value} (h : OwnSl w G t xs v) : ValOwn w G (.sl t) xs v := by
  refine ⟨#[v], by simp [Form, isSt, h.flat], fun j => if j = 0 then G else fun _ => False, fun j k hk => ?_, fun j j' k hk hk' => ?_, by simp [enc], fun j c hc => ?_⟩
  · dsimp only at hk
    split at hk
    · exact hk
    · exact hk.elim
  · dsimp only at hk hk'
    by_cases e1 : j = 0
    · by_cases e2 : j' = 0
      · omega
      · simp [e2] at hk'
    · simp [e1] at hk
  · cases j with
    | zero =>
      simp only [enc, List.getElem?_cons_zero, Option.some.injEq] at hc
      subst hc
      exact ⟨v, rfl, by simpa [COwn] using h⟩
    | succ j => simp [enc] at hc
end Go.Gm

/- Plain functions: what is to be looked at, taken and added. -/
namespace Go.Gm
open Go

theorem smL_snoc {α : Type} {f : α → Bool} {x : α} {r : List α} (h : smL f r = true) (hx : f x = true) (hl : r.length < 1048576) : smL f (r ++ [x]) = true := by
  simp only [smL, Bool.and_eq_true, List.all_append, List.all_cons, List.all_nil, List.length_append, List.length_cons, List.length_nil] at h ⊢
  exact ⟨Nat.ble_eq_true_of_le (by omega), h.2, hx, trivial⟩
def takeN (w : WorkT) (x : ByteArray) (r : List ByteArray) : WorkT := ⟨r, w.busy ++ [x], w.again, w.fails⟩
def workTake (w : WorkT) : WorkT × ByteArray × Bool :=
  cond (workQOk w) (match w.list with
    | [] => (w, ByteArray.empty, false)
    | x :: r => cond (workQOk (takeN w x r)) (takeN w x r, x, true) (w, ByteArray.empty, false)) (w, ByteArray.empty, false)
def addAgain (w : WorkT) (s : ByteArray) : WorkT := ⟨w.list, w.busy, w.again ++ [s], w.fails⟩
def addList (w : WorkT) (s : ByteArray) : WorkT := ⟨w.list ++ [s], w.busy, w.again, w.fails⟩
def workAdd (w : WorkT) (s : ByteArray) : WorkT × Bool :=
  cond (workQOk w) (cond (isIn w.list s || isIn w.again s) (w, true)
    (cond (isIn w.busy s) (cond (workQOk (addAgain w s)) (addAgain w s, true) (w, false)) (cond (workQOk (addList w s)) (addList w s, true) (w, false)))) (w, false)
end Go.Gm

/- Plain laws: marks of structs, list by list; how many there are. Printed by mkp14.py of this session. -/
namespace Go.Gm
open Go

end Go.Gm

/- Plain functions: orders. -/
namespace Go.Gm
open Go

def hasPre (a b : ByteArray) : Bool := decide ((a.size : Int) ≥ (b.size : Int)) && sEq (a.extract 0 b.size) b
def ours (a : ByteArray) : Bool := hasPre a (bs [113,117,97,121,47])
def paceOk (p : PaceT) : Bool := inR p.up 0 1000 && (inR p.down 0 1000 && (inR p.upSpan 0 3600 && inR p.downSpan 0 3600))
def metricOk (m : MetricT) : Bool := nameOk m.name && (inR m.kind 1 3 && inR m.goal 1 1000000)
noncomputable def noteC (xs : List NoteT) (j : Nat) : Bool :=
  plainOk (atI (t := .note) xs j).key && (!(hasPre (atI (t := .note) xs j).key (bs [113,117,97,121,47])) && (textOk (atI (t := .note) xs j).text && (!(decide (((atI (t := .note) xs j).text.size : Int) > 40)) &&
    (!(decide ((j : Int) > 0)) || sLt (atI (t := .note) xs (j - 1)).key (atI (t := .note) xs j).key))))
noncomputable def notesOk (xs : List NoteT) : Bool := allN (noteC xs) 0 xs.length && decide ((xs.length : Int) ≤ 4)
def metC (xs : List MetricT) (j : Nat) : Bool := metricOk (atI (t := .metric) xs j) && (!(decide ((j : Int) > 0)) || sLt (atI (t := .metric) xs (j - 1)).name (atI (t := .metric) xs j).name)
def metsOk (xs : List MetricT) : Bool := allN (metC xs) 0 xs.length && decide ((xs.length : Int) ≤ 4)
noncomputable def orderOk (o : OrderT) : Bool :=
  nameOk o.name && (nameOk o.target && (inR o.low 1 o.high && (decide (o.high ≤ 1000) && (metsOk o.metrics && (paceOk o.pace && notesOk o.notes)))))
end Go.Gm

/- Plain functions: what has happened. -/
namespace Go.Gm
open Go

noncomputable def eventC (h : HistT) (j : Nat) : Bool :=
  ((atI (t := .event) h.list j).seq == h.base + 1 + (j : Int)) && (inR (atI (t := .event) h.list j).kind 1 2 && (orderOk (atI (t := .event) h.list j).item.order && inR (atI (t := .event) h.list j).item.ver 1 100000))
noncomputable def histOk (h : HistT) : Bool := inR h.base 0 100000 && (!(decide ((h.list.length : Int) > 60)) && allN (eventC h) 0 h.list.length)
noncomputable def since (h : HistT) (n : Int) : List EventT × Bool := cond (histOk h && inR n h.base (h.base + (h.list.length : Int))) (h.list.drop (n - h.base).toNat, true) ([], false)
end Go.Gm

/- slices.Delete: from what it does with cells to a contract. -/
namespace Go.Gm
open Go

variable {wl : World} {P : Program} {E : Env} {w w' : World}

/-- Of an own list some elements, each once, in whatever order. -/
theorem TreeOwn.pick {F : Nat → Prop} {t : Ty} {xs ys : List (El t)} {av : Path → Value} (h : TreeOwn w F t xs av) (σ : Nat → Nat) (hσ : ∀ i y, ys[i]? = some y → xs[σ i]? = some y) (hinj : ∀ i i', σ i = σ i' → i = i')
    (hsame : SameBut (fun k => blk (av []) = some k) w w') {v : Value} (hblk : ∀ k, blk v = some k → blk (av []) = some k) (hn : NodeOwn w' F t ys v fun i j => av [(σ i, j)]) : OwnSl w' F t ys v := by
  have hsub : ∀ i j p s, subR t ys ((i, j) :: p) = some s → subR t xs ((σ i, j) :: p) = some s := by
    intro i j p s hs
    simp only [subR] at hs ⊢
    split at hs
    · rename_i y hy
      rw [hσ i y hy]; exact hs
    · cases hs
  refine ⟨fun p => match p with | [] => v | (i, j) :: p => av ((σ i, j) :: p), rfl, fun p s hs => ?_, fun p q s s' k hp hq hk hk' => ?_⟩
  · cases p with
    | nil => simp only [subR, Option.some.injEq] at hs; subst hs; exact hn
    | cons x p =>
      obtain ⟨i, j⟩ := x
      have hs' := hsub i j p s hs
      exact (h.1 _ s hs').here hsame fun k hk e => by have := h.2 _ [] s ⟨t, xs⟩ k hs' rfl hk e; cases this
  · cases p with
    | nil => cases q with
      | nil => rfl
      | cons y q =>
        obtain ⟨i, j⟩ := y
        have := h.2 [] _ ⟨t, xs⟩ s' k rfl (hsub i j q s' hq) (hblk k hk) hk'
        cases this
    | cons x p =>
      obtain ⟨i, j⟩ := x
      cases q with
      | nil =>
        have := h.2 _ [] s ⟨t, xs⟩ k (hsub i j p s hp) rfl hk (hblk k hk')
        cases this
      | cons y q =>
        obtain ⟨i', j'⟩ := y
        have := h.2 _ _ s s' k (hsub i j p s hp) (hsub i' j' q s' hq) hk hk'
        simp only [List.cons.injEq, Prod.mk.injEq] at this
        obtain ⟨⟨h1, rfl⟩, rfl⟩ := this
        rw [hinj _ _ h1]

end Go.Gm

/- Lists with some elements taken out. -/
namespace Go.Gm
open Go
def delL {α : Type} (xs : List α) (i j : Int) : List α := xs.take i.toNat ++ xs.drop j.toNat
end Go.Gm

/- Plain functions: names taken out of lists; what was looked at. -/
namespace Go.Gm
open Go

/-! ### names -/
def strIs (s t : ByteArray) : Bool := sEq s t
def butName (xs : List ByteArray) (s : ByteArray) : List ByteArray := xs.filter fun x => !(strIs x s)
theorem butName_no {xs : List ByteArray} {s : ByteArray} (h : isIn xs s = false) : butName xs s = xs := by
  unfold butName
  rw [List.filter_eq_self]
  intro x hx
  unfold isIn at h
  rw [List.any_eq_false] at h
  have := h x hx
  simp only [strIs]
  cases hq : sEq x s
  · rfl
  · exact (this hq).elim
def failedI (xs : List FailT) (s : ByteArray) (ok : Bool) : List FailT :=
  match failO xs s with
  | none => cond ok xs (xs ++ [⟨s, (1 : Int)⟩])
  | some i => cond ok (delL xs (i : Int) ((i + 1 : Nat) : Int)) (xs.set i ⟨(atI (t := .fail) xs i).name, minI ((atI (t := .fail) xs i).n + 1) 20⟩)
/-! ### what was looked at -/
def doneW (w : WorkT) (s : ByteArray) (ok : Bool) : WorkT := ⟨cond (isIn w.again s || !ok) (w.list ++ [s]) w.list, butName w.busy s, butName w.again s, failedI w.fails s ok⟩
def workDone (w : WorkT) (s : ByteArray) (ok : Bool) : WorkT × Bool :=
  cond (workQOk w) (cond (isIn w.busy s) (cond (workQOk (doneW w s ok)) (doneW w s ok, true) (w, false)) (w, false)) (w, false)
end Go.Gm

/- Plain laws: what failed waits longer. -/
namespace Go.Gm
open Go

def bigC (xs : List Int) : Bool := decide ((xs.length : Int) > (1048576 : Int))
end Go.Gm

/- Plain laws: a name is looked at by one at a time. -/
namespace Go.Gm
open Go

theorem isIn_iff {xs : List ByteArray} {s : ByteArray} : isIn xs s = true ↔ s ∈ xs := by
  unfold isIn
  rw [List.any_eq_true]
  constructor
  · rintro ⟨x, hx, he⟩
    rw [sEq_iff] at he; subst he; exact hx
  · intro h; exact ⟨s, h, sEq_self s⟩
theorem isIn_not {xs : List ByteArray} {s : ByteArray} : isIn xs s = false ↔ s ∉ xs := by
  rw [← isIn_iff]; cases isIn xs s <;> simp
theorem mem_butName {xs : List ByteArray} {s t : ByteArray} : t ∈ butName xs s ↔ t ∈ xs ∧ t ≠ s := by
  unfold butName strIs
  rw [List.mem_filter]
  constructor
  · rintro ⟨h1, h2⟩
    refine ⟨h1, fun e => ?_⟩
    rw [e, sEq_self] at h2; cases h2
  · rintro ⟨h1, h2⟩
    refine ⟨h1, ?_⟩
    cases hq : sEq t s
    · rfl
    · exact (h2 (sEq_iff.1 hq)).elim
theorem butName_nodup {xs : List ByteArray} {s : ByteArray} (h : xs.Nodup) : (butName xs s).Nodup := List.Pairwise.sublist List.filter_sublist h
theorem butName_len (xs : List ByteArray) (s : ByteArray) : xs.Nodup → xs.length ≤ (butName xs s).length + 1 := by
  induction xs with
  | nil => intro _; simp
  | cons x r ih =>
    intro h
    have h := List.pairwise_cons.1 h
    unfold butName
    rw [List.filter_cons]
    cases hq : strIs x s
    · simp only [Bool.not_false, if_true, List.length_cons]
      have := ih h.2
      unfold butName at this; omega
    · have e : x = s := sEq_iff.1 hq
      have : r.filter (fun y => !(strIs y s)) = r := by
        rw [List.filter_eq_self]
        intro y hy
        cases hq' : strIs y s
        · rfl
        · exact (h.1 y hy (e.trans (sEq_iff.1 hq').symm)).elim
      simp only [Bool.not_true, Bool.false_eq_true, if_false, this, List.length_cons]
      omega
theorem nodup_le : ∀ (ys xs : List ByteArray), xs.Nodup → (∀ s ∈ xs, s ∈ ys) → xs.length ≤ ys.length
  | [], xs, _, h => by
    cases xs with
    | nil => exact Nat.le_refl _
    | cons x r => have := h x (by simp); cases this
  | y :: ys, xs, hn, h => by
    have h1 := butName_len xs y hn
    have h2 := nodup_le ys (butName xs y) (butName_nodup hn) fun s hs => by
      obtain ⟨h3, h4⟩ := mem_butName.1 hs
      rcases List.mem_cons.1 (h s h3) with e | h5
      · exact (h4 e).elim
      · exact h5
    rw [List.length_cons]; omega
theorem nodup_snoc {xs : List ByteArray} {s : ByteArray} (h : xs.Nodup) (hs : s ∉ xs) : (xs ++ [s]).Nodup := by
  unfold List.Nodup
  rw [List.pairwise_append]
  refine ⟨h, List.pairwise_singleton _ _, fun a ha b hb => ?_⟩
  rw [List.mem_singleton] at hb
  subst hb
  exact fun e => hs (e ▸ ha)

def four : List ByteArray := [bs [97], bs [98], bs [99], bs [100]]
theorem four_ok : ∀ s ∈ four, nameOk s = true ∧ smStr s = true := by
  intro s hs
  simp only [four, List.mem_cons, List.not_mem_nil, or_false] at hs
  rcases hs with rfl | rfl | rfl | rfl <;> exact ⟨by decide, by decide⟩
theorem four_len : four.length = 4 := rfl
theorem namesOk_of {xs : List ByteArray} (hn : xs.Nodup) (h : ∀ s ∈ xs, s ∈ four) : namesOk xs = true := by
  have hl := nodup_le four xs hn h
  rw [four_len] at hl
  unfold namesOk
  rw [Bool.and_eq_true, allN_iff]
  refine ⟨fun j _ hj => ?_, decide_eq_true (by omega)⟩
  have hj : j < xs.length := by omega
  have hx := atI_lt (t := .str) hj
  have hm := List.mem_of_getElem? hx
  unfold nameAt
  rw [(four_ok _ (h _ hm)).1, Bool.true_and, isIn_not.2]
  · rfl
  · intro hin
    obtain ⟨i, hi⟩ := List.getElem?_of_mem hin
    rw [List.getElem?_take] at hi
    split at hi
    · rename_i hij
      have := List.pairwise_iff_getElem.1 hn i j (by omega) hj hij
      rw [List.getElem?_eq_getElem (by omega)] at hi hx
      exact this ((Option.some.inj hi).trans (Option.some.inj hx).symm)
    · cases hi

/-- What holds of the work all the while. -/
structure WInv (w : WorkT) : Prop where
  sub : ∀ s, s ∈ w.list ∨ s ∈ w.busy ∨ s ∈ w.again → s ∈ four
  nl : w.list.Nodup
  nb : w.busy.Nodup
  na : w.again.Nodup
  apart : ∀ s ∈ w.list, s ∉ w.busy
  sel : ∀ s ∈ w.again, s ∈ w.busy
  fails : w.fails = []
theorem WInv.ok {w : WorkT} (h : WInv w) : workQOk w = true := by
  have h1 := namesOk_of h.nl fun s hs => h.sub s (.inl hs)
  have h2 := namesOk_of h.nb fun s hs => h.sub s (.inr (.inl hs))
  have h3 := namesOk_of h.na fun s hs => h.sub s (.inr (.inr hs))
  have h4 : inBusyAny w.list w = false := by
    unfold inBusyAny inBusy
    rw [List.any_eq_false]
    intro x hx
    rw [isIn_not.2 (h.apart x hx)]; decide
  have h5 : notBusyAny w.again w = false := by
    unfold notBusyAny notBusy
    rw [List.any_eq_false]
    intro x hx
    rw [isIn_iff.2 (h.sel x hx)]; decide
  unfold workQOk
  rw [h1, h2, h3, h4, h5, h.fails]
  rfl
/-- What is asked for. -/
def Asks (w : WorkT) (s : ByteArray) : Prop := s ∈ w.list ∨ s ∈ w.again

theorem WInv.add {w : WorkT} (h : WInv w) {s : ByteArray} (hs : s ∈ four) : (workAdd w s).2 = true ∧ WInv (workAdd w s).1 ∧ (workAdd w s).1.busy = w.busy ∧ ∀ t, Asks (workAdd w s).1 t ↔ Asks w t ∨ t = s := by
  unfold workAdd
  rw [h.ok]
  simp only [cond_true]
  cases h1 : isIn w.list s || isIn w.again s
  · rw [Bool.or_eq_false_iff, isIn_not, isIn_not] at h1
    obtain ⟨hl, ha⟩ := h1
    simp only [cond_false]
    cases hb : isIn w.busy s
    · have hb' := isIn_not.1 hb
      have I : WInv (addList w s) := by
        refine ⟨fun t ht => ?_, nodup_snoc h.nl hl, h.nb, h.na, fun t ht => ?_, h.sel, h.fails⟩
        · rcases ht with ht | ht
          · rcases List.mem_append.1 ht with ht | ht
            · exact h.sub t (.inl ht)
            · rw [List.mem_singleton] at ht; subst ht; exact hs
          · exact h.sub t (.inr ht)
        · rcases List.mem_append.1 ht with ht | ht
          · exact h.apart t ht
          · rw [List.mem_singleton] at ht; subst ht; exact hb'
      rw [I.ok]
      refine ⟨rfl, I, rfl, fun t => ?_⟩
      show t ∈ w.list ++ [s] ∨ t ∈ w.again ↔ (t ∈ w.list ∨ t ∈ w.again) ∨ t = s
      rw [List.mem_append, List.mem_singleton, or_right_comm]
    · have hb' := isIn_iff.1 hb
      have I : WInv (addAgain w s) := by
        refine ⟨fun t ht => ?_, h.nl, h.nb, nodup_snoc h.na ha, h.apart, fun t ht => ?_, h.fails⟩
        · rcases ht with ht | ht | ht
          · exact h.sub t (.inl ht)
          · exact h.sub t (.inr (.inl ht))
          · rcases List.mem_append.1 ht with ht | ht
            · exact h.sub t (.inr (.inr ht))
            · rw [List.mem_singleton] at ht; subst ht; exact hs
        · rcases List.mem_append.1 ht with ht | ht
          · exact h.sel t ht
          · rw [List.mem_singleton] at ht; subst ht; exact hb'
      rw [I.ok]
      refine ⟨rfl, I, rfl, fun t => ?_⟩
      show t ∈ w.list ∨ t ∈ w.again ++ [s] ↔ (t ∈ w.list ∨ t ∈ w.again) ∨ t = s
      rw [List.mem_append, List.mem_singleton, or_assoc]
  · refine ⟨rfl, h, rfl, fun t => ⟨fun ht => .inl ht, fun ht => ?_⟩⟩
    rcases ht with ht | rfl
    · exact ht
    · rw [Bool.or_eq_true, isIn_iff, isIn_iff] at h1; exact h1
theorem WInv.take1 {w : WorkT} (h : WInv w) {x : ByteArray} {r : List ByteArray} (hl : w.list = x :: r) : workTake w = (takeN w x r, x, true) ∧ WInv (takeN w x r) ∧ x ∉ w.busy ∧ x ∈ four ∧ Asks w x ∧ ∀ t, Asks (takeN w x r) t ↔ Asks w t ∧ t ≠ x := by
  have hx : x ∈ w.list := by rw [hl]; simp
  have hxb := h.apart x hx
  have hn := h.nl
  rw [hl] at hn
  have hn := List.pairwise_cons.1 hn
  have hr : ∀ t ∈ r, t ∈ w.list := fun t ht => by rw [hl]; simp [ht]
  have I : WInv (takeN w x r) := by
    refine ⟨fun t ht => ?_, hn.2, nodup_snoc h.nb hxb, h.na, fun t ht => ?_, fun t ht => List.mem_append.2 (.inl (h.sel t ht)), h.fails⟩
    · rcases ht with ht | ht | ht
      · exact h.sub t (.inl (hr t ht))
      · rcases List.mem_append.1 ht with ht | ht
        · exact h.sub t (.inr (.inl ht))
        · rw [List.mem_singleton] at ht; subst ht; exact h.sub _ (.inl hx)
      · exact h.sub t (.inr (.inr ht))
    · intro hb
      rcases List.mem_append.1 hb with hb | hb
      · exact h.apart t (hr t ht) hb
      · rw [List.mem_singleton] at hb; exact hn.1 t ht hb.symm
  refine ⟨?_, I, hxb, h.sub x (.inl hx), .inl hx, fun t => ⟨fun ht => ?_, fun ht => ?_⟩⟩
  · unfold workTake
    rw [h.ok, hl]
    simp only [cond_true, I.ok]
  · rcases ht with ht | ht
    · exact ⟨.inl (hr t ht), fun e => hn.1 t ht e.symm⟩
    · exact ⟨.inr ht, fun e => hxb (e ▸ h.sel t ht)⟩
  · obtain ⟨ht | ht, hne⟩ := ht
    · rw [hl] at ht
      rcases List.mem_cons.1 ht with e | ht
      · exact (hne e).elim
      · exact .inl ht
    · exact .inr ht
theorem WInv.done {w : WorkT} (h : WInv w) (s : ByteArray) : (workDone w s true).2 = isIn w.busy s ∧ WInv (workDone w s true).1 ∧ (workDone w s true).1.busy = butName w.busy s ∧ ∀ t, Asks (workDone w s true).1 t ↔ Asks w t := by
  unfold workDone
  rw [h.ok]
  simp only [cond_true]
  cases hb : isIn w.busy s
  · exact ⟨rfl, h, (butName_no hb).symm, fun t => Iff.rfl⟩
  · have hb' := isIn_iff.1 hb
    have hf : failedI w.fails s true = [] := by rw [h.fails]; rfl
    have hsl : s ∉ w.list := fun hs => h.apart s hs hb'
    have hlist : (doneW w s true).list = cond (isIn w.again s) (w.list ++ [s]) w.list := by simp [doneW]
    have hmem : ∀ t, t ∈ (doneW w s true).list ↔ t ∈ w.list ∨ (t = s ∧ s ∈ w.again) := by
      intro t
      rw [hlist]
      cases ha : isIn w.again s
      · have := isIn_not.1 ha
        simp only [cond_false]
        exact ⟨.inl, fun ht => ht.elim id fun ⟨_, h2⟩ => (this h2).elim⟩
      · have := isIn_iff.1 ha
        simp only [cond_true, List.mem_append, List.mem_singleton]
        exact ⟨fun ht => ht.imp id fun e => ⟨e, this⟩, fun ht => ht.imp id fun e => e.1⟩
    have I : WInv (doneW w s true) := by
      refine ⟨fun t ht => ?_, ?_, butName_nodup h.nb, butName_nodup h.na, fun t ht => ?_, fun t ht => ?_, hf⟩
      · rcases ht with ht | ht | ht
        · rcases (hmem t).1 ht with ht | ⟨rfl, ht⟩
          · exact h.sub t (.inl ht)
          · exact h.sub _ (.inr (.inr ht))
        · exact h.sub t (.inr (.inl (mem_butName.1 ht).1))
        · exact h.sub t (.inr (.inr (mem_butName.1 ht).1))
      · rw [hlist]
        cases isIn w.again s
        · exact h.nl
        · exact nodup_snoc h.nl hsl
      · intro hq
        obtain ⟨h1, h2⟩ := mem_butName.1 hq
        rcases (hmem t).1 ht with ht | ⟨e, _⟩
        · exact h.apart t ht h1
        · exact h2 e
      · obtain ⟨h1, h2⟩ := mem_butName.1 ht
        exact mem_butName.2 ⟨h.sel t h1, h2⟩
    rw [I.ok]
    refine ⟨rfl, I, rfl, fun t => ?_⟩
    show t ∈ (doneW w s true).list ∨ t ∈ butName w.again s ↔ t ∈ w.list ∨ t ∈ w.again
    rw [hmem, mem_butName]
    constructor
    · rintro ((h1 | ⟨rfl, h1⟩) | ⟨h1, _⟩)
      · exact .inl h1
      · exact .inr h1
      · exact .inr h1
    · rintro (h1 | h1)
      · exact .inl (.inl h1)
      · by_cases e : t = s
        · subst e; exact .inl (.inr ⟨rfl, h1⟩)
        · exact .inr ⟨h1, e⟩

/-- What holds ahead of each round. -/
structure Round (w : WorkT) (asked busy : List ByteArray) : Prop where
  inv : WInv w
  busy : busy = w.busy
  nd : asked.Nodup
  asked : ∀ t, t ∈ asked ↔ Asks w t
theorem Round.four {w : WorkT} {asked busy : List ByteArray} (h : Round w asked busy) : ∀ s ∈ asked, s ∈ four := fun s hs => by
  rcases (h.asked s).1 hs with h1 | h1
  · exact h.inv.sub s (.inl h1)
  · exact h.inv.sub s (.inr (.inr h1))
theorem Round.start : Round ⟨[], [], [], []⟩ [] [] :=
  ⟨⟨fun s h => by simp at h, List.Pairwise.nil, List.Pairwise.nil, List.Pairwise.nil, fun s h => by simp at h, fun s h => by simp at h, rfl⟩, rfl, List.Pairwise.nil, fun t => by simp [Asks]⟩
def askedA (asked : List ByteArray) (s : ByteArray) : List ByteArray := cond (!(isIn asked s)) (asked ++ [s]) asked
theorem Round.add {w : WorkT} {asked busy : List ByteArray} (h : Round w asked busy) {s : ByteArray} (hs : s ∈ Gm.four) : Round (workAdd w s).1 (askedA asked s) busy := by
  obtain ⟨h1, h2, h3, h4⟩ := h.inv.add hs
  refine ⟨h2, by rw [h3]; exact h.busy, ?_, fun t => ?_⟩
  · unfold askedA
    cases hq : isIn asked s
    · exact nodup_snoc h.nd (isIn_not.1 hq)
    · exact h.nd
  · rw [h4, ← h.asked t]
    unfold askedA
    cases hq : isIn asked s
    · simp only [Bool.not_false, cond_true, List.mem_append, List.mem_singleton]
    · have := isIn_iff.1 hq
      simp only [Bool.not_true, cond_false]
      exact ⟨.inl, fun ht => ht.elim id fun e => e ▸ this⟩
theorem Round.take {w : WorkT} {asked busy : List ByteArray} (h : Round w asked busy) {x : ByteArray} {r : List ByteArray} (hl : w.list = x :: r) : Round (takeN w x r) (butName asked x) (busy ++ [x]) ∧ isIn busy x = false := by
  obtain ⟨_, h2, h3, _, _, h4⟩ := h.inv.take1 hl
  refine ⟨⟨h2, by rw [h.busy]; rfl, butName_nodup h.nd, fun t => ?_⟩, isIn_not.2 (by rw [h.busy]; exact h3)⟩
  rw [mem_butName, h.asked t, h4]
theorem Round.done {w : WorkT} {asked busy : List ByteArray} (h : Round w asked busy) (s : ByteArray) : (workDone w s true).2 = isIn busy s ∧ Round (workDone w s true).1 asked (butName busy s) := by
  obtain ⟨h1, h2, h3, h4⟩ := h.inv.done s
  refine ⟨by rw [h1, h.busy], h2, by rw [h3, h.busy], h.nd, fun t => ?_⟩
  rw [h.asked t, h4]

end Go.Gm
namespace Go.Gm
open Go
end Go.Gm
namespace Go.Gm
end Go.Gm

/- The cursor of the draws: what stays true of it. -/
namespace Go.Gm
open Go

def gCur (c : CurT) : Bool := decide (0 ≤ c.i) && Nat.ble c.b.length 1048576
theorem gCur_iff {c : CurT} : gCur c = true ↔ 0 ≤ c.i ∧ c.b.length ≤ 1048576 := by
  unfold gCur
  rw [Bool.and_eq_true, decide_eq_true_eq, Nat.ble_eq]
def gCode (b : List Int) : Bool := Nat.ble b.length 1048576
def gPickS (c : CurT) (l : List ByteArray) : Bool := gCur c && (!l.isEmpty && Nat.ble l.length 1048576)
def gPickI (c : CurT) (l : List Int) : Bool := gCur c && (!l.isEmpty && Nat.ble l.length 1048576)
theorem and255 (A : Int) : 0 ≤ ((BitVec.toNat (BitVec.ofInt (IntKind.bits .i64) A &&& BitVec.ofInt (IntKind.bits .i64) (255 : Int)) : Nat) : Int) ∧
    ((BitVec.toNat (BitVec.ofInt (IntKind.bits .i64) A &&& BitVec.ofInt (IntKind.bits .i64) (255 : Int)) : Nat) : Int) ≤ 255 := by
  refine ⟨Int.natCast_nonneg _, ?_⟩
  have h : BitVec.toNat (BitVec.ofInt (IntKind.bits .i64) A &&& BitVec.ofInt (IntKind.bits .i64) (255 : Int)) ≤ 255 := by
    rw [BitVec.toNat_and]
    exact Nat.le_trans Nat.and_le_right (by decide)
  omega
theorem and255w (A : Int) : 0 ≤ IntKind.wrap .i64 ((BitVec.toNat (BitVec.ofInt (IntKind.bits .i64) A &&& BitVec.ofInt (IntKind.bits .i64) (255 : Int)) : Nat) : Int) ∧
    IntKind.wrap .i64 ((BitVec.toNat (BitVec.ofInt (IntKind.bits .i64) A &&& BitVec.ofInt (IntKind.bits .i64) (255 : Int)) : Nat) : Int) ≤ 255 := by
  have := and255 A
  rw [wrap_id (by omega) (by omega)]; exact this
theorem tmod_bd {x n : Int} (h : 0 ≤ x) (hn : 0 < n) : 0 ≤ Int.tmod x n ∧ Int.tmod x n < n := ⟨Int.tmod_nonneg n h, Int.tmod_lt_of_pos x hn⟩
theorem below4 {x y z w : Int} (hx : 0 ≤ x ∧ x ≤ 255) (hy : 0 ≤ y ∧ y ≤ 255) (hz : 0 ≤ z ∧ z ≤ 255) (hw : 0 ≤ w ∧ w ≤ 255) :
    0 ≤ IntKind.wrap .i64 ((IntKind.wrap .i64 ((IntKind.wrap .i64 ((IntKind.wrap .i64 (x * (16777216 : Int))) + (IntKind.wrap .i64 (y * (65536 : Int))))) + (IntKind.wrap .i64 (z * (256 : Int))))) + w) := by
  rw [wrap_id (x := x * 16777216) (by omega) (by omega), wrap_id (x := y * 65536) (by omega) (by omega), wrap_id (x := z * 256) (by omega) (by omega), wrap_id (x := x * 16777216 + y * 65536) (by omega) (by omega),
    wrap_id (x := x * 16777216 + y * 65536 + z * 256) (by omega) (by omega), wrap_id (by omega) (by omega)]
  omega
theorem mem_atI {t : Ty} {xs : List (El t)} {i : Int} (h0 : 0 ≤ i) (h : i < (xs.length : Int)) : atI xs (Int.toNat i) ∈ xs :=
  List.mem_of_getElem? (atI_lt (by omega))
theorem idxOk {α : Type} {xs : List α} {i : Int} (h0 : 0 ≤ i) (h : i < (xs.length : Int)) : (decide ((0 : Int) ≤ i) && decide (i < (xs.length : Int))) = true := by
  rw [decide_eq_true h0, decide_eq_true h]; rfl
theorem lenPos {α : Type} {xs : List α} (h : (!xs.isEmpty) = true) : 0 < (xs.length : Int) := by
  cases xs with
  | nil => cases h
  | cons x r => simp

theorem gPickS_of {c : CurT} {l : List ByteArray} (h : gCur c = true) (hl : (!l.isEmpty && Nat.ble l.length 1048576) = true) : gPickS c l = true := by
  unfold gPickS; rw [h, hl]; rfl
theorem gPickI_of {c : CurT} {l : List Int} (h : gCur c = true) (hl : (!l.isEmpty && Nat.ble l.length 1048576) = true) : gPickI c l = true := by
  unfold gPickI; rw [h, hl]; rfl
theorem eta_cur (c : CurT) : (⟨c.b, c.i, c.h⟩ : CurT) = c := by cases c; rfl

open Classical in
/-- Are they the same? -/
noncomputable def eqB {α : Type} (a b : α) : Bool := decide (a = b)
theorem eqB_iff {α : Type} {a b : α} : eqB a b = true ↔ a = b := by unfold eqB; simp
noncomputable def gSame {α : Type} (f : α → Bool) (a b : α) : Bool := f a && eqB a b
theorem gSame_iff {α : Type} {f : α → Bool} {a b : α} : gSame f a b = true ↔ f a = true ∧ a = b := by unfold gSame; rw [Bool.and_eq_true, eqB_iff]
theorem gSame_self {α : Type} {f : α → Bool} {a : α} (h : f a = true) : gSame f a a = true := gSame_iff.2 ⟨h, rfl⟩
theorem gCode_of {b : List Int} (h : bigC b = false) : gCode b = true := by
  unfold bigC at h
  have := of_decide_eq_false h
  exact Nat.ble_eq_true_of_le (by omega)
theorem gLen_sm {α : Type} {f : α → Bool} {xs : List α} (h : smL f xs = true) : gLenW xs = true := gLenW_of (by have := smL_len h; omega)

theorem bab_self (a : ByteArray) : (a == a) = true := by rw [beq_toListBytes]; exact beq_self_eq_true _

theorem smStr_in {l : List ByteArray} {s : ByteArray} (h : s ∈ l) (hl : (l.all smStr) = true) : smStr s = true := List.all_eq_true.1 hl s h
theorem wrap_in (x : Int) : -9223372036854775808 ≤ IntKind.wrap .i64 x ∧ IntKind.wrap .i64 x ≤ 9223372036854775807 := by
  have h0 := Int.emod_nonneg x (show (18446744073709551616 : Int) ≠ 0 by decide)
  have h1 := Int.emod_lt_of_pos x (show (0 : Int) < 18446744073709551616 by decide)
  have e : IntKind.wrap .i64 x = if (true && decide (x % 18446744073709551616 ≥ 9223372036854775808)) = true then x % 18446744073709551616 - 18446744073709551616 else x % 18446744073709551616 := rfl
  rw [e]
  split
  · rename_i h
    have := of_decide_eq_true (show decide (x % 18446744073709551616 ≥ 9223372036854775808) = true by simpa using h)
    omega
  · rename_i h
    have : ¬ (x % 18446744073709551616 ≥ 9223372036854775808) := fun hh => h (by simp [hh])
    omega
theorem okI_wrap (x : Int) : okI (IntKind.wrap .i64 x) = true := by
  have := wrap_in x
  exact okI_of this.1 this.2

theorem ble_lim {n : Nat} (h : n ≤ 1048576) : Nat.ble (n + 1) LIM = true := Nat.ble_eq_true_of_le (by have : (LIM : Nat) = 4294967296 := rfl; omega)

end Go.Gm

/- What has happened, done again. -/
namespace Go.Gm
open Go
end Go.Gm

/- The text of a way. -/
namespace Go.Gm
open Go
def mkB (l : List UInt8) : ByteArray := ⟨l.toArray⟩
theorem mkB_size (l : List UInt8) : (mkB l).size = l.length := by simp [mkB, ByteArray.size]
end Go.Gm

/- strings.Split at one byte, strings.ReplaceAll at any old: as recursions over the bytes; and what a way's text is read to. -/
namespace Go.Gm
open Go

/-- Every instance of old is replaced; the number says how many bytes are still to be left out. -/
def repR (old new : List UInt8) : Nat → List UInt8 → List UInt8
  | _, [] => []
  | k + 1, _ :: l => repR old new k l
  | 0, b :: l => if old.isPrefixOf (b :: l) then new ++ repR old new (old.length - 1) l else b :: repR old new 0 l
theorem index_cons_hit {b : UInt8} {l old : List UInt8} (h : old.isPrefixOf (b :: l) = true) : Lib.index (b :: l) old = ((0 : Nat) : Int) := by
  unfold Lib.index; rw [if_pos h]; rfl
theorem index_cons_miss {b : UInt8} {l old : List UInt8} (h : old.isPrefixOf (b :: l) = false) (hm : Lib.index l old = -1) : Lib.index (b :: l) old = -1 := by
  unfold Lib.index; rw [h, hm]; rfl
theorem index_cons_next {b : UInt8} {l old : List UInt8} (h : old.isPrefixOf (b :: l) = false) {i : Nat} (hi : Lib.index l old = i) : Lib.index (b :: l) old = ((i + 1 : Nat) : Int) := by
  have hn : (Lib.index l old == -1) = false := by rw [beq_eq_false_iff_ne]; omega
  unfold Lib.index
  rw [h, hn, hi]; simp
theorem index_two (l old : List UInt8) : Lib.index l old = -1 ∨ ∃ i : Nat, Lib.index l old = i := by
  have := Lib.index_ge l old
  by_cases h : Lib.index l old = -1
  · exact .inl h
  · exact .inr ⟨(Lib.index l old).toNat, by omega⟩
def r1 (l : List UInt8) : List UInt8 := repR [126, 49] [47] 0 l
def r0 (l : List UInt8) : List UInt8 := repR [126, 48] [126] 0 l
def splitS (s sep : ByteArray) : List ByteArray := Lib.splitB sep 0 (Lib.countB s sep) s
def gSplit (s sep : ByteArray) : Bool := Nat.ble s.size 2147483648 && Nat.ble 1 sep.size
theorem gSplit_iff {s sep : ByteArray} (h : gSplit s sep = true) : s.size ≤ 2147483648 ∧ 1 ≤ sep.size := by
  simpa [gSplit] using h
theorem mkB_data (s : ByteArray) : mkB s.data.toList = s := by simp [mkB]
theorem data_mkB (l : List UInt8) : (mkB l).data.toList = l := by simp [mkB]
end Go.Gm

/- Contracts of library functions by hand: several plain results; a new list of texts. -/
namespace Go.Gm
open Go

variable {wl : World} {P : Program} {w w' : World} {Mf ROa : Nat → Prop}

/-- A plain value with its type. -/
structure Pv where
  t : Ty
  x : El t
  v : Value
def Pv.ok (y : Pv) : Prop := enc y.t y.x = [.v y.v] ∧ isSt y.t = false ∧ flatB y.v = true
theorem RessOk.vals : ∀ (l : List Pv), (∀ y ∈ l, y.ok) → RessOk wl w true (l.map fun _ => false) (l.map fun y => .d y.t y.x) (l.map (·.v)) (l.map fun _ => fun _ => False)
  | [], _ => .nil
  | y :: l, h => by
    obtain ⟨h1, h2, h3⟩ := h y (by simp)
    exact .val (by simpa using valOwn_v h1 h2 h3) (RessOk.vals l fun z hz => h z (by simp [hz]))
theorem After.vals {s : Spec} (hown : s.own = true) (l : List Pv) (hl : ∀ y ∈ l, y.ok) (hres : s.res = l.map fun _ => false) (hm : s.modes.all (fun m => !(isBack m)) = true) {ds : List Dt} {us : List Value} (h1 : s.modes.length = us.length) (h2 : ds.length = us.length)
    (hk : Kept w w' Mf) : After wl w w' Mf ROa s ds us (l.map fun y => .d y.t y.x) (.returned (packV (l.map (·.v)))) := by
  have hno : ∀ G ∈ l.map (fun _ => fun _ : Nat => False), ∀ k, G k → False := by
    intro G hG k hk
    obtain ⟨_, _, rfl⟩ := List.mem_map.1 hG
    exact hk
  refine ⟨⟨l.map (·.v), l.map fun _ => fun _ => False, [], rfl, ?_, ?_, List.Pairwise.nil, fun B hB => by simp at hB, fun _ => ⟨?_, fun G hG k hk => (hno G hG k hk).elim⟩, fun e => absurd (hown.symm.trans e) (by simp), fun G hG B hB => by simp at hB, fun G hG k hk => (hno G hG k hk).elim, fun B hB => by simp at hB⟩, hk⟩
  · have e : (l.map fun y => Dt.d y.t y.x).take s.res.length = l.map fun y => Dt.d y.t y.x := by rw [hres]; apply List.take_of_length_le; simp
    rw [e, hown, hres]; exact RessOk.vals l hl
  · have : (l.map fun y => Dt.d y.t y.x).drop s.res.length = [] := by rw [hres]; apply List.drop_eq_nil_of_le; simp
    rw [this]; exact backs_skip hm h1 h2
  · unfold PairApart
    rw [List.pairwise_map]
    exact List.pairwise_of_forall fun _ _ k h => h.elim

/-- A contract of plain results, the start's world at hand. -/
theorem spec_valsW {f : Nat} {modes : List Am} {res : List Bool} {q : List Dt → Option (Bool × List Dt)} (hm : modes.all (fun m => !(isBack m)) = true)
    (h : ∀ ds outs, q ds = some (true, outs) → ∃ l : List Pv, outs = l.map (fun y => .d y.t y.x) ∧ (res = l.map fun _ => false) ∧ (∀ y ∈ l, y.ok) ∧
      ∀ {wl : World} w us ROa Fs, WlOk P wl → BaseOk wl w ROa → ArgsOk wl w ROa modes ds us Fs → (∀ k, ROa k → k < w.heap.size) → Calls P f us.toArray w fun e w' => e = .returned (packV (l.map (·.v))) ∧ Kept w w' (fun _ => False)) : SpecOk P f (Spec.of modes res true q) := by
  intro R ds k r hr wl w us Mf ROa Fs hWl hBs hA hp hFM hRM hRlt hMlt
  obtain ⟨outs, hq, hk⟩ := Spec.of_some hr
  obtain ⟨l, rfl, hres, hl, hc⟩ := h ds outs hq
  refine Calls.mono (hc w us ROa Fs hWl hBs hA hRlt) ?_
  rintro e w' ⟨rfl, hB⟩
  obtain ⟨h1, h2, _⟩ := hA.len
  exact ⟨_, hk, After.vals rfl l hl hres hm h1 h2 ⟨hB.os, hB.tape, hB.output, hB.same.1, fun b hb _ => hB.same.2 b hb (fun h => h)⟩⟩

theorem Kept.drewN (w : World) (n : Nat) (Mf : Nat → Prop) : Kept w (w.drewN n) Mf := ⟨rfl, rfl, rfl, Nat.le_refl _, fun _ _ _ => rfl⟩

/-- As spec_own1, the start's world at hand. -/
theorem spec_own1W {f : Nat} {modes : List Am} {q : List Dt → Option (Bool × List Dt)} (hm : modes.all (fun m => !(isBack m)) = true)
    (h : ∀ ds outs, q ds = some (true, outs) → ∃ t x, outs = [.d t x] ∧ ∀ {wl : World} (w : World) (us : List Value) (Mf ROa : Nat → Prop) (Fs : List (Nat → Prop)), WlOk P wl → BaseOk wl w ROa → ArgsOk wl w ROa modes ds us Fs → (∀ k, ROa k → k < w.heap.size) →
      Calls P f us.toArray w fun e w' => ∃ v G, e = .returned v ∧ Kept w w' Mf ∧ ValOwn w' G t x v ∧ ∀ k, G k → (Mf k ∨ w.heap.size ≤ k) ∧ k < w'.heap.size) : SpecOk P f (Spec.of modes [false] true q) := by
  intro R ds k r hr wl w us Mf ROa Fs hWl hBs hA hp hFM hRM hRlt hMlt
  obtain ⟨outs, hq, hk⟩ := Spec.of_some hr
  obtain ⟨t, x, rfl, hc⟩ := h ds outs hq
  refine Calls.mono (hc w us Mf ROa Fs hWl hBs hA hRlt) ?_
  rintro e w' ⟨v, G, rfl, h1, h2, h3⟩
  obtain ⟨hl1, hl2, _⟩ := hA.len
  exact ⟨_, hk, After.own1 rfl rfl hm hl1 hl2 h2 h3 h1⟩

/-- A new list of texts. -/
theorem valOwn_strs (w : World) (xs : List ByteArray) (T : TypeId) :
    ValOwn (w.alloc (.cells (xs.map Value.string).toArray T)) (fun k => k = w.heap.size) (.sl .str) xs (.slice (some ⟨w.heap.size, 0, none⟩) xs.length xs.length) := by
  refine valOwn_sl ⟨fun _ => .slice (some ⟨w.heap.size, 0, none⟩) xs.length xs.length, rfl, fun p s hs => ?_, fun p q s s' b hp hq _ _ => ?_⟩
  · cases p with
    | nil =>
      simp only [subR, Option.some.injEq] at hs; subst hs
      refine .inr ⟨w.heap.size, 0, xs.length, _, T, rfl, rfl, heap_alloc_new w _, Nat.le_refl _, by simp [esz, kinds], fun i y j c hi hj => ?_⟩
      have hj' : j = 0 ∧ c = .v (.string y) := by
        cases j with
        | zero => exact ⟨rfl, by have h : some (Cv.v (Value.string y)) = some c := hj
                                 exact (Option.some.inj h).symm⟩
        | succ j => simp [enc] at hj
      obtain ⟨rfl, rfl⟩ := hj'
      refine ⟨.string y, ?_, rfl⟩
      have e : esz .str = 1 := rfl
      simp only [e, Nat.zero_add, Nat.mul_one, Nat.add_zero, List.getElem?_toArray, List.getElem?_map]
      rw [show xs[i]? = some y from hi]; rfl
    | cons ij p =>
      obtain ⟨i, j⟩ := ij
      simp only [subR] at hs
      split at hs
      · rename_i x hx
        split at hs
        · rename_i t' ys hc
          cases j with
          | zero => simp [enc] at hc
          | succ j => simp [enc] at hc
        · cases hs
      · cases hs
  · have one : ∀ {p : Path} {s : Sl}, subR .str xs p = some s → p = [] := by
      intro p s hs
      cases p with
      | nil => rfl
      | cons ij p =>
        obtain ⟨i, j⟩ := ij
        simp only [subR] at hs
        split at hs
        · rename_i x hx
          split at hs
          · rename_i t' ys hc
            cases j with
            | zero => simp [enc] at hc
            | succ j => simp [enc] at hc
          · cases hs
        · cases hs
    rw [one hp, one hq]
theorem kept_alloc (w : World) (o : Obj) (Mf : Nat → Prop) : Kept w (w.alloc o) Mf := ⟨rfl, rfl, rfl, by simp, fun b hb _ => heap_alloc_old w _ hb⟩
end Go.Gm

/- Plain functions: strings.Cut, CutPrefix, TrimSuffix. -/
namespace Go.Gm
open Go
def cutS (s sep : ByteArray) : ByteArray × ByteArray × Bool := (⟨(Lib.cut s.data.toList sep.data.toList).1.toArray⟩, ⟨(Lib.cut s.data.toList sep.data.toList).2.1.toArray⟩, (Lib.cut s.data.toList sep.data.toList).2.2)
def gCutS (s _sep : ByteArray) : Bool := Nat.ble s.size 2147483648
def cutPre (s p : ByteArray) : ByteArray × Bool := (⟨(Lib.trimPrefix s.data.toList p.data.toList).toArray⟩, Lib.hasPrefix s.data.toList p.data.toList)
def trimSuf (s p : ByteArray) : ByteArray := ⟨(Lib.trimSuffix s.data.toList p.data.toList).toArray⟩
theorem gCutS_iff {s sep : ByteArray} (h : gCutS s sep = true) : s.size ≤ 2147483648 := by simpa [gCutS] using h
end Go.Gm

/- Picks read from texts: cutting at a byte. -/
namespace Go.Gm
open Go
def splC (c : UInt8) : List UInt8 → List (List UInt8)
  | [] => [[]]
  | b :: l => if b = c then [] :: splC c l else match splC c l with | [] => [[b]] | h :: t => (b :: h) :: t
theorem splC_ne (c : UInt8) (l : List UInt8) : splC c l ≠ [] := by
  cases l with
  | nil => simp [splC]
  | cons b l =>
    rw [splC]
    split
    · simp
    · split <;> simp
theorem isPreC (c b : UInt8) (l : List UInt8) : ([c] : List UInt8).isPrefixOf (b :: l) = decide (b = c) := by
  simp only [List.isPrefixOf, Bool.and_true]
  rw [Bool.eq_iff_iff, beq_iff_eq, decide_eq_true_eq]; exact eq_comm
theorem splitK_C (c : UInt8) : ∀ (n : Nat) (s : List UInt8), s.length ≤ n → Lib.splitK [c] 0 (Lib.count s [c]) s = splC c s
  | n, [], _ => by rw [Lib.count_miss (by rfl)]; rfl
  | 0, b :: l, h => by simp at h
  | n + 1, b :: l, h => by
    have hl : l.length ≤ n := by simpa using h
    have hk : ∀ (k : Nat) (s : List UInt8) (i : Nat), Lib.index s [c] = i → Lib.splitK [c] 0 (k + 1) s = s.take i :: Lib.splitK [c] 0 k (s.drop (i + 1)) := by
      intro k s i hi
      have hm : ¬ (Lib.index s [c] == -1) = true := fun e => by have := beq_iff_eq.1 e; omega
      have e : (Lib.index s [c]).toNat = i := by omega
      rw [Lib.splitK, if_neg hm, e, Nat.add_zero]; rfl
    by_cases hb : b = c
    · subst hb
      have hi := index_cons_hit (b := b) (l := l) (old := [b]) (by rw [isPreC]; simp)
      rw [Lib.count_hit (by simp) hi, Nat.add_comm 1, hk _ _ 0 hi, splC, if_pos rfl]
      simp only [List.take_zero, Nat.zero_add, List.drop_succ_cons, List.length_cons, List.length_nil, List.drop_zero]
      rw [splitK_C b n l hl]
    · have hp : ([c] : List UInt8).isPrefixOf (b :: l) = false := by rw [isPreC]; simp [hb]
      have ih := splitK_C c n l hl
      rw [splC, if_neg hb]
      rcases index_two l [c] with hm | ⟨i, hi⟩
      · rw [Lib.count_miss hm] at ih
        rw [Lib.count_miss (index_cons_miss hp hm), ← ih]; rfl
      · have hi' := index_cons_next hp hi
        rw [Lib.count_hit (by simp) hi, Nat.add_comm 1, hk _ _ i hi] at ih
        rw [Lib.count_hit (by simp) hi', Nat.add_comm 1, hk _ _ (i + 1) hi', ← ih]
        have e : (b :: l).drop (i + 1 + 1) = l.drop (i + 1) := rfl
        simp only [List.length_cons, List.length_nil, Nat.zero_add] at *
        rw [e]; simp
theorem splitS_44 (s : ByteArray) : splitS s (bs [44]) = (splC 44 s.data.toList).map mkB := by
  have h := Lib.splitB_data (bs [44]) 0 (Lib.countB s (bs [44])) s
  have e : Lib.splitK (bs [44]).data.toList 0 (Lib.countB s (bs [44])) s.data.toList = splC 44 s.data.toList := splitK_C 44 s.data.toList.length s.data.toList (Nat.le_refl _)
  rw [e] at h
  unfold splitS
  rw [← h, List.map_map]
  have : (mkB ∘ fun x : ByteArray => x.data.toList) = id := by funext x; exact mkB_data x
  rw [this, List.map_id]
theorem splC_sum (c : UInt8) : ∀ (l : List UInt8), szL List.length (splC c l) = l.length + 1
  | [] => rfl
  | b :: l => by
    have ih := splC_sum c l
    rw [splC]
    split
    · simp only [szL, List.map_cons, List.sum_cons, List.length_cons, List.length_nil] at ih ⊢; omega
    · cases hs : splC c l with
      | nil => exact absurd hs (splC_ne c l)
      | cons h t =>
        rw [hs] at ih
        simp only [szL, List.map_cons, List.sum_cons, List.length_cons] at ih ⊢; omega
/-- A piece without the byte, then the byte, then the rest. -/
theorem splC_piece (c : UInt8) : ∀ (p r : List UInt8), (∀ b ∈ p, b ≠ c) → splC c (p ++ c :: r) = p :: splC c r
  | [], r, _ => by rw [List.nil_append, splC, if_pos rfl]
  | b :: p, r, h => by
    have ih := splC_piece c p r fun x hx => h x (by simp [hx])
    rw [List.cons_append, splC, if_neg (h b (by simp)), ih]
theorem splC_none (c : UInt8) : ∀ (p : List UInt8), (∀ b ∈ p, b ≠ c) → splC c p = [p]
  | [], _ => rfl
  | b :: p, h => by
    have ih := splC_none c p fun x hx => h x (by simp [hx])
    rw [splC, if_neg (h b (by simp)), ih]
/-- What stands between bytes 44, without the last byte. -/
def listS (s : ByteArray) : List ByteArray := cond (Nat.beq s.size 0) [] ((splC 44 s.data.toList.dropLast).map mkB)
def gListS (s : ByteArray) : Bool := Nat.ble s.size 1048576
def gCut1 (s sep : ByteArray) : Bool := Nat.ble s.size 1048576 && (Nat.ble 1 sep.size && Nat.ble sep.size 1000)
theorem gCut1_iff {s sep : ByteArray} (h : gCut1 s sep = true) : s.size ≤ 1048576 ∧ 1 ≤ sep.size ∧ sep.size ≤ 1000 := by simpa [gCut1] using h
def gCutS3 (s sep : ByteArray) (_ : Int) : Bool := gCut1 s sep
def splitI (s sign : ByteArray) (op : Int) : PickT × Bool := (⟨op, (cutS s sign).1, [(cutS s sign).2.1]⟩, (cutS s sign).2.2)
def listedI (s word : ByteArray) (op : Int) : PickT × Bool := (⟨op, (cutS s word).1, splitS (trimSuf (cutS s word).2.1 (bs [41])) (bs [44])⟩, (cutS s word).2.2)
def noPick : PickT := ⟨0, ByteArray.empty, []⟩
/-- What a text may be read to. -/
def candOf (s : ByteArray) : PickT :=
  cond (cutS s (bs [32,105,110,32,40])).2.2 (listedI s (bs [32,105,110,32,40]) 3).1
  (cond (cutS s (bs [32,110,111,116,105,110,32,40])).2.2 (listedI s (bs [32,110,111,116,105,110,32,40]) 4).1
  (cond (cutS s (bs [33,61])).2.2 (splitI s (bs [33,61]) 2).1
  (cond (cutS s (bs [61])).2.2 (splitI s (bs [61]) 1).1
  (cond (cutPre s (bs [33])).2 ⟨6, (cutPre s (bs [33])).1, []⟩ ⟨5, s, []⟩))))
noncomputable def pickOf (s : ByteArray) : PickT × Bool := cond (!(pickOk (candOf s)) || !(sEq (pickText (candOf s)) s)) (noPick, false) (candOf s, true)
def gPickOf (s : ByteArray) : Bool := Nat.ble s.size 1048576
theorem cutS_hit {s sep : ByteArray} {i : Nat} (h : Lib.indexB s sep = i) : cutS s sep = (s.extract 0 i, s.extract (i + sep.size) s.size, true) := by
  obtain ⟨h1, h2, h3⟩ := Lib.cutB_hit s sep i h
  exact Prod.ext h1 (Prod.ext h2 h3)
theorem cutS_miss {s sep : ByteArray} (h : Lib.indexB s sep = -1) : cutS s sep = (s, ByteArray.empty, false) := by
  obtain ⟨h1, h2, h3⟩ := Lib.cutB_miss s sep h
  exact Prod.ext h1 (Prod.ext h2 h3)
theorem cutS_sz (s sep : ByteArray) : (cutS s sep).1.size ≤ s.size ∧ (cutS s sep).2.1.size + sep.size ≤ s.size + sep.size := by
  rcases Lib.indexB_cases s sep with h | ⟨i, h, hi⟩
  · rw [cutS_miss h]; exact ⟨Nat.le_refl _, by simp⟩
  · rw [cutS_hit h]; simp only [ByteArray.size_extract]; omega
theorem trimSuf_sz (s p : ByteArray) : (trimSuf s p).size ≤ s.size := by
  unfold trimSuf Lib.trimSuffix
  rw [Lib.size_eq, Lib.size_eq s]
  split <;> simp only [List.toList_toArray, List.length_take] <;> omega
end Go.Gm

/- Plain functions: stores, measures and worlds that are right. -/
namespace Go.Gm
open Go

end Go.Gm

/- Drawn stores: what stays small. -/
namespace Go.Gm
open Go
end Go.Gm

/- Plain functions and laws: marks of trees. Printed by mkp17.py of this session. -/
namespace Go.Gm
open Go

end Go.Gm

/- Plain functions: numbers that are read, ways into trees. -/
namespace Go.Gm
open Go

end Go.Gm

/- Drawn orders: what stays small when something is put into them. -/
namespace Go.Gm
open Go
theorem smL_app {α : Type} {f : α → Bool} {r : List α} {x : α} (h : smL f r = true) (hx : f x = true) (hl : Nat.blt r.length 1048576 = true) : smL f (r ++ [x]) = true :=
  smL_snoc h hx (by rw [Nat.blt_eq] at hl; exact hl)
theorem blt_of {n m : Nat} (h : n < m) : Nat.blt n m = true := by rw [Nat.blt_eq]; exact h
end Go.Gm

/- What is chosen by a pick, and by its opposite. -/
namespace Go.Gm
open Go
def flipOp (o : Int) : Int := atI (t := .i .i64) ([(0 : Int), (2 : Int), (1 : Int), (4 : Int), (3 : Int), (6 : Int), (5 : Int)] : List Int) (Int.toNat o)
def opposite (p : PickT) : PickT := ⟨flipOp p.op, p.key, p.vals⟩
theorem pickOk_op {p : PickT} (h : pickOk p = true) : p.op = 1 ∨ p.op = 2 ∨ p.op = 3 ∨ p.op = 4 ∨ p.op = 5 ∨ p.op = 6 := by
  unfold pickOk at h
  simp only [Bool.and_eq_true, Bool.or_eq_true, beq_iff_eq] at h
  omega
theorem fits_flip {p : PickT} (h : pickOk p = true) (ns : List NoteT) : fits (opposite p) ns = !(fits p ns) := by
  have ho := pickOk_op h
  obtain ⟨op, key, vals⟩ := p
  simp only at ho
  have e2 : ∀ o, among ⟨o, key, vals⟩ ns = among ⟨0, key, vals⟩ ns := fun _ => rfl
  have e3 : ∀ o n, noteIs n ⟨o, key, vals⟩ = noteIs n ⟨0, key, vals⟩ := fun _ _ => rfl
  rcases ho with rfl | rfl | rfl | rfl | rfl | rfl
  · have hq : pickOk ⟨2, key, vals⟩ = true := by unfold pickOk at h ⊢; simpa using h
    have : opposite ⟨1, key, vals⟩ = ⟨2, key, vals⟩ := rfl
    rw [this]; unfold fits; rw [h, hq]
    simp [e2]
  · have hq : pickOk ⟨1, key, vals⟩ = true := by unfold pickOk at h ⊢; simpa using h
    have : opposite ⟨2, key, vals⟩ = ⟨1, key, vals⟩ := rfl
    rw [this]; unfold fits; rw [h, hq]
    simp [e2]
  · have hq : pickOk ⟨4, key, vals⟩ = true := by unfold pickOk at h ⊢; simpa using h
    have : opposite ⟨3, key, vals⟩ = ⟨4, key, vals⟩ := rfl
    rw [this]; unfold fits; rw [h, hq]
    simp [e2]
  · have hq : pickOk ⟨3, key, vals⟩ = true := by unfold pickOk at h ⊢; simpa using h
    have : opposite ⟨4, key, vals⟩ = ⟨3, key, vals⟩ := rfl
    rw [this]; unfold fits; rw [h, hq]
    simp [e2]
  · have hq : pickOk ⟨6, key, vals⟩ = true := by unfold pickOk at h ⊢; simpa using h
    have : opposite ⟨5, key, vals⟩ = ⟨6, key, vals⟩ := rfl
    rw [this]; unfold fits; rw [h, hq]
    simp [e3]
  · have hq : pickOk ⟨5, key, vals⟩ = true := by unfold pickOk at h ⊢; simpa using h
    have : opposite ⟨6, key, vals⟩ = ⟨5, key, vals⟩ := rfl
    rw [this]; unfold fits; rw [h, hq]
    simp [e3]
theorem pick_mk {o : Int} {k : ByteArray} {vs : List ByteArray} (ho : okI o = true) (hk : smStr k = true) (hv : smL smStr vs = true) : sm_pick ⟨o, k, vs⟩ = true := by
  simp only [sm_pick, ho, hk, hv, Bool.and_self]
end Go.Gm

/- What a text is read to: the same either way. -/
namespace Go.Gm
open Go
theorem sm_pieces {l : List UInt8} (h : l.length + 1 ≤ 1048576) : smL smStr ((splC 44 l).map mkB) = true := by
  have hs := splC_sum 44 l
  have hl := szL_ge List.length (splC 44 l)
  simp only [smL, Bool.and_eq_true]
  refine ⟨Nat.ble_eq_true_of_le (by rw [List.length_map]; omega), List.all_eq_true.2 fun x hx => ?_⟩
  obtain ⟨y, hy, rfl⟩ := List.mem_map.1 hx
  have h1 := sum_le List.length hy
  have h2 : (splC 44 l).length + ((splC 44 l).map List.length).sum = l.length + 1 := hs
  exact smStr_of (by rw [mkB_size]; omega)
theorem sm_listS {s : ByteArray} (h : s.size ≤ 1048576) : smL smStr (listS s) = true := by
  unfold listS
  cases hb : Nat.beq s.size 0
  · refine sm_pieces ?_
    rw [List.length_dropLast, ← Lib.size_eq]
    have : s.size ≠ 0 := fun e => by rw [e] at hb; cases hb
    omega
  · rfl
theorem sm_split {s : ByteArray} (h : s.size + 1 ≤ 1048576) : smL smStr (splitS s (bs [44])) = true := by
  rw [splitS_44]
  exact sm_pieces (by rw [← Lib.size_eq]; exact h)
theorem pickText_ne {p : PickT} (h : pickOk p = true) : pickText p ≠ ByteArray.empty := by
  have ho := pickOk_op h
  intro e
  have hz : (pickText p).size = 0 := by rw [e]; rfl
  unfold pickText at hz
  rw [h] at hz
  have hk : 1 ≤ p.key.size := by
    unfold pickOk plainOk at h
    simp only [Bool.and_eq_true, inR_iff] at h
    omega
  rcases ho with ho | ho | ho | ho | ho | ho <;> rw [ho] at hz <;> simp only [Bool.not_true, cond_false, cond_true, show ((1 : Int) == (1 : Int)) = true from rfl, show ((2 : Int) == (1 : Int)) = false from rfl, show ((2 : Int) == (2 : Int)) = true from rfl, show ((3 : Int) == (1 : Int)) = false from rfl, show ((3 : Int) == (2 : Int)) = false from rfl, show ((3 : Int) == (3 : Int)) = true from rfl,
    show ((4 : Int) == (1 : Int)) = false from rfl, show ((4 : Int) == (2 : Int)) = false from rfl, show ((4 : Int) == (3 : Int)) = false from rfl, show ((4 : Int) == (4 : Int)) = true from rfl, show ((5 : Int) == (1 : Int)) = false from rfl, show ((5 : Int) == (2 : Int)) = false from rfl, show ((5 : Int) == (3 : Int)) = false from rfl, show ((5 : Int) == (4 : Int)) = false from rfl, show ((5 : Int) == (5 : Int)) = true from rfl,
    show ((6 : Int) == (1 : Int)) = false from rfl, show ((6 : Int) == (2 : Int)) = false from rfl, show ((6 : Int) == (3 : Int)) = false from rfl, show ((6 : Int) == (4 : Int)) = false from rfl, show ((6 : Int) == (5 : Int)) = false from rfl, ByteArray.size_append] at hz <;> omega
theorem pickText_no {p : PickT} (h : pickOk p = false) : pickText p = ByteArray.empty := by unfold pickText; rw [h]; rfl
/-- Read, or not. -/
noncomputable def readP (p : PickT) (s : ByteArray) : PickT × Bool := cond (!(pickOk p) || !(sEq (pickText p) s)) (noPick, false) (p, true)
theorem readP_spec (p : PickT) (s : ByteArray) : cond (sEq s ByteArray.empty) (noPick, false) (cond (!(sEq (pickText p) s)) (noPick, false) (p, true)) = readP p s := by
  unfold readP
  cases hp : pickOk p
  · rw [pickText_no hp]
    cases he : sEq s ByteArray.empty
    · rw [sEq_comm, he]; rfl
    · rfl
  · cases he : sEq s ByteArray.empty
    · cases sEq (pickText p) s <;> rfl
    · have e := sEq_iff.1 he
      subst e
      have : sEq (pickText p) ByteArray.empty = false := by
        cases hh : sEq (pickText p) ByteArray.empty with
        | false => rfl
        | true => exact absurd (sEq_iff.1 hh) (pickText_ne hp)
      rw [this]; rfl
theorem readP_impl (p : PickT) (s : ByteArray) : cond (!(pickOk p)) (noPick, false) (cond (!(sEq (pickText p) s)) (noPick, false) (p, true)) = readP p s := by
  unfold readP
  cases pickOk p <;> cases sEq (pickText p) s <;> rfl
theorem last_append {a : ByteArray} {c : Nat} : (a ++ bs [c]).data.toList.getLast? = some (UInt8.ofNat c) := by
  have : (a ++ bs [c]).data.toList = a.data.toList ++ [UInt8.ofNat c] := by simp [bs]
  rw [this]; simp
/-- A text that doesn't end with a byte 41 is no listed pick's. -/
theorem readP_last {p : PickT} {s : ByteArray} (ho : p.op = 3 ∨ p.op = 4) (hs : s.data.toList.getLast? ≠ some 41) : readP p s = (noPick, false) := by
  unfold readP
  cases hp : pickOk p
  · rfl
  have : sEq (pickText p) s = false := by
    cases hh : sEq (pickText p) s with
    | false => rfl
    | true =>
      have e := sEq_iff.1 hh
      refine absurd ?_ hs
      rw [← e]
      unfold pickText
      rw [hp]
      rcases ho with ho | ho <;> rw [ho]
      · exact last_append
      · exact last_append
  rw [this]; rfl
theorem trimSuf_41 {l : List UInt8} (h : l.getLast? = some 41) : trimSuf (mkB l) (bs [41]) = mkB l.dropLast := by
  unfold trimSuf Lib.trimSuffix Lib.hasSuffix
  rw [data_mkB, show (bs [41]).data.toList = [41] from rfl]
  have hl : l = l.dropLast ++ [41] := by
    have hne : l ≠ [] := fun e => by rw [e] at h; cases h
    have := List.dropLast_concat_getLast hne
    rw [List.getLast?_eq_some_getLast hne] at h
    rw [Option.some.inj h] at this
    exact this.symm
  have hs : ([41] : List UInt8).isSuffixOf l = true := List.isSuffixOf_iff_suffix.2 ⟨l.dropLast, hl.symm⟩
  rw [if_pos hs, List.dropLast_eq_take]; rfl
theorem cut_last {s w : ByteArray} (hc : (cutS s w).2.2 = true) (hw : w.data.toList.getLast? = some 40) (hb : (cutS s w).2.1.data.toList.getLast? ≠ some 41) : s.data.toList.getLast? ≠ some 41 := by
  rcases Lib.indexB_cases s w with h | ⟨i, h, hi⟩
  · rw [cutS_miss h] at hc; cases hc
  rw [cutS_hit h] at hb
  simp only [Lib.extract_to_end, List.getLast?_drop] at hb
  split at hb
  · rename_i hle
    rcases Lib.index_spec s.data.toList w.data.toList with ⟨h1, _⟩ | ⟨i', h1, _, h2, _⟩
    · have h : Lib.index s.data.toList w.data.toList = i := h
      omega
    · have h : Lib.index s.data.toList w.data.toList = i := h
      have : i' = i := by omega
      subst this
      have hp : w.data.toList <+: s.data.toList.drop i' := List.isPrefixOf_iff_prefix.1 h2
      have he : w.data.toList = s.data.toList.drop i' := hp.eq_of_length (by
        have h3 := hp.length_le
        rw [List.length_drop] at h3 ⊢
        rw [Lib.size_eq w] at hle; omega)
      have hg := hw
      rw [he, List.getLast?_drop] at hg
      split at hg
      · cases hg
      · rw [hg]; intro e; cases e
  · exact hb
theorem readP_list {s w : ByteArray} {op : Int} (ho : op = 3 ∨ op = 4) (hc : (cutS s w).2.2 = true) (hw : w.data.toList.getLast? = some 40) :
    readP ⟨op, (cutS s w).1, listS (cutS s w).2.1⟩ s = readP (listedI s w op).1 s := by
  by_cases hb : (cutS s w).2.1.data.toList.getLast? = some 41
  · have e : listS (cutS s w).2.1 = splitS (trimSuf (cutS s w).2.1 (bs [41])) (bs [44]) := by
      have h1 : trimSuf (cutS s w).2.1 (bs [41]) = mkB (cutS s w).2.1.data.toList.dropLast := by
        have := trimSuf_41 hb
        rw [mkB_data] at this; exact this
      rw [h1, splitS_44, data_mkB]
      unfold listS
      have hz : Nat.beq (cutS s w).2.1.size 0 = false := by
        cases hh : Nat.beq (cutS s w).2.1.size 0 with
        | false => rfl
        | true =>
          have := Nat.eq_of_beq_eq_true hh
          rw [Lib.size_eq] at this
          rw [List.eq_nil_of_length_eq_zero this] at hb; cases hb
      rw [hz]; rfl
    unfold listedI
    rw [e]
  · have hl := cut_last hc hw hb
    rw [readP_last ho hl, readP_last (p := (listedI s w op).1) ho hl]
theorem cutPre_33 (s : ByteArray) : cutPre s (bs [33]) = cond (decide ((s.size : Int) > 0) && ((((s.data.getD 0 0).toNat : Nat) : Int) == (33 : Int))) (s.extract 1 s.size, true) (s, false) := by
  unfold cutPre Lib.trimPrefix Lib.hasPrefix
  rw [show (bs [33]).data.toList = [33] from rfl]
  obtain ⟨⟨l⟩⟩ := s
  cases l with
  | nil => rfl
  | cons b r =>
    have hsz : decide (((ByteArray.mk ⟨b :: r⟩).size : Int) > 0) = true := decide_eq_true (by rw [Lib.size_eq]; simp)
    have hp : ([33] : List UInt8).isPrefixOf (b :: r) = decide (b = 33) := isPreC 33 b r
    have hg : ((ByteArray.mk ⟨b :: r⟩).data.getD 0 0) = b := rfl
    rw [hsz, hg]
    simp only [hp, Bool.true_and]
    by_cases hb : b = 33
    · subst hb
      have he : (ByteArray.mk ⟨33 :: r⟩).extract 1 (ByteArray.mk ⟨33 :: r⟩).size = mkB r := by
        apply ba_ext
        rw [Lib.extract_to_end]; rfl
      simp only [decide_true, if_true, show ((((33 : UInt8).toNat : Nat) : Int) == (33 : Int)) = true from rfl, cond_true, he]
      rfl
    · have hn : (((b.toNat : Nat) : Int) == (33 : Int)) = false := by
        rw [beq_eq_false_iff_ne]
        intro e
        exact hb (UInt8.toNat_inj.1 (by have : (33 : UInt8).toNat = 33 := rfl; omega))
      simp only [decide_eq_false hb, hn, cond_false]
      rfl
theorem sm_cut {s w : ByteArray} (h : s.size ≤ 1048576) : smStr (cutS s w).1 = true ∧ smStr (cutS s w).2.1 = true ∧ (cutS s w).2.1.size ≤ 1048576 := by
  have := cutS_sz s w
  exact ⟨smStr_of (by omega), smStr_of (by omega), by omega⟩
theorem cut_room {s w : ByteArray} (hc : (cutS s w).2.2 = true) : (cutS s w).2.1.size + w.size ≤ s.size := by
  rcases Lib.indexB_cases s w with h | ⟨i, h, hi⟩
  · rw [cutS_miss h] at hc; cases hc
  · rw [cutS_hit h]; simp only [ByteArray.size_extract]; omega
theorem candOf_sm {s : ByteArray} (hz : s.size ≤ 1048576) : sm_pick (candOf s) = true := by
  have lst : ∀ (op : Int) (w : ByteArray), okI op = true → 1 ≤ w.size → (cutS s w).2.2 = true → sm_pick (listedI s w op).1 = true := fun op w ho hw hc => by
    obtain ⟨q1, q2, q3⟩ := sm_cut (w := w) hz
    have q4 := cut_room hc
    have q5 := trimSuf_sz (cutS s w).2.1 (bs [41])
    exact pick_mk ho q1 (sm_split (by omega))
  have spl : ∀ (op : Int) (w : ByteArray), okI op = true → sm_pick (splitI s w op).1 = true := fun op w ho => by
    obtain ⟨q1, q2, q3⟩ := sm_cut (w := w) hz
    exact pick_mk ho q1 (by simp only [smL, List.all_cons, List.all_nil, q2, List.length_cons, List.length_nil, Bool.and_self]; rfl)
  unfold candOf
  cases c1 : (cutS s (bs [32,105,110,32,40])).2.2
  · cases c2 : (cutS s (bs [32,110,111,116,105,110,32,40])).2.2
    · cases c3 : (cutS s (bs [33,61])).2.2
      · cases c4 : (cutS s (bs [61])).2.2
        · cases c5 : (cutPre s (bs [33])).2
          · exact pick_mk rfl (smStr_of hz) rfl
          · refine pick_mk rfl (smStr_of ?_) rfl
            rw [cutPre_33]
            cases (decide ((s.size : Int) > 0) && (((s.data.getD 0 0).toNat : Nat) : Int) == (33 : Int))
            · exact hz
            · simp only [cond_true, ByteArray.size_extract]; omega
        · exact spl 1 _ rfl
      · exact spl 2 _ rfl
    · exact lst 4 _ rfl (by decide) c2
  · exact lst 3 _ rfl (by decide) c1
theorem pickOf_sm {s : ByteArray} (h : smStr s = true) : sm_pick (pickOf s).1 = true := by
  unfold pickOf
  cases (!(pickOk (candOf s)) || !(sEq (pickText (candOf s)) s))
  · exact candOf_sm (bleN h)
  · rfl
end Go.Gm

/- A pick's text is read back to the pick. -/
namespace Go.Gm
open Go
/-- Signs that stand in no plain text. -/
def bare (b : UInt8) : Prop := b ≠ 32 ∧ b ≠ 33 ∧ b ≠ 61 ∧ b ≠ 44 ∧ b ≠ 40 ∧ b ≠ 41
theorem plainC_bare {i : Int} {b : UInt8} (h : plainC i ((b.toNat : Nat) : Int) = true) : bare b := by
  have key : ∀ n : Nat, n ∈ [32, 33, 61, 44, 40, 41] → plainC i (n : Int) = false := by
    intro n hn
    simp only [List.mem_cons, List.not_mem_nil, or_false] at hn
    rcases hn with rfl | rfl | rfl | rfl | rfl | rfl <;> cases h0 : (i == (0 : Int)) <;> simp [plainC, letter, digit, h0]
  have no : ∀ c : UInt8, c.toNat ∈ [32, 33, 61, 44, 40, 41] → b ≠ c := by
    intro c hc e
    subst e
    rw [key _ hc] at h; cases h
  exact ⟨no 32 (by decide), no 33 (by decide), no 61 (by decide), no 44 (by decide), no 40 (by decide), no 41 (by decide)⟩
theorem plain_bare {s : ByteArray} (h : plainOk s = true) : (∀ b ∈ s.data.toList, bare b) ∧ s.data.toList ≠ [] := by
  unfold plainOk at h
  simp only [Bool.and_eq_true, inR_iff, allN_iff] at h
  obtain ⟨h1, ⟨h2, _⟩, _⟩ := h
  refine ⟨fun b hb => ?_, fun e => ?_⟩
  · obtain ⟨j, hj⟩ := List.getElem?_of_mem hb
    have hjl := lt_of_get hj
    have := h1 j (Nat.zero_le _) (by rw [Lib.size_eq]; omega)
    have hg : byteAt s j = ((b.toNat : Nat) : Int) := by
      unfold byteAt
      have hi' : j < s.data.size := by simpa using hjl
      unfold Array.getD
      rw [dif_pos hi']
      rw [List.getElem?_eq_getElem hjl] at hj
      have e := Option.some.inj hj
      rw [← e]; simp
    rw [hg] at this
    exact plainC_bare this
  · rw [Lib.size_eq, e] at h2; simp at h2
/-- Nothing that begins with a byte stands where that byte stands nowhere. -/
theorem index_none {c : UInt8} {t : List UInt8} : ∀ {l r : List UInt8}, (∀ b ∈ l, b ≠ c) → Lib.index r (c :: t) = -1 → Lib.index (l ++ r) (c :: t) = -1
  | [], _, _, hr => hr
  | b :: l, r, h, hr => by
    have hb : b ≠ c := h b (by simp)
    refine index_cons_miss ?_ (index_none (fun x hx => h x (by simp [hx])) hr)
    simp only [List.isPrefixOf]
    rw [beq_eq_false_iff_ne.2 (Ne.symm hb)]; rfl
theorem index_at {c : UInt8} {t : List UInt8} : ∀ {l r : List UInt8}, (∀ b ∈ l, b ≠ c) → Lib.index (l ++ (c :: t ++ r)) (c :: t) = (l.length : Nat)
  | [], r, _ => index_cons_hit (List.isPrefixOf_iff_prefix.2 ⟨r, rfl⟩)
  | b :: l, r, h => by
    have hb : b ≠ c := h b (by simp)
    have ih := index_at (l := l) (t := t) (r := r) fun x hx => h x (by simp [hx])
    refine index_cons_next (l := l ++ (c :: t ++ r)) ?_ ih
    simp only [List.isPrefixOf]
    rw [beq_eq_false_iff_ne.2 (Ne.symm hb)]; rfl
theorem cut_at {c : UInt8} {t l r : List UInt8} (h : ∀ b ∈ l, b ≠ c) : cutS (mkB (l ++ (c :: t ++ r))) (mkB (c :: t)) = (mkB l, mkB r, true) := by
  have hi : Lib.indexB (mkB (l ++ (c :: t ++ r))) (mkB (c :: t)) = (l.length : Nat) := by
    show Lib.index _ _ = _
    rw [data_mkB, data_mkB]; exact index_at h
  rw [cutS_hit hi]
  refine Prod.ext ?_ (Prod.ext ?_ rfl)
  · apply ba_ext
    rw [Lib.extract_eq]
    simp [mkB]
  · apply ba_ext
    rw [Lib.extract_to_end, data_mkB, data_mkB, mkB_size]
    rw [List.drop_append, List.drop_eq_nil_of_le (by omega), List.nil_append, show l.length + (c :: t).length - l.length = (c :: t).length by omega, List.drop_left]
theorem cut_not {s w : List UInt8} (h : Lib.index s w = -1) : cutS (mkB s) (mkB w) = (mkB s, ByteArray.empty, false) :=
  cutS_miss (show Lib.index _ _ = -1 by rw [data_mkB, data_mkB]; exact h)
theorem index_bare {c : UInt8} {t l : List UInt8} (h : ∀ b ∈ l, b ≠ c) : Lib.index l (c :: t) = -1 := by
  have := index_none (c := c) (t := t) (r := []) h rfl
  rw [List.append_nil] at this; exact this
theorem splC_join : ∀ (xs : List (List UInt8)) (x : List UInt8), (∀ y ∈ x :: xs, ∀ b ∈ y, b ≠ 44) → splC 44 (Lib.join (x :: xs) [44]) = x :: xs
  | [], x, h => by rw [Lib.join_one]; exact splC_none 44 _ (h x (by simp))
  | y :: xs, x, h => by
    have ih := splC_join xs y fun z hz => h z (by simp only [List.mem_cons] at hz ⊢; exact .inr hz)
    have e : Lib.join (x :: y :: xs) [44] = x ++ 44 :: Lib.join (y :: xs) [44] := by simp [Lib.join]
    rw [e, splC_piece 44 _ _ (h x (by simp)), ih]
theorem join_bytes {c : UInt8} (hc : c ≠ 44) : ∀ (xs : List (List UInt8)), (∀ y ∈ xs, ∀ b ∈ y, b ≠ c) → ∀ b ∈ Lib.join xs [44], b ≠ c
  | [], _, b, hb => by simp [Lib.join] at hb
  | [x], h, b, hb => by rw [Lib.join_one] at hb; exact h x (by simp) b hb
  | x :: y :: xs, h, b, hb => by
    have ih := join_bytes hc (y :: xs) fun z hz => h z (by simp only [List.mem_cons] at hz ⊢; exact .inr hz)
    have e : Lib.join (x :: y :: xs) [44] = x ++ 44 :: Lib.join (y :: xs) [44] := by simp [Lib.join]
    rw [e] at hb
    rcases List.mem_append.1 hb with hb | hb
    · exact h x (by simp) b hb
    · rcases List.mem_cons.1 hb with rfl | hb
      · exact hc.symm
      · exact ih b hb
def W1 : List UInt8 := [32,105,110,32,40]
def W2 : List UInt8 := [32,110,111,116,105,110,32,40]
def W3 : List UInt8 := [33,61]
def W4 : List UInt8 := [61]
theorem candOf_eq (s : ByteArray) : candOf s = cond (cutS s (mkB W1)).2.2 (listedI s (mkB W1) 3).1
  (cond (cutS s (mkB W2)).2.2 (listedI s (mkB W2) 4).1
  (cond (cutS s (mkB W3)).2.2 (splitI s (mkB W3) 2).1
  (cond (cutS s (mkB W4)).2.2 (splitI s (mkB W4) 1).1
  (cond (cutPre s (bs [33])).2 ⟨6, (cutPre s (bs [33])).1, []⟩ ⟨5, s, []⟩)))) := rfl
theorem vals_back {xs : List ByteArray} (h0 : xs ≠ []) (h : ∀ v ∈ xs, ∀ b ∈ v.data.toList, bare b) : splitS (trimSuf (mkB (Lib.join (xs.map (·.data.toList)) [44] ++ [41])) (bs [41])) (bs [44]) = xs := by
  rw [trimSuf_41 (by simp), List.dropLast_concat, splitS_44, data_mkB]
  cases xs with
  | nil => exact absurd rfl h0
  | cons x r =>
    rw [List.map_cons, splC_join]
    · rw [← List.map_cons (f := fun x : ByteArray => x.data.toList), List.map_map]
      have : (mkB ∘ fun x : ByteArray => x.data.toList) = id := by funext x; exact mkB_data x
      rw [this, List.map_id]
    · intro y hy b hb
      rw [← List.map_cons (f := fun x : ByteArray => x.data.toList)] at hy
      obtain ⟨v, hv, rfl⟩ := List.mem_map.1 hy
      exact (h v hv b hb).2.2.2.1
theorem back1 {K V : List UInt8} (hK : ∀ b ∈ K, bare b) (hV : ∀ b ∈ V, bare b) : candOf (mkB (K ++ (W4 ++ V))) = ⟨1, mkB K, [mkB V]⟩ := by
  have no : ∀ c : UInt8, c ≠ 61 → (∀ b, bare b → b ≠ c) → ∀ b ∈ K ++ (W4 ++ V), b ≠ c := by
    intro c hc hb b hm
    simp only [List.mem_append, W4, List.mem_singleton] at hm
    rcases hm with hm | rfl | hm
    · exact hb b (hK b hm)
    · exact hc.symm
    · exact hb b (hV b hm)
  rw [candOf_eq, cut_not (w := W1) (index_bare (no 32 (by decide) fun b h => h.1)), cut_not (w := W2) (index_bare (no 32 (by decide) fun b h => h.1)), cut_not (w := W3) (index_bare (no 33 (by decide) fun b h => h.2.1))]
  have h4 : cutS (mkB (K ++ (W4 ++ V))) (mkB W4) = (mkB K, mkB V, true) := cut_at (c := 61) (t := []) fun b hb => (hK b hb).2.2.1
  unfold splitI
  rw [h4]; rfl
theorem back2 {K V : List UInt8} (hK : ∀ b ∈ K, bare b) (hV : ∀ b ∈ V, bare b) : candOf (mkB (K ++ (W3 ++ V))) = ⟨2, mkB K, [mkB V]⟩ := by
  have no : ∀ b ∈ K ++ (W3 ++ V), b ≠ 32 := by
    intro b hm
    simp only [List.mem_append, W3, List.mem_cons, List.not_mem_nil, or_false] at hm
    rcases hm with hm | (rfl | rfl) | hm
    · exact (hK b hm).1
    · decide
    · decide
    · exact (hV b hm).1
  rw [candOf_eq, cut_not (w := W1) (index_bare no), cut_not (w := W2) (index_bare no)]
  have h3 : cutS (mkB (K ++ (W3 ++ V))) (mkB W3) = (mkB K, mkB V, true) := cut_at (c := 33) (t := [61]) fun b hb => (hK b hb).2.1
  unfold splitI
  rw [h3]; rfl
theorem back3 {K : List UInt8} {xs : List ByteArray} (hK : ∀ b ∈ K, bare b) (h0 : xs ≠ []) (h : ∀ v ∈ xs, ∀ b ∈ v.data.toList, bare b) :
    candOf (mkB (K ++ (W1 ++ (Lib.join (xs.map (·.data.toList)) [44] ++ [41])))) = ⟨3, mkB K, xs⟩ := by
  have h1 := cut_at (c := 32) (t := [105,110,32,40]) (l := K) (r := Lib.join (xs.map (·.data.toList)) [44] ++ [41]) fun b hb => (hK b hb).1
  have h1 : cutS (mkB (K ++ (W1 ++ (Lib.join (xs.map (·.data.toList)) [44] ++ [41])))) (mkB W1) = _ := h1
  rw [candOf_eq]
  unfold listedI
  rw [h1]
  simp only [cond_true, vals_back h0 h]
theorem back4 {K : List UInt8} {xs : List ByteArray} (hK : ∀ b ∈ K, bare b) (h0 : xs ≠ []) (h : ∀ v ∈ xs, ∀ b ∈ v.data.toList, bare b) :
    candOf (mkB (K ++ (W2 ++ (Lib.join (xs.map (·.data.toList)) [44] ++ [41])))) = ⟨4, mkB K, xs⟩ := by
  have hJ : ∀ b ∈ Lib.join (xs.map (·.data.toList)) [44] ++ [41], b ≠ 32 := by
    intro b hb
    rcases List.mem_append.1 hb with hb | hb
    · refine join_bytes (by decide) _ (fun y hy b hb => ?_) b hb
      obtain ⟨v, hv, rfl⟩ := List.mem_map.1 hy
      exact (h v hv b hb).1
    · rw [List.mem_singleton.1 hb]; decide
  have n1 : Lib.index (W2 ++ (Lib.join (xs.map (·.data.toList)) [44] ++ [41])) W1 = -1 := by
    have hz := index_bare (c := 32) (t := [105,110,32,40]) hJ
    refine index_cons_miss rfl (index_cons_miss rfl (index_cons_miss rfl (index_cons_miss rfl (index_cons_miss rfl (index_cons_miss rfl (index_cons_miss rfl (index_cons_miss rfl hz)))))))
  rw [candOf_eq, cut_not (w := W1) (index_none (fun b hb => (hK b hb).1) n1)]
  have h1 := cut_at (c := 32) (t := [110,111,116,105,110,32,40]) (l := K) (r := Lib.join (xs.map (·.data.toList)) [44] ++ [41]) fun b hb => (hK b hb).1
  have h1 : cutS (mkB (K ++ (W2 ++ (Lib.join (xs.map (·.data.toList)) [44] ++ [41])))) (mkB W2) = _ := h1
  unfold listedI
  rw [h1]
  simp only [cond_true, cond_false, vals_back h0 h]
theorem back5 {K : List UInt8} (hK : ∀ b ∈ K, bare b) : candOf (mkB K) = ⟨5, mkB K, []⟩ := by
  rw [candOf_eq, cut_not (w := W1) (index_bare fun b hb => (hK b hb).1), cut_not (w := W2) (index_bare fun b hb => (hK b hb).1), cut_not (w := W3) (index_bare fun b hb => (hK b hb).2.1), cut_not (w := W4) (index_bare fun b hb => (hK b hb).2.2.1)]
  have : (cutPre (mkB K) (bs [33])).2 = false := by
    show ([33] : List UInt8).isPrefixOf (mkB K).data.toList = false
    rw [data_mkB]
    cases K with
    | nil => rfl
    | cons b r => rw [isPreC]; exact decide_eq_false (hK b (by simp)).2.1
  rw [this]; rfl
theorem back6 {K : List UInt8} (hK : ∀ b ∈ K, bare b) : candOf (mkB (33 :: K)) = ⟨6, mkB K, []⟩ := by
  have n1 : ∀ b ∈ (33 : UInt8) :: K, b ≠ 32 := by
    intro b hb
    rcases List.mem_cons.1 hb with rfl | hb
    · decide
    · exact (hK b hb).1
  have n3 : Lib.index (33 :: K) W3 = -1 := by
    refine index_cons_miss ?_ (index_bare (c := 33) fun b hb => (hK b hb).2.1)
    cases K with
    | nil => rfl
    | cons b r =>
      have := (hK b (by simp)).2.2.1
      simp only [W3, List.isPrefixOf, Bool.and_true]
      rw [beq_eq_false_iff_ne.2 (Ne.symm this), Bool.and_false]
  have n4 : ∀ b ∈ (33 : UInt8) :: K, b ≠ 61 := by
    intro b hb
    rcases List.mem_cons.1 hb with rfl | hb
    · decide
    · exact (hK b hb).2.2.1
  rw [candOf_eq, cut_not (w := W1) (index_bare n1), cut_not (w := W2) (index_bare n1), cut_not n3, cut_not (w := W4) (index_bare n4)]
  have : cutPre (mkB (33 :: K)) (bs [33]) = (mkB K, true) := by
    unfold cutPre Lib.trimPrefix Lib.hasPrefix
    rw [data_mkB, show (bs [33]).data.toList = [33] from rfl, isPreC]; rfl
  rw [this]; rfl
theorem candOf_text {p : PickT} (h : pickOk p = true) : candOf (pickText p) = p := by
  have ho := pickOk_op h
  have ht := h
  unfold pickOk at h
  simp only [Bool.and_eq_true] at h
  obtain ⟨hv, hk, hn⟩ := h
  obtain ⟨hK, _⟩ := plain_bare hk
  have hV : ∀ v ∈ p.vals, ∀ b ∈ v.data.toList, bare b := by
    intro v hm
    obtain ⟨j, hj⟩ := List.getElem?_of_mem hm
    unfold valsOk at hv
    have := allN_iff.1 hv j (Nat.zero_le _) (by have := lt_of_get hj; omega)
    unfold valC at this
    simp only [Bool.and_eq_true] at this
    have h1 := this.1
    rw [atI_of (t := .str) hj] at h1
    exact (plain_bare h1).1
  obtain ⟨op, key, vals⟩ := p
  have ek := mkB_data key
  simp only at ho hn hK hV
  simp only [Bool.or_eq_true, Bool.and_eq_true, beq_iff_eq, inR_iff] at hn
  unfold pickText
  rw [ht]
  rcases ho with rfl | rfl | rfl | rfl | rfl | rfl
  · obtain ⟨v, rfl⟩ : ∃ v, vals = [v] := List.length_eq_one_iff.1 (by omega)
    have e : key ++ bs [61] ++ v = mkB (key.data.toList ++ (W4 ++ v.data.toList)) := ba_ext (by simp [bs, W4, mkB])
    have hb := back1 hK (hV v (by simp))
    rw [← e, mkB_data, mkB_data] at hb
    exact hb
  · obtain ⟨v, rfl⟩ : ∃ v, vals = [v] := List.length_eq_one_iff.1 (by omega)
    have e : key ++ bs [33,61] ++ v = mkB (key.data.toList ++ (W3 ++ v.data.toList)) := ba_ext (by simp [bs, W3, mkB])
    have hb := back2 hK (hV v (by simp))
    rw [← e, mkB_data, mkB_data] at hb
    exact hb
  · have h0 : vals ≠ [] := fun e => by subst e; simp at hn
    have e : key ++ bs [32,105,110,32,40] ++ joinS vals (bs [44]) ++ bs [41] = mkB (key.data.toList ++ (W1 ++ (Lib.join (vals.map (·.data.toList)) [44] ++ [41]))) := ba_ext (by simp [bs, W1, mkB, joinS])
    have hb := back3 hK h0 hV
    rw [← e, mkB_data] at hb
    exact hb
  · have h0 : vals ≠ [] := fun e => by subst e; simp at hn
    have e : key ++ bs [32,110,111,116,105,110,32,40] ++ joinS vals (bs [44]) ++ bs [41] = mkB (key.data.toList ++ (W2 ++ (Lib.join (vals.map (·.data.toList)) [44] ++ [41]))) := ba_ext (by simp [bs, W2, mkB, joinS])
    have hb := back4 hK h0 hV
    rw [← e, mkB_data] at hb
    exact hb
  · obtain rfl : vals = [] := List.eq_nil_of_length_eq_zero (by omega)
    have hb := back5 hK
    rw [mkB_data] at hb
    exact hb
  · obtain rfl : vals = [] := List.eq_nil_of_length_eq_zero (by omega)
    have e : bs [33] ++ key = mkB (33 :: key.data.toList) := ba_ext (by simp [bs, mkB])
    have hb := back6 hK
    rw [← e, mkB_data] at hb
    exact hb
theorem pickOf_text {p : PickT} (h : pickOk p = true) : pickOf (pickText p) = (p, true) := by
  unfold pickOf
  rw [candOf_text h, h, sEq_self]; rfl
theorem pickOf_yes {s : ByteArray} (h : (pickOf s).2 = true) : pickText (pickOf s).1 = s := by
  unfold pickOf at h ⊢
  cases hc : (!(pickOk (candOf s)) || !(sEq (pickText (candOf s)) s))
  · simp only [Bool.or_eq_false_iff, Bool.not_eq_false'] at hc
    exact sEq_iff.1 hc.2
  · rw [hc] at h; cases h
theorem sum_60 : ∀ (xs : List ByteArray), (∀ v ∈ xs, v.size ≤ 60) → (xs.map ByteArray.size).sum ≤ 60 * xs.length
  | [], _ => Nat.le_refl _
  | x :: r, h => by
    have := sum_60 r fun v hv => h v (by simp [hv])
    have := h x (by simp)
    simp only [List.map_cons, List.sum_cons, List.length_cons]; omega
theorem pickText_sz (p : PickT) : (pickText p).size ≤ 1000 := by
  cases h : pickOk p
  · rw [pickText_no h]; exact Nat.zero_le _
  have ho := pickOk_op h
  have ht := h
  unfold pickOk at h
  simp only [Bool.and_eq_true] at h
  obtain ⟨hv, hk, hn⟩ := h
  have h60 : ∀ s : ByteArray, plainOk s = true → s.size ≤ 60 := fun s h => by
    unfold plainOk at h
    simp only [Bool.and_eq_true, inR_iff] at h
    omega
  have hV : ∀ v ∈ p.vals, v.size ≤ 60 := by
    intro v hm
    obtain ⟨j, hj⟩ := List.getElem?_of_mem hm
    unfold valsOk at hv
    have := allN_iff.1 hv j (Nat.zero_le _) (by have := lt_of_get hj; omega)
    unfold valC at this
    simp only [Bool.and_eq_true] at this
    have h1 := this.1
    rw [atI_of (t := .str) hj] at h1
    exact h60 v h1
  have hk := h60 _ hk
  have hs := sum_60 p.vals hV
  have hj := joinS_size p.vals (bs [44])
  have h44 : (bs [44]).size = 1 := rfl
  have hl : p.vals.length ≤ 4 := by
    simp only [Bool.or_eq_true, Bool.and_eq_true, beq_iff_eq, inR_iff] at hn
    omega
  have hv0 : (atI (t := .str) p.vals 0).size ≤ 60 := by
    by_cases h0 : 0 < p.vals.length
    · exact hV _ (List.mem_of_getElem? (atI_lt (t := .str) h0))
    · simp only [atI, List.getD_eq_getElem?_getD, List.getElem?_eq_none (Nat.le_of_not_lt h0), Option.getD_none]; decide
  have z1 : (bs [61]).size = 1 := rfl
  have z2 : (bs [33,61]).size = 2 := rfl
  have z3 : (bs [32,105,110,32,40]).size = 5 := rfl
  have z4 : (bs [32,110,111,116,105,110,32,40]).size = 8 := rfl
  have z5 : (bs [41]).size = 1 := rfl
  have z6 : (bs [33]).size = 1 := rfl
  have hjl : p.vals.length * (bs [44]).size ≤ 4 := by rw [h44]; omega
  unfold pickText
  rw [ht]
  simp only [Bool.not_true, cond_false]
  cases p.op == (1 : Int)
  · cases p.op == (2 : Int)
    · cases p.op == (3 : Int)
      · cases p.op == (4 : Int)
        · cases p.op == (5 : Int)
          · simp only [cond_false, ByteArray.size_append]; omega
          · simp only [cond_false, cond_true]; omega
        · simp only [cond_false, cond_true, ByteArray.size_append]; omega
      · simp only [cond_false, cond_true, ByteArray.size_append]; omega
    · simp only [cond_false, cond_true, ByteArray.size_append]; omega
  · simp only [cond_true, ByteArray.size_append]; omega
end Go.Gm

/- The closing of a row, with what is known of the world at the start. -/
namespace Go.Gm
open Go

end Go.Gm

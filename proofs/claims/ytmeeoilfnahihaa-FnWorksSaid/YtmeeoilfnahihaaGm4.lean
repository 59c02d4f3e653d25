/- The G-machine, part 4: an evaluator of translated code on typed values, and that it is sound. No conditions. -/
import Derived.Test.YtmeeoilfnahihaaGm3
import Derived.ChangeCalls
import Derived.RowKit3
import Derived.Shelf.Strings.OnBuilder
import Derived.Laws.CopyRow
import Derived.Deep.RegionLaw
import Derived.Below
import Derived.Laws.Cover4
import Derived.Handed
/- A law's row from its contract. -/
namespace Go.Gm
open Go Go.ChangeShapes Go.WideShapes Go.RowKit

variable {H : Type} {en : TypeId × Value → H} {P : Program} {w : World} {tb : Tab}

/-- Typed arguments, each no longer than anything can be. -/
inductive DsOk : List Ty → List Dt → Prop
  | nil : DsOk [] []
  | cons {t : Ty} {ts : List Ty} {x : El t} {ds : List Dt} (hx : ∀ c ∈ enc t x, WideC c) (h : DsOk ts ds) : DsOk (t :: ts) (.d t x :: ds)
def Codes (tb : Tab) : List Nat → List Ty → Prop
  | [], [] => True
  | T :: Ts, t :: ts => aget tb.code T = some t ∧ Codes tb Ts ts
  | _, _ => False

theorem form_of (hOk : tb.Ok P) {T : Nat} {t : Ty} (hc : aget tb.code T = some t) {base : Nat} {v : Value} (hv : Value.okWide P w .any base T v) {us : List Value} (hus : v.cells.toList = us) {x : El t} (hr : RowL w (AnyB w) (enc t x) us) : ValRd w (AnyB w) t x v := by
  have hrow : RowRd w (AnyB w) (enc t x) us.toArray := ⟨by simpa using hr.len, fun j c hj => by simpa using hr.get j c hj⟩
  have hu := hOk.und (T, t) (aget_mem hc)
  refine ⟨us.toArray, ?_, hrow⟩
  have ea : v.cells = us.toArray := by rw [← hus]
  have str : isSt t = true → (∃ fs, P.underlying T = some (.struct fs)) → Form t v us.toArray := by
    intro hs ⟨fs, hfs⟩
    simp only [Value.okWide, hfs] at hv
    obtain ⟨cs, rfl, _, _⟩ := hv
    simp only [Form, hs, if_true]
    rw [← ea]; rfl
  have one : isSt t = false → (∀ c ∈ enc t x, ∀ z, CRd w (AnyB w) c z → flatB z = true) → us.length = 1 → (∀ cs, v ≠ .agg cs) → Form t v us.toArray := by
    intro hs hfl hl hna
    have hv1 : v.cells = #[v] := by cases v <;> first | rfl | exact absurd rfl (hna _)
    rw [hv1] at ea
    simp only [Form, hs, Bool.false_eq_true, if_false]
    refine ⟨ea.symm, ?_⟩
    cases us with
    | nil => simp at hl
    | cons u us =>
      have hlen := hr.len
      obtain ⟨c, hcc⟩ : ∃ c, (enc t x)[0]? = some c := by
        cases he : enc t x with
        | nil => rw [he] at hlen; simp at hlen
        | cons c cs => exact ⟨c, rfl⟩
      obtain ⟨z, hz, hrd⟩ := hr.get 0 c hcc
      simp only [List.getElem?_cons_zero, Option.some.injEq] at hz
      subst hz
      have : v = u := by
        have := congrArg (fun a => a[0]?) ea
        simpa using this
      rw [this]
      exact hfl c (List.mem_of_getElem? hcc) u hrd
  have hlen := hr.len
  cases t with
  | i k =>
    have hu : P.underlying T = some (.int k) := hu
    refine one rfl (fun c hc z hz => ?_) (by simpa [enc] using hlen) (fun cs e => ?_)
    · have : c = .v (.int k x) := by simpa [enc] using hc
      subst this; cases hz; rfl
    · subst e; simp [Value.okWide, hu, Cell.okWide, Cell.ok] at hv
  | bool =>
    have hu : P.underlying T = some .bool := hu
    refine one rfl (fun c hc z hz => ?_) (by simpa [enc] using hlen) (fun cs e => ?_)
    · have : c = .v (.bool x) := by simpa [enc] using hc
      subst this; cases hz; rfl
    · subst e; simp [Value.okWide, hu, Cell.okWide, Cell.ok] at hv
  | str =>
    have hu : P.underlying T = some .string := hu
    refine one rfl (fun c hc z hz => ?_) (by simpa [enc] using hlen) (fun cs e => ?_)
    · have : c = .v (.string x) := by simpa [enc] using hc
      subst this; cases hz; rfl
    · subst e; simp [Value.okWide, hu, Cell.okWide, Cell.ok] at hv
  | sl e =>
    obtain ⟨el, hu, _⟩ := (hu : ∃ el, P.underlying T = some (.slice el) ∧ (tb.env []).code el = some e)
    refine one rfl (fun c hc z hz => ?_) (by simpa [enc] using hlen) (fun cs e' => ?_)
    · have : c = .l e x := by simpa [enc] using hc
      subst this
      obtain ⟨av, h0, h1⟩ := hz
      obtain ⟨a, cap, e1, _⟩ := h1 [] _ rfl
      rw [← h0, e1]; rfl
    · subst e'; simp [Value.okWide, hu, Cell.okWide, Cell.ok] at hv
  | _ => exact str rfl hu

theorem open_args {wl : World} (hOk : tb.Ok P) (hT : tileChk tb = true) {base : Nat} : ∀ {Ts : List Nat} {ts : List Ty} {vs : List Value} {dd : List (DataW H)} {ps : List MemPlace}, Codes tb Ts ts → (∀ (j : Nat) T v, Ts[j]? = some T → vs[j]? = some v → Value.okWide P w .any base T v) →
    DataW.TrodAll en P w 0 (fun _ => true) true Ts vs dd ps → ∃ ds : List Dt, ArgsOk wl w (AnyB w) (ts.map fun _ => .ro) ds vs (ts.map fun _ _ => False) ∧ DsOk ts ds
  | [], [], vs, dd, ps, _, _, h => by
    obtain ⟨rfl, _, _⟩ := trodAll_nil h
    exact ⟨[], .nil, .nil⟩
  | [], _ :: _, _, _, _, h, _, _ => h.elim
  | _ :: _, [], _, _, _, h, _, _ => h.elim
  | T :: Ts, t :: ts, vs, dd, ps, hc, hv, h => by
    obtain ⟨v, vs', d, ds', p, q, rfl, rfl, rfl, h1, h2⟩ := trodAll_cons h
    obtain ⟨fuel, hf⟩ := h1
    obtain ⟨x, hx1, hx2⟩ := open_row hOk hT fuel T t _ _ hc.1 hf
    obtain ⟨ds, h3, h4⟩ := open_args hOk hT hc.2 (fun j T' v' hj hj' => hv (j + 1) T' v' (by simpa using hj) (by simpa using hj')) h2
    exact ⟨.d t x :: ds, ArgsOk.cons (m := .ro) (F := fun _ => False) (show ArgOk wl w (AnyB w) .ro (.d t x) v _ from form_of hOk hc.1 (hv 0 T v rfl rfl) rfl hx1) h3, .cons hx2 h4⟩

theorem trodAll_later (hl : laidOutB P = true) {W W' : World} (hb : Below W.heap.size W W') : ∀ {Ts : List Nat} {vs : List Value} {dd : List (DataW H)} {ps : List MemPlace}, (∀ T ∈ Ts, P.readableRec T = true ∧ T < P.types.size) →
    DataW.TrodAll en P W 0 (fun _ => true) true Ts vs dd ps → (∀ x ∈ ps, x.block < W.heap.size) → DataW.TrodAll en P W' 0 (fun b => decide (b < W.heap.size)) true Ts vs dd ps
  | [], vs, dd, ps, _, h, _ => by
    obtain ⟨rfl, rfl, rfl⟩ := trodAll_nil h
    exact trodAll_mk0
  | T :: Ts, vs, dd, ps, hr, h, hlt => by
    obtain ⟨v, vs', d, ds', p, q, rfl, rfl, rfl, h1, h2⟩ := trodAll_cons h
    exact ⟨p, q, Below.trod hl (hr T (by simp)).1 (hr T (by simp)).2 h1 hb (fun x hx => hlt x (by simp [hx])), trodAll_later hl hb (fun T' hT' => hr T' (by simp [hT'])) h2 (fun x hx => hlt x (by simp [hx])), rfl⟩

theorem ArgsOk.kept {w : World} : ∀ {ts : List Ty} {ds : List Dt} {us : List Value} {Fs : List (Nat → Prop)}, ArgsOk w w (AnyB w) (ts.map fun _ => .ro) ds us Fs → ArgsOk w w (AnyB w) (ts.map fun _ => .kp) ds us Fs
  | [], _, _, _, h => by cases h; exact .nil
  | t :: ts, _, _, _, h => by
    cases h with
    | cons h hs =>
      rename_i d ds u us F Fs
      refine ArgsOk.cons (m := .kp) ?_ (ArgsOk.kept hs)
      cases d with
      | clo _ _ => exact h
      | d t x =>
        obtain ⟨us, hf, hr⟩ := h
        refine ⟨us, hf, hr.1, fun j c hj => ?_⟩
        obtain ⟨z, hz, hc⟩ := hr.2 j c hj
        refine ⟨z, hz, ?_⟩
        cases c with
        | v x => exact hc
        | l t xs => exact RdSl.mono (fun _ _ => trivial) hc

/-- What a law's row asks, from its contract: it returns true; its arguments read as they did. -/
theorem law_contract (hOk : tb.Ok P) (hT : tileChk tb = true) (hl : laidOutB P = true) {f : Nat} {fn : Func} {Ts : List Nat} {ts : List Ty} (hp : fn.params.toList = Ts) (hc : Codes tb Ts ts) {q : List Dt → Option (Bool × List Dt)} {m : Am} (hm : m = .ro ∨ m = .kp)
    (hs : SpecOk P f (Spec.of (ts.map fun _ => m) [false] true q)) (hq : ∀ ds, DsOk ts ds → q ds = some (true, [.d .bool true])) {Tb : Nat} (hres : fn.resultTypes = #[Tb]) (hTb : P.underlying Tb = some .bool)
    (hrd : Ts.all (fun T => P.readableRec T && decide (T < P.types.size)) = true) {s : ChangeSpec} (hvars : s.vars = []) (hfn : ∀ ds : List (DataW H), ds.length = Ts.length → s.fn H ds = { results := [.lit (.bool true)], args := ds })
    {apart : Bool} (W : World) (base : Nat) (args : Array Value) (dd gs : List (DataW H)) (before : List MemPlace)
    (hval : ∀ (j : Nat) t v, fn.params[j]? = some t → args[j]? = some v → Value.okWide P W .any base t v) (hW : DataW.Whole en P fn.params.toList s.vars apart W args.toList dd gs before) (hWl : W.ShapedOpen P) :
    Calls P f args W fun e W' => ∃ v, e = .returned v ∧ s.post en P fn apart true false false W args v W' := by
  have hW0 := hW
  obtain ⟨p, q', hA, hV, hbe, hfz, hnd⟩ := hW
  rw [hvars] at hV
  obtain ⟨hgs, hq'⟩ := trodVars_none hV
  subst hgs hq'
  rw [hp] at hA
  obtain ⟨ds, hargs, hds⟩ := open_args hOk hT (base := base) hc (fun j T v hj hj' => hval j T v (by
    have : fn.params.toList[j]? = some T := by rw [hp]; exact hj
    simpa using this) (by simpa using hj')) hA
  replace hargs : ArgsOk W W (AnyB W) (ts.map fun _ => m) ds args.toList (ts.map fun _ _ => False) := by
    rcases hm with rfl | rfl
    · exact hargs
    · exact hargs.kept
  have hap : PairApart (ts.map fun _ _ => False : List (Nat → Prop)) := by
    unfold PairApart
    rw [List.pairwise_map]
    exact List.pairwise_iff_getElem.2 fun _ _ _ _ _ k h => h.elim
  have hout := hs (R := List Dt) ds some [.d .bool true] (by
    show (match q ds with | some (g, outs) => cond g (some outs) none | none => none) = some [.d .bool true]
    rw [hq ds hds]; rfl) W W args.toList (fun _ => False) (AnyB W) _ hWl (fun b o hb => ⟨Array.getElem?_eq_some_iff.1 hb |>.1, hb⟩) hargs hap (fun F hF k hk => by
      obtain ⟨_, _, rfl⟩ := List.mem_map.1 hF; exact hk) (fun k _ h => h) (fun k hk => hk) (fun k hk => hk.elim)
  have hargs' : args.toList.toArray = args := by simp
  replace hout : Calls P f args.toList.toArray W _ := hout
  rw [hargs'] at hout
  refine hout.mono ?_
  rintro e W' ⟨outs, ho, hA'⟩
  have ho : outs = [.d .bool true] := Option.some.inj ho
  subst ho
  obtain ⟨rs, Gs, Bs, he, hRes, _⟩ := hA'.out
  have hv : e = .returned (.bool true) := by
    have hRes : RessOk W W' true [false] [.d .bool true] rs Gs := hRes
    cases hRes with
    | val h hs' =>
      rename_i u us F Fs
      cases hs'
      simp only [if_true] at h
      obtain ⟨us, hform, hrow⟩ := h
      obtain ⟨e1, _⟩ := hform.size rfl
      obtain ⟨Fs', _, _, _, hr⟩ := hrow
      obtain ⟨z, hz, hcz⟩ := hr 0 (.v (.bool true)) rfl
      subst e1
      have hcz : z = .bool true := hcz
      subst hcz
      have hz := (Option.some.inj hz)
      rw [he]
      show Ending.returned (packV [_]) = _
      rw [show packV [_] = _ from rfl]
      exact congrArg Ending.returned hz
  have hB : Below W.heap.size W W' := ⟨hA'.kept.os, hA'.kept.tape, hA'.kept.output, hA'.kept.same.1, fun k hk => hA'.kept.same.2 k hk (fun h => h)⟩
  refine ⟨_, hv, ?_⟩
  have hlen : dd.length = Ts.length := (trodAll_length hA).2
  have hfn' := hfn (dd ++ []) (by simpa using hlen)
  refine ⟨dd, [], before, [], p, [], hW0, ?_, ?_, ?_, hB.frame _, fun h => by cases h⟩
  · rw [hfn', hres]
    exact trodAll_mk1 ⟨1, by simp [DataW.trod, Value.cells, hTb]⟩
  · rw [hfn', hp]
    simp only [List.append_nil]
    exact trodAll_later hl hB (fun T hT' => by simpa using List.all_eq_true.1 hrd T hT') hA (fun x hx => hW0.lt x (by rw [hbe]; simp [hx]))
  · rw [hvars, hfn']
    exact rfl

end Go.Gm

/- Plain functions: picks. -/
namespace Go.Gm
open Go

def inR (x lo hi : Int) : Bool := decide (x ≥ lo) && decide (x ≤ hi)
def letter (c : Int) : Bool := (decide (c ≥ (97 : Int)) && decide (c ≤ (122 : Int))) || (decide (c ≥ (65 : Int)) && decide (c ≤ (90 : Int)))
def digit (c : Int) : Bool := decide (c ≥ (48 : Int)) && decide (c ≤ (57 : Int))
def byteAt (s : ByteArray) (j : Nat) : Int := (((ByteArray.data s).getD j 0).toNat : Int)
/-- One sign of a plain text. -/
def plainC (i c : Int) : Bool := letter c || (!(i == (0 : Int)) && (digit c || ((c == (95 : Int)) || ((c == (46 : Int)) || ((c == (47 : Int)) || (c == (45 : Int)))))))
noncomputable def plainOk (s : ByteArray) : Bool :=
  allN (fun j => plainC (j : Int) (byteAt s j)) 0 s.size && (inR (s.size : Int) 1 60 && (!(sEq s (bs [110,117,108,108])) && (!(sEq s (bs [116,114,117,101])) && !(sEq s (bs [102,97,108,115,101])))))
/-- One value of a row of them: it is plain and above the one ahead of it. -/
noncomputable def valC (xs : List ByteArray) (j : Nat) : Bool := plainOk (atI (t := .str) xs j) && (!(decide ((j : Int) > (0 : Int))) || sLt (atI (t := .str) xs (j - 1)) (atI (t := .str) xs j))
noncomputable def valsOk (xs : List ByteArray) : Bool := allN (valC xs) 0 xs.length
noncomputable def pickOk (p : PickT) : Bool :=
  valsOk p.vals && (plainOk p.key && (((p.op == (1 : Int) || p.op == (2 : Int)) && inR (p.vals.length : Int) 1 1) || (((p.op == (3 : Int) || p.op == (4 : Int)) && inR (p.vals.length : Int) 1 4) || ((p.op == (5 : Int) || p.op == (6 : Int)) && inR (p.vals.length : Int) 0 0))))
theorem okStr_at {xs : List ByteArray} (h : xs.all okStr = true) {j : Nat} (hj : j < xs.length) : okStr (atI (t := .str) xs j) = true := by
  obtain ⟨x, hx, _⟩ := drop_get hj
  rw [atI_of (t := .str) hx]; exact List.all_eq_true.1 h x (List.mem_of_getElem? hx)

end Go.Gm

/- Plain functions and laws of all structs: sizes, sameness. Printed by mkp3.py of this session. -/
namespace Go.Gm
open Go

def okI (n : Int) : Bool := decide (-9223372036854775808 ≤ n) && decide (n ≤ 9223372036854775807)
theorem okI_iff {n : Int} : okI n = true ↔ -9223372036854775808 ≤ n ∧ n ≤ 9223372036854775807 := by simp [okI]
def smStr (s : ByteArray) : Bool := Nat.ble s.size 1048576
def smL {α : Type} (f : α → Bool) (xs : List α) : Bool := Nat.ble xs.length 1048576 && xs.all f
theorem okStr_sm {s : ByteArray} (h : smStr s = true) : okStr s = true := Nat.ble_eq_true_of_le (Nat.le_trans (bleN h) (by decide))
theorem okL_sm {α : Type} {f g : α → Bool} {xs : List α} (h : smL f xs = true) (hf : ∀ x, f x = true → g x = true) : okL g xs = true := by
  simp only [smL, Bool.and_eq_true] at h
  unfold okL
  rw [Nat.ble_eq_true_of_le (Nat.le_trans (bleN h.1) (by decide : 1048576 ≤ WIDE)), Bool.true_and, List.all_eq_true]
  exact fun x hx => hf x (List.all_eq_true.1 h.2 x hx)
theorem smL_len {α : Type} {f : α → Bool} {xs : List α} (h : smL f xs = true) : xs.length ≤ 1048576 := by
  simp only [smL, Bool.and_eq_true] at h; exact bleN h.1
theorem smL_all {α : Type} {f : α → Bool} {xs : List α} (h : smL f xs = true) : xs.all f = true := by
  simp only [smL, Bool.and_eq_true] at h; exact h.2
def same {α : Type} (x : α) : α := x
theorem smL_at {t : Ty} {f : El t → Bool} {xs : List (El t)} (h : smL f xs = true) {j : Nat} (hj : j < xs.length) : f (atI xs j) = true := by
  obtain ⟨x, hx, _⟩ := drop_get hj
  rw [atI_of hx]; exact List.all_eq_true.1 (smL_all h) x (List.mem_of_getElem? hx)
def sm_fail (x : FailT) : Bool := (smStr x.name && okI x.n)
def sm_work (x : WorkT) : Bool := (smL smStr x.list && (smL smStr x.busy && (smL smStr x.again && smL sm_fail x.fails)))
end Go.Gm

/- Plain functions: what is to be looked at. -/
namespace Go.Gm
open Go

def firstN (p : Nat → Bool) : Nat → Nat → Option Nat
  | _, 0 => none
  | j, d + 1 => cond (p j) (some j) (firstN p (j + 1) d)
theorem loop_find {R : Type} {F : Nat → Int → Option R} {n : Nat} {p : Nat → Bool} {hit : Int → Option R} {miss : Option R} (hs : ∀ m j, j < n → F (m + 1) (j : Int) = cond (p j) (hit (j : Int)) (F m ((j + 1 : Nat) : Int)))
    (he : ∀ m, F (m + 1) (n : Int) = miss) : ∀ d j m, j + d = n → d < m → F m (j : Int) = (firstN p j d).elim miss (fun i => hit (i : Int)) := by
  intro d
  induction d with
  | zero =>
    intro j m hj hm
    obtain ⟨m, rfl⟩ : ∃ m', m = m' + 1 := ⟨m - 1, by omega⟩
    have : j = n := by omega
    subst this
    rw [he]; rfl
  | succ d ih =>
    intro j m hj hm
    obtain ⟨m, rfl⟩ : ∃ m', m = m' + 1 := ⟨m - 1, by omega⟩
    rw [hs m j (by omega), ih (j + 1) m (by omega) (by omega)]
    simp only [firstN]
    cases p j <;> rfl
theorem firstN_some {p : Nat → Bool} : ∀ {d j i : Nat}, firstN p j d = some i → j ≤ i ∧ i < j + d ∧ p i = true ∧ ∀ k, j ≤ k → k < i → p k = false
  | 0, _, _, h => by cases h
  | d + 1, j, i, h => by
    simp only [firstN] at h
    cases hp : p j with
    | true => rw [hp] at h; cases h; exact ⟨Nat.le_refl _, by omega, hp, fun k h1 h2 => by omega⟩
    | false =>
      rw [hp] at h
      obtain ⟨h1, h2, h3, h4⟩ := firstN_some h
      refine ⟨by omega, by omega, h3, fun k hk hk' => ?_⟩
      by_cases e : k = j
      · subst e; exact hp
      · exact h4 k (by omega) hk'
theorem firstN_none {p : Nat → Bool} : ∀ {d j : Nat}, firstN p j d = none → ∀ k, j ≤ k → k < j + d → p k = false
  | 0, _, _, k, h1, h2 => by omega
  | d + 1, j, h, k, h1, h2 => by
    simp only [firstN] at h
    cases hp : p j with
    | true => rw [hp] at h; cases h
    | false =>
      rw [hp] at h
      by_cases e : k = j
      · subst e; exact hp
      · exact firstN_none h k (by omega) (by omega)
/-- A place as a number; -1 without one. -/
def plc (o : Option Nat) : Int := o.elim (-1) fun i => (i : Int)

def failEq (f : FailT) (s : ByteArray) : Bool := sEq f.name s
def failO (xs : List FailT) (s : ByteArray) : Option Nat := firstN (fun j => failEq (atI (t := .fail) xs j) s) 0 xs.length
def failAt (xs : List FailT) (s : ByteArray) : Int := plc (failO xs s)
theorem failO_lt {xs : List FailT} {s : ByteArray} {i : Nat} (h : failO xs s = some i) : i < xs.length := by
  obtain ⟨_, h2, _⟩ := firstN_some h; omega

def minI (a b : Int) : Int := if a < b then a else b
def capN (N : Int) : Int := if 20 < N then 20 else N
def lowN (M : Int) : Int := if M > 1 then M else 1
/-- How long is waited behind so many failures. -/
def waitN (N : Int) : Int := minI (2 ^ Int.toNat (lowN (capN N) - 1)) 300
def waitOf (w : WorkT) (s : ByteArray) : Int := (failO w.fails s).elim 0 fun i => waitN (atI (t := .fail) w.fails i).n
theorem pow_le {e : Nat} (h : e ≤ 19) : (0 : Int) < 2 ^ e ∧ (2 : Int) ^ e ≤ 524288 := by
  have h1 : (2 : Nat) ^ e ≤ 2 ^ 19 := Nat.pow_le_pow_right (by omega) h
  have h2 : 0 < (2 : Nat) ^ e := Nat.two_pow_pos e
  have e1 : ((2 ^ e : Nat) : Int) = (2 : Int) ^ e := by push_cast; rfl
  omega

end Go.Gm

/- Contracts of library functions that are not walked by the evaluator: one plain result, what was there stays. -/
namespace Go.Gm
open Go

variable {wl : World} {w w' : World} {Mf ROa : Nat → Prop}

end Go.Gm

/- Contracts of functions that call themselves, by a measure. -/
namespace Go.Gm
open Go

abbrev Q := List Dt → Option (Bool × List Dt)
theorem spec_part {P : Program} {f : Nat} {modes : List Am} {res : List Bool} {own : Bool} {q : Q} (h : ∀ ds outs, q ds = some (true, outs) → ∃ q0 : Q, SpecOk P f (Spec.of modes res own q0) ∧ q0 ds = some (true, outs)) : SpecOk P f (Spec.of modes res own q) := by
  intro R ds k r hr
  obtain ⟨outs, hq, hk⟩ := Spec.of_some hr
  obtain ⟨q0, hs, h0⟩ := h ds outs hq
  have hr0 : (Spec.of modes res own q0).fn ds k = some r := by
    show (match q0 ds with | some (g, outs) => cond g (k outs) none | none => none) = some r
    rw [h0]; exact hk
  intro wl w us Mf ROa Fs hWl hBs hA hp hFM hRM hRlt hMlt
  exact Calls.mono (hs ds k r hr0 wl w us Mf ROa Fs hWl hBs hA hp hFM hRM hRlt hMlt) fun e w' ⟨outs, h1, h2⟩ => ⟨outs, h1, ⟨h2.out, h2.kept⟩⟩

end Go.Gm

/- Contracts of two or three functions that call each other, by measures. -/
namespace Go.Gm
open Go

structure Rc where
  f : Nat
  ms : List Am
  rs : List Bool
  ow : Bool
  mu : List Dt → Nat
  q : Q
end Go.Gm

/- Contracts of functions of which one argument, the first, comes in cell by cell: its lists are lent, each by itself. -/
namespace Go.Gm
open Go

section ev
variable {wl : World} {R : Type}
def cellsOf : List Am → List Sc → Option (List (Am × Nat × Sv))
  | [], [] => some []
  | .mut :: ms, c :: cs => (cellsOf ms cs).bind fun l => some ((.mut, 0, .c (.one c)) :: l)
  | .skp :: ms, _ :: cs => cellsOf ms cs
  | _, _ => none
end ev

variable {R : Type} {P : Program} {E : Env} {w0 w w' : World} {Mf : Nat → Prop} {g : Gh} {st : St} {a : Act}

end Go.Gm

/- Contracts of library functions that are not walked by the evaluator: one result, the caller's own. -/
namespace Go.Gm
open Go

variable {wl : World} {P : Program} {w w' : World} {Mf ROa : Nat → Prop}

theorem backs_skip : ∀ {ms : List Am} {ds : List Dt} {us : List Value}, ms.all (fun m => !(isBack m)) = true → ms.length = us.length → ds.length = us.length → BacksOk wl w ms ds us [] []
  | [], [], [], _, _, _ => .nil
  | m :: ms, d :: ds, u :: us, h, h1, h2 => by
    simp only [List.all_cons, Bool.and_eq_true] at h
    refine .skip ?_ (backs_skip h.2 (by simpa using h1) (by simpa using h2))
    cases m <;> first | trivial | exact absurd h.1 (by simp [isBack])
  | [], _ :: _, [], _, _, h => by simp at h
  | [], _, _ :: _, _, h, _ => by simp at h
  | _ :: _, _, [], _, h, _ => by simp at h
  | _ :: _, [], _ :: _, _, _, h => by simp at h

theorem After.own1 {s : Spec} (hown : s.own = true) (hres : s.res = [false]) (hm : s.modes.all (fun m => !(isBack m)) = true) {ds : List Dt} {us : List Value} (h1 : s.modes.length = us.length) (h2 : ds.length = us.length) {t : Ty} {x : El t} {v : Value}
    {G : Nat → Prop} (hv : ValOwn w' G t x v) (hG : ∀ k, G k → (Mf k ∨ w.heap.size ≤ k) ∧ k < w'.heap.size) (hk : Kept w w' Mf) : After wl w w' Mf ROa s ds us [.d t x] (.returned v) := by
  refine ⟨⟨[v], [G], [], rfl, ?_, ?_, List.Pairwise.nil, fun B hB => by simp at hB, fun _ => ⟨List.pairwise_singleton _ _, fun G' hG' k hk => ?_⟩, fun e => absurd (hown.symm.trans e) (by simp), fun G hG B hB => by simp at hB, fun G' hG' k hk => ?_, fun B hB => by simp at hB⟩, hk⟩
  · rw [hown, hres]; exact .val (by simpa using hv) .nil
  · rw [hres]; exact backs_skip hm h1 h2
  · have : G' = G := by simpa using hG'
    subst this; exact (hG k hk).1
  · have : G' = G := by simpa using hG'
    subst this; exact (hG k hk).2

/-- A contract of one result of the caller's own, from what the function does with these values. -/
theorem spec_own1 {f : Nat} {modes : List Am} {q : List Dt → Option (Bool × List Dt)} (hm : modes.all (fun m => !(isBack m)) = true)
    (h : ∀ ds outs, q ds = some (true, outs) → ∃ t x, outs = [.d t x] ∧ ∀ {wl : World} (w : World) (us : List Value) (Mf ROa : Nat → Prop) (Fs : List (Nat → Prop)), ArgsOk wl w ROa modes ds us Fs → PairApart Fs → (∀ F ∈ Fs, ∀ k, F k → Mf k) →
      (∀ k, ROa k → ¬ Mf k) → (∀ k, ROa k → k < w.heap.size) → (∀ k, Mf k → k < w.heap.size) →
      Calls P f us.toArray w fun e w' => ∃ v G, e = .returned v ∧ Kept w w' Mf ∧ ValOwn w' G t x v ∧ ∀ k, G k → (Mf k ∨ w.heap.size ≤ k) ∧ k < w'.heap.size) : SpecOk P f (Spec.of modes [false] true q) := by
  intro R ds k r hr wl w us Mf ROa Fs hWl hBs hA hp hFM hRM hRlt hMlt
  obtain ⟨outs, hq, hk⟩ := Spec.of_some hr
  obtain ⟨t, x, rfl, hc⟩ := h ds outs hq
  refine Calls.mono (hc w us Mf ROa Fs hA hp hFM hRM hRlt hMlt) ?_
  rintro e w' ⟨v, G, rfl, h1, h2, h3⟩
  obtain ⟨hl1, hl2, _⟩ := hA.len
  exact ⟨_, hk, After.own1 rfl rfl hm hl1 hl2 h2 h3 h1⟩

theorem valOwn_sl {G : Nat → Prop} {t : Ty} {xs : List (El t)} {v : Value} (h : OwnSl w G t xs v) : ValOwn w G (.sl t) xs v := by
  refine ⟨#[v], by simp [Form, isSt, h.flat], fun j => if j = 0 then G else fun _ => False, fun j k hk => ?_, fun j j' k hk hk' => ?_, by simp [enc], fun j c hc => ?_⟩
  · dsimp only at hk
    split at hk
    · exact hk
    · exact hk.elim
  · dsimp only at hk hk'
    by_cases e1 : j = 0
    · by_cases e2 : j' = 0
      · omega
      · simp [e2] at hk'
    · simp [e1] at hk
  · cases j with
    | zero =>
      simp only [enc, List.getElem?_cons_zero, Option.some.injEq] at hc
      subst hc
      exact ⟨v, rfl, by simpa [COwn] using h⟩
    | succ j => simp [enc] at hc
theorem valRd_sl {Pr : Nat → Prop} {t : Ty} {xs : List (El t)} {u : Value} (h : ValRd w Pr (.sl t) xs u) : RdSl w Pr t xs u := by
  obtain ⟨us, hf, hr⟩ := h
  obtain ⟨e, _⟩ := hf.size rfl
  subst e
  obtain ⟨z, hz, hc⟩ := hr.2 0 (.l t xs) rfl
  have hz : u = z := by simpa using hz
  subst hz; exact hc
theorem valOwn_sl' {F : Nat → Prop} {t : Ty} {xs : List (El t)} {u : Value} (h : ValOwn w F (.sl t) xs u) : ∃ G, (∀ k, G k → F k) ∧ OwnSl w G t xs u := by
  obtain ⟨us, hf, Fs, h1, h2, h3, h4⟩ := h
  obtain ⟨e, _⟩ := hf.size rfl
  subst e
  obtain ⟨z, hz, hc⟩ := h4 0 (.l t xs) rfl
  have hz : u = z := by simpa using hz
  subst hz
  exact ⟨Fs 0, h1 0, hc⟩

/-! ### a copy of an empty list -/
/-- What slices.Clone does with an empty list: nil, or a new empty list. -/
def CloneE (P : Program) (f : Nat) : Prop := ∀ (a : Option Addr) (c : Nat) (w : World), Calls P f #[.slice a 0 c] w fun e w' =>
  (e = .returned (.slice none 0 0) ∧ w' = w) ∨ ∃ el, e = .returned (.slice (some ⟨w.heap.size, 0, none⟩) 0 0) ∧ w' = w.alloc (.cells #[] el)
theorem ownSl_nil (w : World) (F : Nat → Prop) (t : Ty) {v : Value} (h : NodeOwn w F t [] v fun _ _ => v) : OwnSl w F t [] v := by
  refine ⟨fun _ => v, rfl, fun p s hs => ?_, fun p q s s' b hp hq _ _ => ?_⟩
  · cases p with
    | nil => simp only [subR, Option.some.injEq] at hs; subst hs; exact h
    | cons ij p => simp [subR] at hs
  · cases p with
    | nil => cases q with
      | nil => rfl
      | cons ij q => simp [subR] at hq
    | cons ij p => simp [subR] at hp
theorem spec_cloneE {f : Nat} {t : Ty} (h : CloneE P f) {q : List Dt → Option (Bool × List Dt)} (hq : ∀ ds outs, q ds = some (true, outs) → ds = [.d (.sl t) []] ∧ outs = [.d (.sl t) []]) : SpecOk P f (Spec.of [.ro] [false] true q) := by
  refine spec_own1 rfl fun ds outs hqs => ?_
  obtain ⟨rfl, rfl⟩ := hq ds outs hqs
  refine ⟨_, _, rfl, fun w us Mf ROa Fs hA _ _ _ _ _ => ?_⟩
  cases hA with
  | cons h1 hA =>
    cases hA
    obtain ⟨av, h0, hav⟩ := valRd_sl h1
    obtain ⟨a, cap, e1, _, _⟩ := hav [] ⟨t, []⟩ rfl
    rw [h0] at e1
    subst e1
    refine Calls.mono (h a cap w) ?_
    rintro e w' (⟨rfl, rfl⟩ | ⟨el, rfl, rfl⟩)
    · exact ⟨_, fun _ => False, rfl, ⟨rfl, rfl, rfl, Nat.le_refl _, fun _ _ _ => rfl⟩, valOwn_sl (nilOwn _ _ _), fun _ h => h.elim⟩
    · refine ⟨_, fun k => k = w.heap.size, rfl, ⟨rfl, rfl, rfl, by simp, fun b hb _ => heap_alloc_old w _ hb⟩, valOwn_sl (ownSl_nil _ _ _ ?_), fun k hk => ?_⟩
      · exact .inr ⟨w.heap.size, 0, 0, #[], el, rfl, rfl, heap_alloc_new w _, Nat.le_refl _, by simp, fun i y j c h => by simp at h⟩
      · subst hk; exact ⟨.inr (Nat.le_refl _), by simp⟩
/-- A copy: of a list that is not empty as the evaluator has it, of an empty one as above. -/
theorem spec_clone {f : Nat} {q qa qb : List Dt → Option (Bool × List Dt)} (ha : SpecOk P f (Spec.of [.ro] [false] true qa)) (hb : SpecOk P f (Spec.of [.ro] [false] true qb)) (h : ∀ ds outs, q ds = some (true, outs) → qa ds = some (true, outs) ∨ qb ds = some (true, outs)) :
    SpecOk P f (Spec.of [.ro] [false] true q) :=
  spec_part fun ds outs hq => (h ds outs hq).elim (fun h => ⟨qa, ha, h⟩) fun h => ⟨qb, hb, h⟩
end Go.Gm

/- slices.Delete: from what it does with cells to a contract. -/
namespace Go.Gm
open Go

variable {wl : World} {P : Program} {E : Env} {w w' : World}

theorem run_append_at (t ty e : TypeId) (i : TypeInfo) (ht : P.underlying t = some (.slice e)) (hi : P.info? e = some i) (b off n cap : Nat) (a : Addr) (m c : Nat) (news : List Value) (hl : news.length = m * i.size)
    (hnews : ∀ j u, news[j]? = some u → w.cell? (a.add j) = some u) (h1 : ∀ u ∈ news, u.oneCell' = true) (hroom : n + m ≤ cap) (cs : Array Value) (el : TypeId) (hb : w.heap[b]? = some (.cells cs el (0, 0))) (hfit : off + n * i.size + news.length ≤ cs.size) :
    (Builtin.append_ #[t, t] ty #[.slice (some ⟨b, off, none⟩) n cap, .slice (some a) m c]).run P w = .ok (.slice (some ⟨b, off, none⟩) (n + m) cap) (w.setRow b (putAt cs (off + n * i.size) news.toArray)) := by
  have hfc := run_firstCells_some (P := P) w i.size m a m c news hl hnews
  have hst := run_storeCells_at P b (off + n * i.size) el news 0 cs w hb (by simpa using hfit) h1
  simp only [Nat.add_zero] at hst
  rw [← row_putAt (by simpa using hfit)]
  simp [Builtin.append_, run_underlying ht, sizeOf, typeInfo, hi, Builtin.lenOf, hroom, hfc, addrAdd, hst]

theorem step_append_at {ops : Array Oper} {o : Oper} {a : Act} {K : Act → World → Prop} {Q : Exit → Act → World → Prop} {R : Prop}
    (hg : o.guard = none) (s x : Operand) (t : TypeId) (hop : o.op = Op.call { callee := Callee.builtin Builtin.append, args := #[s, x], argTypes := #[t, t] })
    (e : TypeId) (i : TypeInfo) (size : Nat) (h1 : P.underlying t = some (.slice e)) (h2 : P.info? e = some i) (h4 : i.size = size)
    (b off n cap : Nat) (hs : a.eval s = .slice (some ⟨b, off, none⟩) n cap)
    (ad : Addr) (m c : Nat) (news : List Value) (hx : a.eval x = .slice (some ad) m c) (hn : news.length = m * size) (hc : ∀ j u, news[j]? = some u → w.cell? (ad.add j) = some u) (h1c : ∀ u ∈ news, u.oneCell' = true)
    (hroom : n + m ≤ cap) (cs : Array Value) (el : TypeId) (hb : w.heap[b]? = some (.cells cs el (0, 0))) (hfit : off + n * size + news.length ≤ cs.size)
    (hK : K (a.put o.dst (.slice (some ⟨b, off, none⟩) (n + m) cap)) (w.setRow b (putAt cs (off + n * size) news.toArray))) :
    if Region.wanted o (yielded ops a.tmps) = true then Oper.wp P o a w K Q else R := by
  have hw : Region.wanted o (yielded ops a.tmps) = true := by simp [Region.wanted, hg]
  rw [if_pos hw]
  subst h4
  have hrun := run_append_at (P := P) (w := w) t o.type e i h1 h2 b off n cap ad m c news hn hc h1c hroom cs el hb hfit
  unfold Oper.wp
  simp [execOp, hop, resolve, invoke, builtin, hs, hx, hrun, Result.andThen]
  exact hK

/-- What is left behind a Delete of the elements from i on to j. -/
def DelEnd (w w' : World) (b o n i j sz : Nat) (cs : Array Value) (el : TypeId) : Prop :=
  Kept w w' (fun k => k = b) ∧ ∃ cs', w'.heap[b]? = some (.cells cs' el (0, 0)) ∧ cs'.size = cs.size ∧ ∀ k, k < (n - (j - i)) * sz → cs'[o + k]? = cs[o + if k < i * sz then k else k + (j - i) * sz]?
/-- slices.Delete, as the cells have it. -/
def DelE (P : Program) (f sz : Nat) : Prop :=
  (∀ (a : Option Addr) (n cap i : Nat) (w : World), i ≤ n → n ≤ cap → Calls P f #[.slice a n cap, .int .i64 i, .int .i64 i] w fun e w' => e = .returned (.slice a n cap) ∧ w' = w) ∧
  ∀ (b o n cap i j : Nat) (cs : Array Value) (el : TypeId) (w : World), i < j → j ≤ n → n ≤ cap → w.heap[b]? = some (.cells cs el (0, 0)) → o + cap * sz ≤ cs.size → (∀ k u, k < n * sz → cs[o + k]? = some u → u.oneCell' = true) →
    Calls P f #[.slice (some ⟨b, o, none⟩) n cap, .int .i64 i, .int .i64 j] w fun e w' => e = .returned (.slice (some ⟨b, o, none⟩) (n - (j - i)) cap) ∧ DelEnd w w' b o n i j sz cs el

theorem del_pack (hE : E.Ok P) {T : TypeId} {e : Ty} (hT : E.code T = some (.sl e)) {sz : Nat} (hsz : esz e = sz) {b o n cap i j : Nat} {cs : Array Value} {el : TypeId} (hij : i < j) (hj : j ≤ n) (hn : n ≤ cap)
    (hb : w.heap[b]? = some (.cells cs el (0, 0))) (hs : o + cap * sz ≤ cs.size) (h1 : ∀ k u, k < n * sz → cs[o + k]? = some u → u.oneCell' = true) :
    ∃ (eT : TypeId) (ii : TypeInfo) (news : List Value) (W1 W2 : World), P.underlying T = some (.slice eT) ∧ P.info? eT = some ii ∧ ii.size = sz ∧ news.length = (n - j) * sz ∧ (∀ u ∈ news, u.oneCell' = true) ∧
      (∀ A : Addr, A = ⟨b, o + j * sz, none⟩ ∨ n = j → ∀ t u, news[t]? = some u → w.drew.cell? (A.add t) = some u) ∧ o + i * sz + news.length ≤ cs.size ∧ W1 = w.drew.setRow b (putAt cs (o + i * sz) news.toArray) ∧
      (∀ ty, (Builtin.clear_ #[T] ty #[.slice (some ⟨b, o + (i + (n - j)) * sz, none⟩) (n - (i + (n - j))) (cap - (i + (n - j)))]).run P W1 = .ok (.tuple #[]) W2) ∧ DelEnd w W2 b o n i j sz cs el := by
  subst hsz
  obtain ⟨eT, hu, hel⟩ := hE.slice hT
  obtain ⟨ii, zv, hi, hsz, hby, hz, hzc⟩ := hE.info eT e hel
  have hpos := esz_pos e
  have hzs : zv.cells.size = esz e := by rw [hzc]; simp [zvals, enc_length]
  have hzf : ∀ v ∈ zv.cells.toList, v.oneCell' = true := by
    rw [hzc]
    intro v hv
    simp only [zvals] at hv
    obtain ⟨c, hc, rfl⟩ := List.mem_map.1 (by simpa using hv)
    obtain ⟨m, hm⟩ := List.getElem?_of_mem hc
    cases c with
    | v x => exact flat_one (flat_of_cell (P' := fun _ => True) (w := w) hm rfl)
    | l t ys => rfl
  have hm1 : j * esz e ≤ n * esz e := Nat.mul_le_mul_right _ hj
  have hm2 : n * esz e ≤ cap * esz e := Nat.mul_le_mul_right _ hn
  have hm3 : i * esz e ≤ j * esz e := Nat.mul_le_mul_right _ (Nat.le_of_lt hij)
  have hm4 : (n - j) * esz e = n * esz e - j * esz e := Nat.sub_mul _ _ _
  have hm5 : (j - i) * esz e = j * esz e - i * esz e := Nat.sub_mul _ _ _
  have hm6 : (i + (n - j)) * esz e = i * esz e + (n * esz e - j * esz e) := by rw [Nat.add_mul, hm4]
  have hm7 : (n - (i + (n - j))) * esz e = j * esz e - i * esz e := by rw [show n - (i + (n - j)) = j - i by omega, hm5]
  have hm8 : (n - (j - i)) * esz e = i * esz e + (n * esz e - j * esz e) := by rw [show n - (j - i) = i + (n - j) by omega, hm6]
  have hlen : ((cs.toList.drop (o + j * esz e)).take ((n - j) * esz e)).length = (n - j) * esz e := by simp; omega
  have hget : ∀ t, t < (n - j) * esz e → ((cs.toList.drop (o + j * esz e)).take ((n - j) * esz e))[t]? = cs[o + j * esz e + t]? := by
    intro t ht
    rw [List.getElem?_take, if_pos ht, List.getElem?_drop, Array.getElem?_toList]
  generalize (cs.toList.drop (o + j * esz e)).take ((n - j) * esz e) = news at hlen hget
  have hnl : ∀ t u, news[t]? = some u → t < (n - j) * esz e := fun t u hu => by
    have := (List.getElem?_eq_some_iff.1 hu).1
    omega
  have hfit : o + i * esz e + news.length ≤ cs.size := by omega
  have hb1 : (w.drew.setRow b (putAt cs (o + i * esz e) news.toArray)).heap[b]? = some (.cells (putAt cs (o + i * esz e) news.toArray) el (0, 0)) := setRow_heap w.drew b cs _ el (0, 0) hb
  have hsize1 : (putAt cs (o + i * esz e) news.toArray).size = cs.size := putAt_size (by simpa using hfit)
  have hcl := fun ty => run_clear_at (P := P) T eT ty zv hu (fun w => by simp [zeroValue, typeInfo, hi, hz]) hzf (by omega) b (o + (i + (n - j)) * esz e) (n - (i + (n - j))) (cap - (i + (n - j))) (by omega) _ el hb1 (by rw [hsize1, hzs, hm7]; omega)
  have hzl : (Builtin.zeroCells zv.cells (n - (i + (n - j)))).size = j * esz e - i * esz e := by rw [size_zeroCells, hzs, hm7]
  have hsize2 : (putAt (putAt cs (o + i * esz e) news.toArray) (o + (i + (n - j)) * esz e) (Builtin.zeroCells zv.cells (n - (i + (n - j))))).size = cs.size := by rw [putAt_size (by rw [hsize1, hzl]; omega), hsize1]
  refine ⟨eT, ii, news, _, _, hu, hi, hsz, hlen, fun u hu => ?_, fun A hA t u hu => ?_, hfit, rfl, hcl, ⟨rfl, rfl, rfl, ?_⟩, _, setRow_heap _ b _ _ el (0, 0) hb1, hsize2, fun k hk => ?_⟩
  · obtain ⟨t, ht⟩ := List.getElem?_of_mem hu
    have hlt := hnl t u ht
    rw [hget t hlt] at ht
    exact h1 (j * esz e + t) u (by omega) (by rw [← Nat.add_assoc]; exact ht)
  · have hlt := hnl t u hu
    rcases hA with rfl | h
    · rw [hget t hlt] at hu
      rw [addrAdd, cellIn (w := w.drew) hb]
      exact hu
    · subst h; simp at hlt
  · exact SameBut.trans (Y := fun k => k = b) (Z := fun k => k = b) (setRow_same w.drew b _) (setRow_same _ b _) (fun _ h => h) (fun _ _ h => h)
  · rw [hm8] at hk
    rw [putAt_get (by rw [hsize1, hzl]; omega), if_neg (by omega), putAt_get (by simpa using hfit)]
    have hna : news.toArray.size = news.length := by simp
    by_cases h : k < i * esz e
    · rw [if_neg (by omega), if_pos h]
    · rw [if_pos (by omega), if_neg h, List.getElem?_toArray, show o + k - (o + i * esz e) = k - i * esz e by omega, hget _ (by omega), hm5]
      congr 1
      omega

/-- Of an own list some elements, each once, in whatever order. -/
theorem TreeOwn.pick {F : Nat → Prop} {t : Ty} {xs ys : List (El t)} {av : Path → Value} (h : TreeOwn w F t xs av) (σ : Nat → Nat) (hσ : ∀ i y, ys[i]? = some y → xs[σ i]? = some y) (hinj : ∀ i i', σ i = σ i' → i = i')
    (hsame : SameBut (fun k => blk (av []) = some k) w w') {v : Value} (hblk : ∀ k, blk v = some k → blk (av []) = some k) (hn : NodeOwn w' F t ys v fun i j => av [(σ i, j)]) : OwnSl w' F t ys v := by
  have hsub : ∀ i j p s, subR t ys ((i, j) :: p) = some s → subR t xs ((σ i, j) :: p) = some s := by
    intro i j p s hs
    simp only [subR] at hs ⊢
    split at hs
    · rename_i y hy
      rw [hσ i y hy]; exact hs
    · cases hs
  refine ⟨fun p => match p with | [] => v | (i, j) :: p => av ((σ i, j) :: p), rfl, fun p s hs => ?_, fun p q s s' k hp hq hk hk' => ?_⟩
  · cases p with
    | nil => simp only [subR, Option.some.injEq] at hs; subst hs; exact hn
    | cons x p =>
      obtain ⟨i, j⟩ := x
      have hs' := hsub i j p s hs
      exact (h.1 _ s hs').here hsame fun k hk e => by have := h.2 _ [] s ⟨t, xs⟩ k hs' rfl hk e; cases this
  · cases p with
    | nil => cases q with
      | nil => rfl
      | cons y q =>
        obtain ⟨i, j⟩ := y
        have := h.2 [] _ ⟨t, xs⟩ s' k rfl (hsub i j q s' hq) (hblk k hk) hk'
        cases this
    | cons x p =>
      obtain ⟨i, j⟩ := x
      cases q with
      | nil =>
        have := h.2 _ [] s ⟨t, xs⟩ k (hsub i j p s hp) rfl hk (hblk k hk')
        cases this
      | cons y q =>
        obtain ⟨i', j'⟩ := y
        have := h.2 _ _ s s' k (hsub i j p s hp) (hsub i' j' q s' hq) hk hk'
        simp only [List.cons.injEq, Prod.mk.injEq] at this
        obtain ⟨⟨h1, rfl⟩, rfl⟩ := this
        rw [hinj _ _ h1]

theorem TreeOwn.oneCell {F : Nat → Prop} {t : Ty} {xs : List (El t)} {av : Path → Value} (h : TreeOwn w F t xs av) {cs : Array Value} {o : Nat} (hr : RowsIn t xs cs o fun i j => av [(i, j)]) : ∀ k u, k < xs.length * esz t → cs[o + k]? = some u → u.oneCell' = true := by
  intro k u hk hu
  have hpos := esz_pos t
  have hi : k / esz t < xs.length := Nat.div_lt_of_lt_mul (by rw [Nat.mul_comm]; exact hk)
  have hj : k % esz t < esz t := Nat.mod_lt _ hpos
  have hc := List.getElem?_eq_getElem (l := enc t xs[k / esz t]) (i := k % esz t) (by rw [enc_length]; exact hj)
  obtain ⟨z, hz, hcz⟩ := hr (k / esz t) xs[k / esz t] (k % esz t) _ (List.getElem?_eq_getElem hi) hc
  have : k / esz t * esz t + k % esz t = k := by rw [Nat.mul_comm]; exact Nat.div_add_mod k (esz t)
  rw [Nat.add_assoc, this, hu] at hz; cases hz
  generalize (enc t xs[k / esz t])[k % esz t]'(by rw [enc_length]; exact hj) = c at hc hcz
  cases c with
  | v x => exact flat_one (flat_of_cell (P' := fun _ => True) (w := w) hc hcz)
  | l t' ys =>
    have hs := h.1 [(k / esz t, k % esz t)] ⟨t', ys⟩ (subR_one (List.getElem?_eq_getElem hi) hc)
    simp only [CellIs] at hcz
    subst hcz
    rcases hs with ⟨_, e⟩ | ⟨b, o, cap, cs, el, e, _⟩ <;> rw [e] <;> rfl

theorem spec_del {f : Nat} {t : Ty} {sz : Nat} (hsz : esz t = sz) (h : DelE P f sz) {q : List Dt → Option (Bool × List Dt)}
    (hq : ∀ ds outs, q ds = some (true, outs) → ∃ (xs : List (El t)) (i j : Nat), ds = [.d (.sl t) xs, .d (.i .i64) (i : Int), .d (.i .i64) (j : Int)] ∧ i ≤ j ∧ j ≤ xs.length ∧ outs = [.d (.sl t) (xs.take i ++ xs.drop j)]) :
    SpecOk P f (Spec.of [.mov, .ro, .ro] [false] true q) := by
  subst hsz
  refine spec_own1 rfl fun ds outs hqs => ?_
  obtain ⟨xs, i, j, rfl, hij, hj, rfl⟩ := hq ds outs hqs
  refine ⟨_, _, rfl, fun w us Mf ROa Fs hA _ hFM _ _ hMlt => ?_⟩
  cases hA with
  | @cons _ _ _ _ u1 us F Fs h1 hA =>
    cases hA with
    | cons h2 hA =>
      cases hA with
      | cons h3 hA =>
        cases hA
        have e2 := valRd_v (t := .i .i64) (v := .int .i64 i) rfl rfl h2
        have e3 := valRd_v (t := .i .i64) (v := .int .i64 j) rfl rfl h3
        subst e2; subst e3
        obtain ⟨G, hG, hown⟩ := valOwn_sl' h1
        have hGM : ∀ k, G k → Mf k := fun k hk => hFM F (by simp) k (hG k hk)
        have same : i = j → ∀ (a : Option Addr) (cap : Nat), u1 = .slice a xs.length cap → xs.length ≤ cap → Calls P f #[u1, .int .i64 i, .int .i64 j] w fun e w' => ∃ v G, e = .returned v ∧ Kept w w' Mf ∧ ValOwn w' G (.sl t) (xs.take i ++ xs.drop j) v ∧ ∀ k, G k → (Mf k ∨ w.heap.size ≤ k) ∧ k < w'.heap.size := by
          rintro rfl a cap rfl hcap
          refine Calls.mono (h.1 a xs.length cap i w hj hcap) ?_
          rintro e w' ⟨rfl, rfl⟩
          rw [List.take_append_drop]
          exact ⟨_, G, rfl, ⟨rfl, rfl, rfl, Nat.le_refl _, fun _ _ _ => rfl⟩, valOwn_sl hown, fun k hk => ⟨.inl (hGM k hk), hMlt k (hGM k hk)⟩⟩
        obtain ⟨av, h0, hT⟩ := hown
        have hnode := hT.1 [] ⟨t, xs⟩ rfl
        rw [h0] at hnode
        rcases hnode with ⟨e, rfl⟩ | ⟨b, o, cap, cs, el, rfl, hF, hb, hcap, hsize, hrows⟩
        · have e : xs = [] := e
          subst e
          exact same (by simp at hj; omega) none 0 rfl (Nat.le_refl _)
        · have hcap : xs.length ≤ cap := hcap
          have hsize : o + cap * esz t ≤ cs.size := hsize
          have hrows : RowsIn t xs cs o fun i j => av [(i, j)] := hrows
          by_cases hne : i = j
          · exact same hne _ cap rfl hcap
          · have hlt : i < j := by omega
            refine Calls.mono (h.2 b o xs.length cap i j cs el w hlt hj hcap hb hsize (hT.oneCell hrows)) ?_
            rintro e w' ⟨rfl, hk, cs', hb', hcs, hget⟩
            have hlen : (xs.take i ++ xs.drop j).length = xs.length - (j - i) := by simp; omega
            refine ⟨_, G, rfl, ⟨hk.os, hk.tape, hk.output, hk.same.1, fun k hk1 hk2 => hk.same.2 k hk1 fun e => by subst e; exact hk2 (hGM _ hF)⟩, ?_, fun k hk' => ⟨.inl (hGM k hk'), Nat.lt_of_lt_of_le (hMlt k (hGM k hk')) hk.same.1⟩⟩
            have hσ : ∀ m y, (xs.take i ++ xs.drop j)[m]? = some y → xs[if m < i then m else m + (j - i)]? = some y := by
              intro m y hy
              by_cases hm : m < i
              · rw [List.getElem?_append_left (by simp; omega), List.getElem?_take, if_pos hm] at hy
                rw [if_pos hm]; exact hy
              · rw [List.getElem?_append_right (by simp; omega), List.getElem?_drop] at hy
                rw [if_neg hm, ← hy]
                congr 1
                simp; omega
            refine valOwn_sl (hT.pick (fun m => if m < i then m else m + (j - i)) hσ (fun m m' e => by split at e <;> split at e <;> omega) ⟨hk.same.1, fun k hk1 hk2 => hk.same.2 k hk1 fun e => by subst e; exact hk2 (by rw [h0]; rfl)⟩ (fun k hk => by rw [h0]; exact hk) (.inr ⟨b, o, cap, cs', el, ?_, hF, hb', ?_, by omega, ?_⟩))
            · rw [hlen]
            · rw [hlen]; omega
            · intro m y c z hy hc
              obtain ⟨u, hu, hcu⟩ := hrows _ y c z (hσ m y hy) hc
              refine ⟨u, ?_, hcu⟩
              have hml := el_lt hy
              have hcl := enc_lt hc
              have h1 : m * esz t + esz t ≤ (xs.length - (j - i)) * esz t := by
                have : (m + 1) * esz t ≤ (xs.length - (j - i)) * esz t := Nat.mul_le_mul_right _ (by omega)
                rw [Nat.add_mul] at this; omega
              rw [Nat.add_assoc, hget (m * esz t + c) (by omega), ← hu]
              congr 1
              by_cases hm : m < i
              · have : m * esz t + esz t ≤ i * esz t := by
                  have : (m + 1) * esz t ≤ i * esz t := Nat.mul_le_mul_right _ (by omega)
                  rw [Nat.add_mul] at this; omega
                rw [if_pos (by omega), if_pos hm]; omega
              · have : i * esz t ≤ m * esz t := Nat.mul_le_mul_right _ (by omega)
                rw [if_neg (by omega), if_neg hm, Nat.add_mul (m) (j - i)]; omega
end Go.Gm

/- Lists with some elements taken out. -/
namespace Go.Gm
open Go
def delL {α : Type} (xs : List α) (i j : Int) : List α := xs.take i.toNat ++ xs.drop j.toNat
def gDel {α : Type} (xs : List α) (i j : Int) : Bool := decide (0 ≤ i) && decide (i ≤ j) && decide (j ≤ (xs.length : Int))
end Go.Gm

/- Plain laws: numbers as texts, joined texts. -/
namespace Go.Gm
open Go

/-! ### loops that carry something on -/
theorem loop_acc {α A R : Type} {xs : List α} {F : Nat → Nat → A → Option R} {f : A → α → A} {good : A → Option R} (inv : Nat → A → Prop)
    (hi : ∀ (j : Nat) a x, xs[j]? = some x → inv j a → inv (j + 1) (f a x))
    (hs : ∀ m (j : Nat) a x, xs[j]? = some x → inv j a → F (m + 1) j a = F m (j + 1) (f a x)) (he : ∀ m a, inv xs.length a → F (m + 1) xs.length a = good a) :
    ∀ (d j m : Nat) (a : A), j + d = xs.length → d < m → inv j a → F m j a = good ((xs.drop j).foldl f a) := by
  intro d
  induction d with
  | zero =>
    intro j m a hj hm hia
    obtain ⟨m, rfl⟩ : ∃ m', m = m' + 1 := ⟨m - 1, by omega⟩
    have : j = xs.length := by omega
    subst this
    rw [he m a hia, List.drop_length]; rfl
  | succ d ih =>
    intro j m a hj hm hia
    obtain ⟨m, rfl⟩ : ∃ m', m = m' + 1 := ⟨m - 1, by omega⟩
    obtain ⟨x, hx, hd⟩ := drop_get (show j < xs.length by omega)
    rw [hs m j a x hx hia, hd, List.foldl_cons]
    exact ih (j + 1) m _ (by omega) (by omega) (hi j a x hx hia)

theorem inR_iff {c l h : Int} : inR c l h = true ↔ l ≤ c ∧ c ≤ h := by unfold inR; simp
end Go.Gm

/- Plain functions: picks, their texts, what they fit. -/
namespace Go.Gm
open Go

def gLenW {α : Type} (x : List α) : Bool := Nat.ble x.length WIDE
theorem gLenW_le {α : Type} {x : List α} (h : gLenW x = true) : x.length ≤ 9223372036854775807 := bleN h
theorem gLenW_of {α : Type} {x : List α} (h : x.length ≤ 9223372036854775807) : gLenW x = true := Nat.ble_eq_true_of_le h
theorem gLenW_sm {α : Type} {f : α → Bool} {x : List α} (h : smL f x = true) : gLenW x = true := gLenW_of (Nat.le_trans (smL_len h) (by decide))

/-! ### the first one -/
theorem firstN_drop {t : Ty} {q : El t → Bool} {xs : List (El t)} : ∀ (d j : Nat), j + d = xs.length →
    (firstN (fun j => q (atI xs j)) j d).isSome = (xs.drop j).any q ∧ (∀ i, firstN (fun j => q (atI xs j)) j d = some i → (xs.drop j).find? q = some (atI xs i)) ∧ (firstN (fun j => q (atI xs j)) j d = none → (xs.drop j).find? q = none)
  | 0, j, h => by
    have : j = xs.length := by omega
    subst this
    rw [List.drop_length]
    refine ⟨rfl, ?_, fun _ => rfl⟩
    intro i h; cases h
  | d + 1, j, h => by
    obtain ⟨x, hx, hd⟩ := drop_get (show j < xs.length by omega)
    obtain ⟨h1, h2, h3⟩ := firstN_drop (q := q) (xs := xs) d (j + 1) (by omega)
    rw [hd]
    simp only [firstN, atI_of hx, List.any_cons, List.find?_cons]
    cases hq : q x with
    | true => exact ⟨rfl, fun i hi => by cases hi; rw [atI_of hx], fun h => by cases h⟩
    | false => exact ⟨by simpa using h1, h2, h3⟩
theorem firstN_any {t : Ty} (q : El t → Bool) (xs : List (El t)) : (firstN (fun j => q (atI xs j)) 0 xs.length).isSome = xs.any q := by
  have := (firstN_drop (q := q) (xs := xs) xs.length 0 (by omega)).1
  rwa [List.drop_zero] at this
theorem plc_ge (o : Option Nat) : decide (plc o ≥ 0) = o.isSome := by
  cases o with
  | none => rfl
  | some i => simp [plc]
/-- The place of the first that is so; -1 without one. -/
def findI {t : Ty} (q : El t → Bool) (xs : List (El t)) : Int := plc (firstN (fun j => q (atI xs j)) 0 xs.length)
theorem findI_ge {t : Ty} (q : El t → Bool) (xs : List (El t)) : decide (findI q xs ≥ 0) = xs.any q := by
  unfold findI; rw [plc_ge, firstN_any]
/-! ### what picks fit -/
def isIn (xs : List ByteArray) (s : ByteArray) : Bool := xs.any fun x => sEq x s
theorem sEq_comm (x y : ByteArray) : sEq x y = sEq y x := by rw [Bool.eq_iff_iff, sEq_iff, sEq_iff, eq_comm]
def idxS (xs : List ByteArray) (s : ByteArray) : Int := findI (t := .str) (fun x => sEq s x) xs
theorem idxS_isIn (xs : List ByteArray) (s : ByteArray) : decide (idxS xs s ≥ 0) = isIn xs s := by
  unfold idxS isIn
  rw [findI_ge]
  congr 1; funext x; exact sEq_comm s x
def noteIs (n : NoteT) (p : PickT) : Bool := sEq n.key p.key
/-- What a pick asks is among the notes. -/
def among (p : PickT) (ns : List NoteT) : Bool := (ns.find? fun n => noteIs n p).elim false fun n => isIn p.vals n.text
noncomputable def fits (p : PickT) (ns : List NoteT) : Bool :=
  pickOk p && cond (p.op == (1 : Int) || p.op == (3 : Int)) (among p ns) (cond (p.op == (2 : Int) || p.op == (4 : Int)) (!(among p ns)) (cond (p.op == (5 : Int)) (ns.any fun n => noteIs n p) (!(ns.any fun n => noteIs n p))))
noncomputable def fitsNot (p : PickT) (i : ItemT) : Bool := !(fits p i.order.notes)
noncomputable def fitsNotAny (ps : List PickT) (i : ItemT) : Bool := ps.any fun p => fitsNot p i
noncomputable def chosenStep (ps : List PickT) (out : List ByteArray) (i : ItemT) : List ByteArray := cond (fitsNotAny ps i) out (out ++ [i.order.name])
noncomputable def chosen (s : StoreT) (ps : List PickT) : List ByteArray := s.items.foldl (chosenStep ps) []
end Go.Gm

/- Plain functions and laws: marks that are written into lists one after another, and whether they are held. Printed by mkp7.py of this session. -/
namespace Go.Gm
open Go

end Go.Gm

/- Plain laws: what is chosen. -/
namespace Go.Gm
open Go

end Go.Gm

/- Plain functions: names, what is to be looked at. -/
namespace Go.Gm
open Go

def nameC (i c : Int) : Bool := (decide (c ≥ (97 : Int)) && decide (c ≤ (122 : Int))) || (!(i == (0 : Int)) && (digit c || (c == (45 : Int))))
def nameOk (s : ByteArray) : Bool := allN (fun j => nameC (j : Int) (byteAt s j)) 0 s.size && inR (s.size : Int) 1 20
def gNames (xs : List ByteArray) : Bool := okL okStr xs
def nameAt (xs : List ByteArray) (j : Nat) : Bool := nameOk (atI (t := .str) xs j) && !(isIn (xs.take j) (atI (t := .str) xs j))
def namesOk (xs : List ByteArray) : Bool := allN (nameAt xs) 0 xs.length && decide ((xs.length : Int) ≤ 6)
def inBusy (s : ByteArray) (w : WorkT) : Bool := isIn w.busy s
def notBusy (s : ByteArray) (w : WorkT) : Bool := !(isIn w.busy s)
def gBusy (xs : List ByteArray) (w : WorkT) : Bool := gLenW xs && gLenW w.busy
def inBusyAt (xs : List ByteArray) (w : WorkT) : Int := findI (t := .str) (fun s => inBusy s w) xs
def notBusyAt (xs : List ByteArray) (w : WorkT) : Int := findI (t := .str) (fun s => notBusy s w) xs
def inBusyAny (xs : List ByteArray) (w : WorkT) : Bool := xs.any fun s => inBusy s w
def notBusyAny (xs : List ByteArray) (w : WorkT) : Bool := xs.any fun s => notBusy s w
def failC (xs : List FailT) (j : Nat) : Bool := nameOk (atI (t := .fail) xs j).name && (!(failAt xs (atI (t := .fail) xs j).name != (j : Int)) && inR (atI (t := .fail) xs j).n 1 20)
def workQOk (w : WorkT) : Bool :=
  namesOk w.list && (namesOk w.busy && (namesOk w.again && (!(decide ((w.fails.length : Int) > 12)) && (!(inBusyAny w.list w) && (!(notBusyAny w.again w) && allN (failC w.fails) 0 w.fails.length)))))
theorem all_not {α : Type} (q : α → Bool) (xs : List α) : (xs.all fun x => !(q x)) = !(xs.any q) := by
  induction xs with
  | nil => rfl
  | cons x r ih => rw [List.any_cons, List.all_cons, ih]; cases q x <;> simp
theorem okL_sms {xs : List ByteArray} (h : smL smStr xs = true) : okL okStr xs = true := okL_sm h fun _ h => okStr_sm h

end Go.Gm

/- Plain functions: amounts, orders and worlds as texts. -/
namespace Go.Gm
open Go

end Go.Gm

/- Plain functions and laws of trees: nodes and rules. Printed by mkp11.py of this session. -/
namespace Go.Gm
open Go

abbrev eR (x : RuleT) : RuleT := ⟨x.kind, x.keys, x.kids, x.need, x.low, x.high⟩
end Go.Gm

/- Plain functions: texts, keys, rules. -/
namespace Go.Gm
open Go

def textOk (s : ByteArray) : Bool := allN (fun j => inR (byteAt s j) 32 126) 0 s.size && decide ((s.size : Int) ≤ 400)
end Go.Gm

/- Plain functions: what is to be looked at, taken and added. -/
namespace Go.Gm
open Go

theorem limLe {α : Type} {xs : List α} (h : xs.length ≤ 1048576) : Nat.ble xs.length LIM = true := Nat.ble_eq_true_of_le (by have : (LIM : Nat) = 4294967296 := rfl; omega)
theorem limLe1 {α : Type} {xs : List α} (h : xs.length ≤ 1048576) : Nat.ble (xs.length + 1) LIM = true := Nat.ble_eq_true_of_le (by have : (LIM : Nat) = 4294967296 := rfl; omega)
theorem smL_tail {α : Type} {f : α → Bool} {x : α} {r : List α} (h : smL f (x :: r) = true) : smL f r = true := by
  simp only [smL, Bool.and_eq_true, List.all_cons] at h ⊢
  have := bleN h.1
  rw [List.length_cons] at this
  exact ⟨Nat.ble_eq_true_of_le (by omega), h.2.2⟩
theorem smL_head {α : Type} {f : α → Bool} {x : α} {r : List α} (h : smL f (x :: r) = true) : f x = true := by
  simp only [smL, Bool.and_eq_true, List.all_cons] at h; exact h.2.1
theorem smL_snoc {α : Type} {f : α → Bool} {x : α} {r : List α} (h : smL f r = true) (hx : f x = true) (hl : r.length < 1048576) : smL f (r ++ [x]) = true := by
  simp only [smL, Bool.and_eq_true, List.all_append, List.all_cons, List.all_nil, List.length_append, List.length_cons, List.length_nil] at h ⊢
  exact ⟨Nat.ble_eq_true_of_le (by omega), h.2, hx, trivial⟩
theorem smL_sub {α : Type} {f : α → Bool} {xs ys : List α} (h : smL f ys = true) (hs : ∀ x ∈ xs, x ∈ ys) (hl : xs.length ≤ ys.length) : smL f xs = true := by
  simp only [smL, Bool.and_eq_true] at h ⊢
  exact ⟨Nat.ble_eq_true_of_le (Nat.le_trans hl (bleN h.1)), List.all_eq_true.2 fun x hx => List.all_eq_true.1 h.2 x (hs x hx)⟩
theorem namesOk_len {xs : List ByteArray} (h : namesOk xs = true) : xs.length ≤ 6 := by
  simp only [namesOk, Bool.and_eq_true, decide_eq_true_eq] at h; omega
theorem qOk_names {w : WorkT} (h : workQOk w = true) : namesOk w.list = true ∧ namesOk w.busy = true ∧ namesOk w.again = true := by
  simp only [workQOk, Bool.and_eq_true] at h; exact ⟨h.1, h.2.1, h.2.2.1⟩
theorem qOk_len {w : WorkT} (h : workQOk w = true) : w.list.length < 1048576 ∧ w.busy.length < 1048576 ∧ w.again.length < 1048576 := by
  obtain ⟨h1, h2, h3⟩ := qOk_names h
  have := namesOk_len h1; have := namesOk_len h2; have := namesOk_len h3
  omega
theorem qOk_fails {w : WorkT} (h : workQOk w = true) : w.fails.length ≤ 12 := by
  simp only [workQOk, Bool.and_eq_true, Bool.not_eq_true', decide_eq_false_iff_not] at h
  omega
def takeN (w : WorkT) (x : ByteArray) (r : List ByteArray) : WorkT := ⟨r, w.busy ++ [x], w.again, w.fails⟩
def workTake (w : WorkT) : WorkT × ByteArray × Bool :=
  cond (workQOk w) (match w.list with
    | [] => (w, ByteArray.empty, false)
    | x :: r => cond (workQOk (takeN w x r)) (takeN w x r, x, true) (w, ByteArray.empty, false)) (w, ByteArray.empty, false)
def addAgain (w : WorkT) (s : ByteArray) : WorkT := ⟨w.list, w.busy, w.again ++ [s], w.fails⟩
def addList (w : WorkT) (s : ByteArray) : WorkT := ⟨w.list ++ [s], w.busy, w.again, w.fails⟩
def workAdd (w : WorkT) (s : ByteArray) : WorkT × Bool :=
  cond (workQOk w) (cond (isIn w.list s || isIn w.again s) (w, true)
    (cond (isIn w.busy s) (cond (workQOk (addAgain w s)) (addAgain w s, true) (w, false)) (cond (workQOk (addList w s)) (addList w s, true) (w, false)))) (w, false)
def gAddW (w : WorkT) (s : ByteArray) : Bool := sm_work w && smStr s
theorem workTake_sm {w : WorkT} (h : sm_work w = true) : sm_work (workTake w).1 = true := by
  unfold workTake
  cases hq : workQOk w with
  | false => exact h
  | true =>
    rw [cond_true]
    cases hl : w.list with
    | nil => exact h
    | cons x r =>
      simp only
      cases workQOk (takeN w x r)
      · exact h
      · simp only [sm_work, Bool.and_eq_true] at h
        rw [hl] at h
        simp only [cond_true, takeN, sm_work, Bool.and_eq_true]
        exact ⟨smL_tail h.1, smL_snoc h.2.1 (smL_head h.1) (qOk_len hq).2.1, h.2.2.1, h.2.2.2⟩
theorem workAdd_sm {w : WorkT} {s : ByteArray} (h : sm_work w = true) (hs : smStr s = true) : sm_work (workAdd w s).1 = true := by
  unfold workAdd
  cases hq : workQOk w with
  | false => exact h
  | true =>
    have h0 := h
    simp only [sm_work, Bool.and_eq_true] at h
    have s1 : sm_work (addAgain w s) = true := by
      simp only [addAgain, sm_work, Bool.and_eq_true]
      exact ⟨h.1, h.2.1, smL_snoc h.2.2.1 hs (qOk_len hq).2.2, h.2.2.2⟩
    have s2 : sm_work (addList w s) = true := by
      simp only [addList, sm_work, Bool.and_eq_true]
      exact ⟨smL_snoc h.1 hs (qOk_len hq).1, h.2.1, h.2.2.1, h.2.2.2⟩
    cases (isIn w.list s || isIn w.again s) <;> cases isIn w.busy s <;> cases workQOk (addAgain w s) <;> cases workQOk (addList w s) <;> assumption

end Go.Gm

/- Plain laws: marks of structs, list by list; how many there are. Printed by mkp14.py of this session. -/
namespace Go.Gm
open Go

end Go.Gm

/- Plain functions: orders. -/
namespace Go.Gm
open Go

def hasPre (a b : ByteArray) : Bool := decide ((a.size : Int) ≥ (b.size : Int)) && sEq (a.extract 0 b.size) b
def ours (a : ByteArray) : Bool := hasPre a (bs [113,117,97,121,47])
def paceOk (p : PaceT) : Bool := inR p.up 0 1000 && (inR p.down 0 1000 && (inR p.upSpan 0 3600 && inR p.downSpan 0 3600))
def metricOk (m : MetricT) : Bool := nameOk m.name && (inR m.kind 1 3 && inR m.goal 1 1000000)
noncomputable def noteC (xs : List NoteT) (j : Nat) : Bool :=
  plainOk (atI (t := .note) xs j).key && (!(hasPre (atI (t := .note) xs j).key (bs [113,117,97,121,47])) && (textOk (atI (t := .note) xs j).text && (!(decide (((atI (t := .note) xs j).text.size : Int) > 40)) &&
    (!(decide ((j : Int) > 0)) || sLt (atI (t := .note) xs (j - 1)).key (atI (t := .note) xs j).key))))
noncomputable def notesOk (xs : List NoteT) : Bool := allN (noteC xs) 0 xs.length && decide ((xs.length : Int) ≤ 4)
def metC (xs : List MetricT) (j : Nat) : Bool := metricOk (atI (t := .metric) xs j) && (!(decide ((j : Int) > 0)) || sLt (atI (t := .metric) xs (j - 1)).name (atI (t := .metric) xs j).name)
def metsOk (xs : List MetricT) : Bool := allN (metC xs) 0 xs.length && decide ((xs.length : Int) ≤ 4)
noncomputable def orderOk (o : OrderT) : Bool :=
  nameOk o.name && (nameOk o.target && (inR o.low 1 o.high && (decide (o.high ≤ 1000) && (metsOk o.metrics && (paceOk o.pace && notesOk o.notes)))))
end Go.Gm

/- Plain functions: what has happened. -/
namespace Go.Gm
open Go

noncomputable def eventC (h : HistT) (j : Nat) : Bool :=
  ((atI (t := .event) h.list j).seq == h.base + 1 + (j : Int)) && (inR (atI (t := .event) h.list j).kind 1 2 && (orderOk (atI (t := .event) h.list j).item.order && inR (atI (t := .event) h.list j).item.ver 1 100000))
noncomputable def histOk (h : HistT) : Bool := inR h.base 0 100000 && (!(decide ((h.list.length : Int) > 60)) && allN (eventC h) 0 h.list.length)
noncomputable def since (h : HistT) (n : Int) : List EventT × Bool := cond (histOk h && inR n h.base (h.base + (h.list.length : Int))) (h.list.drop (n - h.base).toNat, true) ([], false)
end Go.Gm

/- Plain functions: names taken out of lists; what was looked at. -/
namespace Go.Gm
open Go

/-! ### slices.DeleteFunc, its loop -/
theorem getE_of_drop {α : Type} {xs ys : List α} {j : Nat} (h : ys.drop j = xs.drop j) : ys[j]? = xs[j]? := by
  have := congrArg (fun l => l[0]?) h
  simpa [List.getElem?_drop] using this
theorem loop_delf {t : Ty} {R : Type} {xs : List (El t)} {p : El t → Bool} {F : Nat → Int → Int → List (El t) → Option R} {good : Option R}
    (hs : ∀ (m i j : Nat) (vr : List (El t)), i < j → j < xs.length → vr.length = xs.length → F (m + 1) (i : Int) (j : Int) vr = cond (!(p (atI vr j))) (F m ((i + 1 : Nat) : Int) ((j + 1 : Nat) : Int) (vr.set i (atI vr j))) (F m (i : Int) ((j + 1 : Nat) : Int) vr))
    (he : ∀ (m i : Nat) (vr : List (El t)), vr.length = xs.length → i < xs.length → vr.take i = xs.filter (fun x => !(p x)) → F (m + 1) (i : Int) (xs.length : Int) vr = good) :
    ∀ (d i j m : Nat) (vr : List (El t)), j + d = xs.length → d < m → i < j → vr.length = xs.length → vr.take i = (xs.take j).filter (fun x => !(p x)) → vr.drop j = xs.drop j → F m (i : Int) (j : Int) vr = good := by
  intro d
  induction d with
  | zero =>
    intro i j m vr hj hm hij hl ht hd
    obtain ⟨m, rfl⟩ : ∃ m', m = m' + 1 := ⟨m - 1, by omega⟩
    have : j = xs.length := by omega
    subst this
    exact he m i vr hl hij (by rw [ht, List.take_length])
  | succ d ih =>
    intro i j m vr hj hm hij hl ht hd
    obtain ⟨m, rfl⟩ : ∃ m', m = m' + 1 := ⟨m - 1, by omega⟩
    have hjl : j < xs.length := by omega
    rw [hs m i j vr hij hjl hl]
    have hx := atI_lt hjl
    have hv : vr[j]? = some (atI xs j) := by rw [getE_of_drop hd, hx]
    rw [atI_of hv]
    have htk : xs.take (j + 1) = xs.take j ++ [atI xs j] := by rw [List.take_add_one, hx]; rfl
    have hdr : vr.drop (j + 1) = xs.drop (j + 1) := by
      have := congrArg (List.drop 1) hd
      simpa [List.drop_drop, Nat.add_comm] using this
    cases hp : p (atI xs j) with
    | true => exact ih i (j + 1) m vr (by omega) (by omega) (by omega) hl (by rw [htk, List.filter_append, ht]; simp [hp]) hdr
    | false =>
      refine ih (i + 1) (j + 1) m _ (by omega) (by omega) (by omega) (by simpa using hl) ?_ ?_
      · rw [htk, List.filter_append, ← ht, List.take_add_one, List.getElem?_set_self (by omega), List.take_set_of_le (by omega)]
        simp [hp]
      · rw [List.drop_set_of_lt (by omega)]; exact hdr
theorem delf_start {t : Ty} {xs : List (El t)} {p : El t → Bool} {i : Nat} (hi : i < xs.length) (hp : p (atI xs i) = true) (hall : ∀ k, 0 ≤ k → k < i → p (atI xs k) = false) : xs.take i = (xs.take (i + 1)).filter fun x => !(p x) := by
  rw [List.take_add_one, atI_lt hi, List.filter_append]
  have h1 : (xs.take i).filter (fun x => !(p x)) = xs.take i := by
    rw [List.filter_eq_self]
    intro x hx
    obtain ⟨k, hk⟩ := List.getElem?_of_mem hx
    rw [List.getElem?_take] at hk
    split at hk
    · rename_i hk'
      rw [← atI_of hk, hall k (by omega) hk']; rfl
    · cases hk
  rw [h1]; simp [hp]
theorem delf_none {t : Ty} {xs : List (El t)} {p : El t → Bool} (hall : ∀ k, 0 ≤ k → k < 0 + xs.length → p (atI xs k) = false) : xs.filter (fun x => !(p x)) = xs := by
  rw [List.filter_eq_self]
  intro x hx
  obtain ⟨k, hk⟩ := List.getElem?_of_mem hx
  rw [← atI_of hk, hall k (by omega) (by have := el_lt hk; omega)]; rfl
theorem clrL_take {α : Type} (z : α) {xs : List α} {lo hi : Nat} (h : lo ≤ xs.length) : (clrL z xs lo hi).take lo = xs.take lo := by
  unfold clrL
  rw [List.append_assoc, List.take_append_of_le_length (by simp; omega), List.take_take, Nat.min_self]

/-! ### names -/
def strIs (s t : ByteArray) : Bool := sEq s t
def strAt (xs : List ByteArray) (s : ByteArray) : Int := findI (t := .str) (fun x => strIs x s) xs
def butName (xs : List ByteArray) (s : ByteArray) : List ByteArray := xs.filter fun x => !(strIs x s)
theorem foldl_filter {α : Type} (p : α → Bool) : ∀ (xs acc : List α), xs.foldl (fun out x => cond (p x) (out ++ [x]) out) acc = acc ++ xs.filter p
  | [], acc => by simp
  | x :: r, acc => by
    rw [List.foldl_cons, foldl_filter p r]
    cases h : p x <;> simp [h]
theorem butName_no {xs : List ByteArray} {s : ByteArray} (h : isIn xs s = false) : butName xs s = xs := by
  unfold butName
  rw [List.filter_eq_self]
  intro x hx
  unfold isIn at h
  rw [List.any_eq_false] at h
  have := h x hx
  simp only [strIs]
  cases hq : sEq x s
  · rfl
  · exact (this hq).elim
theorem smL_filter {α : Type} {f : α → Bool} {xs : List α} {p : α → Bool} (h : smL f xs = true) : smL f (xs.filter p) = true :=
  smL_sub h (fun x hx => (List.mem_filter.1 hx).1) (List.length_filter_le _ _)

/-! ### failures -/
def failedF (s : ByteArray) (ok : Bool) (a : Int × List FailT) (x : FailT) : Int × List FailT :=
  cond (!(sEq x.name s)) (a.1, a.2 ++ [x]) (cond (!ok) (x.n, a.2 ++ [⟨s, minI (IntKind.wrap .i64 (x.n + (1 : Int))) (20 : Int)⟩]) (x.n, a.2))
def failedS (xs : List FailT) (s : ByteArray) (ok : Bool) : List FailT :=
  let r := xs.foldl (failedF s ok) ((0 : Int), ([] : List FailT))
  cond (r.1 == (0 : Int)) (cond (!ok) (r.2 ++ [⟨s, (1 : Int)⟩]) r.2) r.2
def failedI (xs : List FailT) (s : ByteArray) (ok : Bool) : List FailT :=
  match failO xs s with
  | none => cond ok xs (xs ++ [⟨s, (1 : Int)⟩])
  | some i => cond ok (delL xs (i : Int) ((i + 1 : Nat) : Int)) (xs.set i ⟨(atI (t := .fail) xs i).name, minI ((atI (t := .fail) xs i).n + 1) 20⟩)
theorem failed_none {s : ByteArray} {ok : Bool} : ∀ {l : List FailT} {n : Int} {out : List FailT}, (∀ x ∈ l, sEq x.name s = false) → l.foldl (failedF s ok) (n, out) = (n, out ++ l)
  | [], n, out, _ => by simp
  | x :: r, n, out, h => by
    have h1 := h x (by simp)
    rw [List.foldl_cons]
    have : failedF s ok (n, out) x = (n, out ++ [x]) := by simp [failedF, h1]
    rw [this, failed_none fun y hy => h y (by simp [hy])]
    simp
theorem failed_eq {xs : List FailT} {s : ByteArray} {ok : Bool} (h : allN (failC xs) 0 xs.length = true) : failedS xs s ok = failedI xs s ok := by
  rw [allN_iff] at h
  unfold failedS failedI
  cases hO : failO xs s with
  | none =>
    have hn := firstN_none hO
    have : ∀ x ∈ xs, sEq x.name s = false := by
      intro x hx
      obtain ⟨k, hk⟩ := List.getElem?_of_mem hx
      have := hn k (by omega) (by have := el_lt hk; omega)
      rw [atI_of (t := .fail) hk] at this
      exact this
    rw [failed_none this]
    cases ok <;> rfl
  | some i =>
    obtain ⟨_, hi, hp, hall⟩ := firstN_some hO
    have hi : i < xs.length := by omega
    have hx := atI_lt (t := .fail) hi
    have hname : (atI (t := .fail) xs i).name = s := sEq_iff.1 hp
    have hci := h i (by omega) (by omega)
    simp only [failC, Bool.and_eq_true, inR_iff] at hci
    have hsplit : xs = xs.take i ++ atI (t := .fail) xs i :: xs.drop (i + 1) := by
      have e1 : xs.drop i = atI (t := .fail) xs i :: xs.drop (i + 1) := by
        rw [List.drop_eq_getElem_cons hi]
        congr 1
        rw [List.getElem?_eq_getElem hi] at hx
        exact Option.some.inj hx
      conv => lhs; rw [← List.take_append_drop i xs, e1]
    have h1 : ∀ x ∈ xs.take i, sEq x.name s = false := by
      intro x hx
      obtain ⟨k, hk⟩ := List.getElem?_of_mem hx
      rw [List.getElem?_take] at hk
      split at hk
      · rename_i hk'
        have := hall k (by omega) hk'
        rw [atI_of (t := .fail) hk] at this
        exact this
      · cases hk
    have h2 : ∀ x ∈ xs.drop (i + 1), sEq x.name s = false := by
      intro x hx
      obtain ⟨k, hk⟩ := List.getElem?_of_mem hx
      rw [List.getElem?_drop] at hk
      have hkl := el_lt hk
      have hck := h (i + 1 + k) (by omega) (by omega)
      rw [Bool.eq_false_iff]
      intro hq
      have hq := sEq_iff.1 hq
      simp only [failC, Bool.and_eq_true, atI_of (t := .fail) hk, hq] at hck
      have h3 := hck.2.1
      have hfa : failAt xs s = (i : Int) := by unfold failAt; rw [hO]; rfl
      rw [hfa] at h3
      have hne : ((i : Int) != ((i + 1 + k : Nat) : Int)) = true := by simp only [bne_iff_ne]; omega
      rw [hne] at h3
      cases h3
    have hset : ∀ y, xs.set i y = xs.take i ++ y :: xs.drop (i + 1) := fun y => by rw [List.set_eq_take_append_cons_drop, if_pos hi]
    have hdel : delL xs (i : Int) ((i + 1 : Nat) : Int) = xs.take i ++ xs.drop (i + 1) := by simp only [delL, Int.toNat_natCast]
    simp only [hset, hdel]
    generalize xs.take i = A at hsplit h1
    generalize xs.drop (i + 1) = B at hsplit h2
    generalize atI (t := .fail) xs i = y at hsplit hname hci
    subst hsplit
    rw [List.foldl_append, failed_none h1, List.foldl_cons]
    obtain ⟨ny, nn⟩ := y
    simp only at hname hci
    subst hname
    have hw : IntKind.wrap .i64 (nn + (1 : Int)) = nn + 1 := wrap_id (by omega) (by omega)
    have hnz : (nn == (0 : Int)) = false := by rw [beq_eq_false_iff_ne]; omega
    have hself : sEq ny ny = true := sEq_self ny
    cases ok
    · have : failedF ny false ((0 : Int), [] ++ A) ⟨ny, nn⟩ = (nn, A ++ [⟨ny, minI (nn + 1) 20⟩]) := by simp [failedF, hself, hw]
      rw [this, failed_none h2]
      simp [hnz]
    · have : failedF ny true ((0 : Int), [] ++ A) ⟨ny, nn⟩ = (nn, A) := by simp [failedF, hself]
      rw [this, failed_none h2]
      simp [hnz]
theorem failedI_sm {xs : List FailT} {s : ByteArray} {ok : Bool} (h : smL sm_fail xs = true) (hs : smStr s = true) (hl : xs.length < 1048576) : smL sm_fail (failedI xs s ok) = true := by
  unfold failedI
  cases hO : failO xs s with
  | none =>
    cases ok
    · exact smL_snoc h (by simp only [sm_fail, Bool.and_eq_true]; exact ⟨hs, by decide⟩) hl
    · exact h
  | some i =>
    have hi := failO_lt hO
    cases ok
    · simp only [cond_false]
      have hx := List.all_eq_true.1 (smL_all h) (atI (t := .fail) xs i) (List.mem_of_getElem? (atI_lt (t := .fail) hi))
      have hl' := h
      simp only [smL, Bool.and_eq_true] at hl' ⊢
      refine ⟨by rw [List.length_set]; exact hl'.1, List.all_eq_true.2 fun x hx' => ?_⟩
      rcases List.mem_or_eq_of_mem_set hx' with hm | rfl
      · exact List.all_eq_true.1 hl'.2 x hm
      · simp only [sm_fail, Bool.and_eq_true, okI_iff] at hx ⊢
        refine ⟨hx.1, ?_⟩
        unfold minI
        split <;> omega
    · simp only [cond_true, delL, Int.toNat_natCast]
      refine smL_sub h (fun x hx => ?_) (by simp; omega)
      rcases List.mem_append.1 hx with hx | hx
      · exact List.mem_of_mem_take hx
      · exact List.mem_of_mem_drop hx

/-! ### what was looked at -/
def doneW (w : WorkT) (s : ByteArray) (ok : Bool) : WorkT := ⟨cond (isIn w.again s || !ok) (w.list ++ [s]) w.list, butName w.busy s, butName w.again s, failedI w.fails s ok⟩
def workDone (w : WorkT) (s : ByteArray) (ok : Bool) : WorkT × Bool :=
  cond (workQOk w) (cond (isIn w.busy s) (cond (workQOk (doneW w s ok)) (doneW w s ok, true) (w, false)) (w, false)) (w, false)
def gDoneW (w : WorkT) (s : ByteArray) (_ : Bool) : Bool := sm_work w && smStr s
theorem qOk_allF {w : WorkT} (h : workQOk w = true) : allN (failC w.fails) 0 w.fails.length = true := by
  simp only [workQOk, Bool.and_eq_true] at h; exact h.2.2.2.2.2.2
theorem qOk_apart {w : WorkT} {s : ByteArray} (h : workQOk w = true) (hb : isIn w.busy s = true) : isIn w.list s = false := by
  simp only [workQOk, Bool.and_eq_true, Bool.not_eq_true'] at h
  have h1 := h.2.2.2.2.1
  unfold inBusyAny at h1
  rw [List.any_eq_false] at h1
  rw [Bool.eq_false_iff]
  intro hq
  unfold isIn at hq
  rw [List.any_eq_true] at hq
  obtain ⟨x, hx, he⟩ := hq
  have := sEq_iff.1 he
  subst this
  exact h1 x hx hb
theorem doneW_sm {w : WorkT} {s : ByteArray} {ok : Bool} (h : sm_work w = true) (hs : smStr s = true) (hq : workQOk w = true) : sm_work (doneW w s ok) = true := by
  have hl := qOk_len hq
  have hf := qOk_fails hq
  simp only [sm_work, Bool.and_eq_true] at h
  simp only [doneW, sm_work, Bool.and_eq_true]
  refine ⟨?_, smL_filter h.2.1, smL_filter h.2.2.1, failedI_sm h.2.2.2 hs (by omega)⟩
  cases (isIn w.again s || !ok)
  · exact h.1
  · exact smL_snoc h.1 hs hl.1
theorem workDone_sm {w : WorkT} {s : ByteArray} {ok : Bool} (h : sm_work w = true) (hs : smStr s = true) : sm_work (workDone w s ok).1 = true := by
  unfold workDone
  cases hq : workQOk w with
  | false => exact h
  | true =>
    have := doneW_sm (ok := ok) h hs hq
    cases isIn w.busy s <;> cases workQOk (doneW w s ok) <;> assumption
theorem done_fin {R : Type} {k : List Dt → Option R} {w N : WorkT} {s : ByteArray} {ok : Bool} (hq : workQOk w = true) (hb : isIn w.busy s = true) (h : sm_work w = true) (hs : smStr s = true) (hN : N = doneW w s ok) :
    cond (sm_work N) (cond (!(workQOk N)) (k [.d .work w, .d .bool false]) (k [.d .work N, .d .bool true])) none = k [.d .work (workDone w s ok).1, .d .bool (workDone w s ok).2] := by
  subst hN
  unfold workDone
  rw [doneW_sm h hs hq, hq, hb]
  simp only [cond_true]
  cases workQOk (doneW w s ok) <;> rfl
theorem gDel_one {α : Type} {xs : List α} {i : Nat} (h : i < xs.length) : gDel xs (i : Int) ((i + 1 : Nat) : Int) = true := by
  simp only [gDel, Bool.and_eq_true, decide_eq_true_eq]; omega
theorem isIn_snoc (xs : List ByteArray) (s : ByteArray) : isIn (xs ++ [s]) s = true := by
  simp [isIn, sEq_self]
end Go.Gm

/- Plain laws: what failed waits longer. -/
namespace Go.Gm
open Go

def bigC (xs : List Int) : Bool := decide ((xs.length : Int) > (1048576 : Int))
end Go.Gm

/- Plain laws: a name is looked at by one at a time. -/
namespace Go.Gm
open Go

theorem isIn_iff {xs : List ByteArray} {s : ByteArray} : isIn xs s = true ↔ s ∈ xs := by
  unfold isIn
  rw [List.any_eq_true]
  constructor
  · rintro ⟨x, hx, he⟩
    rw [sEq_iff] at he; subst he; exact hx
  · intro h; exact ⟨s, h, sEq_self s⟩
theorem isIn_not {xs : List ByteArray} {s : ByteArray} : isIn xs s = false ↔ s ∉ xs := by
  rw [← isIn_iff]; cases isIn xs s <;> simp
theorem mem_butName {xs : List ByteArray} {s t : ByteArray} : t ∈ butName xs s ↔ t ∈ xs ∧ t ≠ s := by
  unfold butName strIs
  rw [List.mem_filter]
  constructor
  · rintro ⟨h1, h2⟩
    refine ⟨h1, fun e => ?_⟩
    rw [e, sEq_self] at h2; cases h2
  · rintro ⟨h1, h2⟩
    refine ⟨h1, ?_⟩
    cases hq : sEq t s
    · rfl
    · exact (h2 (sEq_iff.1 hq)).elim
theorem butName_nodup {xs : List ByteArray} {s : ByteArray} (h : xs.Nodup) : (butName xs s).Nodup := List.Pairwise.sublist List.filter_sublist h
theorem butName_len (xs : List ByteArray) (s : ByteArray) : xs.Nodup → xs.length ≤ (butName xs s).length + 1 := by
  induction xs with
  | nil => intro _; simp
  | cons x r ih =>
    intro h
    have h := List.pairwise_cons.1 h
    unfold butName
    rw [List.filter_cons]
    cases hq : strIs x s
    · simp only [Bool.not_false, if_true, List.length_cons]
      have := ih h.2
      unfold butName at this; omega
    · have e : x = s := sEq_iff.1 hq
      have : r.filter (fun y => !(strIs y s)) = r := by
        rw [List.filter_eq_self]
        intro y hy
        cases hq' : strIs y s
        · rfl
        · exact (h.1 y hy (e.trans (sEq_iff.1 hq').symm)).elim
      simp only [Bool.not_true, Bool.false_eq_true, if_false, this, List.length_cons]
      omega
theorem nodup_le : ∀ (ys xs : List ByteArray), xs.Nodup → (∀ s ∈ xs, s ∈ ys) → xs.length ≤ ys.length
  | [], xs, _, h => by
    cases xs with
    | nil => exact Nat.le_refl _
    | cons x r => have := h x (by simp); cases this
  | y :: ys, xs, hn, h => by
    have h1 := butName_len xs y hn
    have h2 := nodup_le ys (butName xs y) (butName_nodup hn) fun s hs => by
      obtain ⟨h3, h4⟩ := mem_butName.1 hs
      rcases List.mem_cons.1 (h s h3) with e | h5
      · exact (h4 e).elim
      · exact h5
    rw [List.length_cons]; omega
theorem nodup_snoc {xs : List ByteArray} {s : ByteArray} (h : xs.Nodup) (hs : s ∉ xs) : (xs ++ [s]).Nodup := by
  unfold List.Nodup
  rw [List.pairwise_append]
  refine ⟨h, List.pairwise_singleton _ _, fun a ha b hb => ?_⟩
  rw [List.mem_singleton] at hb
  subst hb
  exact fun e => hs (e ▸ ha)

def four : List ByteArray := [bs [97], bs [98], bs [99], bs [100]]
theorem four_ok : ∀ s ∈ four, nameOk s = true ∧ smStr s = true := by
  intro s hs
  simp only [four, List.mem_cons, List.not_mem_nil, or_false] at hs
  rcases hs with rfl | rfl | rfl | rfl <;> exact ⟨by decide, by decide⟩
theorem four_len : four.length = 4 := rfl
theorem namesOk_of {xs : List ByteArray} (hn : xs.Nodup) (h : ∀ s ∈ xs, s ∈ four) : namesOk xs = true := by
  have hl := nodup_le four xs hn h
  rw [four_len] at hl
  unfold namesOk
  rw [Bool.and_eq_true, allN_iff]
  refine ⟨fun j _ hj => ?_, decide_eq_true (by omega)⟩
  have hj : j < xs.length := by omega
  have hx := atI_lt (t := .str) hj
  have hm := List.mem_of_getElem? hx
  unfold nameAt
  rw [(four_ok _ (h _ hm)).1, Bool.true_and, isIn_not.2]
  · rfl
  · intro hin
    obtain ⟨i, hi⟩ := List.getElem?_of_mem hin
    rw [List.getElem?_take] at hi
    split at hi
    · rename_i hij
      have := List.pairwise_iff_getElem.1 hn i j (by omega) hj hij
      rw [List.getElem?_eq_getElem (by omega)] at hi hx
      exact this ((Option.some.inj hi).trans (Option.some.inj hx).symm)
    · cases hi

/-- What holds of the work all the while. -/
structure WInv (w : WorkT) : Prop where
  sub : ∀ s, s ∈ w.list ∨ s ∈ w.busy ∨ s ∈ w.again → s ∈ four
  nl : w.list.Nodup
  nb : w.busy.Nodup
  na : w.again.Nodup
  apart : ∀ s ∈ w.list, s ∉ w.busy
  sel : ∀ s ∈ w.again, s ∈ w.busy
  fails : w.fails = []
theorem WInv.ok {w : WorkT} (h : WInv w) : workQOk w = true := by
  have h1 := namesOk_of h.nl fun s hs => h.sub s (.inl hs)
  have h2 := namesOk_of h.nb fun s hs => h.sub s (.inr (.inl hs))
  have h3 := namesOk_of h.na fun s hs => h.sub s (.inr (.inr hs))
  have h4 : inBusyAny w.list w = false := by
    unfold inBusyAny inBusy
    rw [List.any_eq_false]
    intro x hx
    rw [isIn_not.2 (h.apart x hx)]; decide
  have h5 : notBusyAny w.again w = false := by
    unfold notBusyAny notBusy
    rw [List.any_eq_false]
    intro x hx
    rw [isIn_iff.2 (h.sel x hx)]; decide
  unfold workQOk
  rw [h1, h2, h3, h4, h5, h.fails]
  rfl
/-- What is asked for. -/
def Asks (w : WorkT) (s : ByteArray) : Prop := s ∈ w.list ∨ s ∈ w.again

theorem WInv.add {w : WorkT} (h : WInv w) {s : ByteArray} (hs : s ∈ four) : (workAdd w s).2 = true ∧ WInv (workAdd w s).1 ∧ (workAdd w s).1.busy = w.busy ∧ ∀ t, Asks (workAdd w s).1 t ↔ Asks w t ∨ t = s := by
  unfold workAdd
  rw [h.ok]
  simp only [cond_true]
  cases h1 : isIn w.list s || isIn w.again s
  · rw [Bool.or_eq_false_iff, isIn_not, isIn_not] at h1
    obtain ⟨hl, ha⟩ := h1
    simp only [cond_false]
    cases hb : isIn w.busy s
    · have hb' := isIn_not.1 hb
      have I : WInv (addList w s) := by
        refine ⟨fun t ht => ?_, nodup_snoc h.nl hl, h.nb, h.na, fun t ht => ?_, h.sel, h.fails⟩
        · rcases ht with ht | ht
          · rcases List.mem_append.1 ht with ht | ht
            · exact h.sub t (.inl ht)
            · rw [List.mem_singleton] at ht; subst ht; exact hs
          · exact h.sub t (.inr ht)
        · rcases List.mem_append.1 ht with ht | ht
          · exact h.apart t ht
          · rw [List.mem_singleton] at ht; subst ht; exact hb'
      rw [I.ok]
      refine ⟨rfl, I, rfl, fun t => ?_⟩
      show t ∈ w.list ++ [s] ∨ t ∈ w.again ↔ (t ∈ w.list ∨ t ∈ w.again) ∨ t = s
      rw [List.mem_append, List.mem_singleton, or_right_comm]
    · have hb' := isIn_iff.1 hb
      have I : WInv (addAgain w s) := by
        refine ⟨fun t ht => ?_, h.nl, h.nb, nodup_snoc h.na ha, h.apart, fun t ht => ?_, h.fails⟩
        · rcases ht with ht | ht | ht
          · exact h.sub t (.inl ht)
          · exact h.sub t (.inr (.inl ht))
          · rcases List.mem_append.1 ht with ht | ht
            · exact h.sub t (.inr (.inr ht))
            · rw [List.mem_singleton] at ht; subst ht; exact hs
        · rcases List.mem_append.1 ht with ht | ht
          · exact h.sel t ht
          · rw [List.mem_singleton] at ht; subst ht; exact hb'
      rw [I.ok]
      refine ⟨rfl, I, rfl, fun t => ?_⟩
      show t ∈ w.list ∨ t ∈ w.again ++ [s] ↔ (t ∈ w.list ∨ t ∈ w.again) ∨ t = s
      rw [List.mem_append, List.mem_singleton, or_assoc]
  · refine ⟨rfl, h, rfl, fun t => ⟨fun ht => .inl ht, fun ht => ?_⟩⟩
    rcases ht with ht | rfl
    · exact ht
    · rw [Bool.or_eq_true, isIn_iff, isIn_iff] at h1; exact h1
theorem WInv.take1 {w : WorkT} (h : WInv w) {x : ByteArray} {r : List ByteArray} (hl : w.list = x :: r) : workTake w = (takeN w x r, x, true) ∧ WInv (takeN w x r) ∧ x ∉ w.busy ∧ x ∈ four ∧ Asks w x ∧ ∀ t, Asks (takeN w x r) t ↔ Asks w t ∧ t ≠ x := by
  have hx : x ∈ w.list := by rw [hl]; simp
  have hxb := h.apart x hx
  have hn := h.nl
  rw [hl] at hn
  have hn := List.pairwise_cons.1 hn
  have hr : ∀ t ∈ r, t ∈ w.list := fun t ht => by rw [hl]; simp [ht]
  have I : WInv (takeN w x r) := by
    refine ⟨fun t ht => ?_, hn.2, nodup_snoc h.nb hxb, h.na, fun t ht => ?_, fun t ht => List.mem_append.2 (.inl (h.sel t ht)), h.fails⟩
    · rcases ht with ht | ht | ht
      · exact h.sub t (.inl (hr t ht))
      · rcases List.mem_append.1 ht with ht | ht
        · exact h.sub t (.inr (.inl ht))
        · rw [List.mem_singleton] at ht; subst ht; exact h.sub _ (.inl hx)
      · exact h.sub t (.inr (.inr ht))
    · intro hb
      rcases List.mem_append.1 hb with hb | hb
      · exact h.apart t (hr t ht) hb
      · rw [List.mem_singleton] at hb; exact hn.1 t ht hb.symm
  refine ⟨?_, I, hxb, h.sub x (.inl hx), .inl hx, fun t => ⟨fun ht => ?_, fun ht => ?_⟩⟩
  · unfold workTake
    rw [h.ok, hl]
    simp only [cond_true, I.ok]
  · rcases ht with ht | ht
    · exact ⟨.inl (hr t ht), fun e => hn.1 t ht e.symm⟩
    · exact ⟨.inr ht, fun e => hxb (e ▸ h.sel t ht)⟩
  · obtain ⟨ht | ht, hne⟩ := ht
    · rw [hl] at ht
      rcases List.mem_cons.1 ht with e | ht
      · exact (hne e).elim
      · exact .inl ht
    · exact .inr ht
theorem WInv.done {w : WorkT} (h : WInv w) (s : ByteArray) : (workDone w s true).2 = isIn w.busy s ∧ WInv (workDone w s true).1 ∧ (workDone w s true).1.busy = butName w.busy s ∧ ∀ t, Asks (workDone w s true).1 t ↔ Asks w t := by
  unfold workDone
  rw [h.ok]
  simp only [cond_true]
  cases hb : isIn w.busy s
  · exact ⟨rfl, h, (butName_no hb).symm, fun t => Iff.rfl⟩
  · have hb' := isIn_iff.1 hb
    have hf : failedI w.fails s true = [] := by rw [h.fails]; rfl
    have hsl : s ∉ w.list := fun hs => h.apart s hs hb'
    have hlist : (doneW w s true).list = cond (isIn w.again s) (w.list ++ [s]) w.list := by simp [doneW]
    have hmem : ∀ t, t ∈ (doneW w s true).list ↔ t ∈ w.list ∨ (t = s ∧ s ∈ w.again) := by
      intro t
      rw [hlist]
      cases ha : isIn w.again s
      · have := isIn_not.1 ha
        simp only [cond_false]
        exact ⟨.inl, fun ht => ht.elim id fun ⟨_, h2⟩ => (this h2).elim⟩
      · have := isIn_iff.1 ha
        simp only [cond_true, List.mem_append, List.mem_singleton]
        exact ⟨fun ht => ht.imp id fun e => ⟨e, this⟩, fun ht => ht.imp id fun e => e.1⟩
    have I : WInv (doneW w s true) := by
      refine ⟨fun t ht => ?_, ?_, butName_nodup h.nb, butName_nodup h.na, fun t ht => ?_, fun t ht => ?_, hf⟩
      · rcases ht with ht | ht | ht
        · rcases (hmem t).1 ht with ht | ⟨rfl, ht⟩
          · exact h.sub t (.inl ht)
          · exact h.sub _ (.inr (.inr ht))
        · exact h.sub t (.inr (.inl (mem_butName.1 ht).1))
        · exact h.sub t (.inr (.inr (mem_butName.1 ht).1))
      · rw [hlist]
        cases isIn w.again s
        · exact h.nl
        · exact nodup_snoc h.nl hsl
      · intro hq
        obtain ⟨h1, h2⟩ := mem_butName.1 hq
        rcases (hmem t).1 ht with ht | ⟨e, _⟩
        · exact h.apart t ht h1
        · exact h2 e
      · obtain ⟨h1, h2⟩ := mem_butName.1 ht
        exact mem_butName.2 ⟨h.sel t h1, h2⟩
    rw [I.ok]
    refine ⟨rfl, I, rfl, fun t => ?_⟩
    show t ∈ (doneW w s true).list ∨ t ∈ butName w.again s ↔ t ∈ w.list ∨ t ∈ w.again
    rw [hmem, mem_butName]
    constructor
    · rintro ((h1 | ⟨rfl, h1⟩) | ⟨h1, _⟩)
      · exact .inl h1
      · exact .inr h1
      · exact .inr h1
    · rintro (h1 | h1)
      · exact .inl (.inl h1)
      · by_cases e : t = s
        · subst e; exact .inl (.inr ⟨rfl, h1⟩)
        · exact .inr ⟨h1, e⟩

/-- What holds ahead of each round. -/
structure Round (w : WorkT) (asked busy : List ByteArray) : Prop where
  inv : WInv w
  busy : busy = w.busy
  nd : asked.Nodup
  asked : ∀ t, t ∈ asked ↔ Asks w t
theorem Round.four {w : WorkT} {asked busy : List ByteArray} (h : Round w asked busy) : ∀ s ∈ asked, s ∈ four := fun s hs => by
  rcases (h.asked s).1 hs with h1 | h1
  · exact h.inv.sub s (.inl h1)
  · exact h.inv.sub s (.inr (.inr h1))
theorem Round.start : Round ⟨[], [], [], []⟩ [] [] :=
  ⟨⟨fun s h => by simp at h, List.Pairwise.nil, List.Pairwise.nil, List.Pairwise.nil, fun s h => by simp at h, fun s h => by simp at h, rfl⟩, rfl, List.Pairwise.nil, fun t => by simp [Asks]⟩
def askedA (asked : List ByteArray) (s : ByteArray) : List ByteArray := cond (!(isIn asked s)) (asked ++ [s]) asked
theorem Round.add {w : WorkT} {asked busy : List ByteArray} (h : Round w asked busy) {s : ByteArray} (hs : s ∈ Gm.four) : Round (workAdd w s).1 (askedA asked s) busy := by
  obtain ⟨h1, h2, h3, h4⟩ := h.inv.add hs
  refine ⟨h2, by rw [h3]; exact h.busy, ?_, fun t => ?_⟩
  · unfold askedA
    cases hq : isIn asked s
    · exact nodup_snoc h.nd (isIn_not.1 hq)
    · exact h.nd
  · rw [h4, ← h.asked t]
    unfold askedA
    cases hq : isIn asked s
    · simp only [Bool.not_false, cond_true, List.mem_append, List.mem_singleton]
    · have := isIn_iff.1 hq
      simp only [Bool.not_true, cond_false]
      exact ⟨.inl, fun ht => ht.elim id fun e => e ▸ this⟩
theorem Round.take {w : WorkT} {asked busy : List ByteArray} (h : Round w asked busy) {x : ByteArray} {r : List ByteArray} (hl : w.list = x :: r) : Round (takeN w x r) (butName asked x) (busy ++ [x]) ∧ isIn busy x = false := by
  obtain ⟨_, h2, h3, _, _, h4⟩ := h.inv.take1 hl
  refine ⟨⟨h2, by rw [h.busy]; rfl, butName_nodup h.nd, fun t => ?_⟩, isIn_not.2 (by rw [h.busy]; exact h3)⟩
  rw [mem_butName, h.asked t, h4]
theorem Round.done {w : WorkT} {asked busy : List ByteArray} (h : Round w asked busy) (s : ByteArray) : (workDone w s true).2 = isIn busy s ∧ Round (workDone w s true).1 asked (butName busy s) := by
  obtain ⟨h1, h2, h3, h4⟩ := h.inv.done s
  refine ⟨by rw [h1, h.busy], h2, by rw [h3, h.busy], h.nd, fun t => ?_⟩
  rw [h.asked t, h4]

end Go.Gm
namespace Go.Gm
open Go
theorem eta_work (w : WorkT) : (⟨w.list, w.busy, w.again, w.fails⟩ : WorkT) = w := by cases w; rfl
end Go.Gm
namespace Go.Gm
theorem cT {α : Type} {b : Bool} {x y z : α} (h : b = true) (hx : x = z) : cond b x y = z := by subst h; exact hx
theorem cF {α : Type} {b : Bool} {x y z : α} (h : b = false) (hy : y = z) : cond b x y = z := by subst h; exact hy
end Go.Gm

/- The cursor of the draws: what stays true of it. -/
namespace Go.Gm
open Go

def gCur (c : CurT) : Bool := decide (0 ≤ c.i) && Nat.ble c.b.length 1048576
theorem gCur_iff {c : CurT} : gCur c = true ↔ 0 ≤ c.i ∧ c.b.length ≤ 1048576 := by
  unfold gCur
  rw [Bool.and_eq_true, decide_eq_true_eq, Nat.ble_eq]
def gCode (b : List Int) : Bool := Nat.ble b.length 1048576
def gPickS (c : CurT) (l : List ByteArray) : Bool := gCur c && (!l.isEmpty && Nat.ble l.length 1048576)
def gPickI (c : CurT) (l : List Int) : Bool := gCur c && (!l.isEmpty && Nat.ble l.length 1048576)
theorem and255 (A : Int) : 0 ≤ ((BitVec.toNat (BitVec.ofInt (IntKind.bits .i64) A &&& BitVec.ofInt (IntKind.bits .i64) (255 : Int)) : Nat) : Int) ∧
    ((BitVec.toNat (BitVec.ofInt (IntKind.bits .i64) A &&& BitVec.ofInt (IntKind.bits .i64) (255 : Int)) : Nat) : Int) ≤ 255 := by
  refine ⟨Int.natCast_nonneg _, ?_⟩
  have h : BitVec.toNat (BitVec.ofInt (IntKind.bits .i64) A &&& BitVec.ofInt (IntKind.bits .i64) (255 : Int)) ≤ 255 := by
    rw [BitVec.toNat_and]
    exact Nat.le_trans Nat.and_le_right (by decide)
  omega
theorem and255w (A : Int) : 0 ≤ IntKind.wrap .i64 ((BitVec.toNat (BitVec.ofInt (IntKind.bits .i64) A &&& BitVec.ofInt (IntKind.bits .i64) (255 : Int)) : Nat) : Int) ∧
    IntKind.wrap .i64 ((BitVec.toNat (BitVec.ofInt (IntKind.bits .i64) A &&& BitVec.ofInt (IntKind.bits .i64) (255 : Int)) : Nat) : Int) ≤ 255 := by
  have := and255 A
  rw [wrap_id (by omega) (by omega)]; exact this
theorem tmod_bd {x n : Int} (h : 0 ≤ x) (hn : 0 < n) : 0 ≤ Int.tmod x n ∧ Int.tmod x n < n := ⟨Int.tmod_nonneg n h, Int.tmod_lt_of_pos x hn⟩
theorem below4 {x y z w : Int} (hx : 0 ≤ x ∧ x ≤ 255) (hy : 0 ≤ y ∧ y ≤ 255) (hz : 0 ≤ z ∧ z ≤ 255) (hw : 0 ≤ w ∧ w ≤ 255) :
    0 ≤ IntKind.wrap .i64 ((IntKind.wrap .i64 ((IntKind.wrap .i64 ((IntKind.wrap .i64 (x * (16777216 : Int))) + (IntKind.wrap .i64 (y * (65536 : Int))))) + (IntKind.wrap .i64 (z * (256 : Int))))) + w) := by
  rw [wrap_id (x := x * 16777216) (by omega) (by omega), wrap_id (x := y * 65536) (by omega) (by omega), wrap_id (x := z * 256) (by omega) (by omega), wrap_id (x := x * 16777216 + y * 65536) (by omega) (by omega),
    wrap_id (x := x * 16777216 + y * 65536 + z * 256) (by omega) (by omega), wrap_id (by omega) (by omega)]
  omega
theorem mem_atI {t : Ty} {xs : List (El t)} {i : Int} (h0 : 0 ≤ i) (h : i < (xs.length : Int)) : atI xs (Int.toNat i) ∈ xs :=
  List.mem_of_getElem? (atI_lt (by omega))
theorem idxOk {α : Type} {xs : List α} {i : Int} (h0 : 0 ≤ i) (h : i < (xs.length : Int)) : (decide ((0 : Int) ≤ i) && decide (i < (xs.length : Int))) = true := by
  rw [decide_eq_true h0, decide_eq_true h]; rfl
theorem lenPos {α : Type} {xs : List α} (h : (!xs.isEmpty) = true) : 0 < (xs.length : Int) := by
  cases xs with
  | nil => cases h
  | cons x r => simp

theorem gPickS_of {c : CurT} {l : List ByteArray} (h : gCur c = true) (hl : (!l.isEmpty && Nat.ble l.length 1048576) = true) : gPickS c l = true := by
  unfold gPickS; rw [h, hl]; rfl
theorem gPickI_of {c : CurT} {l : List Int} (h : gCur c = true) (hl : (!l.isEmpty && Nat.ble l.length 1048576) = true) : gPickI c l = true := by
  unfold gPickI; rw [h, hl]; rfl
theorem eta_cur (c : CurT) : (⟨c.b, c.i, c.h⟩ : CurT) = c := by cases c; rfl

open Classical in
/-- Are they the same? -/
noncomputable def eqB {α : Type} (a b : α) : Bool := decide (a = b)
theorem eqB_iff {α : Type} {a b : α} : eqB a b = true ↔ a = b := by unfold eqB; simp
noncomputable def gSame {α : Type} (f : α → Bool) (a b : α) : Bool := f a && eqB a b
theorem gSame_iff {α : Type} {f : α → Bool} {a b : α} : gSame f a b = true ↔ f a = true ∧ a = b := by unfold gSame; rw [Bool.and_eq_true, eqB_iff]
theorem gSame_self {α : Type} {f : α → Bool} {a : α} (h : f a = true) : gSame f a a = true := gSame_iff.2 ⟨h, rfl⟩
theorem gCode_of {b : List Int} (h : bigC b = false) : gCode b = true := by
  unfold bigC at h
  have := of_decide_eq_false h
  exact Nat.ble_eq_true_of_le (by omega)
theorem gLen_sm {α : Type} {f : α → Bool} {xs : List α} (h : smL f xs = true) : gLenW xs = true := gLenW_of (by have := smL_len h; omega)

theorem bab_self (a : ByteArray) : (a == a) = true := by rw [beq_toListBytes]; exact beq_self_eq_true _

end Go.Gm

/- Drawn work. -/
namespace Go.Gm
open Go

theorem qOk_add {w : WorkT} {s : ByteArray} (h : workQOk w = true) : workQOk (workAdd w s).1 = true := by
  unfold workAdd
  rw [h, cond_true]
  cases isIn w.list s || isIn w.again s
  · cases isIn w.busy s
    · cases hq : workQOk (addList w s)
      · exact h
      · exact hq
    · cases hq : workQOk (addAgain w s)
      · exact h
      · exact hq
  · exact h
theorem qOk_take {w : WorkT} (h : workQOk w = true) : workQOk (workTake w).1 = true := by
  unfold workTake
  rw [h, cond_true]
  cases hl : w.list with
  | nil => exact h
  | cons x r =>
    simp only
    cases hq : workQOk (takeN w x r)
    · exact h
    · exact hq
theorem qOk_done {w : WorkT} {s : ByteArray} {ok : Bool} (h : workQOk w = true) : workQOk (workDone w s ok).1 = true := by
  unfold workDone
  rw [h, cond_true]
  cases isIn w.busy s
  · exact h
  · cases hq : workQOk (doneW w s ok)
    · exact h
    · exact hq
theorem gAdd_of {w : WorkT} {s : ByteArray} (h : sm_work w = true) (hs : smStr s = true) : gAddW w s = true := by unfold gAddW; rw [h, hs]; rfl
theorem gDone_of {w : WorkT} {s : ByteArray} {ok : Bool} (h : sm_work w = true) (hs : smStr s = true) : gDoneW w s ok = true := by unfold gDoneW; rw [h, hs]; rfl
theorem smStr_in {l : List ByteArray} {s : ByteArray} (h : s ∈ l) (hl : (l.all smStr) = true) : smStr s = true := List.all_eq_true.1 hl s h
theorem ble_lim {n : Nat} (h : n ≤ 1048576) : Nat.ble (n + 1) LIM = true := Nat.ble_eq_true_of_le (by have : (LIM : Nat) = 4294967296 := rfl; omega)

/-! ### what is within -/
/-- What the law says of work that was added. -/
theorem add_law {w : WorkT} {s : ByteArray} (h : (workAdd w s).2 = true) : workQOk (workAdd w s).1 = true ∧ (isIn (workAdd w s).1.list s || isIn (workAdd w s).1.again s) = true := by
  have snoc : ∀ xs : List ByteArray, isIn (xs ++ [s]) s = true := fun xs => isIn_snoc xs s
  unfold workAdd at *
  cases hq : workQOk w
  · rw [hq] at h; cases h
  rw [hq] at h
  simp only [cond_true] at *
  cases h1 : (isIn w.list s || isIn w.again s)
  · rw [h1] at h
    simp only [cond_false] at *
    cases h2 : isIn w.busy s
    · rw [h2] at h
      simp only [cond_false] at *
      cases h3 : workQOk (addList w s)
      · rw [h3] at h; cases h
      · exact ⟨h3, by simp only [cond_true, addList, snoc, Bool.true_or]⟩
    · rw [h2] at h
      simp only [cond_true] at *
      cases h3 : workQOk (addAgain w s)
      · rw [h3] at h; cases h
      · exact ⟨h3, by simp only [cond_true, addAgain, snoc, Bool.or_true]⟩
  · exact ⟨hq, h1⟩
theorem add_no {w : WorkT} {s : ByteArray} (h : (workAdd w s).2 = false) : (workAdd w s).1 = w := by
  unfold workAdd at *
  cases hq : workQOk w
  · rfl
  rw [hq] at h
  simp only [cond_true] at *
  cases h1 : (isIn w.list s || isIn w.again s)
  · rw [h1] at h
    simp only [cond_false] at *
    cases h2 : isIn w.busy s
    · rw [h2] at h
      simp only [cond_false] at *
      cases h3 : workQOk (addList w s)
      · rfl
      · rw [h3] at h; cases h
    · rw [h2] at h
      simp only [cond_true] at *
      cases h3 : workQOk (addAgain w s)
      · rfl
      · rw [h3] at h; cases h
  · rw [h1] at h; cases h
theorem take_law {w : WorkT} (h : (workTake w).2.2 = true) : workQOk (workTake w).1 = true ∧ isIn (workTake w).1.busy (workTake w).2.1 = true := by
  unfold workTake at *
  cases hq : workQOk w
  · rw [hq] at h; cases h
  rw [hq] at h
  simp only [cond_true] at *
  cases hl : w.list with
  | nil => rw [hl] at h; cases h
  | cons x r =>
    rw [hl] at h
    simp only at *
    cases h3 : workQOk (takeN w x r)
    · rw [h3] at h; cases h
    · exact ⟨h3, isIn_snoc _ _⟩
theorem take_no {w : WorkT} (h : (workTake w).2.2 = false) : (workTake w).1 = w := by
  unfold workTake at *
  cases hq : workQOk w
  · rfl
  rw [hq] at h
  simp only [cond_true] at *
  cases hl : w.list with
  | nil => rfl
  | cons x r =>
    rw [hl] at h
    simp only at *
    cases h3 : workQOk (takeN w x r)
    · rfl
    · rw [h3] at h; cases h
theorem done_law {w : WorkT} {s : ByteArray} {ok : Bool} (h : (workDone w s ok).2 = true) : workQOk (workDone w s ok).1 = true ∧ isIn (workDone w s ok).1.busy s = false ∧ (ok || isIn (workDone w s ok).1.list s) = true := by
  unfold workDone at *
  cases hq : workQOk w
  · rw [hq] at h; cases h
  rw [hq] at h
  simp only [cond_true] at *
  cases h1 : isIn w.busy s
  · rw [h1] at h; cases h
  rw [h1] at h
  simp only [cond_true] at *
  cases h3 : workQOk (doneW w s ok)
  · rw [h3] at h; cases h
  · refine ⟨h3, ?_, ?_⟩
    · simp only [cond_true, doneW]
      exact isIn_not.2 fun hm => (mem_butName.1 hm).2 rfl
    · cases ok
      · simp only [cond_true, doneW, Bool.not_false, Bool.or_true, Bool.false_or]
        exact isIn_snoc _ _
      · rfl
theorem done_no {w : WorkT} {s : ByteArray} {ok : Bool} (h : (workDone w s ok).2 = false) : (workDone w s ok).1 = w := by
  unfold workDone at *
  cases hq : workQOk w
  · rfl
  rw [hq] at h
  simp only [cond_true] at *
  cases h1 : isIn w.busy s
  · rfl
  rw [h1] at h
  simp only [cond_true] at *
  cases h3 : workQOk (doneW w s ok)
  · rfl
  · rw [h3] at h; cases h

end Go.Gm

/- A body taken piece by piece. -/
namespace Go.Gm
open Go
variable {R : Type} {E : Env} {keep : Nat → Kp} {n : Nat}
theorem ev_seq (a b : Code) (st : St) (k : Ex → St → Option R) : ev E keep n (.seq a b) st k = ev E keep n a st (seqK E keep n b k) := rfl
theorem seqK_n (b : Code) (k : Ex → St → Option R) (st : St) : seqK E keep n b k .normal st = ev E keep n b st k := rfl
theorem seqK_r (b : Code) (k : Ex → St → Option R) (st : St) : seqK E keep n b k .ret st = k .ret st := rfl
end Go.Gm

/- The closing of a row, with what is known of the world at the start. -/
namespace Go.Gm
open Go

theorem handed_shaped {H : Type} {enc : TypeId × Value → H} {a : Assume} {C : Checked} {os : Os} {f : FuncId} {fn : Func} {s : ChangeSpec} {conds : List PathCond} {apart fresh handsOn again : Bool}
    (own : ownKnob C.prog.godebug = none) (started : os.Started) (noInit : C.prog.inits.idxOf? f = none) (hfn : C.prog.funcs[f]? = some fn)
    (witness : ∃ (w : World) (tape : Tape) (i : Input), w.os = os ∧ (w.forCall tape i).Shaped C.prog ∧ i.vars = [] ∧ Input.okWide C.prog (w.forCall tape i) .any w.heap.size f i ∧
      s.pre6 enc C.prog fn conds apart (w.forCall tape i).memory i.args ∧ a.holds C.prog (lone (Frame.enter C.prog f i.args .normal) [] (w.forCall tape i)))
    (contract : ∀ (W : World) (base : Nat) (args : Array Value) (ds gs : List (DataW H)) (before : List MemPlace), W.ShapedOpen C.prog →
      (∀ (j : Nat) t v, fn.params[j]? = some t → args[j]? = some v → Value.okWide C.prog W .any base t v) →
      DataW.Whole enc C.prog fn.params.toList s.vars apart W args.toList ds gs before →
      Calls C.prog f args W fun e W' => ∃ v, e = .returned v ∧ s.post enc C.prog fn apart fresh handsOn again W args v W') :
    ReturnsInHanded a C os f .any (s.pre6 enc C.prog fn conds apart) (s.post enc C.prog fn apart fresh handsOn again) := by
  refine returnsInHanded_of_calls own started noInit witness ?_
  intro w tape i _ hsh _ hok hpre _
  obtain ⟨_, _, _, fn', hfn', _, _, _, _, hval⟩ := hok
  have e : fn' = fn := Option.some.inj (hfn'.symm.trans hfn)
  subst e
  obtain ⟨⟨ds, gs, before, hw, _⟩, _⟩ := hpre
  have hw' := DataW.Whole.of_heap (w' := w.forCall tape i) (by rfl) hw
  refine (contract (w.forCall tape i) w.heap.size i.args ds gs before hsh hval hw').mono fun e W' ⟨v, he, hp⟩ => ?_
  subst he
  exact ChangeSpec.post_blind hp

end Go.Gm

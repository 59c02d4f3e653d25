/- The G-machine, part 4: an evaluator of translated code on typed values, and that it is sound. No conditions. -/
import Derived.Test.YtinbejnakemfjaaDoorGm3
import Derived.ChangeCalls
import Derived.RowKit3
import Derived.Shelf.Strings.OnBuilder
import Derived.Laws.CopyRow
import Derived.Deep.RegionLaw
import Derived.Below
import Derived.Laws.Cover4
import Derived.Lib.Replace
import Derived.Lib.SplitLaws
import Derived.Handed
/- A law's row from its contract. -/
namespace Go.Gm
open Go Go.ChangeShapes Go.WideShapes Go.RowKit

variable {H : Type} {en : TypeId × Value → H} {P : Program} {w : World} {tb : Tab}

/-- Typed arguments, each no longer than anything can be. -/
inductive DsOk : List Ty → List Dt → Prop
  | nil : DsOk [] []
  | cons {t : Ty} {ts : List Ty} {x : El t} {ds : List Dt} (hx : ∀ c ∈ enc t x, WideC c) (h : DsOk ts ds) : DsOk (t :: ts) (.d t x :: ds)
def Codes (tb : Tab) : List Nat → List Ty → Prop
  | [], [] => True
  | T :: Ts, t :: ts => aget tb.code T = some t ∧ Codes tb Ts ts
  | _, _ => False

theorem form_of (hOk : tb.Ok P) {T : Nat} {t : Ty} (hc : aget tb.code T = some t) {base : Nat} {v : Value} (hv : Value.okWide P w .any base T v) {us : List Value} (hus : v.cells.toList = us) {x : El t} (hr : RowL w (AnyB w) (enc t x) us) : ValRd w (AnyB w) t x v := by
  have hrow : RowRd w (AnyB w) (enc t x) us.toArray := ⟨by simpa using hr.len, fun j c hj => by simpa using hr.get j c hj⟩
  have hu := hOk.und (T, t) (aget_mem hc)
  refine ⟨us.toArray, ?_, hrow⟩
  have ea : v.cells = us.toArray := by rw [← hus]
  have str : isSt t = true → (∃ fs, P.underlying T = some (.struct fs)) → Form t v us.toArray := by
    intro hs ⟨fs, hfs⟩
    simp only [Value.okWide, hfs] at hv
    obtain ⟨cs, rfl, _, _⟩ := hv
    simp only [Form, hs, if_true]
    rw [← ea]; rfl
  have one : isSt t = false → (∀ c ∈ enc t x, ∀ z, CRd w (AnyB w) c z → flatB z = true) → us.length = 1 → (∀ cs, v ≠ .agg cs) → Form t v us.toArray := by
    intro hs hfl hl hna
    have hv1 : v.cells = #[v] := by cases v <;> first | rfl | exact absurd rfl (hna _)
    rw [hv1] at ea
    simp only [Form, hs, Bool.false_eq_true, if_false]
    refine ⟨ea.symm, ?_⟩
    cases us with
    | nil => simp at hl
    | cons u us =>
      have hlen := hr.len
      obtain ⟨c, hcc⟩ : ∃ c, (enc t x)[0]? = some c := by
        cases he : enc t x with
        | nil => rw [he] at hlen; simp at hlen
        | cons c cs => exact ⟨c, rfl⟩
      obtain ⟨z, hz, hrd⟩ := hr.get 0 c hcc
      simp only [List.getElem?_cons_zero, Option.some.injEq] at hz
      subst hz
      have : v = u := by
        have := congrArg (fun a => a[0]?) ea
        simpa using this
      rw [this]
      exact hfl c (List.mem_of_getElem? hcc) u hrd
  have hlen := hr.len
  cases t with
  | i k =>
    have hu : P.underlying T = some (.int k) := hu
    refine one rfl (fun c hc z hz => ?_) (by simpa [enc] using hlen) (fun cs e => ?_)
    · have : c = .v (.int k x) := by simpa [enc] using hc
      subst this; cases hz; rfl
    · subst e; simp [Value.okWide, hu, Cell.okWide, Cell.ok] at hv
  | bool =>
    have hu : P.underlying T = some .bool := hu
    refine one rfl (fun c hc z hz => ?_) (by simpa [enc] using hlen) (fun cs e => ?_)
    · have : c = .v (.bool x) := by simpa [enc] using hc
      subst this; cases hz; rfl
    · subst e; simp [Value.okWide, hu, Cell.okWide, Cell.ok] at hv
  | str =>
    have hu : P.underlying T = some .string := hu
    refine one rfl (fun c hc z hz => ?_) (by simpa [enc] using hlen) (fun cs e => ?_)
    · have : c = .v (.string x) := by simpa [enc] using hc
      subst this; cases hz; rfl
    · subst e; simp [Value.okWide, hu, Cell.okWide, Cell.ok] at hv
  | sl e =>
    obtain ⟨el, hu, _⟩ := (hu : ∃ el, P.underlying T = some (.slice el) ∧ (tb.env []).code el = some e)
    refine one rfl (fun c hc z hz => ?_) (by simpa [enc] using hlen) (fun cs e' => ?_)
    · have : c = .l e x := by simpa [enc] using hc
      subst this
      obtain ⟨av, h0, h1⟩ := hz
      obtain ⟨a, cap, e1, _⟩ := h1 [] _ rfl
      rw [← h0, e1]; rfl
    · subst e'; simp [Value.okWide, hu, Cell.okWide, Cell.ok] at hv
  | _ => exact str rfl hu

theorem open_args {wl : World} (hOk : tb.Ok P) (hT : tileChk tb = true) {base : Nat} : ∀ {Ts : List Nat} {ts : List Ty} {vs : List Value} {dd : List (DataW H)} {ps : List MemPlace}, Codes tb Ts ts → (∀ (j : Nat) T v, Ts[j]? = some T → vs[j]? = some v → Value.okWide P w .any base T v) →
    DataW.TrodAll en P w 0 (fun _ => true) true Ts vs dd ps → ∃ ds : List Dt, ArgsOk wl w (AnyB w) (ts.map fun _ => .ro) ds vs (ts.map fun _ _ => False) ∧ DsOk ts ds
  | [], [], vs, dd, ps, _, _, h => by
    obtain ⟨rfl, _, _⟩ := trodAll_nil h
    exact ⟨[], .nil, .nil⟩
  | [], _ :: _, _, _, _, h, _, _ => h.elim
  | _ :: _, [], _, _, _, h, _, _ => h.elim
  | T :: Ts, t :: ts, vs, dd, ps, hc, hv, h => by
    obtain ⟨v, vs', d, ds', p, q, rfl, rfl, rfl, h1, h2⟩ := trodAll_cons h
    obtain ⟨fuel, hf⟩ := h1
    obtain ⟨x, hx1, hx2⟩ := open_row hOk hT fuel T t _ _ hc.1 hf
    obtain ⟨ds, h3, h4⟩ := open_args hOk hT hc.2 (fun j T' v' hj hj' => hv (j + 1) T' v' (by simpa using hj) (by simpa using hj')) h2
    exact ⟨.d t x :: ds, ArgsOk.cons (m := .ro) (F := fun _ => False) (show ArgOk wl w (AnyB w) .ro (.d t x) v _ from form_of hOk hc.1 (hv 0 T v rfl rfl) rfl hx1) h3, .cons hx2 h4⟩

theorem trodAll_later (hl : laidOutB P = true) {W W' : World} (hb : Below W.heap.size W W') : ∀ {Ts : List Nat} {vs : List Value} {dd : List (DataW H)} {ps : List MemPlace}, (∀ T ∈ Ts, P.readableRec T = true ∧ T < P.types.size) →
    DataW.TrodAll en P W 0 (fun _ => true) true Ts vs dd ps → (∀ x ∈ ps, x.block < W.heap.size) → DataW.TrodAll en P W' 0 (fun b => decide (b < W.heap.size)) true Ts vs dd ps
  | [], vs, dd, ps, _, h, _ => by
    obtain ⟨rfl, rfl, rfl⟩ := trodAll_nil h
    exact trodAll_mk0
  | T :: Ts, vs, dd, ps, hr, h, hlt => by
    obtain ⟨v, vs', d, ds', p, q, rfl, rfl, rfl, h1, h2⟩ := trodAll_cons h
    exact ⟨p, q, Below.trod hl (hr T (by simp)).1 (hr T (by simp)).2 h1 hb (fun x hx => hlt x (by simp [hx])), trodAll_later hl hb (fun T' hT' => hr T' (by simp [hT'])) h2 (fun x hx => hlt x (by simp [hx])), rfl⟩

theorem ArgsOk.kept {w : World} : ∀ {ts : List Ty} {ds : List Dt} {us : List Value} {Fs : List (Nat → Prop)}, ArgsOk w w (AnyB w) (ts.map fun _ => .ro) ds us Fs → ArgsOk w w (AnyB w) (ts.map fun _ => .kp) ds us Fs
  | [], _, _, _, h => by cases h; exact .nil
  | t :: ts, _, _, _, h => by
    cases h with
    | cons h hs =>
      rename_i d ds u us F Fs
      refine ArgsOk.cons (m := .kp) ?_ (ArgsOk.kept hs)
      cases d with
      | clo _ _ => exact h
      | d t x =>
        obtain ⟨us, hf, hr⟩ := h
        refine ⟨us, hf, hr.1, fun j c hj => ?_⟩
        obtain ⟨z, hz, hc⟩ := hr.2 j c hj
        refine ⟨z, hz, ?_⟩
        cases c with
        | v x => exact hc
        | l t xs => exact RdSl.mono (fun _ _ => trivial) hc

/-- What a law's row asks, from its contract: it returns true; its arguments read as they did. -/
theorem law_contract (hOk : tb.Ok P) (hT : tileChk tb = true) (hl : laidOutB P = true) {f : Nat} {fn : Func} {Ts : List Nat} {ts : List Ty} (hp : fn.params.toList = Ts) (hc : Codes tb Ts ts) {q : List Dt → Option (Bool × List Dt)} {m : Am} (hm : m = .ro ∨ m = .kp)
    (hs : SpecOk P f (Spec.of (ts.map fun _ => m) [false] true q)) (hq : ∀ ds, DsOk ts ds → q ds = some (true, [.d .bool true])) {Tb : Nat} (hres : fn.resultTypes = #[Tb]) (hTb : P.underlying Tb = some .bool)
    (hrd : Ts.all (fun T => P.readableRec T && decide (T < P.types.size)) = true) {s : ChangeSpec} (hvars : s.vars = []) (hfn : ∀ ds : List (DataW H), ds.length = Ts.length → s.fn H ds = { results := [.lit (.bool true)], args := ds })
    {apart : Bool} (W : World) (base : Nat) (args : Array Value) (dd gs : List (DataW H)) (before : List MemPlace)
    (hval : ∀ (j : Nat) t v, fn.params[j]? = some t → args[j]? = some v → Value.okWide P W .any base t v) (hW : DataW.Whole en P fn.params.toList s.vars apart W args.toList dd gs before) (hWl : W.ShapedOpen P) :
    Calls P f args W fun e W' => ∃ v, e = .returned v ∧ s.post en P fn apart true false false W args v W' := by
  have hW0 := hW
  obtain ⟨p, q', hA, hV, hbe, hfz, hnd⟩ := hW
  rw [hvars] at hV
  obtain ⟨hgs, hq'⟩ := trodVars_none hV
  subst hgs hq'
  rw [hp] at hA
  obtain ⟨ds, hargs, hds⟩ := open_args hOk hT (base := base) hc (fun j T v hj hj' => hval j T v (by
    have : fn.params.toList[j]? = some T := by rw [hp]; exact hj
    simpa using this) (by simpa using hj')) hA
  replace hargs : ArgsOk W W (AnyB W) (ts.map fun _ => m) ds args.toList (ts.map fun _ _ => False) := by
    rcases hm with rfl | rfl
    · exact hargs
    · exact hargs.kept
  have hap : PairApart (ts.map fun _ _ => False : List (Nat → Prop)) := by
    unfold PairApart
    rw [List.pairwise_map]
    exact List.pairwise_iff_getElem.2 fun _ _ _ _ _ k h => h.elim
  have hout := hs (R := List Dt) ds some [.d .bool true] (by
    show (match q ds with | some (g, outs) => cond g (some outs) none | none => none) = some [.d .bool true]
    rw [hq ds hds]; rfl) W W args.toList (fun _ => False) (AnyB W) _ hWl (fun b o hb => ⟨Array.getElem?_eq_some_iff.1 hb |>.1, hb⟩) hargs hap (fun F hF k hk => by
      obtain ⟨_, _, rfl⟩ := List.mem_map.1 hF; exact hk) (fun k _ h => h) (fun k hk => hk) (fun k hk => hk.elim)
  have hargs' : args.toList.toArray = args := by simp
  replace hout : Calls P f args.toList.toArray W _ := hout
  rw [hargs'] at hout
  refine hout.mono ?_
  rintro e W' ⟨outs, ho, hA'⟩
  have ho : outs = [.d .bool true] := Option.some.inj ho
  subst ho
  obtain ⟨rs, Gs, Bs, he, hRes, _⟩ := hA'.out
  have hv : e = .returned (.bool true) := by
    have hRes : RessOk W W' true [false] [.d .bool true] rs Gs := hRes
    cases hRes with
    | val h hs' =>
      rename_i u us F Fs
      cases hs'
      simp only [if_true] at h
      obtain ⟨us, hform, hrow⟩ := h
      obtain ⟨e1, _⟩ := hform.size rfl
      obtain ⟨Fs', _, _, _, hr⟩ := hrow
      obtain ⟨z, hz, hcz⟩ := hr 0 (.v (.bool true)) rfl
      subst e1
      have hcz : z = .bool true := hcz
      subst hcz
      have hz := (Option.some.inj hz)
      rw [he]
      show Ending.returned (packV [_]) = _
      rw [show packV [_] = _ from rfl]
      exact congrArg Ending.returned hz
  have hB : Below W.heap.size W W' := ⟨hA'.kept.os, hA'.kept.tape, hA'.kept.output, hA'.kept.same.1, fun k hk => hA'.kept.same.2 k hk (fun h => h)⟩
  refine ⟨_, hv, ?_⟩
  have hlen : dd.length = Ts.length := (trodAll_length hA).2
  have hfn' := hfn (dd ++ []) (by simpa using hlen)
  refine ⟨dd, [], before, [], p, [], hW0, ?_, ?_, ?_, hB.frame _, fun h => by cases h⟩
  · rw [hfn', hres]
    exact trodAll_mk1 ⟨1, by simp [DataW.trod, Value.cells, hTb]⟩
  · rw [hfn', hp]
    simp only [List.append_nil]
    exact trodAll_later hl hB (fun T hT' => by simpa using List.all_eq_true.1 hrd T hT') hA (fun x hx => hW0.lt x (by rw [hbe]; simp [hx]))
  · rw [hvars, hfn']
    exact rfl

end Go.Gm

/- Plain functions: picks. -/
namespace Go.Gm
open Go

def inR (x lo hi : Int) : Bool := decide (x ≥ lo) && decide (x ≤ hi)
def letter (c : Int) : Bool := (decide (c ≥ (97 : Int)) && decide (c ≤ (122 : Int))) || (decide (c ≥ (65 : Int)) && decide (c ≤ (90 : Int)))
def digit (c : Int) : Bool := decide (c ≥ (48 : Int)) && decide (c ≤ (57 : Int))
def byteAt (s : ByteArray) (j : Nat) : Int := (((ByteArray.data s).getD j 0).toNat : Int)
/-- One sign of a plain text. -/
def plainC (i c : Int) : Bool := letter c || (!(i == (0 : Int)) && (digit c || ((c == (95 : Int)) || ((c == (46 : Int)) || ((c == (47 : Int)) || (c == (45 : Int)))))))
noncomputable def plainOk (s : ByteArray) : Bool :=
  allN (fun j => plainC (j : Int) (byteAt s j)) 0 s.size && (inR (s.size : Int) 1 60 && (!(sEq s (bs [110,117,108,108])) && (!(sEq s (bs [116,114,117,101])) && !(sEq s (bs [102,97,108,115,101])))))
/-- One value of a row of them: it is plain and above the one ahead of it. -/
noncomputable def valC (xs : List ByteArray) (j : Nat) : Bool := plainOk (atI (t := .str) xs j) && (!(decide ((j : Int) > (0 : Int))) || sLt (atI (t := .str) xs (j - 1)) (atI (t := .str) xs j))
noncomputable def valsOk (xs : List ByteArray) : Bool := allN (valC xs) 0 xs.length
noncomputable def pickOk (p : PickT) : Bool :=
  valsOk p.vals && (plainOk p.key && (((p.op == (1 : Int) || p.op == (2 : Int)) && inR (p.vals.length : Int) 1 1) || (((p.op == (3 : Int) || p.op == (4 : Int)) && inR (p.vals.length : Int) 1 4) || ((p.op == (5 : Int) || p.op == (6 : Int)) && inR (p.vals.length : Int) 0 0))))
end Go.Gm

/- Plain functions and laws of all structs: sizes, sameness. Printed by mkp3.py of this session. -/
namespace Go.Gm
open Go

def smStr (s : ByteArray) : Bool := Nat.ble s.size 1048576
theorem sum_le {α : Type} (g : α → Nat) : ∀ {xs : List α} {x : α}, x ∈ xs → g x ≤ (xs.map g).sum
  | y :: ys, x, h => by
    simp only [List.map_cons, List.sum_cons]
    rcases List.mem_cons.1 h with rfl | h
    · exact Nat.le_add_right _ _
    · exact Nat.le_trans (sum_le g h) (Nat.le_add_left _ _)
def same {α : Type} (x : α) : α := x
end Go.Gm

/- Plain functions: what is to be looked at. -/
namespace Go.Gm
open Go

def firstN (p : Nat → Bool) : Nat → Nat → Option Nat
  | _, 0 => none
  | j, d + 1 => cond (p j) (some j) (firstN p (j + 1) d)
/-- A place as a number; -1 without one. -/
def plc (o : Option Nat) : Int := o.elim (-1) fun i => (i : Int)

def failEq (f : FailT) (s : ByteArray) : Bool := sEq f.name s
def failO (xs : List FailT) (s : ByteArray) : Option Nat := firstN (fun j => failEq (atI (t := .fail) xs j) s) 0 xs.length
def failAt (xs : List FailT) (s : ByteArray) : Int := plc (failO xs s)
def minI (a b : Int) : Int := if a < b then a else b
end Go.Gm

/- Contracts of library functions that are not walked by the evaluator: one plain result, what was there stays. -/
namespace Go.Gm
open Go

variable {wl : World} {w w' : World} {Mf ROa : Nat → Prop}

end Go.Gm

/- Contracts of functions that call themselves, by a measure. -/
namespace Go.Gm
open Go

abbrev Q := List Dt → Option (Bool × List Dt)
end Go.Gm

/- Contracts of two or three functions that call each other, by measures. -/
namespace Go.Gm
open Go

structure Rc where
  f : Nat
  ms : List Am
  rs : List Bool
  ow : Bool
  mu : List Dt → Nat
  q : Q
end Go.Gm

/- Contracts of functions of which one argument, the first, comes in cell by cell: its lists are lent, each by itself. -/
namespace Go.Gm
open Go

section ev
variable {wl : World} {R : Type}
def cellsOf : List Am → List Sc → Option (List (Am × Nat × Sv))
  | [], [] => some []
  | .mut :: ms, c :: cs => (cellsOf ms cs).bind fun l => some ((.mut, 0, .c (.one c)) :: l)
  | .skp :: ms, _ :: cs => cellsOf ms cs
  | _, _ => none
end ev

variable {R : Type} {P : Program} {E : Env} {w0 w w' : World} {Mf : Nat → Prop} {g : Gh} {st : St} {a : Act}

end Go.Gm

/- Contracts of library functions that are not walked by the evaluator: one result, the caller's own. -/
namespace Go.Gm
open Go

variable {wl : World} {P : Program} {w w' : World} {Mf ROa : Nat → Prop}

theorem backs_skip : ∀ {ms : List Am} {ds : List Dt} {us : List Value}, ms.all (fun m => !(isBack m)) = true → ms.length = us.length → ds.length = us.length → BacksOk wl w ms ds us [] []
  | [], [], [], _, _, _ => .nil
  | m :: ms, d :: ds, u :: us, h, h1, h2 => by
    simp only [List.all_cons, Bool.and_eq_true] at h
    refine .skip ?_ (backs_skip h.2 (by simpa using h1) (by simpa using h2))
    cases m <;> first | trivial | exact absurd h.1 (by simp [isBack])
  | [], _ :: _, [], _, _, h => by simp at h
  | [], _, _ :: _, _, h, _ => by simp at h
  | _ :: _, _, [], _, h, _ => by simp at h
  | _ :: _, [], _ :: _, _, _, h => by simp at h

theorem After.own1 {s : Spec} (hown : s.own = true) (hres : s.res = [false]) (hm : s.modes.all (fun m => !(isBack m)) = true) {ds : List Dt} {us : List Value} (h1 : s.modes.length = us.length) (h2 : ds.length = us.length) {t : Ty} {x : El t} {v : Value}
    {G : Nat → Prop} (hv : ValOwn w' G t x v) (hG : ∀ k, G k → (Mf k ∨ w.heap.size ≤ k) ∧ k < w'.heap.size) (hk : Kept w w' Mf) : After wl w w' Mf ROa s ds us [.d t x] (.returned v) := by
  refine ⟨⟨[v], [G], [], rfl, ?_, ?_, List.Pairwise.nil, fun B hB => by simp at hB, fun _ => ⟨List.pairwise_singleton _ _, fun G' hG' k hk => ?_⟩, fun e => absurd (hown.symm.trans e) (by simp), fun G hG B hB => by simp at hB, fun G' hG' k hk => ?_, fun B hB => by simp at hB⟩, hk⟩
  · rw [hown, hres]; exact .val (by simpa using hv) .nil
  · rw [hres]; exact backs_skip hm h1 h2
  · have : G' = G := by simpa using hG'
    subst this; exact (hG k hk).1
  · have : G' = G := by simpa using hG'
    subst this; exact (hG k hk).2

/-- A contract of one result of the caller's own, from what the function does with these values. -/
theorem spec_own1 {f : Nat} {modes : List Am} {q : List Dt → Option (Bool × List Dt)} (hm : modes.all (fun m => !(isBack m)) = true)
    (h : ∀ ds outs, q ds = some (true, outs) → ∃ t x, outs = [.d t x] ∧ ∀ {wl : World} (w : World) (us : List Value) (Mf ROa : Nat → Prop) (Fs : List (Nat → Prop)), ArgsOk wl w ROa modes ds us Fs → PairApart Fs → (∀ F ∈ Fs, ∀ k, F k → Mf k) →
      (∀ k, ROa k → ¬ Mf k) → (∀ k, ROa k → k < w.heap.size) → (∀ k, Mf k → k < w.heap.size) →
      Calls P f us.toArray w fun e w' => ∃ v G, e = .returned v ∧ Kept w w' Mf ∧ ValOwn w' G t x v ∧ ∀ k, G k → (Mf k ∨ w.heap.size ≤ k) ∧ k < w'.heap.size) : SpecOk P f (Spec.of modes [false] true q) := by
  intro R ds k r hr wl w us Mf ROa Fs hWl hBs hA hp hFM hRM hRlt hMlt
  obtain ⟨outs, hq, hk⟩ := Spec.of_some hr
  obtain ⟨t, x, rfl, hc⟩ := h ds outs hq
  refine Calls.mono (hc w us Mf ROa Fs hA hp hFM hRM hRlt hMlt) ?_
  rintro e w' ⟨v, G, rfl, h1, h2, h3⟩
  obtain ⟨hl1, hl2, _⟩ := hA.len
  exact ⟨_, hk, After.own1 rfl rfl hm hl1 hl2 h2 h3 h1⟩

theorem valOwn_sl {G : Nat → Prop} {t : Ty} {xs : List (El t)} {v : Value} (h : OwnSl w G t xs v) : ValOwn w G (.sl t) xs v := by
  refine ⟨#[v], by simp [Form, isSt, h.flat], fun j => if j = 0 then G else fun _ => False, fun j k hk => ?_, fun j j' k hk hk' => ?_, by simp [enc], fun j c hc => ?_⟩
  · dsimp only at hk
    split at hk
    · exact hk
    · exact hk.elim
  · dsimp only at hk hk'
    by_cases e1 : j = 0
    · by_cases e2 : j' = 0
      · omega
      · simp [e2] at hk'
    · simp [e1] at hk
  · cases j with
    | zero =>
      simp only [enc, List.getElem?_cons_zero, Option.some.injEq] at hc
      subst hc
      exact ⟨v, rfl, by simpa [COwn] using h⟩
    | succ j => simp [enc] at hc
end Go.Gm

/- slices.Delete: from what it does with cells to a contract. -/
namespace Go.Gm
open Go

variable {wl : World} {P : Program} {E : Env} {w w' : World}

/-- Of an own list some elements, each once, in whatever order. -/
theorem TreeOwn.pick {F : Nat → Prop} {t : Ty} {xs ys : List (El t)} {av : Path → Value} (h : TreeOwn w F t xs av) (σ : Nat → Nat) (hσ : ∀ i y, ys[i]? = some y → xs[σ i]? = some y) (hinj : ∀ i i', σ i = σ i' → i = i')
    (hsame : SameBut (fun k => blk (av []) = some k) w w') {v : Value} (hblk : ∀ k, blk v = some k → blk (av []) = some k) (hn : NodeOwn w' F t ys v fun i j => av [(σ i, j)]) : OwnSl w' F t ys v := by
  have hsub : ∀ i j p s, subR t ys ((i, j) :: p) = some s → subR t xs ((σ i, j) :: p) = some s := by
    intro i j p s hs
    simp only [subR] at hs ⊢
    split at hs
    · rename_i y hy
      rw [hσ i y hy]; exact hs
    · cases hs
  refine ⟨fun p => match p with | [] => v | (i, j) :: p => av ((σ i, j) :: p), rfl, fun p s hs => ?_, fun p q s s' k hp hq hk hk' => ?_⟩
  · cases p with
    | nil => simp only [subR, Option.some.injEq] at hs; subst hs; exact hn
    | cons x p =>
      obtain ⟨i, j⟩ := x
      have hs' := hsub i j p s hs
      exact (h.1 _ s hs').here hsame fun k hk e => by have := h.2 _ [] s ⟨t, xs⟩ k hs' rfl hk e; cases this
  · cases p with
    | nil => cases q with
      | nil => rfl
      | cons y q =>
        obtain ⟨i, j⟩ := y
        have := h.2 [] _ ⟨t, xs⟩ s' k rfl (hsub i j q s' hq) (hblk k hk) hk'
        cases this
    | cons x p =>
      obtain ⟨i, j⟩ := x
      cases q with
      | nil =>
        have := h.2 _ [] s ⟨t, xs⟩ k (hsub i j p s hp) rfl hk (hblk k hk')
        cases this
      | cons y q =>
        obtain ⟨i', j'⟩ := y
        have := h.2 _ _ s s' k (hsub i j p s hp) (hsub i' j' q s' hq) hk hk'
        simp only [List.cons.injEq, Prod.mk.injEq] at this
        obtain ⟨⟨h1, rfl⟩, rfl⟩ := this
        rw [hinj _ _ h1]

end Go.Gm

/- Lists with some elements taken out. -/
namespace Go.Gm
open Go
def delL {α : Type} (xs : List α) (i j : Int) : List α := xs.take i.toNat ++ xs.drop j.toNat
end Go.Gm

/- Plain laws: numbers as texts, joined texts. -/
namespace Go.Gm
open Go

/-! ### loops that carry something on -/
theorem loop_acc {α A R : Type} {xs : List α} {F : Nat → Nat → A → Option R} {f : A → α → A} {good : A → Option R} (inv : Nat → A → Prop)
    (hi : ∀ (j : Nat) a x, xs[j]? = some x → inv j a → inv (j + 1) (f a x))
    (hs : ∀ m (j : Nat) a x, xs[j]? = some x → inv j a → F (m + 1) j a = F m (j + 1) (f a x)) (he : ∀ m a, inv xs.length a → F (m + 1) xs.length a = good a) :
    ∀ (d j m : Nat) (a : A), j + d = xs.length → d < m → inv j a → F m j a = good ((xs.drop j).foldl f a) := by
  intro d
  induction d with
  | zero =>
    intro j m a hj hm hia
    obtain ⟨m, rfl⟩ : ∃ m', m = m' + 1 := ⟨m - 1, by omega⟩
    have : j = xs.length := by omega
    subst this
    rw [he m a hia, List.drop_length]; rfl
  | succ d ih =>
    intro j m a hj hm hia
    obtain ⟨m, rfl⟩ : ∃ m', m = m' + 1 := ⟨m - 1, by omega⟩
    obtain ⟨x, hx, hd⟩ := drop_get (show j < xs.length by omega)
    rw [hs m j a x hx hia, hd, List.foldl_cons]
    exact ih (j + 1) m _ (by omega) (by omega) (hi j a x hx hia)

end Go.Gm

/- Plain functions: picks, their texts, what they fit. -/
namespace Go.Gm
open Go

def gLenW {α : Type} (x : List α) : Bool := Nat.ble x.length WIDE
theorem gLenW_le {α : Type} {x : List α} (h : gLenW x = true) : x.length ≤ 9223372036854775807 := bleN h
theorem gLenW_of {α : Type} {x : List α} (h : x.length ≤ 9223372036854775807) : gLenW x = true := Nat.ble_eq_true_of_le h
/-! ### what picks fit -/
def isIn (xs : List ByteArray) (s : ByteArray) : Bool := xs.any fun x => sEq x s
def noteIs (n : NoteT) (p : PickT) : Bool := sEq n.key p.key
/-- What a pick asks is among the notes. -/
def among (p : PickT) (ns : List NoteT) : Bool := (ns.find? fun n => noteIs n p).elim false fun n => isIn p.vals n.text
noncomputable def fits (p : PickT) (ns : List NoteT) : Bool :=
  pickOk p && cond (p.op == (1 : Int) || p.op == (3 : Int)) (among p ns) (cond (p.op == (2 : Int) || p.op == (4 : Int)) (!(among p ns)) (cond (p.op == (5 : Int)) (ns.any fun n => noteIs n p) (!(ns.any fun n => noteIs n p))))
noncomputable def fitsNot (p : PickT) (i : ItemT) : Bool := !(fits p i.order.notes)
noncomputable def fitsNotAny (ps : List PickT) (i : ItemT) : Bool := ps.any fun p => fitsNot p i
noncomputable def chosenStep (ps : List PickT) (out : List ByteArray) (i : ItemT) : List ByteArray := cond (fitsNotAny ps i) out (out ++ [i.order.name])
noncomputable def chosen (s : StoreT) (ps : List PickT) : List ByteArray := s.items.foldl (chosenStep ps) []
end Go.Gm

/- Plain functions and laws: marks that are written into lists one after another, and whether they are held. Printed by mkp7.py of this session. -/
namespace Go.Gm
open Go

end Go.Gm

/- Plain laws: what is chosen. -/
namespace Go.Gm
open Go

end Go.Gm

/- Plain functions: names, what is to be looked at. -/
namespace Go.Gm
open Go

def nameC (i c : Int) : Bool := (decide (c ≥ (97 : Int)) && decide (c ≤ (122 : Int))) || (!(i == (0 : Int)) && (digit c || (c == (45 : Int))))
def nameOk (s : ByteArray) : Bool := allN (fun j => nameC (j : Int) (byteAt s j)) 0 s.size && inR (s.size : Int) 1 20
def nameAt (xs : List ByteArray) (j : Nat) : Bool := nameOk (atI (t := .str) xs j) && !(isIn (xs.take j) (atI (t := .str) xs j))
def namesOk (xs : List ByteArray) : Bool := allN (nameAt xs) 0 xs.length && decide ((xs.length : Int) ≤ 6)
def inBusy (s : ByteArray) (w : WorkT) : Bool := isIn w.busy s
def notBusy (s : ByteArray) (w : WorkT) : Bool := !(isIn w.busy s)
def inBusyAny (xs : List ByteArray) (w : WorkT) : Bool := xs.any fun s => inBusy s w
def notBusyAny (xs : List ByteArray) (w : WorkT) : Bool := xs.any fun s => notBusy s w
def failC (xs : List FailT) (j : Nat) : Bool := nameOk (atI (t := .fail) xs j).name && (!(failAt xs (atI (t := .fail) xs j).name != (j : Int)) && inR (atI (t := .fail) xs j).n 1 20)
def workQOk (w : WorkT) : Bool :=
  namesOk w.list && (namesOk w.busy && (namesOk w.again && (!(decide ((w.fails.length : Int) > 12)) && (!(inBusyAny w.list w) && (!(notBusyAny w.again w) && allN (failC w.fails) 0 w.fails.length)))))
end Go.Gm

/- Plain functions: amounts, orders and worlds as texts. -/
namespace Go.Gm
open Go

end Go.Gm

/- Plain functions and laws of trees: nodes and rules. Printed by mkp11.py of this session. -/
namespace Go.Gm
open Go

abbrev eR (x : RuleT) : RuleT := ⟨x.kind, x.keys, x.kids, x.need, x.low, x.high⟩
end Go.Gm

/- Plain functions: texts, keys, rules. -/
namespace Go.Gm
open Go

def textOk (s : ByteArray) : Bool := allN (fun j => inR (byteAt s j) 32 126) 0 s.size && decide ((s.size : Int) ≤ 400)
end Go.Gm

/- Plain functions: what is to be looked at, taken and added. -/
namespace Go.Gm
open Go

def takeN (w : WorkT) (x : ByteArray) (r : List ByteArray) : WorkT := ⟨r, w.busy ++ [x], w.again, w.fails⟩
def workTake (w : WorkT) : WorkT × ByteArray × Bool :=
  cond (workQOk w) (match w.list with
    | [] => (w, ByteArray.empty, false)
    | x :: r => cond (workQOk (takeN w x r)) (takeN w x r, x, true) (w, ByteArray.empty, false)) (w, ByteArray.empty, false)
def addAgain (w : WorkT) (s : ByteArray) : WorkT := ⟨w.list, w.busy, w.again ++ [s], w.fails⟩
def addList (w : WorkT) (s : ByteArray) : WorkT := ⟨w.list ++ [s], w.busy, w.again, w.fails⟩
def workAdd (w : WorkT) (s : ByteArray) : WorkT × Bool :=
  cond (workQOk w) (cond (isIn w.list s || isIn w.again s) (w, true)
    (cond (isIn w.busy s) (cond (workQOk (addAgain w s)) (addAgain w s, true) (w, false)) (cond (workQOk (addList w s)) (addList w s, true) (w, false)))) (w, false)
end Go.Gm

/- Plain laws: marks of structs, list by list; how many there are. Printed by mkp14.py of this session. -/
namespace Go.Gm
open Go

end Go.Gm

/- Plain functions: orders. -/
namespace Go.Gm
open Go

def hasPre (a b : ByteArray) : Bool := decide ((a.size : Int) ≥ (b.size : Int)) && sEq (a.extract 0 b.size) b
def ours (a : ByteArray) : Bool := hasPre a (bs [113,117,97,121,47])
def paceOk (p : PaceT) : Bool := inR p.up 0 1000 && (inR p.down 0 1000 && (inR p.upSpan 0 3600 && inR p.downSpan 0 3600))
def metricOk (m : MetricT) : Bool := nameOk m.name && (inR m.kind 1 3 && inR m.goal 1 1000000)
noncomputable def noteC (xs : List NoteT) (j : Nat) : Bool :=
  plainOk (atI (t := .note) xs j).key && (!(hasPre (atI (t := .note) xs j).key (bs [113,117,97,121,47])) && (textOk (atI (t := .note) xs j).text && (!(decide (((atI (t := .note) xs j).text.size : Int) > 40)) &&
    (!(decide ((j : Int) > 0)) || sLt (atI (t := .note) xs (j - 1)).key (atI (t := .note) xs j).key))))
noncomputable def notesOk (xs : List NoteT) : Bool := allN (noteC xs) 0 xs.length && decide ((xs.length : Int) ≤ 4)
def metC (xs : List MetricT) (j : Nat) : Bool := metricOk (atI (t := .metric) xs j) && (!(decide ((j : Int) > 0)) || sLt (atI (t := .metric) xs (j - 1)).name (atI (t := .metric) xs j).name)
def metsOk (xs : List MetricT) : Bool := allN (metC xs) 0 xs.length && decide ((xs.length : Int) ≤ 4)
noncomputable def orderOk (o : OrderT) : Bool :=
  nameOk o.name && (nameOk o.target && (inR o.low 1 o.high && (decide (o.high ≤ 1000) && (metsOk o.metrics && (paceOk o.pace && notesOk o.notes)))))
end Go.Gm

/- Plain functions: what has happened. -/
namespace Go.Gm
open Go

noncomputable def eventC (h : HistT) (j : Nat) : Bool :=
  ((atI (t := .event) h.list j).seq == h.base + 1 + (j : Int)) && (inR (atI (t := .event) h.list j).kind 1 2 && (orderOk (atI (t := .event) h.list j).item.order && inR (atI (t := .event) h.list j).item.ver 1 100000))
noncomputable def histOk (h : HistT) : Bool := inR h.base 0 100000 && (!(decide ((h.list.length : Int) > 60)) && allN (eventC h) 0 h.list.length)
noncomputable def since (h : HistT) (n : Int) : List EventT × Bool := cond (histOk h && inR n h.base (h.base + (h.list.length : Int))) (h.list.drop (n - h.base).toNat, true) ([], false)
end Go.Gm

/- Plain functions: names taken out of lists; what was looked at. -/
namespace Go.Gm
open Go

/-! ### names -/
def strIs (s t : ByteArray) : Bool := sEq s t
def butName (xs : List ByteArray) (s : ByteArray) : List ByteArray := xs.filter fun x => !(strIs x s)
theorem butName_no {xs : List ByteArray} {s : ByteArray} (h : isIn xs s = false) : butName xs s = xs := by
  unfold butName
  rw [List.filter_eq_self]
  intro x hx
  unfold isIn at h
  rw [List.any_eq_false] at h
  have := h x hx
  simp only [strIs]
  cases hq : sEq x s
  · rfl
  · exact (this hq).elim
def failedI (xs : List FailT) (s : ByteArray) (ok : Bool) : List FailT :=
  match failO xs s with
  | none => cond ok xs (xs ++ [⟨s, (1 : Int)⟩])
  | some i => cond ok (delL xs (i : Int) ((i + 1 : Nat) : Int)) (xs.set i ⟨(atI (t := .fail) xs i).name, minI ((atI (t := .fail) xs i).n + 1) 20⟩)
/-! ### what was looked at -/
def doneW (w : WorkT) (s : ByteArray) (ok : Bool) : WorkT := ⟨cond (isIn w.again s || !ok) (w.list ++ [s]) w.list, butName w.busy s, butName w.again s, failedI w.fails s ok⟩
def workDone (w : WorkT) (s : ByteArray) (ok : Bool) : WorkT × Bool :=
  cond (workQOk w) (cond (isIn w.busy s) (cond (workQOk (doneW w s ok)) (doneW w s ok, true) (w, false)) (w, false)) (w, false)
end Go.Gm

/- Plain laws: what failed waits longer. -/
namespace Go.Gm
open Go

def bigC (xs : List Int) : Bool := decide ((xs.length : Int) > (1048576 : Int))
end Go.Gm

/- Plain laws: a name is looked at by one at a time. -/
namespace Go.Gm
open Go

theorem isIn_iff {xs : List ByteArray} {s : ByteArray} : isIn xs s = true ↔ s ∈ xs := by
  unfold isIn
  rw [List.any_eq_true]
  constructor
  · rintro ⟨x, hx, he⟩
    rw [sEq_iff] at he; subst he; exact hx
  · intro h; exact ⟨s, h, sEq_self s⟩
theorem isIn_not {xs : List ByteArray} {s : ByteArray} : isIn xs s = false ↔ s ∉ xs := by
  rw [← isIn_iff]; cases isIn xs s <;> simp
theorem mem_butName {xs : List ByteArray} {s t : ByteArray} : t ∈ butName xs s ↔ t ∈ xs ∧ t ≠ s := by
  unfold butName strIs
  rw [List.mem_filter]
  constructor
  · rintro ⟨h1, h2⟩
    refine ⟨h1, fun e => ?_⟩
    rw [e, sEq_self] at h2; cases h2
  · rintro ⟨h1, h2⟩
    refine ⟨h1, ?_⟩
    cases hq : sEq t s
    · rfl
    · exact (h2 (sEq_iff.1 hq)).elim
theorem butName_nodup {xs : List ByteArray} {s : ByteArray} (h : xs.Nodup) : (butName xs s).Nodup := List.Pairwise.sublist List.filter_sublist h
theorem butName_len (xs : List ByteArray) (s : ByteArray) : xs.Nodup → xs.length ≤ (butName xs s).length + 1 := by
  induction xs with
  | nil => intro _; simp
  | cons x r ih =>
    intro h
    have h := List.pairwise_cons.1 h
    unfold butName
    rw [List.filter_cons]
    cases hq : strIs x s
    · simp only [Bool.not_false, if_true, List.length_cons]
      have := ih h.2
      unfold butName at this; omega
    · have e : x = s := sEq_iff.1 hq
      have : r.filter (fun y => !(strIs y s)) = r := by
        rw [List.filter_eq_self]
        intro y hy
        cases hq' : strIs y s
        · rfl
        · exact (h.1 y hy (e.trans (sEq_iff.1 hq').symm)).elim
      simp only [Bool.not_true, Bool.false_eq_true, if_false, this, List.length_cons]
      omega
theorem nodup_le : ∀ (ys xs : List ByteArray), xs.Nodup → (∀ s ∈ xs, s ∈ ys) → xs.length ≤ ys.length
  | [], xs, _, h => by
    cases xs with
    | nil => exact Nat.le_refl _
    | cons x r => have := h x (by simp); cases this
  | y :: ys, xs, hn, h => by
    have h1 := butName_len xs y hn
    have h2 := nodup_le ys (butName xs y) (butName_nodup hn) fun s hs => by
      obtain ⟨h3, h4⟩ := mem_butName.1 hs
      rcases List.mem_cons.1 (h s h3) with e | h5
      · exact (h4 e).elim
      · exact h5
    rw [List.length_cons]; omega
theorem nodup_snoc {xs : List ByteArray} {s : ByteArray} (h : xs.Nodup) (hs : s ∉ xs) : (xs ++ [s]).Nodup := by
  unfold List.Nodup
  rw [List.pairwise_append]
  refine ⟨h, List.pairwise_singleton _ _, fun a ha b hb => ?_⟩
  rw [List.mem_singleton] at hb
  subst hb
  exact fun e => hs (e ▸ ha)

def four : List ByteArray := [bs [97], bs [98], bs [99], bs [100]]
theorem four_ok : ∀ s ∈ four, nameOk s = true ∧ smStr s = true := by
  intro s hs
  simp only [four, List.mem_cons, List.not_mem_nil, or_false] at hs
  rcases hs with rfl | rfl | rfl | rfl <;> exact ⟨by decide, by decide⟩
theorem four_len : four.length = 4 := rfl
theorem namesOk_of {xs : List ByteArray} (hn : xs.Nodup) (h : ∀ s ∈ xs, s ∈ four) : namesOk xs = true := by
  have hl := nodup_le four xs hn h
  rw [four_len] at hl
  unfold namesOk
  rw [Bool.and_eq_true, allN_iff]
  refine ⟨fun j _ hj => ?_, decide_eq_true (by omega)⟩
  have hj : j < xs.length := by omega
  have hx := atI_lt (t := .str) hj
  have hm := List.mem_of_getElem? hx
  unfold nameAt
  rw [(four_ok _ (h _ hm)).1, Bool.true_and, isIn_not.2]
  · rfl
  · intro hin
    obtain ⟨i, hi⟩ := List.getElem?_of_mem hin
    rw [List.getElem?_take] at hi
    split at hi
    · rename_i hij
      have := List.pairwise_iff_getElem.1 hn i j (by omega) hj hij
      rw [List.getElem?_eq_getElem (by omega)] at hi hx
      exact this ((Option.some.inj hi).trans (Option.some.inj hx).symm)
    · cases hi

/-- What holds of the work all the while. -/
structure WInv (w : WorkT) : Prop where
  sub : ∀ s, s ∈ w.list ∨ s ∈ w.busy ∨ s ∈ w.again → s ∈ four
  nl : w.list.Nodup
  nb : w.busy.Nodup
  na : w.again.Nodup
  apart : ∀ s ∈ w.list, s ∉ w.busy
  sel : ∀ s ∈ w.again, s ∈ w.busy
  fails : w.fails = []
theorem WInv.ok {w : WorkT} (h : WInv w) : workQOk w = true := by
  have h1 := namesOk_of h.nl fun s hs => h.sub s (.inl hs)
  have h2 := namesOk_of h.nb fun s hs => h.sub s (.inr (.inl hs))
  have h3 := namesOk_of h.na fun s hs => h.sub s (.inr (.inr hs))
  have h4 : inBusyAny w.list w = false := by
    unfold inBusyAny inBusy
    rw [List.any_eq_false]
    intro x hx
    rw [isIn_not.2 (h.apart x hx)]; decide
  have h5 : notBusyAny w.again w = false := by
    unfold notBusyAny notBusy
    rw [List.any_eq_false]
    intro x hx
    rw [isIn_iff.2 (h.sel x hx)]; decide
  unfold workQOk
  rw [h1, h2, h3, h4, h5, h.fails]
  rfl
/-- What is asked for. -/
def Asks (w : WorkT) (s : ByteArray) : Prop := s ∈ w.list ∨ s ∈ w.again

theorem WInv.add {w : WorkT} (h : WInv w) {s : ByteArray} (hs : s ∈ four) : (workAdd w s).2 = true ∧ WInv (workAdd w s).1 ∧ (workAdd w s).1.busy = w.busy ∧ ∀ t, Asks (workAdd w s).1 t ↔ Asks w t ∨ t = s := by
  unfold workAdd
  rw [h.ok]
  simp only [cond_true]
  cases h1 : isIn w.list s || isIn w.again s
  · rw [Bool.or_eq_false_iff, isIn_not, isIn_not] at h1
    obtain ⟨hl, ha⟩ := h1
    simp only [cond_false]
    cases hb : isIn w.busy s
    · have hb' := isIn_not.1 hb
      have I : WInv (addList w s) := by
        refine ⟨fun t ht => ?_, nodup_snoc h.nl hl, h.nb, h.na, fun t ht => ?_, h.sel, h.fails⟩
        · rcases ht with ht | ht
          · rcases List.mem_append.1 ht with ht | ht
            · exact h.sub t (.inl ht)
            · rw [List.mem_singleton] at ht; subst ht; exact hs
          · exact h.sub t (.inr ht)
        · rcases List.mem_append.1 ht with ht | ht
          · exact h.apart t ht
          · rw [List.mem_singleton] at ht; subst ht; exact hb'
      rw [I.ok]
      refine ⟨rfl, I, rfl, fun t => ?_⟩
      show t ∈ w.list ++ [s] ∨ t ∈ w.again ↔ (t ∈ w.list ∨ t ∈ w.again) ∨ t = s
      rw [List.mem_append, List.mem_singleton, or_right_comm]
    · have hb' := isIn_iff.1 hb
      have I : WInv (addAgain w s) := by
        refine ⟨fun t ht => ?_, h.nl, h.nb, nodup_snoc h.na ha, h.apart, fun t ht => ?_, h.fails⟩
        · rcases ht with ht | ht | ht
          · exact h.sub t (.inl ht)
          · exact h.sub t (.inr (.inl ht))
          · rcases List.mem_append.1 ht with ht | ht
            · exact h.sub t (.inr (.inr ht))
            · rw [List.mem_singleton] at ht; subst ht; exact hs
        · rcases List.mem_append.1 ht with ht | ht
          · exact h.sel t ht
          · rw [List.mem_singleton] at ht; subst ht; exact hb'
      rw [I.ok]
      refine ⟨rfl, I, rfl, fun t => ?_⟩
      show t ∈ w.list ∨ t ∈ w.again ++ [s] ↔ (t ∈ w.list ∨ t ∈ w.again) ∨ t = s
      rw [List.mem_append, List.mem_singleton, or_assoc]
  · refine ⟨rfl, h, rfl, fun t => ⟨fun ht => .inl ht, fun ht => ?_⟩⟩
    rcases ht with ht | rfl
    · exact ht
    · rw [Bool.or_eq_true, isIn_iff, isIn_iff] at h1; exact h1
theorem WInv.take1 {w : WorkT} (h : WInv w) {x : ByteArray} {r : List ByteArray} (hl : w.list = x :: r) : workTake w = (takeN w x r, x, true) ∧ WInv (takeN w x r) ∧ x ∉ w.busy ∧ x ∈ four ∧ Asks w x ∧ ∀ t, Asks (takeN w x r) t ↔ Asks w t ∧ t ≠ x := by
  have hx : x ∈ w.list := by rw [hl]; simp
  have hxb := h.apart x hx
  have hn := h.nl
  rw [hl] at hn
  have hn := List.pairwise_cons.1 hn
  have hr : ∀ t ∈ r, t ∈ w.list := fun t ht => by rw [hl]; simp [ht]
  have I : WInv (takeN w x r) := by
    refine ⟨fun t ht => ?_, hn.2, nodup_snoc h.nb hxb, h.na, fun t ht => ?_, fun t ht => List.mem_append.2 (.inl (h.sel t ht)), h.fails⟩
    · rcases ht with ht | ht | ht
      · exact h.sub t (.inl (hr t ht))
      · rcases List.mem_append.1 ht with ht | ht
        · exact h.sub t (.inr (.inl ht))
        · rw [List.mem_singleton] at ht; subst ht; exact h.sub _ (.inl hx)
      · exact h.sub t (.inr (.inr ht))
    · intro hb
      rcases List.mem_append.1 hb with hb | hb
      · exact h.apart t (hr t ht) hb
      · rw [List.mem_singleton] at hb; exact hn.1 t ht hb.symm
  refine ⟨?_, I, hxb, h.sub x (.inl hx), .inl hx, fun t => ⟨fun ht => ?_, fun ht => ?_⟩⟩
  · unfold workTake
    rw [h.ok, hl]
    simp only [cond_true, I.ok]
  · rcases ht with ht | ht
    · exact ⟨.inl (hr t ht), fun e => hn.1 t ht e.symm⟩
    · exact ⟨.inr ht, fun e => hxb (e ▸ h.sel t ht)⟩
  · obtain ⟨ht | ht, hne⟩ := ht
    · rw [hl] at ht
      rcases List.mem_cons.1 ht with e | ht
      · exact (hne e).elim
      · exact .inl ht
    · exact .inr ht
theorem WInv.done {w : WorkT} (h : WInv w) (s : ByteArray) : (workDone w s true).2 = isIn w.busy s ∧ WInv (workDone w s true).1 ∧ (workDone w s true).1.busy = butName w.busy s ∧ ∀ t, Asks (workDone w s true).1 t ↔ Asks w t := by
  unfold workDone
  rw [h.ok]
  simp only [cond_true]
  cases hb : isIn w.busy s
  · exact ⟨rfl, h, (butName_no hb).symm, fun t => Iff.rfl⟩
  · have hb' := isIn_iff.1 hb
    have hf : failedI w.fails s true = [] := by rw [h.fails]; rfl
    have hsl : s ∉ w.list := fun hs => h.apart s hs hb'
    have hlist : (doneW w s true).list = cond (isIn w.again s) (w.list ++ [s]) w.list := by simp [doneW]
    have hmem : ∀ t, t ∈ (doneW w s true).list ↔ t ∈ w.list ∨ (t = s ∧ s ∈ w.again) := by
      intro t
      rw [hlist]
      cases ha : isIn w.again s
      · have := isIn_not.1 ha
        simp only [cond_false]
        exact ⟨.inl, fun ht => ht.elim id fun ⟨_, h2⟩ => (this h2).elim⟩
      · have := isIn_iff.1 ha
        simp only [cond_true, List.mem_append, List.mem_singleton]
        exact ⟨fun ht => ht.imp id fun e => ⟨e, this⟩, fun ht => ht.imp id fun e => e.1⟩
    have I : WInv (doneW w s true) := by
      refine ⟨fun t ht => ?_, ?_, butName_nodup h.nb, butName_nodup h.na, fun t ht => ?_, fun t ht => ?_, hf⟩
      · rcases ht with ht | ht | ht
        · rcases (hmem t).1 ht with ht | ⟨rfl, ht⟩
          · exact h.sub t (.inl ht)
          · exact h.sub _ (.inr (.inr ht))
        · exact h.sub t (.inr (.inl (mem_butName.1 ht).1))
        · exact h.sub t (.inr (.inr (mem_butName.1 ht).1))
      · rw [hlist]
        cases isIn w.again s
        · exact h.nl
        · exact nodup_snoc h.nl hsl
      · intro hq
        obtain ⟨h1, h2⟩ := mem_butName.1 hq
        rcases (hmem t).1 ht with ht | ⟨e, _⟩
        · exact h.apart t ht h1
        · exact h2 e
      · obtain ⟨h1, h2⟩ := mem_butName.1 ht
        exact mem_butName.2 ⟨h.sel t h1, h2⟩
    rw [I.ok]
    refine ⟨rfl, I, rfl, fun t => ?_⟩
    show t ∈ (doneW w s true).list ∨ t ∈ butName w.again s ↔ t ∈ w.list ∨ t ∈ w.again
    rw [hmem, mem_butName]
    constructor
    · rintro ((h1 | ⟨rfl, h1⟩) | ⟨h1, _⟩)
      · exact .inl h1
      · exact .inr h1
      · exact .inr h1
    · rintro (h1 | h1)
      · exact .inl (.inl h1)
      · by_cases e : t = s
        · subst e; exact .inl (.inr ⟨rfl, h1⟩)
        · exact .inr ⟨h1, e⟩

/-- What holds ahead of each round. -/
structure Round (w : WorkT) (asked busy : List ByteArray) : Prop where
  inv : WInv w
  busy : busy = w.busy
  nd : asked.Nodup
  asked : ∀ t, t ∈ asked ↔ Asks w t
theorem Round.four {w : WorkT} {asked busy : List ByteArray} (h : Round w asked busy) : ∀ s ∈ asked, s ∈ four := fun s hs => by
  rcases (h.asked s).1 hs with h1 | h1
  · exact h.inv.sub s (.inl h1)
  · exact h.inv.sub s (.inr (.inr h1))
theorem Round.start : Round ⟨[], [], [], []⟩ [] [] :=
  ⟨⟨fun s h => by simp at h, List.Pairwise.nil, List.Pairwise.nil, List.Pairwise.nil, fun s h => by simp at h, fun s h => by simp at h, rfl⟩, rfl, List.Pairwise.nil, fun t => by simp [Asks]⟩
def askedA (asked : List ByteArray) (s : ByteArray) : List ByteArray := cond (!(isIn asked s)) (asked ++ [s]) asked
theorem Round.add {w : WorkT} {asked busy : List ByteArray} (h : Round w asked busy) {s : ByteArray} (hs : s ∈ Gm.four) : Round (workAdd w s).1 (askedA asked s) busy := by
  obtain ⟨h1, h2, h3, h4⟩ := h.inv.add hs
  refine ⟨h2, by rw [h3]; exact h.busy, ?_, fun t => ?_⟩
  · unfold askedA
    cases hq : isIn asked s
    · exact nodup_snoc h.nd (isIn_not.1 hq)
    · exact h.nd
  · rw [h4, ← h.asked t]
    unfold askedA
    cases hq : isIn asked s
    · simp only [Bool.not_false, cond_true, List.mem_append, List.mem_singleton]
    · have := isIn_iff.1 hq
      simp only [Bool.not_true, cond_false]
      exact ⟨.inl, fun ht => ht.elim id fun e => e ▸ this⟩
theorem Round.take {w : WorkT} {asked busy : List ByteArray} (h : Round w asked busy) {x : ByteArray} {r : List ByteArray} (hl : w.list = x :: r) : Round (takeN w x r) (butName asked x) (busy ++ [x]) ∧ isIn busy x = false := by
  obtain ⟨_, h2, h3, _, _, h4⟩ := h.inv.take1 hl
  refine ⟨⟨h2, by rw [h.busy]; rfl, butName_nodup h.nd, fun t => ?_⟩, isIn_not.2 (by rw [h.busy]; exact h3)⟩
  rw [mem_butName, h.asked t, h4]
theorem Round.done {w : WorkT} {asked busy : List ByteArray} (h : Round w asked busy) (s : ByteArray) : (workDone w s true).2 = isIn busy s ∧ Round (workDone w s true).1 asked (butName busy s) := by
  obtain ⟨h1, h2, h3, h4⟩ := h.inv.done s
  refine ⟨by rw [h1, h.busy], h2, by rw [h3, h.busy], h.nd, fun t => ?_⟩
  rw [h.asked t, h4]

end Go.Gm
namespace Go.Gm
open Go
end Go.Gm
namespace Go.Gm
end Go.Gm

/- The cursor of the draws: what stays true of it. -/
namespace Go.Gm
open Go

def gCur (c : CurT) : Bool := decide (0 ≤ c.i) && Nat.ble c.b.length 1048576
theorem gCur_iff {c : CurT} : gCur c = true ↔ 0 ≤ c.i ∧ c.b.length ≤ 1048576 := by
  unfold gCur
  rw [Bool.and_eq_true, decide_eq_true_eq, Nat.ble_eq]
def gCode (b : List Int) : Bool := Nat.ble b.length 1048576
def gPickS (c : CurT) (l : List ByteArray) : Bool := gCur c && (!l.isEmpty && Nat.ble l.length 1048576)
theorem and255 (A : Int) : 0 ≤ ((BitVec.toNat (BitVec.ofInt (IntKind.bits .i64) A &&& BitVec.ofInt (IntKind.bits .i64) (255 : Int)) : Nat) : Int) ∧
    ((BitVec.toNat (BitVec.ofInt (IntKind.bits .i64) A &&& BitVec.ofInt (IntKind.bits .i64) (255 : Int)) : Nat) : Int) ≤ 255 := by
  refine ⟨Int.natCast_nonneg _, ?_⟩
  have h : BitVec.toNat (BitVec.ofInt (IntKind.bits .i64) A &&& BitVec.ofInt (IntKind.bits .i64) (255 : Int)) ≤ 255 := by
    rw [BitVec.toNat_and]
    exact Nat.le_trans Nat.and_le_right (by decide)
  omega
theorem and255w (A : Int) : 0 ≤ IntKind.wrap .i64 ((BitVec.toNat (BitVec.ofInt (IntKind.bits .i64) A &&& BitVec.ofInt (IntKind.bits .i64) (255 : Int)) : Nat) : Int) ∧
    IntKind.wrap .i64 ((BitVec.toNat (BitVec.ofInt (IntKind.bits .i64) A &&& BitVec.ofInt (IntKind.bits .i64) (255 : Int)) : Nat) : Int) ≤ 255 := by
  have := and255 A
  rw [wrap_id (by omega) (by omega)]; exact this
theorem tmod_bd {x n : Int} (h : 0 ≤ x) (hn : 0 < n) : 0 ≤ Int.tmod x n ∧ Int.tmod x n < n := ⟨Int.tmod_nonneg n h, Int.tmod_lt_of_pos x hn⟩
theorem below4 {x y z w : Int} (hx : 0 ≤ x ∧ x ≤ 255) (hy : 0 ≤ y ∧ y ≤ 255) (hz : 0 ≤ z ∧ z ≤ 255) (hw : 0 ≤ w ∧ w ≤ 255) :
    0 ≤ IntKind.wrap .i64 ((IntKind.wrap .i64 ((IntKind.wrap .i64 ((IntKind.wrap .i64 (x * (16777216 : Int))) + (IntKind.wrap .i64 (y * (65536 : Int))))) + (IntKind.wrap .i64 (z * (256 : Int))))) + w) := by
  rw [wrap_id (x := x * 16777216) (by omega) (by omega), wrap_id (x := y * 65536) (by omega) (by omega), wrap_id (x := z * 256) (by omega) (by omega), wrap_id (x := x * 16777216 + y * 65536) (by omega) (by omega),
    wrap_id (x := x * 16777216 + y * 65536 + z * 256) (by omega) (by omega), wrap_id (by omega) (by omega)]
  omega
theorem mem_atI {t : Ty} {xs : List (El t)} {i : Int} (h0 : 0 ≤ i) (h : i < (xs.length : Int)) : atI xs (Int.toNat i) ∈ xs :=
  List.mem_of_getElem? (atI_lt (by omega))
theorem idxOk {α : Type} {xs : List α} {i : Int} (h0 : 0 ≤ i) (h : i < (xs.length : Int)) : (decide ((0 : Int) ≤ i) && decide (i < (xs.length : Int))) = true := by
  rw [decide_eq_true h0, decide_eq_true h]; rfl
theorem lenPos {α : Type} {xs : List α} (h : (!xs.isEmpty) = true) : 0 < (xs.length : Int) := by
  cases xs with
  | nil => cases h
  | cons x r => simp

theorem gPickS_of {c : CurT} {l : List ByteArray} (h : gCur c = true) (hl : (!l.isEmpty && Nat.ble l.length 1048576) = true) : gPickS c l = true := by
  unfold gPickS; rw [h, hl]; rfl
theorem eta_cur (c : CurT) : (⟨c.b, c.i, c.h⟩ : CurT) = c := by cases c; rfl

open Classical in
/-- Are they the same? -/
noncomputable def eqB {α : Type} (a b : α) : Bool := decide (a = b)
theorem eqB_iff {α : Type} {a b : α} : eqB a b = true ↔ a = b := by unfold eqB; simp
noncomputable def gSame {α : Type} (f : α → Bool) (a b : α) : Bool := f a && eqB a b
theorem gSame_iff {α : Type} {f : α → Bool} {a b : α} : gSame f a b = true ↔ f a = true ∧ a = b := by unfold gSame; rw [Bool.and_eq_true, eqB_iff]
theorem gSame_self {α : Type} {f : α → Bool} {a : α} (h : f a = true) : gSame f a a = true := gSame_iff.2 ⟨h, rfl⟩
theorem gCode_of {b : List Int} (h : bigC b = false) : gCode b = true := by
  unfold bigC at h
  have := of_decide_eq_false h
  exact Nat.ble_eq_true_of_le (by omega)
theorem bab_self (a : ByteArray) : (a == a) = true := by rw [beq_toListBytes]; exact beq_self_eq_true _

end Go.Gm

/- Every byte that is c is replaced: what strings.ReplaceAll comes to at an old of one byte. -/
namespace Go.Gm
open Go

def repB (c : UInt8) (new : List UInt8) (s : List UInt8) : List UInt8 := s.flatMap fun b => if b = c then new else [b]
theorem index_cons_ne {c b : UInt8} {l : List UInt8} (h : b ≠ c) {i : Nat} (hi : Lib.index l [c] = i) : Lib.index (b :: l) [c] = ((i + 1 : Nat) : Int) := by
  have hp : [c].isPrefixOf (b :: l) = false := by
    have : (c == b) = false := by rw [beq_eq_false_iff_ne]; exact fun e => h e.symm
    simp [List.isPrefixOf, this]
  have hn : (Lib.index l [c] == -1) = false := by rw [beq_eq_false_iff_ne]; omega
  unfold Lib.index
  rw [hp, hn, hi]; simp
theorem replaceK_one (c : UInt8) (new : List UInt8) : ∀ (s : List UInt8), Lib.replaceK [c] new (s.count c) s = repB c new s
  | [] => rfl
  | b :: l => by
    have ih := replaceK_one c new l
    by_cases h : b = c
    · subst h
      have hi : Lib.index (b :: l) [b] = ((0 : Nat) : Int) := by unfold Lib.index; simp [List.isPrefixOf]
      rw [List.count_cons_self, Lib.replaceK_hit _ _ _ _ 0 hi]
      simp only [repB, List.flatMap_cons, if_true, List.take_zero, List.nil_append, Nat.zero_add, List.length_cons, List.length_nil, List.drop_succ_cons, List.drop_zero]
      rw [ih]; rfl
    · have hc : (b :: l).count c = l.count c := List.count_cons_of_ne (by simpa using h)
      rw [hc]
      simp only [repB, List.flatMap_cons, if_neg h]
      show _ = b :: repB c new l
      rw [← ih]
      cases hk : l.count c with
      | zero => rfl
      | succ k =>
        obtain ⟨i, hi⟩ := Lib.index_of_count (s := l) (old := [c]) (by rw [Lib.count_one]; omega)
        rw [Lib.replaceK_hit _ _ _ _ (i + 1) (index_cons_ne h hi), Lib.replaceK_hit _ _ _ _ i hi]
        simp
theorem replaceAll_one (c : UInt8) (new s : List UInt8) : Lib.replaceAll s [c] new = repB c new s := by
  unfold Lib.replaceAll Lib.replace
  split
  · rename_i h
    have h := beq_iff_eq.1 h
    subst h
    unfold repB
    induction s with
    | nil => rfl
    | cons b l ih =>
      rw [List.flatMap_cons, ← ih]
      by_cases hb : b = c
      · subst hb; simp
      · simp [hb]
  · have e : Lib.replaceNum s [c] (-1) = s.count c := by
      unfold Lib.replaceNum
      rw [if_pos (.inl (by decide)), Lib.count_one]
    rw [e]
    exact replaceK_one c new s

/-- A step of a way, as a text says it. -/
def escB (b : UInt8) : List UInt8 := if b = 126 then [126, 48] else if b = 47 then [126, 49] else [b]
theorem esc_two (s : List UInt8) : repB 47 [126, 49] (repB 126 [126, 48] s) = s.flatMap escB := by
  induction s with
  | nil => rfl
  | cons b l ih =>
    have e : repB 47 [126, 49] (repB 126 [126, 48] (b :: l)) = repB 47 [126, 49] (if b = 126 then [126, 48] else [b]) ++ repB 47 [126, 49] (repB 126 [126, 48] l) := by
      simp only [repB, List.flatMap_cons, List.flatMap_append]
    rw [e, ih, List.flatMap_cons]
    congr 1
    unfold escB
    by_cases h1 : b = 126
    · subst h1; rfl
    · rw [if_neg h1, if_neg h1]
      by_cases h2 : b = 47
      · subst h2; rfl
      · rw [if_neg h2]; simp [repB, h2]
end Go.Gm

/- Contracts of library functions that read the program's own variables: what they were at the start, they are. -/
namespace Go.Gm
open Go

variable {wl w w' : World} {Mf ROa : Nat → Prop}

theorem spec_growW {P : Program} {f : Nat} {modes : List Am} {q : List Dt → Option (Bool × List Dt)} (hm : modes.all Am.reads = true)
    (h : ∀ ds outs, q ds = some (true, outs) → ∃ t x v, outs = [.d t x] ∧ enc t x = [.v v] ∧ isSt t = false ∧ flatB v = true ∧
      ∀ {wl : World} w us ROa Fs, WlOk P wl → BaseOk wl w ROa → ArgsOk wl w ROa modes ds us Fs → (∀ k, ROa k → k < w.heap.size) → Calls P f us.toArray w fun e w' => e = .returned v ∧ RowKit.Below w.heap.size w w') : SpecOk P f (Spec.of modes [false] true q) := by
  intro R ds k r hr wl w us Mf ROa Fs hWl hBs hA hp hFM hRM hRlt hMlt
  obtain ⟨outs, hq, hk⟩ := Spec.of_some hr
  obtain ⟨t, x, v, rfl, he, hs, hf, hc⟩ := h ds outs hq
  refine Calls.mono (hc w us ROa Fs hWl hBs hA hRlt) ?_
  rintro e w' ⟨rfl, hB⟩
  obtain ⟨h1, h2, _⟩ := hA.len
  have hA' : After wl w' w' Mf ROa (Spec.of modes [false] true q) ds us [.d t x] (.returned v) := After.one rfl rfl hm h1 h2 he hs hf
  obtain ⟨⟨rs, Gs, Bs, e1, hR, hBk, a1, a2, a3, a4, a5, a6, a7⟩, _⟩ := hA'
  refine ⟨_, hk, ⟨⟨rs, Gs, Bs, e1, hR, hBk, a1, fun B hB' k hk => ?_, fun ho => ⟨(a3 ho).1, fun G hG k hk => ?_⟩, fun ho => absurd ho (by simp [Spec.of]), a5, a6, a7⟩, ?_⟩⟩
  · rcases a2 B hB' k hk with h | h
    · exact .inl h
    · exact .inr (Nat.le_trans hB.size h)
  · rcases (a3 ho).2 G hG k hk with h | h
    · exact .inl h
    · exact .inr (Nat.le_trans hB.size h)
  · exact ⟨hB.os, hB.tape, hB.output, hB.size, fun b hb _ => hB.block b hb⟩

theorem BaseOk.cell (h : BaseOk wl w ROa) {b o : Nat} {v : Value} (hc : wl.cell? ⟨b, o, none⟩ = some v) : w.cell? ⟨b, o, none⟩ = some v := by
  cases hb : wl.heap[b]? with
  | none => simp [World.cell?, hb] at hc
  | some x =>
    have := (h b x hb).2
    simpa [World.cell?, hb, this] using hc
end Go.Gm

/- strings.ReplaceAll, as the evaluator has it. -/
namespace Go.Gm
open Go
def replS (s old new : ByteArray) : ByteArray := ⟨(Lib.replaceAll s.data.toList old.data.toList new.data.toList).toArray⟩
def gRepl (s old new : ByteArray) : Bool := Nat.ble s.size 2147483648 && (Nat.ble 1 old.size && Nat.ble new.size 1000)
theorem gRepl_iff {s old new : ByteArray} (h : gRepl s old new = true) : s.size < 4294967281 ∧ 1 ≤ old.size ∧ s.size + Lib.countB s old * new.size ≤ 140737488355328 := by
  simp only [gRepl, Bool.and_eq_true, Nat.ble_eq] at h
  obtain ⟨h1, h2, h3⟩ := h
  have hc := Lib.countB_le old h2 s.size s (Nat.le_refl _)
  refine ⟨by omega, h2, ?_⟩
  have : Lib.countB s old * new.size ≤ 2147483648 * 1000 := Nat.mul_le_mul (by omega) h3
  omega
end Go.Gm

/- What has happened, done again. -/
namespace Go.Gm
open Go
end Go.Gm

/- The text of a way. -/
namespace Go.Gm
open Go
def stepB (s : ByteArray) : List UInt8 := 47 :: s.data.toList.flatMap escB
def mkB (l : List UInt8) : ByteArray := ⟨l.toArray⟩
def ptrText (xs : List ByteArray) : ByteArray := mkB (xs.flatMap stepB)
def gPtrT (xs : List ByteArray) : Bool := Nat.ble (szL ByteArray.size xs) 2097152
theorem mkB_app (l m : List UInt8) : mkB l ++ mkB m = mkB (l ++ m) := by
  apply ByteArray.ext
  simp [mkB]
theorem mkB_size (l : List UInt8) : (mkB l).size = l.length := by simp [mkB, ByteArray.size]
theorem escB_len (b : UInt8) : (escB b).length ≤ 2 := by
  unfold escB
  split
  · exact Nat.le_refl _
  · split
    · exact Nat.le_refl _
    · exact Nat.le_succ _
theorem esc_len (l : List UInt8) : (l.flatMap escB).length ≤ 2 * l.length := by
  induction l with
  | nil => simp
  | cons b r ih => have := escB_len b; simp only [List.flatMap_cons, List.length_append, List.length_cons]; omega
theorem rep126_len (l : List UInt8) : (repB 126 [126, 48] l).length ≤ 2 * l.length := by
  unfold repB
  induction l with
  | nil => simp
  | cons b r ih =>
    simp only [List.flatMap_cons, List.length_append, List.length_cons]
    split <;> simp only [List.length_cons, List.length_nil] <;> omega
theorem replS_1 (s : ByteArray) : replS s (bs [126]) (bs [126,48]) = mkB (repB 126 [126, 48] s.data.toList) := by
  unfold replS mkB
  rw [show (bs [126]).data.toList = [126] from rfl, show (bs [126,48]).data.toList = [126, 48] from rfl, replaceAll_one]
theorem replS_2 (s : ByteArray) : replS (replS s (bs [126]) (bs [126,48])) (bs [47]) (bs [126,49]) = mkB (s.data.toList.flatMap escB) := by
  rw [replS_1]
  unfold replS
  rw [show (bs [47]).data.toList = [47] from rfl, show (bs [126,49]).data.toList = [126, 49] from rfl, replaceAll_one]
  have : (mkB (repB 126 [126, 48] s.data.toList)).data.toList = repB 126 [126, 48] s.data.toList := by simp [mkB]
  rw [this, esc_two]; rfl
def toI (l : List UInt8) : List Int := l.map fun b => (b.toNat : Int)
theorem bytesOf_toI (l : List UInt8) : bytesOf (toI l) = mkB l := by
  unfold bytesOf toI mkB
  rw [List.map_map]
  have : ((fun n : Int => UInt8.ofNat n.toNat) ∘ fun b : UInt8 => (b.toNat : Int)) = id := by
    funext b
    simp
  rw [this, List.map_id]
theorem sizes_at {xs : List ByteArray} {j : Nat} {x : ByteArray} (h : xs[j]? = some x) : x.size + 1 ≤ szL ByteArray.size xs := by
  have hm := List.mem_of_getElem? h
  unfold szL
  have : x.size ≤ (xs.map ByteArray.size).sum := by
    clear h
    induction xs with
    | nil => cases hm
    | cons y r ih =>
      simp only [List.map_cons, List.sum_cons]
      rcases List.mem_cons.1 hm with rfl | hm
      · omega
      · have := ih hm; omega
  have : 0 < xs.length := List.length_pos_of_mem hm
  omega
theorem byteI (b c : UInt8) : (((b.toNat : Int)) == (c.toNat : Int)) = decide (b = c) := by
  rw [Bool.eq_iff_iff, beq_iff_eq, decide_eq_true_eq]
  constructor
  · intro h; exact UInt8.toNat_inj.1 (by omega)
  · rintro rfl; rfl
theorem szL_drop {xs : List ByteArray} {j : Nat} {x : ByteArray} (h : xs[j]? = some x) : szL ByteArray.size (xs.drop j) = 1 + x.size + szL ByteArray.size (xs.drop (j + 1)) := by
  have hj : j < xs.length := by
    rcases Nat.lt_or_ge j xs.length with h' | h'
    · exact h'
    · rw [List.getElem?_eq_none h'] at h; cases h
  have hx : xs[j] = x := by rw [List.getElem?_eq_getElem hj] at h; exact Option.some.inj h
  rw [List.drop_eq_getElem_cons hj, hx]
  simp only [szL, List.length_cons, List.map_cons, List.sum_cons]; omega
theorem toI_len (l : List UInt8) : (toI l).length = l.length := by simp [toI]
theorem bszL (s : ByteArray) : s.data.toList.length = s.size := by show s.data.toList.length = s.data.size; simp
end Go.Gm

/- strings.Split at one byte, strings.ReplaceAll at any old: as recursions over the bytes; and what a way's text is read to. -/
namespace Go.Gm
open Go

/-- Every instance of old is replaced; the number says how many bytes are still to be left out. -/
def repR (old new : List UInt8) : Nat → List UInt8 → List UInt8
  | _, [] => []
  | k + 1, _ :: l => repR old new k l
  | 0, b :: l => if old.isPrefixOf (b :: l) then new ++ repR old new (old.length - 1) l else b :: repR old new 0 l
theorem repR_drop (old new : List UInt8) : ∀ (k : Nat) (l : List UInt8), repR old new k l = repR old new 0 (l.drop k)
  | 0, l => by rw [List.drop_zero]
  | k + 1, [] => by simp [repR]
  | k + 1, b :: l => by rw [repR, repR_drop old new k l, List.drop_succ_cons]
theorem index_cons_hit {b : UInt8} {l old : List UInt8} (h : old.isPrefixOf (b :: l) = true) : Lib.index (b :: l) old = ((0 : Nat) : Int) := by
  unfold Lib.index; rw [if_pos h]; rfl
theorem index_cons_miss {b : UInt8} {l old : List UInt8} (h : old.isPrefixOf (b :: l) = false) (hm : Lib.index l old = -1) : Lib.index (b :: l) old = -1 := by
  unfold Lib.index; rw [h, hm]; rfl
theorem index_cons_next {b : UInt8} {l old : List UInt8} (h : old.isPrefixOf (b :: l) = false) {i : Nat} (hi : Lib.index l old = i) : Lib.index (b :: l) old = ((i + 1 : Nat) : Int) := by
  have hn : (Lib.index l old == -1) = false := by rw [beq_eq_false_iff_ne]; omega
  unfold Lib.index
  rw [h, hn, hi]; simp
theorem index_two (l old : List UInt8) : Lib.index l old = -1 ∨ ∃ i : Nat, Lib.index l old = i := by
  have := Lib.index_ge l old
  by_cases h : Lib.index l old = -1
  · exact .inl h
  · exact .inr ⟨(Lib.index l old).toNat, by omega⟩
theorem replaceK_R {old : List UInt8} (ho : old ≠ []) (new : List UInt8) : ∀ (n : Nat) (s : List UInt8), s.length ≤ n → Lib.replaceK old new (Lib.count s old) s = repR old new 0 s
  | n, [], _ => by
    have : Lib.index [] old = -1 := by
      cases old with
      | nil => exact absurd rfl ho
      | cons a r => rfl
    rw [Lib.count_miss this]; rfl
  | 0, b :: l, h => by simp at h
  | n + 1, b :: l, h => by
    have hl : l.length ≤ n := by simpa using h
    cases hp : old.isPrefixOf (b :: l) with
    | true =>
      have hi := index_cons_hit hp
      rw [Lib.count_hit ho hi, Nat.add_comm 1, Lib.replaceK_hit _ _ _ _ 0 hi, Nat.zero_add]
      obtain ⟨a, r, rfl⟩ : ∃ a r, old = a :: r := by
        cases old with
        | nil => exact absurd rfl ho
        | cons a r => exact ⟨a, r, rfl⟩
      rw [repR, if_pos hp, repR_drop, List.length_cons, List.drop_succ_cons, Nat.add_sub_cancel, replaceK_R ho new n _ (by rw [List.length_drop]; omega)]
      rfl
    | false =>
      rw [repR, if_neg (by simp [hp])]
      rcases index_two l old with hm | ⟨i, hi⟩
      · have := replaceK_R ho new n l hl
        rw [Lib.count_miss hm] at this
        rw [Lib.count_miss (index_cons_miss hp hm), ← this]; rfl
      · have hi' := index_cons_next hp hi
        have := replaceK_R ho new n l hl
        rw [Lib.count_hit ho hi, Nat.add_comm 1, Lib.replaceK_hit _ _ _ _ i hi] at this
        rw [Lib.count_hit ho hi', Nat.add_comm 1, Lib.replaceK_hit _ _ _ _ (i + 1) hi', ← this]
        have e : (b :: l).drop (i + 1 + old.length) = l.drop (i + old.length) := by rw [show i + 1 + old.length = (i + old.length) + 1 by omega, List.drop_succ_cons]
        rw [e]; simp
theorem replaceAll_R {old : List UInt8} (ho : old ≠ []) {new : List UInt8} (hne : old ≠ new) (s : List UInt8) : Lib.replaceAll s old new = repR old new 0 s := by
  unfold Lib.replaceAll Lib.replace
  rw [if_neg (by simpa using hne)]
  have e : Lib.replaceNum s old (-1) = Lib.count s old := by
    unfold Lib.replaceNum
    rw [if_pos (.inl (by decide))]
  rw [e]
  exact replaceK_R ho new s.length s (Nat.le_refl _)
theorem repR_len (old new : List UInt8) (h : new.length ≤ old.length) (ho : old ≠ []) : ∀ (n : Nat) (s : List UInt8), s.length ≤ n → (repR old new 0 s).length ≤ s.length
  | n, [], _ => by simp [repR]
  | 0, b :: l, h' => by simp at h'
  | n + 1, b :: l, h' => by
    have hl : l.length ≤ n := by simpa using h'
    rw [repR]
    cases hp : old.isPrefixOf (b :: l) with
    | true =>
      simp only [if_true]
      obtain ⟨t, ht⟩ := List.isPrefixOf_iff_prefix.1 hp
      have hlen := congrArg List.length ht
      simp only [List.length_append, List.length_cons] at hlen
      have := repR_len old new h ho n (l.drop (old.length - 1)) (by rw [List.length_drop]; omega)
      rw [repR_drop, List.length_append, List.length_cons]
      rw [List.length_drop] at this
      have : 0 < old.length := List.length_pos_iff.2 ho
      omega
    | false =>
      have := repR_len old new h ho n l hl
      simp only [Bool.false_eq_true, if_false, List.length_cons]; omega

/-- A step of a way, read. -/
def decB : List UInt8 → List UInt8
  | [] => []
  | [b] => [b]
  | b :: c :: l => if b = 126 ∧ c = 48 then 126 :: decB l else if b = 126 ∧ c = 49 then 47 :: decB l else b :: decB (c :: l)
def r1 (l : List UInt8) : List UInt8 := repR [126, 49] [47] 0 l
def r0 (l : List UInt8) : List UInt8 := repR [126, 48] [126] 0 l
theorem r1_one (b : UInt8) : r1 [b] = [b] := by simp [r1, repR, List.isPrefixOf]
theorem r0_one (b : UInt8) : r0 [b] = [b] := by simp [r0, repR, List.isPrefixOf]
theorem r1_two (b c : UInt8) (l : List UInt8) : r1 (b :: c :: l) = if b = 126 ∧ c = 49 then 47 :: r1 l else b :: r1 (c :: l) := by
  unfold r1
  rw [repR]
  by_cases h : b = 126 ∧ c = 49
  · obtain ⟨rfl, rfl⟩ := h
    simp [List.isPrefixOf, repR]
  · rw [if_neg h, if_neg]
    simp only [List.isPrefixOf, Bool.and_eq_true, beq_iff_eq, Bool.and_true]
    rintro ⟨rfl, rfl⟩; exact h ⟨rfl, rfl⟩
theorem r0_two (b c : UInt8) (l : List UInt8) : r0 (b :: c :: l) = if b = 126 ∧ c = 48 then 126 :: r0 l else b :: r0 (c :: l) := by
  unfold r0
  rw [repR]
  by_cases h : b = 126 ∧ c = 48
  · obtain ⟨rfl, rfl⟩ := h
    simp [List.isPrefixOf, repR]
  · rw [if_neg h, if_neg]
    simp only [List.isPrefixOf, Bool.and_eq_true, beq_iff_eq, Bool.and_true]
    rintro ⟨rfl, rfl⟩; exact h ⟨rfl, rfl⟩
theorem r0_cons (b : UInt8) (l : List UInt8) (h : ¬ (b = 126 ∧ l.head? = some 48)) : r0 (b :: l) = b :: r0 l := by
  cases l with
  | nil => rw [r0_one]; rfl
  | cons c l => rw [r0_two, if_neg]; simpa using h
theorem r1_head (l : List UInt8) : (r1 l).head? = some 48 ↔ l.head? = some 48 := by
  match l with
  | [] => simp [r1, repR]
  | [b] => rw [r1_one]
  | b :: c :: l =>
    rw [r1_two]
    split
    · rename_i h; obtain ⟨rfl, rfl⟩ := h; simp
    · simp
theorem r1_cons (b : UInt8) (l : List UInt8) (h : ¬ (b = 126 ∧ l.head? = some 49)) : r1 (b :: l) = b :: r1 l := by
  cases l with
  | nil => rw [r1_one]; rfl
  | cons c l => rw [r1_two, if_neg]; simpa using h
theorem dec_two : ∀ (n : Nat) (l : List UInt8), l.length ≤ n → r0 (r1 l) = decB l
  | n, [], _ => rfl
  | n, [b], _ => by rw [r1_one, r0_one]; rfl
  | 0, b :: c :: l, h => by simp at h
  | n + 1, b :: c :: l, h => by
    have hl : l.length ≤ n := by simp at h; omega
    have hl' : (c :: l).length ≤ n := by simpa using h
    rw [decB]
    by_cases h0 : b = 126 ∧ c = 48
    · obtain ⟨rfl, rfl⟩ := h0
      simp only [and_self, if_true]
      rw [r1_cons _ _ (by simp), r1_cons _ _ (by simp), r0_two, if_pos ⟨rfl, rfl⟩, dec_two n l hl]
    · rw [if_neg h0]
      by_cases h1 : b = 126 ∧ c = 49
      · obtain ⟨rfl, rfl⟩ := h1
        simp only [and_self, if_true]
        rw [r1_two, if_pos ⟨rfl, rfl⟩, r0_cons _ _ (by simp), dec_two n l hl]
      · rw [if_neg h1, r1_cons _ _ (by simpa using h1), r0_cons _ _ (by rw [r1_head]; simpa using h0), dec_two n _ hl']
theorem decB_len : ∀ (n : Nat) (l : List UInt8), l.length ≤ n → (decB l).length ≤ l.length
  | n, [], _ => by simp [decB]
  | n, [b], _ => by simp [decB]
  | 0, b :: c :: l, h => by simp at h
  | n + 1, b :: c :: l, h => by
    have h1 := decB_len n l (by simp at h; omega)
    have h2 := decB_len n (c :: l) (by simpa using h)
    rw [decB]
    split
    · simp only [List.length_cons]; omega
    · split
      · simp only [List.length_cons]; omega
      · simp only [List.length_cons] at h2 ⊢; omega
theorem decB_esc : ∀ (l : List UInt8), decB (l.flatMap escB) = l
  | [] => rfl
  | b :: l => by
    have ih := decB_esc l
    rw [List.flatMap_cons]
    unfold escB
    by_cases h1 : b = 126
    · subst h1; simp only [if_true, List.cons_append, List.nil_append]; rw [decB, if_pos ⟨rfl, rfl⟩]
      exact congrArg _ ih
    · rw [if_neg h1]
      by_cases h2 : b = 47
      · subst h2; simp only [if_true, List.cons_append, List.nil_append]; rw [decB, if_neg (by decide), if_pos ⟨rfl, rfl⟩]
        exact congrArg _ ih
      · rw [if_neg h2]
        change decB (b :: l.flatMap escB) = b :: l
        cases hm : l.flatMap escB with
        | nil => rw [hm] at ih; rw [← ih]; rfl
        | cons c m => rw [decB, if_neg (fun h => h1 h.1), if_neg (fun h => h1 h.1), ← hm, ih]

/-- Cut at every byte 47. -/
def splL : List UInt8 → List (List UInt8)
  | [] => [[]]
  | b :: l => if b = 47 then [] :: splL l else match splL l with | [] => [[b]] | h :: t => (b :: h) :: t
theorem splL_ne (l : List UInt8) : splL l ≠ [] := by
  cases l with
  | nil => simp [splL]
  | cons b l =>
    rw [splL]
    split
    · simp
    · split <;> simp
theorem isPre1 (b : UInt8) (l : List UInt8) : ([47] : List UInt8).isPrefixOf (b :: l) = decide (b = 47) := by
  simp only [List.isPrefixOf, Bool.and_true]
  rw [Bool.eq_iff_iff, beq_iff_eq, decide_eq_true_eq]; exact eq_comm
theorem splitK_R : ∀ (n : Nat) (s : List UInt8), s.length ≤ n → Lib.splitK [47] 0 (Lib.count s [47]) s = splL s
  | n, [], _ => by rw [Lib.count_miss (by rfl)]; rfl
  | 0, b :: l, h => by simp at h
  | n + 1, b :: l, h => by
    have hl : l.length ≤ n := by simpa using h
    have hk : ∀ (k : Nat) (s : List UInt8) (i : Nat), Lib.index s [47] = i → Lib.splitK [47] 0 (k + 1) s = s.take i :: Lib.splitK [47] 0 k (s.drop (i + 1)) := by
      intro k s i hi
      have hm : ¬ (Lib.index s [47] == -1) = true := fun e => by have := beq_iff_eq.1 e; omega
      have e : (Lib.index s [47]).toNat = i := by omega
      rw [Lib.splitK, if_neg hm, e, Nat.add_zero]; rfl
    by_cases hb : b = 47
    · subst hb
      have hi := index_cons_hit (b := 47) (l := l) (old := [47]) (by rw [isPre1]; rfl)
      rw [Lib.count_hit (by simp) hi, Nat.add_comm 1, hk _ _ 0 hi, splL, if_pos rfl]
      simp only [List.take_zero, Nat.zero_add, List.drop_succ_cons, List.length_cons, List.length_nil, List.drop_zero]
      rw [splitK_R n l hl]
    · have hp : ([47] : List UInt8).isPrefixOf (b :: l) = false := by rw [isPre1]; simp [hb]
      have ih := splitK_R n l hl
      rw [splL, if_neg hb]
      rcases index_two l [47] with hm | ⟨i, hi⟩
      · rw [Lib.count_miss hm] at ih
        rw [Lib.count_miss (index_cons_miss hp hm), ← ih]; rfl
      · have hi' := index_cons_next hp hi
        rw [Lib.count_hit (by simp) hi, Nat.add_comm 1, hk _ _ i hi] at ih
        rw [Lib.count_hit (by simp) hi', Nat.add_comm 1, hk _ _ (i + 1) hi', ← ih]
        have e : (b :: l).drop (i + 1 + 1) = l.drop (i + 1) := rfl
        simp only [List.length_cons, List.length_nil, Nat.zero_add] at *
        rw [e]; simp
def splitS (s sep : ByteArray) : List ByteArray := Lib.splitB sep 0 (Lib.countB s sep) s
def gSplit (s sep : ByteArray) : Bool := Nat.ble s.size 2147483648 && Nat.ble 1 sep.size
theorem gSplit_iff {s sep : ByteArray} (h : gSplit s sep = true) : s.size ≤ 2147483648 ∧ 1 ≤ sep.size := by
  simpa [gSplit] using h
theorem mkB_data (s : ByteArray) : mkB s.data.toList = s := by simp [mkB]
theorem data_mkB (l : List UInt8) : (mkB l).data.toList = l := by simp [mkB]
theorem splitS_1 (s : ByteArray) : splitS s (bs [47]) = (splL s.data.toList).map mkB := by
  have h := Lib.splitB_data (bs [47]) 0 (Lib.countB s (bs [47])) s
  have e : Lib.splitK (bs [47]).data.toList 0 (Lib.countB s (bs [47])) s.data.toList = splL s.data.toList := splitK_R s.data.toList.length s.data.toList (Nat.le_refl _)
  rw [e] at h
  unfold splitS
  rw [← h, List.map_map]
  have : (mkB ∘ fun x : ByteArray => x.data.toList) = id := by funext x; exact mkB_data x
  rw [this, List.map_id]
theorem replS_d1 (s : ByteArray) : replS s (bs [126,49]) (bs [47]) = mkB (r1 s.data.toList) := by
  unfold replS mkB
  rw [show (bs [126,49]).data.toList = [126, 49] from rfl, show (bs [47]).data.toList = [47] from rfl, replaceAll_R (by simp) (by decide)]; rfl
theorem replS_d2 (s : ByteArray) : replS (replS s (bs [126,49]) (bs [47])) (bs [126,48]) (bs [126]) = mkB (decB s.data.toList) := by
  rw [replS_d1]
  unfold replS
  rw [show (bs [126,48]).data.toList = [126, 48] from rfl, show (bs [126]).data.toList = [126] from rfl, data_mkB, replaceAll_R (by simp) (by decide)]
  have := dec_two s.data.toList.length s.data.toList (Nat.le_refl _)
  unfold mkB; rw [← this]; rfl
theorem r1_len (l : List UInt8) : (r1 l).length ≤ l.length := repR_len _ _ (by simp) (by simp) l.length l (Nat.le_refl _)

/-- What a text is read to. -/
def partsOf (l : List UInt8) : List (List UInt8) := (splL l).tail.map decB
def ptrOf (s : ByteArray) : List ByteArray × Bool :=
  cond (Nat.beq s.size 0) ([], true) (cond (sEq (ptrText ((partsOf s.data.toList).map mkB)) s) ((partsOf s.data.toList).map mkB, true) ([], false))
def gPtrOf (s : ByteArray) : Bool := Nat.ble s.size 1048576
theorem splL_sum : ∀ (l : List UInt8), szL List.length (splL l) = l.length + 1
  | [] => rfl
  | b :: l => by
    have ih := splL_sum l
    rw [splL]
    split
    · simp only [szL, List.map_cons, List.sum_cons, List.length_cons, List.length_nil] at ih ⊢; omega
    · cases hs : splL l with
      | nil => exact absurd hs (splL_ne l)
      | cons h t =>
        rw [hs] at ih
        simp only [szL, List.map_cons, List.sum_cons, List.length_cons] at ih ⊢; omega
theorem splL_esc (xs : List (List UInt8)) : ∀ (p : List UInt8), (∀ b ∈ p, b ≠ 47) → splL (p ++ xs.flatMap fun x => 47 :: x.flatMap escB) = p :: xs.map fun x => x.flatMap escB := by
  induction xs with
  | nil =>
    intro p hp
    induction p with
    | nil => rfl
    | cons b p ih =>
      have hb : b ≠ 47 := hp b (by simp)
      have ih := ih fun c hc => hp c (by simp [hc])
      simp only [List.flatMap_nil, List.append_nil, List.map_nil] at ih ⊢
      rw [splL, if_neg hb, ih]
  | cons x xs ihx =>
    intro p hp
    have hesc : ∀ b ∈ x.flatMap escB, b ≠ 47 := by
      intro b hb
      obtain ⟨c, _, hc⟩ := List.mem_flatMap.1 hb
      unfold escB at hc
      split at hc
      · simp at hc; rcases hc with rfl | rfl <;> decide
      · split at hc
        · simp at hc; rcases hc with rfl | rfl <;> decide
        · rename_i h; simp at hc; subst hc; exact h
    induction p with
    | nil =>
      rw [List.nil_append, List.flatMap_cons, List.cons_append, splL, if_pos rfl, ihx _ hesc]; rfl
    | cons b p ih =>
      have hb : b ≠ 47 := hp b (by simp)
      have ih := ih fun c hc => hp c (by simp [hc])
      rw [List.cons_append, splL, if_neg hb, ih]
theorem parts_text (xs : List ByteArray) : partsOf (xs.flatMap stepB) = xs.map fun s => s.data.toList := by
  have h := splL_esc (xs.map fun s => s.data.toList) [] (by simp)
  rw [List.nil_append, List.flatMap_map] at h
  unfold partsOf
  rw [show xs.flatMap stepB = xs.flatMap fun a => 47 :: a.data.toList.flatMap escB from rfl, h, List.tail_cons, List.map_map, List.map_map]
  apply List.map_congr_left
  intro s _
  exact decB_esc _
/-- A way's text is read as it was. -/
theorem ptrOf_text (xs : List ByteArray) : ptrOf (ptrText xs) = (xs, true) := by
  have hp : (partsOf (ptrText xs).data.toList).map mkB = xs := by
    unfold ptrText
    rw [data_mkB, parts_text, List.map_map]
    have : (mkB ∘ fun s : ByteArray => s.data.toList) = id := by funext x; exact mkB_data x
    rw [this, List.map_id]
  unfold ptrOf
  rw [hp]
  cases hx : xs with
  | nil => rfl
  | cons x r =>
    have hn : Nat.beq (ptrText (x :: r)).size 0 = false := by
      rw [show ptrText (x :: r) = mkB ((x :: r).flatMap stepB) from rfl, mkB_size, List.flatMap_cons]; rfl
    have he : sEq (ptrText (x :: r)) (ptrText (x :: r)) = true := by simp [sEq]
    rw [hn, he]; rfl
/-- The parts as a reader meets them, byte by byte: so much of the first part is read. -/
def runD : List UInt8 → List UInt8 → List (List UInt8)
  | p, [] => [p]
  | p, [b] => if b = 47 then [p, []] else [p ++ [b]]
  | p, b :: c :: l => if b = 47 then p :: runD [] (c :: l) else if b = 126 ∧ c = 48 then runD (p ++ [126]) l else if b = 126 ∧ c = 49 then runD (p ++ [47]) l else runD (p ++ [b]) (c :: l)
theorem runD_nil (p : List UInt8) : runD p [] = [p] := by cases p <;> rfl
theorem runD_one (p : List UInt8) (b : UInt8) : runD p [b] = if b = 47 then [p, []] else [p ++ [b]] := by cases p <;> rfl
theorem runD_two (p : List UInt8) (b c : UInt8) (l : List UInt8) : runD p (b :: c :: l) = if b = 47 then p :: runD [] (c :: l) else if b = 126 ∧ c = 48 then runD (p ++ [126]) l else if b = 126 ∧ c = 49 then runD (p ++ [47]) l else runD (p ++ [b]) (c :: l) := by
  cases p <;> simp only [runD]
theorem splL_cons (b : UInt8) (l : List UInt8) (h : b ≠ 47) : ∃ x t, splL l = x :: t ∧ splL (b :: l) = (b :: x) :: t := by
  cases hs : splL l with
  | nil => exact absurd hs (splL_ne l)
  | cons x t => exact ⟨x, t, rfl, by rw [splL, if_neg h, hs]⟩
theorem runD_eq : ∀ (n : Nat) (p l : List UInt8), l.length ≤ n → ∃ x t, splL l = x :: t ∧ runD p l = (p ++ decB x) :: t.map decB
  | n, p, [], _ => ⟨[], [], rfl, by simp [runD, decB]⟩
  | n, p, [b], _ => by
    by_cases h : b = 47
    · subst h; exact ⟨[], [[]], rfl, by simp [runD, decB]⟩
    · exact ⟨[b], [], by rw [splL, if_neg h]; rfl, by simp [runD, decB, h]⟩
  | 0, p, b :: c :: l, h => by simp at h
  | n + 1, p, b :: c :: l, h => by
    have hl : l.length ≤ n := by simp at h; omega
    have hl' : (c :: l).length ≤ n := by simpa using h
    by_cases hb : b = 47
    · subst hb
      obtain ⟨x, t, e1, e2⟩ := runD_eq n [] (c :: l) hl'
      refine ⟨[], x :: t, by rw [splL, if_pos rfl, e1], ?_⟩
      rw [runD, if_pos rfl, e2]; simp [decB]
    · rw [runD, if_neg hb]
      by_cases h0 : b = 126 ∧ c = 48
      · obtain ⟨rfl, rfl⟩ := h0
        obtain ⟨x, t, e1, e2⟩ := runD_eq n (p ++ [126]) l hl
        refine ⟨126 :: 48 :: x, t, ?_, ?_⟩
        · rw [splL, if_neg (by decide), splL, if_neg (by decide), e1]
        · rw [if_pos ⟨rfl, rfl⟩, e2, decB, if_pos ⟨rfl, rfl⟩]; simp
      · rw [if_neg h0]
        by_cases h1 : b = 126 ∧ c = 49
        · obtain ⟨rfl, rfl⟩ := h1
          obtain ⟨x, t, e1, e2⟩ := runD_eq n (p ++ [47]) l hl
          refine ⟨126 :: 49 :: x, t, ?_, ?_⟩
          · rw [splL, if_neg (by decide), splL, if_neg (by decide), e1]
          · rw [if_pos ⟨rfl, rfl⟩, e2, decB, if_neg (by decide), if_pos ⟨rfl, rfl⟩]; simp
        · rw [if_neg h1]
          obtain ⟨x, t, e1, e2⟩ := runD_eq n (p ++ [b]) (c :: l) hl'
          obtain ⟨x', t', e3, e4⟩ := splL_cons b (c :: l) hb
          rw [e1] at e3
          cases e3
          refine ⟨b :: x, t, e4, ?_⟩
          rw [e2]
          have hd : decB (b :: x) = b :: decB x := by
            cases x with
            | nil => rfl
            | cons d x =>
              have hd : d = c := by
                rw [splL] at e1
                split at e1
                · cases e1
                · split at e1
                  · cases e1; rfl
                  · cases e1; rfl
              subst hd
              rw [decB, if_neg h0, if_neg h1]
          rw [hd]; simp
/-- The parts are no longer than the text. -/
theorem szL_tail (s : List UInt8) : szL List.length ((splL s).tail) ≤ s.length := by
  have h := splL_sum s
  cases hs : splL s with
  | nil => simp [szL]
  | cons x t =>
    rw [hs] at h
    simp only [szL, List.map_cons, List.sum_cons, List.length_cons, List.tail_cons] at h ⊢; omega
theorem szL_dec (xs : List (List UInt8)) : szL ByteArray.size ((xs.map decB).map mkB) ≤ szL List.length xs := by
  induction xs with
  | nil => simp [szL]
  | cons x xs ih =>
    have := decB_len x.length x (Nat.le_refl _)
    have e := mkB_size (decB x)
    simp only [szL, List.map_cons, List.sum_cons, List.length_cons] at ih ⊢; omega
theorem szL_runD (l : List UInt8) : szL ByteArray.size ((runD [] l).map mkB) ≤ l.length + 1 := by
  obtain ⟨x, t, e1, e2⟩ := runD_eq l.length [] l (Nat.le_refl _)
  have h := splL_sum l
  have := szL_dec (x :: t)
  rw [e2, List.nil_append, ← List.map_cons]
  rw [e1] at h; omega
theorem ptrText_head (xs : List ByteArray) : (ptrText xs).data.toList.head? = none ∨ (ptrText xs).data.toList.head? = some 47 := by
  unfold ptrText
  rw [data_mkB]
  cases xs with
  | nil => exact .inl rfl
  | cons x r => rw [List.flatMap_cons]; exact .inr rfl
/-- What a reader that keeps all parts comes to. -/
theorem ptrOf_keep {s : ByteArray} (hs : s ≠ ByteArray.empty) (h : s.data.toList.head? ≠ some 47) (xs : List ByteArray) : sEq (ptrText xs) s = false := by
  cases he : sEq (ptrText xs) s with
  | false => rfl
  | true =>
    have := sEq_iff.1 he
    subst this
    rcases ptrText_head xs with h' | h'
    · exfalso; apply hs
      have : (ptrText xs).data.toList = [] := by cases hd : (ptrText xs).data.toList with
        | nil => rfl
        | cons a b => rw [hd] at h'; cases h'
      rw [← mkB_data (ptrText xs), this]; rfl
    · exact absurd h' h
theorem size0 {s : ByteArray} : Nat.beq s.size 0 = sEq s ByteArray.empty := by
  rw [Bool.eq_iff_iff, sEq_iff]
  constructor
  · intro h
    have h : s.size = 0 := Nat.eq_of_beq_eq_true h
    have : s.data.toList = [] := List.eq_nil_of_length_eq_zero (by rw [bszL]; exact h)
    rw [← mkB_data s, this]; rfl
  · rintro rfl; rfl
theorem ptrOf_sz (s : ByteArray) : szL ByteArray.size (ptrOf s).1 ≤ s.size := by
  unfold ptrOf
  cases Nat.beq s.size 0
  · rw [cond_false]
    cases sEq (ptrText ((partsOf s.data.toList).map mkB)) s
    · rw [cond_false]; simp [szL]
    · rw [cond_true]
      have h1 := szL_tail s.data.toList
      have h2 := szL_dec (splL s.data.toList).tail
      have := bszL s
      unfold partsOf
      show szL ByteArray.size (((splL s.data.toList).tail.map decB).map mkB) ≤ s.size
      omega
  · rw [cond_true]; simp [szL]
theorem ptrText_le (xs : List ByteArray) : (ptrText xs).size ≤ 2 * szL ByteArray.size xs := by
  unfold ptrText
  rw [mkB_size]
  induction xs with
  | nil => simp
  | cons x r ih =>
    have := esc_len x.data.toList
    have e := bszL x
    simp only [List.flatMap_cons, List.length_append, stepB, List.length_cons, szL, List.map_cons, List.sum_cons] at ih ⊢; omega
theorem ptrOf_back (s : ByteArray) (h : (ptrOf s).2 = true) : ptrText (ptrOf s).1 = s := by
  unfold ptrOf at h ⊢
  cases h0 : Nat.beq s.size 0
  · rw [h0] at h; simp only [cond_false] at h ⊢
    cases he : sEq (ptrText ((partsOf s.data.toList).map mkB)) s
    · rw [he] at h; cases h
    · simp only [cond_true]; exact sEq_iff.1 he
  · simp only [cond_true]
    rw [size0] at h0
    rw [sEq_iff.1 h0]; rfl
end Go.Gm

/- Contracts of library functions by hand: several plain results; a new list of texts. -/
namespace Go.Gm
open Go

variable {wl : World} {P : Program} {w w' : World} {Mf ROa : Nat → Prop}

/-- A plain value with its type. -/
structure Pv where
  t : Ty
  x : El t
  v : Value
def Pv.ok (y : Pv) : Prop := enc y.t y.x = [.v y.v] ∧ isSt y.t = false ∧ flatB y.v = true
theorem RessOk.vals : ∀ (l : List Pv), (∀ y ∈ l, y.ok) → RessOk wl w true (l.map fun _ => false) (l.map fun y => .d y.t y.x) (l.map (·.v)) (l.map fun _ => fun _ => False)
  | [], _ => .nil
  | y :: l, h => by
    obtain ⟨h1, h2, h3⟩ := h y (by simp)
    exact .val (by simpa using valOwn_v h1 h2 h3) (RessOk.vals l fun z hz => h z (by simp [hz]))
theorem After.vals {s : Spec} (hown : s.own = true) (l : List Pv) (hl : ∀ y ∈ l, y.ok) (hres : s.res = l.map fun _ => false) (hm : s.modes.all (fun m => !(isBack m)) = true) {ds : List Dt} {us : List Value} (h1 : s.modes.length = us.length) (h2 : ds.length = us.length)
    (hk : Kept w w' Mf) : After wl w w' Mf ROa s ds us (l.map fun y => .d y.t y.x) (.returned (packV (l.map (·.v)))) := by
  have hno : ∀ G ∈ l.map (fun _ => fun _ : Nat => False), ∀ k, G k → False := by
    intro G hG k hk
    obtain ⟨_, _, rfl⟩ := List.mem_map.1 hG
    exact hk
  refine ⟨⟨l.map (·.v), l.map fun _ => fun _ => False, [], rfl, ?_, ?_, List.Pairwise.nil, fun B hB => by simp at hB, fun _ => ⟨?_, fun G hG k hk => (hno G hG k hk).elim⟩, fun e => absurd (hown.symm.trans e) (by simp), fun G hG B hB => by simp at hB, fun G hG k hk => (hno G hG k hk).elim, fun B hB => by simp at hB⟩, hk⟩
  · have e : (l.map fun y => Dt.d y.t y.x).take s.res.length = l.map fun y => Dt.d y.t y.x := by rw [hres]; apply List.take_of_length_le; simp
    rw [e, hown, hres]; exact RessOk.vals l hl
  · have : (l.map fun y => Dt.d y.t y.x).drop s.res.length = [] := by rw [hres]; apply List.drop_eq_nil_of_le; simp
    rw [this]; exact backs_skip hm h1 h2
  · unfold PairApart
    rw [List.pairwise_map]
    exact List.pairwise_of_forall fun _ _ k h => h.elim

/-- As spec_own1, the start's world at hand. -/
theorem spec_own1W {f : Nat} {modes : List Am} {q : List Dt → Option (Bool × List Dt)} (hm : modes.all (fun m => !(isBack m)) = true)
    (h : ∀ ds outs, q ds = some (true, outs) → ∃ t x, outs = [.d t x] ∧ ∀ {wl : World} (w : World) (us : List Value) (Mf ROa : Nat → Prop) (Fs : List (Nat → Prop)), WlOk P wl → BaseOk wl w ROa → ArgsOk wl w ROa modes ds us Fs → (∀ k, ROa k → k < w.heap.size) →
      Calls P f us.toArray w fun e w' => ∃ v G, e = .returned v ∧ Kept w w' Mf ∧ ValOwn w' G t x v ∧ ∀ k, G k → (Mf k ∨ w.heap.size ≤ k) ∧ k < w'.heap.size) : SpecOk P f (Spec.of modes [false] true q) := by
  intro R ds k r hr wl w us Mf ROa Fs hWl hBs hA hp hFM hRM hRlt hMlt
  obtain ⟨outs, hq, hk⟩ := Spec.of_some hr
  obtain ⟨t, x, rfl, hc⟩ := h ds outs hq
  refine Calls.mono (hc w us Mf ROa Fs hWl hBs hA hRlt) ?_
  rintro e w' ⟨v, G, rfl, h1, h2, h3⟩
  obtain ⟨hl1, hl2, _⟩ := hA.len
  exact ⟨_, hk, After.own1 rfl rfl hm hl1 hl2 h2 h3 h1⟩

/-- A new list of texts. -/
theorem valOwn_strs (w : World) (xs : List ByteArray) (T : TypeId) :
    ValOwn (w.alloc (.cells (xs.map Value.string).toArray T)) (fun k => k = w.heap.size) (.sl .str) xs (.slice (some ⟨w.heap.size, 0, none⟩) xs.length xs.length) := by
  refine valOwn_sl ⟨fun _ => .slice (some ⟨w.heap.size, 0, none⟩) xs.length xs.length, rfl, fun p s hs => ?_, fun p q s s' b hp hq _ _ => ?_⟩
  · cases p with
    | nil =>
      simp only [subR, Option.some.injEq] at hs; subst hs
      refine .inr ⟨w.heap.size, 0, xs.length, _, T, rfl, rfl, heap_alloc_new w _, Nat.le_refl _, by simp [esz, kinds], fun i y j c hi hj => ?_⟩
      have hj' : j = 0 ∧ c = .v (.string y) := by
        cases j with
        | zero => exact ⟨rfl, by have h : some (Cv.v (Value.string y)) = some c := hj
                                 exact (Option.some.inj h).symm⟩
        | succ j => simp [enc] at hj
      obtain ⟨rfl, rfl⟩ := hj'
      refine ⟨.string y, ?_, rfl⟩
      have e : esz .str = 1 := rfl
      simp only [e, Nat.zero_add, Nat.mul_one, Nat.add_zero, List.getElem?_toArray, List.getElem?_map]
      rw [show xs[i]? = some y from hi]; rfl
    | cons ij p =>
      obtain ⟨i, j⟩ := ij
      simp only [subR] at hs
      split at hs
      · rename_i x hx
        split at hs
        · rename_i t' ys hc
          cases j with
          | zero => simp [enc] at hc
          | succ j => simp [enc] at hc
        · cases hs
      · cases hs
  · have one : ∀ {p : Path} {s : Sl}, subR .str xs p = some s → p = [] := by
      intro p s hs
      cases p with
      | nil => rfl
      | cons ij p =>
        obtain ⟨i, j⟩ := ij
        simp only [subR] at hs
        split at hs
        · rename_i x hx
          split at hs
          · rename_i t' ys hc
            cases j with
            | zero => simp [enc] at hc
            | succ j => simp [enc] at hc
          · cases hs
        · cases hs
    rw [one hp, one hq]
theorem kept_alloc (w : World) (o : Obj) (Mf : Nat → Prop) : Kept w (w.alloc o) Mf := ⟨rfl, rfl, rfl, by simp, fun b hb _ => heap_alloc_old w _ hb⟩
end Go.Gm

/- The closing of a row, with what is known of the world at the start. -/
namespace Go.Gm
open Go

end Go.Gm

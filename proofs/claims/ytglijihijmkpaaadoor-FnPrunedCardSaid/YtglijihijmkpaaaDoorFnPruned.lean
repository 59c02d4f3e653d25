/- FnPruned holds of the given program: for every argument the law answers true. No conditions. -/
import Derived.Test.YtglijihijmkpaaaDoorFnPrunedFn3
import Derived.Test.YtglijihijmkpaaaDoorCards
import Derived.Test.YtglijihijmkpaaaDoorTie
import Derived.ProofKit
import Derived.OpenShut
import Derived.Deep.DeepHandedRow
namespace Go.Proofs.YtglijihijmkpaaaDoor
open Go Go.Gm Go.ChangeShapes Go.WideShapes Go.ChangeAt Go.RowKit
theorem XK:tk b9=true:=by kernel_rfl
theorem XL:laidOutB Tryd.prog=true:=by kernel_rfl
theorem abn:ownKnob Tryd.prog.godebug=none:=by kernel_rfl
def cellsD {H:Type}:DataW H→List Value
 | .agg l=>l.flatMap fun x=>match x with
  | .lit (.int k n)=>[.int k n]
  | .agg r=>r.flatMap fun y=>match y with | .lit (.int k n)=>[.int k n] | _=>[]
  | _=>[]
 | _=>[]
def abo (cs:List Value):Obj→Obj
 | .cells _ t frozen=> .cells cs.toArray t frozen
 | o=>o
noncomputable def rX (os:Os):World:=
  { World.holding Tryd.prog os ⟨#[], #[], []⟩ with heap := (((World.holding Tryd.prog os ⟨#[], #[], []⟩).heap.modify ((Tryd.prog.globalNamed "unicode/utf8.acceptRanges").getD 0) (abo (cellsD (Rows.laid_unicode_utf8_acceptRanges (H := Unit))))).modify ((Tryd.prog.globalNamed "unicode/utf8.first").getD 0) (abo (cellsD Rows.laid_unicode_utf8_first))) }
theorem Pl (os:Os):laidMet Tryd.prog Rows.fnPrunedRow.laid ((rX os).forCall (fun _ _=>0) ⟨#[],#[.slice none 0 0],[]⟩).memory:=
  laidMet_of_run' 8 (by kernel_rfl) (by kernel_rfl)
theorem reads (os:Os) {H:Type} (enc:TypeId×Value→H):∃places,DataW.whole enc Tryd.prog ((rX os).forCall (fun _ _=>0) ⟨#[],#[.slice none 0 0],[]⟩).memory Tryd.f4.params.toList Rows.fnPrunedSpec.vars false (#[.slice none 0 0]:Array Value).toList 8=some ([.nil],[],places):=
 ⟨[],by kernel_rfl⟩
set_option maxRecDepth 100000 in
theorem lifted (os:Os) (started:os.Started) (H:Type) (enc:TypeId×Value→H) (F:Stop.Interp):
    ReturnsInHanded {} Tryd.checked os 4 .any ((OpenSpec.ofChange Rows.fnPrunedSpec).preRow enc Tryd.prog Tryd.f4 Rows.fnPrunedRow.domain false Rows.fnPrunedRow.laid) (((OpenSpec.ofChange Rows.fnPrunedSpec).at F).post enc Tryd.prog Tryd.f4 false true false false):=by
 obtain ⟨places,hx⟩:=reads os enc
 refine returnsInHanded_of_row (C:=Tryd.checked) (s:=OpenSpec.ofChange Rows.fnPrunedSpec) abn started (by kernel_rfl) Tryd.func4
  (witness_row_at (enc:=enc) (C:=Tryd.checked) false (rX os) #[.slice none 0 0] rfl (by kernel_rfl) (by kernel_rfl) (by kernel_rfl)
   (OpenSpec.preRow_of_cond 8 hx (by kernel_rfl) (fun k hk=>by cases hk) (by kernel_rfl) (Pl os))) ?_
 intro W base args ds gs before VC hW _ _ _ _ mD _
 refine zD (P:=Tryd.prog) (ts:=[(.sl (.i .u8))]) aV XK XL (Ts:=[48]) (by kernel_rfl) ⟨by kernel_rfl,trivial⟩ (.inr rfl) abm.1.1 ?_ (Tb:=4) (by kernel_rfl) (by kernel_rfl) (by kernel_rfl) rfl ?_ W base args ds gs before VC hW mD
 ·intro ds h
  cases h with
  | cons G4 h=>
  cases h
  show q4 [.d (.sl (.i .u8)) _]=_;rfl
 ·intro ds hl
  match ds,hl with
  | [d0],_=>rfl
theorem said:Rows.FnPrunedSaid:=
  OpenClaim.holds_of_cond 4 Tryd.f4 rfl rfl rfl rfl rfl rfl rfl ⟨rfl,rfl,rfl,rfl,rfl⟩ rfl rfl rfl rfl rfl (by kernel_rfl) Tryd.func4 (by kernel_rfl)
 (of_decide_eq_true (by kernel_rfl)) (by unfold Func.isWrapper;first | (rw [if_pos (by decide +kernel)];kernel_rfl) | (rw [if_neg (by decide +kernel)];exact ⟨rfl,rfl⟩))
 (fun os started H enc _ F=>by rw [OpenClaim.pre_eq_preRow];exact lifted os started H enc F)
theorem plain (f : FuncId) (fn : Func) (hf : Tryd.pinned.checked.prog.funcNamed "loop.example/g00465/laws.FnPruned" = some f) (hfn : Tryd.pinned.checked.prog.funcs[f]? = some fn) :
    false=Tryd.pinned.checked.prog.looks []∧∀(j:Nat) t,fn.params[j]? =some t→Tryd.pinned.checked.prog.wantsStandIn t=false:=by
 obtain rfl : f = 4 := Option.some.inj ((show Tryd.prog.funcNamed "loop.example/g00465/laws.FnPruned" = some 4 by kernel_rfl).symm.trans hf) |>.symm
 obtain rfl:fn=Tryd.f4:=(Option.some.inj (Tryd.func4.symm.trans hfn)).symm
 refine ⟨by kernel_rfl,fun j t ht=> ?_⟩
 rw [Tryd.params4] at ht
 obtain rfl:t=48:=by simpa using Array.mem_of_getElem? ht
 exact (show Tryd.prog.wantsStandIn 48=false by kernel_rfl)
theorem fnPruned_holds:Rows.FnPrunedCardSaid:=
  Claim7.holds_tied_plain_at .later [] _ _ _ _ said (fun _ h=>by cases h) (by kernel_rfl) (fun _ h=>by cases h) fnPruned_row_tie rfl ⟨rfl,rfl⟩ (by kernel_rfl) rfl plain (by kernel_rfl)
#print axioms fnPruned_holds
end Go.Proofs.YtglijihijmkpaaaDoor

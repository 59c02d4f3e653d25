/- FnDiffs holds of the given program: for every argument the law answers true. No conditions. -/
import Derived.Test.YtalnkjjnohgjkaaGreatFnDiffsFn4
import Derived.ProofKit
namespace Go.Proofs.YtalnkjjnohgjkaaGreat
open Go Go.Gm Go.ChangeShapes Go.WideShapes Go.ChangeAt Go.RowKit
theorem ab1:u7 bQ=true:=by kernel_rfl
theorem ab2:laidOutB Tryz.prog=true:=by kernel_rfl
theorem agr:ownKnob Tryz.prog.godebug=none:=by kernel_rfl
set_option maxRecDepth 100000 in
theorem fnDiffs_lifted(os:Os)(started:os.Started)(H:Type)(enc:TypeId×Value→H):
    ReturnsInHanded {} Tryz.checked os 3 .any (Rows.fnDiffsSpec.pre6 enc Tryz.prog Tryz.f3 Rows.fnDiffsRow.domain false) (Rows.fnDiffsSpec.post enc Tryz.prog Tryz.f3 false true false false):=by
 refine yP (C:=Tryz.checked) agr started (by kernel_rfl) Tryz.func3
  (ChangeSpec.witness6 (enc:=enc) (C:=Tryz.checked) false ⟨#[],#[.slice none 0 0],[]⟩ 8 (by kernel_rfl) (by kernel_rfl) (by kernel_rfl) (by kernel_rfl)) ?_
 intro W base args ds gs before mX Mh hW
 refine A' (P:=Tryz.prog) (ts:=[(.sl (.i .u8))]) aL ab1 ab2 (Ts:=[22]) (by kernel_rfl) ⟨by kernel_rfl,trivial⟩ (.inr rfl) agq.1.1 ?_ (Tb:=4) (by kernel_rfl) (by kernel_rfl) (by kernel_rfl) rfl ?_ W base args ds gs before Mh hW mX
 ·intro ds h
  cases h with
  |cons Ji h=>
  cases h
  show q3 [.d (.sl (.i .u8)) _]=_;rfl
 ·intro ds hl
  match ds,hl with
  | [d0],_=>rfl
theorem fnDiffs_holds:Rows.FnDiffsSaid:=
  OpenClaim.holds_of_wide 3 Tryz.f3 rfl rfl rfl rfl rfl rfl rfl ⟨rfl,rfl,rfl,rfl,rfl⟩ rfl rfl rfl rfl rfl (by kernel_rfl) Tryz.func3 (by kernel_rfl)
 (of_decide_eq_true (by kernel_rfl)) (by unfold Func.isWrapper;first | (rw[if_pos (by decide +kernel)];kernel_rfl) | (rw[if_neg (by decide +kernel)];exact⟨rfl,rfl⟩))
 (fun os started H enc _=>fnDiffs_lifted os started H enc)
#print axioms fnDiffs_holds
end Go.Proofs.YtalnkjjnohgjkaaGreat

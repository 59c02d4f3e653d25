/- FnCatchesUp holds of the given program: for every argument the law answers true. No conditions. -/
import Derived.Test.YtnbehmbjoanfoaaFnCatchesUpFn3
import Derived.ProofKit
namespace Go.Proofs.Ytnbehmbjoanfoaa
open Go Go.Gm Go.ChangeShapes Go.WideShapes Go.ChangeAt Go.RowKit
theorem Uh:pU bd=true:=by kernel_rfl
theorem Ui:laidOutB Try.prog=true:=by kernel_rfl
theorem X2:ownKnob Try.prog.godebug=none:=by kernel_rfl
set_option maxRecDepth 100000 in
theorem fnCatchesUp_lifted(os:Os)(started:os.Started)(H:Type)(enc:TypeId×Value→H):
    ReturnsInHanded {} Try.checked os 4 .any (Rows.fnCatchesUpSpec.pre6 enc Try.prog Try.f4 Rows.fnCatchesUpRow.domain false) (Rows.fnCatchesUpSpec.post enc Try.prog Try.f4 false true false false):=by
 refine tn (C:=Try.checked) X2 started (by kernel_rfl) Try.func4
  (ChangeSpec.witness6 (enc:=enc) (C:=Try.checked) false ⟨#[],#[.slice none 0 0],[]⟩ 8 (by kernel_rfl) (by kernel_rfl) (by kernel_rfl) (by kernel_rfl)) ?_
 intro W base args ds gs before ke Hu hW
 refine vK (P:=Try.prog) (ts:=[(.sl (.i .u8))]) aV Uh Ui (Ts:=[33]) (by kernel_rfl) ⟨by kernel_rfl,trivial⟩ (.inl rfl) XZ.1.1 ?_ (Tb:=4) (by kernel_rfl) (by kernel_rfl) (by kernel_rfl) rfl ?_ W base args ds gs before Hu hW ke
 ·intro ds h
  cases h with
  |cons Cq h=>
  cases h
  show q4 [.d (.sl (.i .u8)) _]=_;simp only[q4,Wg Cq]
 ·intro ds hl
  match ds,hl with
  | [d0],_=>rfl
theorem fnCatchesUp_holds:Rows.FnCatchesUpSaid:=
  OpenClaim.holds_of_wide 4 Try.f4 rfl rfl rfl rfl rfl rfl rfl ⟨rfl,rfl,rfl,rfl,rfl⟩ rfl rfl rfl rfl rfl (by kernel_rfl) Try.func4 (by kernel_rfl)
 (of_decide_eq_true (by kernel_rfl)) (by unfold Func.isWrapper;first | (rw[if_pos (by decide +kernel)];kernel_rfl) | (rw[if_neg (by decide +kernel)];exact⟨rfl,rfl⟩))
 (fun os started H enc _=>fnCatchesUp_lifted os started H enc)
#print axioms fnCatchesUp_holds
end Go.Proofs.Ytnbehmbjoanfoaa

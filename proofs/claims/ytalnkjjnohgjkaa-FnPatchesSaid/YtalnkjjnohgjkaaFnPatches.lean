/- FnPatches holds of the given program: for every argument the law answers true. No conditions. -/
import Derived.Test.YtalnkjjnohgjkaaFnPatchesFn3
import Derived.ProofKit
namespace Go.Proofs.Ytalnkjjnohgjkaa
open Go Go.Gm Go.ChangeShapes Go.WideShapes Go.ChangeAt Go.RowKit
theorem tileGm : tileChk tab = true := by kernel_rfl
theorem laidGm : laidOutB Try.prog = true := by kernel_rfl
theorem ownGm : ownKnob Try.prog.godebug = none := by kernel_rfl
set_option maxRecDepth 100000 in
theorem fnPatches_lifted (os : Os) (started : os.Started) (H : Type) (enc : TypeId × Value → H) :
    ReturnsInHanded {} Try.checked os 4 .any (Rows.fnPatchesSpec.pre6 enc Try.prog Try.f4 Rows.fnPatchesRow.domain false) (Rows.fnPatchesSpec.post enc Try.prog Try.f4 false true false false) := by
 refine handed_shaped (C := Try.checked) ownGm started (by kernel_rfl) Try.func4
  (ChangeSpec.witness6 (enc := enc) (C := Try.checked) false ⟨#[], #[.slice none 0 0], []⟩ 8 (by kernel_rfl) (by kernel_rfl) (by kernel_rfl) (by kernel_rfl)) ?_
 intro W base args ds gs before hsh hval hW
 refine law_contract (P := Try.prog) (ts := [(.sl (.i .u8))]) tab_ok tileGm laidGm (Ts := [22]) (by kernel_rfl) ⟨by kernel_rfl, trivial⟩ (.inr rfl) good4.1.1 ?_ (Tb := 4) (by kernel_rfl) (by kernel_rfl) (by kernel_rfl) rfl ?_ W base args ds gs before hval hW hsh
 ·intro ds h
  cases h with
  | cons hx0 h =>
  cases h
  show q4 [.d (.sl (.i .u8)) _] = _; rfl
 ·intro ds hl
  match ds, hl with
  | [d0], _ => rfl
theorem fnPatches_holds : Rows.FnPatchesSaid :=
  OpenClaim.holds_of_wide 4 Try.f4 rfl rfl rfl rfl rfl rfl rfl ⟨rfl, rfl, rfl, rfl, rfl⟩ rfl rfl rfl rfl rfl (by kernel_rfl) Try.func4 (by kernel_rfl)
 (of_decide_eq_true (by kernel_rfl)) (by unfold Func.isWrapper; first | (rw [if_pos (by decide +kernel)]; kernel_rfl) | (rw [if_neg (by decide +kernel)]; exact ⟨rfl, rfl⟩))
 (fun os started H enc _ => fnPatches_lifted os started H enc)
#print axioms fnPatches_holds
end Go.Proofs.Ytalnkjjnohgjkaa

/- FnChosen holds of the given program: for every argument the law answers true. No conditions. -/
import Derived.Test.YtklmnopgogcbhaaFnChosenFn3
import Derived.ProofKit
/- x -/
namespace Go.Proofs.Ytklmnopgogcbhaa
open Go Go.Gm Go.ChangeShapes Go.WideShapes Go.ChangeAt Go.RowKit
theorem tileGm : tileChk tab = true := by kernel_rfl
theorem laidGm : laidOutB Try.prog = true := by kernel_rfl
theorem ownGm : ownKnob Try.prog.godebug = none := by kernel_rfl
set_option maxRecDepth 100000 in
theorem fnChosen_lifted (os : Os) (started : os.Started) (H : Type) (enc : TypeId × Value → H) :
    ReturnsInHanded {} Try.checked os 6 .any (Rows.fnChosenSpec.pre6 enc Try.prog Try.f6 Rows.fnChosenRow.domain false) (Rows.fnChosenSpec.post enc Try.prog Try.f6 false true false false) := by
  refine handed_shaped (C := Try.checked) ownGm started (by kernel_rfl) Try.func6
    (ChangeSpec.witness6 (enc := enc) (C := Try.checked) false ⟨#[], #[.slice none 0 0], []⟩ 8 (by kernel_rfl) (by kernel_rfl) (by kernel_rfl) (by kernel_rfl)) ?_
  intro W base args ds gs before hsh hval hW
  refine law_contract (P := Try.prog) (ts := [(.sl (.i .u8))]) tab_ok tileGm laidGm (Ts := [39]) (by kernel_rfl) ⟨by kernel_rfl, trivial⟩ (.inr rfl) (spec_up good6.1.1 (fun ds outs h => by unfold q6 at h; split at h <;> first | (cases h; exact ⟨_, rfl⟩) | cases h)) ?_ (Tb := 4) (by kernel_rfl) (by kernel_rfl) (by kernel_rfl) rfl ?_ W base args ds gs before hval hW hsh
  · intro ds h
    cases h with
    | cons hx0 h =>
    cases h
    show q6 [.d (.sl (.i .u8)) _] = _; rfl
  · intro ds hl
    match ds, hl with
    | [d0], _ => rfl
theorem fnChosen_holds : Rows.FnChosenSaid :=
  OpenClaim.holds_of_wide 6 Try.f6 rfl rfl rfl rfl rfl rfl rfl ⟨rfl, rfl, rfl, rfl, rfl⟩ rfl rfl rfl rfl rfl (by kernel_rfl) Try.func6 (by kernel_rfl)
    (of_decide_eq_true (by kernel_rfl)) (by unfold Func.isWrapper; first | (rw [if_pos (by decide +kernel)]; kernel_rfl) | (rw [if_neg (by decide +kernel)]; exact ⟨rfl, rfl⟩))
    (fun os started H enc _ => fnChosen_lifted os started H enc)
#print axioms fnChosen_holds
end Go.Proofs.Ytklmnopgogcbhaa

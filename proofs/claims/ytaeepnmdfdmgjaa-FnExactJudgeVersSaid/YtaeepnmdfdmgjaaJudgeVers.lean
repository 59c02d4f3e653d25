/- FnExactJudgeVers holds of the given program: for every argument the law answers true. No conditions. -/
import Derived.Test.YtaeepnmdfdmgjaaJudgeVersFn3
import Derived.ProofKit
/- x -/
namespace Go.Proofs.Ytaeepnmdfdmgjaa
open Go Go.Gm Go.ChangeShapes Go.WideShapes Go.ChangeAt Go.RowKit
theorem tileGm : tileChk tab = true := by kernel_rfl
theorem laidGm : laidOutB Try.prog = true := by kernel_rfl
theorem ownGm : ownKnob Try.prog.godebug = none := by kernel_rfl
set_option maxRecDepth 100000 in
theorem fnExactJudgeVers_lifted (os : Os) (started : os.Started) (H : Type) (enc : TypeId × Value → H) :
    ReturnsInHanded {} Try.checked os 4 .any (Rows.fnExactJudgeVersSpec.pre6 enc Try.prog Try.f4 Rows.fnExactJudgeVersRow.domain false) (Rows.fnExactJudgeVersSpec.post enc Try.prog Try.f4 false true false false) := by
  refine returnsInHanded_of_change (C := Try.checked) ownGm started (by kernel_rfl) Try.func4
    (ChangeSpec.witness6 (enc := enc) (C := Try.checked) false ⟨#[], #[.agg #[.slice none 0 0, .int .i64 0, .slice none 0 0, .int .i64 0, .slice none 0 0]], []⟩ 8 (by kernel_rfl) (by kernel_rfl) (by kernel_rfl) (by kernel_rfl)) ?_
  intro W base args ds gs before hval hW _ _
  refine law_contract (P := Try.prog) (ts := [.world]) tab_ok tileGm laidGm (Ts := [28]) (by kernel_rfl) ⟨by kernel_rfl, trivial⟩ good4.1.1 ?_ (Tb := 4) (by kernel_rfl) (by kernel_rfl) (by kernel_rfl) rfl ?_ W base args ds gs before hval hW
  · intro ds h
    cases h with
    | cons hx0 h =>
    cases h
    show q4 [.d .world _] = _; simp only [q4, ok_world_w hx0, Bool.and_self]
  · intro ds hl
    match ds, hl with
    | [d0], _ => rfl
theorem fnExactJudgeVers_holds : Rows.FnExactJudgeVersSaid :=
  OpenClaim.holds_of_wide 4 Try.f4 rfl rfl rfl rfl rfl rfl rfl ⟨rfl, rfl, rfl, rfl, rfl⟩ rfl rfl rfl rfl rfl (by kernel_rfl) Try.func4 (by kernel_rfl)
    (of_decide_eq_true (by kernel_rfl)) (by unfold Func.isWrapper; first | (rw [if_pos (by decide +kernel)]; kernel_rfl) | (rw [if_neg (by decide +kernel)]; exact ⟨rfl, rfl⟩))
    (fun os started H enc _ => fnExactJudgeVers_lifted os started H enc)
#print axioms fnExactJudgeVers_holds
end Go.Proofs.Ytaeepnmdfdmgjaa

/- FnExactPatchOne holds of the given program: for every argument the law answers true. No conditions. -/
import Derived.Test.YtalnkjjnohgjkaaPatchOneFn3
import Derived.ProofKit
/- x -/
namespace Go.Proofs.Ytalnkjjnohgjkaa
open Go Go.Gm Go.ChangeShapes Go.WideShapes Go.ChangeAt Go.RowKit
theorem tileGm : tileChk tab = true := by kernel_rfl
theorem laidGm : laidOutB Try.prog = true := by kernel_rfl
theorem ownGm : ownKnob Try.prog.godebug = none := by kernel_rfl
set_option maxRecDepth 100000 in
theorem fnExactPatchOne_lifted (os : Os) (started : os.Started) (H : Type) (enc : TypeId × Value → H) :
    ReturnsInHanded {} Try.checked os 6 .any (Rows.fnExactPatchOneSpec.pre6 enc Try.prog Try.f6 Rows.fnExactPatchOneRow.domain false) (Rows.fnExactPatchOneSpec.post enc Try.prog Try.f6 false true false false) := by
  refine returnsInHanded_of_change (C := Try.checked) ownGm started (by kernel_rfl) Try.func6
    (ChangeSpec.witness6 (enc := enc) (C := Try.checked) false ⟨#[], #[.agg #[.int .i64 0, .int .i64 0, .string ⟨#[]⟩, .slice none 0 0, .slice none 0 0], .agg #[.int .i64 0, .slice none 0 0, .slice none 0 0, .int .i64 0, .int .i64 0, .string ⟨#[]⟩, .slice none 0 0, .slice none 0 0]], []⟩ 8 (by kernel_rfl) (by kernel_rfl) (by kernel_rfl) (by kernel_rfl)) ?_
  intro W base args ds gs before hval hW _ _
  refine law_contract (P := Try.prog) (ts := [.node, .pop]) tab_ok tileGm laidGm (Ts := [45, 54]) (by kernel_rfl) ⟨by kernel_rfl, ⟨by kernel_rfl, trivial⟩⟩ good6.1.1 ?_ (Tb := 4) (by kernel_rfl) (by kernel_rfl) (by kernel_rfl) rfl ?_ W base args ds gs before hval hW
  · intro ds h
    cases h with
    | cons hx0 h =>
    cases h with
    | cons hx1 h =>
    cases h
    show q6 [.d .node _, .d .pop _] = _; simp only [q6, ok_node_w hx0, ok_pop_w hx1, Bool.and_self]
  · intro ds hl
    match ds, hl with
    | [d0, d1], _ => rfl
theorem fnExactPatchOne_holds : Rows.FnExactPatchOneSaid :=
  OpenClaim.holds_of_wide 6 Try.f6 rfl rfl rfl rfl rfl rfl rfl ⟨rfl, rfl, rfl, rfl, rfl⟩ rfl rfl rfl rfl rfl (by kernel_rfl) Try.func6 (by kernel_rfl)
    (of_decide_eq_true (by kernel_rfl)) (by unfold Func.isWrapper; first | (rw [if_pos (by decide +kernel)]; kernel_rfl) | (rw [if_neg (by decide +kernel)]; exact ⟨rfl, rfl⟩))
    (fun os started H enc _ => fnExactPatchOne_lifted os started H enc)
#print axioms fnExactPatchOne_holds
end Go.Proofs.Ytalnkjjnohgjkaa

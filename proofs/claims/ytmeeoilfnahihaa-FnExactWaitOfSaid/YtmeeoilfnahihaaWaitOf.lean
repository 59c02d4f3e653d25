/- FnExactWaitOf returns true at every input and leaves its arguments as they were. No conditions. -/
import Derived.Test.YtmeeoilfnahihaaGa1
import Derived.ProofKit
/- x -/
namespace Go.Proofs.Ytmeeoilfnahihaa
open Go Go.Gm Go.ChangeShapes Go.WideShapes Go.ChangeAt Go.RowKit
theorem tileGm : tileChk tab = true := by kernel_rfl
theorem laidGm : laidOutB Try.prog = true := by kernel_rfl
theorem ownGm : ownKnob Try.prog.godebug = none := by kernel_rfl
set_option maxRecDepth 100000 in
theorem fnExactWaitOf_lifted (os : Os) (started : os.Started) (H : Type) (enc : TypeId × Value → H) :
    ReturnsInHanded {} Try.checked os 3 .any (Rows.fnExactWaitOfSpec.pre6 enc Try.prog Try.f3 Rows.fnExactWaitOfRow.domain false) (Rows.fnExactWaitOfSpec.post enc Try.prog Try.f3 false true false false) := by
  refine returnsInHanded_of_change (C := Try.checked) ownGm started (by kernel_rfl) Try.func3
    (ChangeSpec.witness6 (enc := enc) (C := Try.checked) false ⟨#[], #[.agg #[.slice none 0 0, .slice none 0 0, .slice none 0 0, .slice none 0 0], .string ⟨#[]⟩], []⟩ 8 (by kernel_rfl) (by kernel_rfl) (by kernel_rfl) (by kernel_rfl)) ?_
  intro W base args ds gs before hval hW _ _
  refine law_contract (P := Try.prog) (ts := [.work, .str]) tab_ok tileGm laidGm (Ts := [25, 9]) (by kernel_rfl) ⟨by kernel_rfl, ⟨by kernel_rfl, trivial⟩⟩ good3.1.1 ?_ (Tb := 4) (by kernel_rfl) (by kernel_rfl) (by kernel_rfl) rfl ?_ W base args ds gs before hval hW
  · intro ds h
    cases h with
    | cons hx0 h =>
    cases h with
    | cons hx1 h =>
    cases h
    show q3 [.d .work _, .d .str _] = _; simp only [q3, ok_work_w hx0, okStr_e hx1, Bool.and_self]
  · intro ds hl
    match ds, hl with
    | [d0, d1], _ => rfl
theorem fnExactWaitOf_holds : Rows.FnExactWaitOfSaid :=
  OpenClaim.holds_of_wide 3 Try.f3 rfl rfl rfl rfl rfl rfl rfl ⟨rfl, rfl, rfl, rfl, rfl⟩ rfl rfl rfl rfl rfl (by kernel_rfl) Try.func3 (by kernel_rfl)
    (of_decide_eq_true (by kernel_rfl)) (by unfold Func.isWrapper; first | (rw [if_pos (by decide +kernel)]; kernel_rfl) | (rw [if_neg (by decide +kernel)]; exact ⟨rfl, rfl⟩))
    (fun os started H enc _ => fnExactWaitOf_lifted os started H enc)
#print axioms fnExactWaitOf_holds
end Go.Proofs.Ytmeeoilfnahihaa

/- FnOneAtATime holds of the given program: for every argument the law answers true. No conditions. -/
import Derived.Test.YtmeeoilfnahihaaFnOneAtATimeFn2
import Derived.ProofKit
/- x -/
namespace Go.Proofs.Ytmeeoilfnahihaa
open Go Go.Gm Go.ChangeShapes Go.WideShapes Go.ChangeAt Go.RowKit
theorem tileGm : tileChk tab = true := by kernel_rfl
theorem laidGm : laidOutB Try.prog = true := by kernel_rfl
theorem ownGm : ownKnob Try.prog.godebug = none := by kernel_rfl
set_option maxRecDepth 100000 in
theorem fnOneAtATime_lifted (os : Os) (started : os.Started) (H : Type) (enc : TypeId × Value → H) :
    ReturnsInHanded {} Try.checked os 5 .any (Rows.fnOneAtATimeSpec.pre6 enc Try.prog Try.f5 Rows.fnOneAtATimeRow.domain false) (Rows.fnOneAtATimeSpec.post enc Try.prog Try.f5 false true false false) := by
  refine returnsInHanded_of_change (C := Try.checked) ownGm started (by kernel_rfl) Try.func5
    (ChangeSpec.witness6 (enc := enc) (C := Try.checked) false ⟨#[], #[.slice none 0 0], []⟩ 8 (by kernel_rfl) (by kernel_rfl) (by kernel_rfl) (by kernel_rfl)) ?_
  intro W base args ds gs before hval hW _ _
  refine law_contract (P := Try.prog) (ts := [(.sl (.i .u8))]) tab_ok tileGm laidGm (Ts := [34]) (by kernel_rfl) ⟨by kernel_rfl, trivial⟩ good5.1.1 ?_ (Tb := 4) (by kernel_rfl) (by kernel_rfl) (by kernel_rfl) rfl ?_ W base args ds gs before hval hW
  · intro ds h
    cases h with
    | cons hx0 h =>
    cases h
    show q5 [.d (.sl (.i .u8)) _] = _; simp only [q5, gU8_e hx0]
  · intro ds hl
    match ds, hl with
    | [d0], _ => rfl
theorem fnOneAtATime_holds : Rows.FnOneAtATimeSaid :=
  OpenClaim.holds_of_wide 5 Try.f5 rfl rfl rfl rfl rfl rfl rfl ⟨rfl, rfl, rfl, rfl, rfl⟩ rfl rfl rfl rfl rfl (by kernel_rfl) Try.func5 (by kernel_rfl)
    (of_decide_eq_true (by kernel_rfl)) (by unfold Func.isWrapper; first | (rw [if_pos (by decide +kernel)]; kernel_rfl) | (rw [if_neg (by decide +kernel)]; exact ⟨rfl, rfl⟩))
    (fun os started H enc _ => fnOneAtATime_lifted os started H enc)
#print axioms fnOneAtATime_holds
end Go.Proofs.Ytmeeoilfnahihaa

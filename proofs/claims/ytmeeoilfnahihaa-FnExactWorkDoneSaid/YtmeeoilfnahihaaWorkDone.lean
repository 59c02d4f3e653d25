/- FnExactWorkDone holds of the given program: for every argument the law answers true. No conditions. -/
import Derived.Test.YtmeeoilfnahihaaWorkDoneFn2
import Derived.ProofKit
/- x -/
namespace Go.Proofs.Ytmeeoilfnahihaa
open Go Go.Gm Go.ChangeShapes Go.WideShapes Go.ChangeAt Go.RowKit
theorem tileGm : tileChk tab = true := by kernel_rfl
theorem laidGm : laidOutB Try.prog = true := by kernel_rfl
theorem ownGm : ownKnob Try.prog.godebug = none := by kernel_rfl
set_option maxRecDepth 100000 in
theorem fnExactWorkDone_lifted (os : Os) (started : os.Started) (H : Type) (enc : TypeId × Value → H) :
    ReturnsInHanded {} Try.checked os 10 .any (Rows.fnExactWorkDoneSpec.pre6 enc Try.prog Try.f10 Rows.fnExactWorkDoneRow.domain false) (Rows.fnExactWorkDoneSpec.post enc Try.prog Try.f10 false true false false) := by
  refine returnsInHanded_of_change (C := Try.checked) ownGm started (by kernel_rfl) Try.func10
    (ChangeSpec.witness6 (enc := enc) (C := Try.checked) false ⟨#[], #[.agg #[.slice none 0 0, .slice none 0 0, .slice none 0 0, .slice none 0 0], .string ⟨#[]⟩, .bool false], []⟩ 8 (by kernel_rfl) (by kernel_rfl) (by kernel_rfl) (by kernel_rfl)) ?_
  intro W base args ds gs before hval hW _ _
  refine law_contract (P := Try.prog) (ts := [.work, .str, .bool]) tab_ok tileGm laidGm (Ts := [25, 9, 4]) (by kernel_rfl) ⟨by kernel_rfl, ⟨by kernel_rfl, ⟨by kernel_rfl, trivial⟩⟩⟩ good10.1.1 ?_ (Tb := 4) (by kernel_rfl) (by kernel_rfl) (by kernel_rfl) rfl ?_ W base args ds gs before hval hW
  · intro ds h
    cases h with
    | cons hx0 h =>
    cases h with
    | cons hx1 h =>
    cases h with
    | cons hx2 h =>
    cases h
    show q10 [.d .work _, .d .str _, .d .bool _] = _; simp only [q10, ok_work_w hx0, okStr_e hx1, Bool.and_self]
  · intro ds hl
    match ds, hl with
    | [d0, d1, d2], _ => rfl
theorem fnExactWorkDone_holds : Rows.FnExactWorkDoneSaid :=
  OpenClaim.holds_of_wide 10 Try.f10 rfl rfl rfl rfl rfl rfl rfl ⟨rfl, rfl, rfl, rfl, rfl⟩ rfl rfl rfl rfl rfl (by kernel_rfl) Try.func10 (by kernel_rfl)
    (of_decide_eq_true (by kernel_rfl)) (by unfold Func.isWrapper; first | (rw [if_pos (by decide +kernel)]; kernel_rfl) | (rw [if_neg (by decide +kernel)]; exact ⟨rfl, rfl⟩))
    (fun os started H enc _ => fnExactWorkDone_lifted os started H enc)
#print axioms fnExactWorkDone_holds
end Go.Proofs.Ytmeeoilfnahihaa

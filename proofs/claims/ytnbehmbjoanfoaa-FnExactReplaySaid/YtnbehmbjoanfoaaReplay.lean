/- FnExactReplay holds of the given program: for every argument the law answers true. No conditions. -/
import Derived.Test.YtnbehmbjoanfoaaReplayFn3
import Derived.ProofKit
/- x -/
namespace Go.Proofs.Ytnbehmbjoanfoaa
open Go Go.Gm Go.ChangeShapes Go.WideShapes Go.ChangeAt Go.RowKit
theorem tileGm : tileChk tab = true := by kernel_rfl
theorem laidGm : laidOutB Try.prog = true := by kernel_rfl
theorem ownGm : ownKnob Try.prog.godebug = none := by kernel_rfl
set_option maxRecDepth 100000 in
theorem fnExactReplay_lifted (os : Os) (started : os.Started) (H : Type) (enc : TypeId × Value → H) :
    ReturnsInHanded {} Try.checked os 5 .any (Rows.fnExactReplaySpec.pre6 enc Try.prog Try.f5 Rows.fnExactReplayRow.domain false) (Rows.fnExactReplaySpec.post enc Try.prog Try.f5 false true false false) := by
  refine handed_shaped (C := Try.checked) ownGm started (by kernel_rfl) Try.func5
    (ChangeSpec.witness6 (enc := enc) (C := Try.checked) false ⟨#[], #[.slice none 0 0, .slice none 0 0], []⟩ 8 (by kernel_rfl) (by kernel_rfl) (by kernel_rfl) (by kernel_rfl)) ?_
  intro W base args ds gs before hsh hval hW
  refine law_contract (P := Try.prog) (ts := [(.sl .item), (.sl .event)]) tab_ok tileGm laidGm (Ts := [61, 22]) (by kernel_rfl) ⟨by kernel_rfl, ⟨by kernel_rfl, trivial⟩⟩ (.inl rfl) good5.1.1 ?_ (Tb := 4) (by kernel_rfl) (by kernel_rfl) (by kernel_rfl) rfl ?_ W base args ds gs before hval hW hsh
  · intro ds h
    cases h with
    | cons hx0 h =>
    cases h with
    | cons hx1 h =>
    cases h
    show q5 [.d (.sl .item) _, .d (.sl .event) _] = _; simp only [q5, okL_e hx0 (fun x h => ok_item_w h), okL_e hx1 (fun x h => ok_event_w h), Bool.and_self]
  · intro ds hl
    match ds, hl with
    | [d0, d1], _ => rfl
theorem fnExactReplay_holds : Rows.FnExactReplaySaid :=
  OpenClaim.holds_of_wide 5 Try.f5 rfl rfl rfl rfl rfl rfl rfl ⟨rfl, rfl, rfl, rfl, rfl⟩ rfl rfl rfl rfl rfl (by kernel_rfl) Try.func5 (by kernel_rfl)
    (of_decide_eq_true (by kernel_rfl)) (by unfold Func.isWrapper; first | (rw [if_pos (by decide +kernel)]; kernel_rfl) | (rw [if_neg (by decide +kernel)]; exact ⟨rfl, rfl⟩))
    (fun os started H enc _ => fnExactReplay_lifted os started H enc)
#print axioms fnExactReplay_holds
end Go.Proofs.Ytnbehmbjoanfoaa

/- FnExactHistAdd holds of the given program: for every argument the law answers true. No conditions. -/
import Derived.Test.YtnbehmbjoanfoaaHistAddFn3
import Derived.ProofKit
/- x -/
namespace Go.Proofs.Ytnbehmbjoanfoaa
open Go Go.Gm Go.ChangeShapes Go.WideShapes Go.ChangeAt Go.RowKit
theorem tileGm : tileChk tab = true := by kernel_rfl
theorem laidGm : laidOutB Try.prog = true := by kernel_rfl
theorem ownGm : ownKnob Try.prog.godebug = none := by kernel_rfl
set_option maxRecDepth 100000 in
theorem fnExactHistAdd_lifted (os : Os) (started : os.Started) (H : Type) (enc : TypeId × Value → H) :
    ReturnsInHanded {} Try.checked os 9 .any (Rows.fnExactHistAddSpec.pre6 enc Try.prog Try.f9 Rows.fnExactHistAddRow.domain false) (Rows.fnExactHistAddSpec.post enc Try.prog Try.f9 false true false false) := by
  refine returnsInHanded_of_change (C := Try.checked) ownGm started (by kernel_rfl) Try.func9
    (ChangeSpec.witness6 (enc := enc) (C := Try.checked) false ⟨#[], #[.agg #[.int .i64 0, .slice none 0 0], .int .i64 0, .agg #[.string ⟨#[]⟩, .string ⟨#[]⟩, .int .i64 0, .int .i64 0, .slice none 0 0, .int .i64 0, .int .i64 0, .int .i64 0, .int .i64 0, .slice none 0 0, .int .i64 0]], []⟩ 8 (by kernel_rfl) (by kernel_rfl) (by kernel_rfl) (by kernel_rfl)) ?_
  intro W base args ds gs before hval hW _ _
  refine law_contract (P := Try.prog) (ts := [.hist, (.i .i64), .item]) tab_ok tileGm laidGm (Ts := [24, 3, 86]) (by kernel_rfl) ⟨by kernel_rfl, ⟨by kernel_rfl, ⟨by kernel_rfl, trivial⟩⟩⟩ good9.1.1 ?_ (Tb := 4) (by kernel_rfl) (by kernel_rfl) (by kernel_rfl) rfl ?_ W base args ds gs before hval hW
  · intro ds h
    cases h with
    | cons hx0 h =>
    cases h with
    | cons hx1 h =>
    cases h with
    | cons hx2 h =>
    cases h
    show q9 [.d .hist _, .d (.i .i64) _, .d .item _] = _; simp only [q9, ok_hist_w hx0, okI_e hx1, ok_item_w hx2, Bool.and_self]
  · intro ds hl
    match ds, hl with
    | [d0, d1, d2], _ => rfl
theorem fnExactHistAdd_holds : Rows.FnExactHistAddSaid :=
  OpenClaim.holds_of_wide 9 Try.f9 rfl rfl rfl rfl rfl rfl rfl ⟨rfl, rfl, rfl, rfl, rfl⟩ rfl rfl rfl rfl rfl (by kernel_rfl) Try.func9 (by kernel_rfl)
    (of_decide_eq_true (by kernel_rfl)) (by unfold Func.isWrapper; first | (rw [if_pos (by decide +kernel)]; kernel_rfl) | (rw [if_neg (by decide +kernel)]; exact ⟨rfl, rfl⟩))
    (fun os started H enc _ => fnExactHistAdd_lifted os started H enc)
#print axioms fnExactHistAdd_holds
end Go.Proofs.Ytnbehmbjoanfoaa

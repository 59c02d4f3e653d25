/-
  No cell of these rows narrows 'for every input' (looked for: loops, veiled, ifaces, maps, wideKeys, modest, calm, conditions, laid).
  DERIVED. THE GIVEN ROWS OF THIS SEAT. 5 by the template 'for every input the law returns true; each argument reads behind the call as it read before'; 0 by the template 'total and deterministic' (their statements: YtklmnopgogcbhaaTotals.lean).
  GIVEN WITH THE SEED: the statements are not yours to turn. If you find one false, say at which input.
  Laid BY PROGRAM, IN A SANDBOX (cutbox-rows.mjs): the forced cells as the released guide's own fill.sh prints them over the translation 78b7709081be4d45… (all of the seat's roots in one cut). By AI agents, Wed Nov 11 2026. No macro, syntax, notation, axiom, sorry.
-/
import Derived.Test.YtklmnopgogcbhaaChecked
import GoSem.Claim
import GoSem.ClaimJoined
import GoSem.ClaimMapViews
import Derived.JoinedTies
import Derived.KernelRfl
namespace Go.Proofs.Ytklmnopgogcbhaa
/- THE CELL 'sum', in the pinned program and in every row, IS THE sha256 OF THE DUMP (.gsa) THAT YtklmnopgogcbhaaProg.lean LOADS. Nothing in Lean hashes anything: it is a label: what it is worth is what the hold of that sum in a sandbox is worth. -/
noncomputable def Try.pinned : Pinned := { name := "ytklmnopgogcbhaa", sum := "78b7709081be4d45b235e76d5c09a2d76a364383f7c9794ba12c49ce1cb0da7d", checked := Try.checked }
namespace Rows
def none {H : Type} : Left H := { results := [], args := [] }

/-- 'laws.FnExactPickOk': WHATEVER THE INPUT: true; the input reads as it did. -/
def fnExactPickOkSpec : ChangeSpec := { name := "fnExactPickOk", fn := fun _ => fun
  | [d] => { results := [.lit (.bool true)], args := [d] }
  | _ => none }
def fnExactPickOkRow : OpenClaim := { program := "ytklmnopgogcbhaa", sum := "78b7709081be4d45b235e76d5c09a2d76a364383f7c9794ba12c49ce1cb0da7d", func := "loop.example/g00465/laws.FnExactPickOk", spec := "fnExactPickOk", inPlace := ["internal/bytealg.IndexByteString"], apart := false }
def FnExactPickOkSaid : Prop := fnExactPickOkRow.holds Try.pinned (OpenSpec.ofChange fnExactPickOkSpec)

/-- ITS FALSE NEIGHBOUR: 'it returns false'. Refute it at one input. -/
def fnExactPickOkWrong : ChangeSpec := { name := "fnExactPickOk", fn := fun _ => fun
  | [d] => { results := [.lit (.bool false)], args := [d] }
  | _ => none }
def FnExactPickOkWrongFalsely : Prop := fnExactPickOkRow.holds Try.pinned (OpenSpec.ofChange fnExactPickOkWrong)

/-- 'laws.FnExactPickText': WHATEVER THE INPUT: true; the input reads as it did. -/
def fnExactPickTextSpec : ChangeSpec := { name := "fnExactPickText", fn := fun _ => fun
  | [d] => { results := [.lit (.bool true)], args := [d] }
  | _ => none }
def fnExactPickTextRow : OpenClaim := { program := "ytklmnopgogcbhaa", sum := "78b7709081be4d45b235e76d5c09a2d76a364383f7c9794ba12c49ce1cb0da7d", func := "loop.example/g00465/laws.FnExactPickText", spec := "fnExactPickText", inPlace := ["internal/bytealg.IndexByteString", "internal/abi.NoEscape", "internal/bytealg.MakeNoZero"], apart := false }
def FnExactPickTextSaid : Prop := fnExactPickTextRow.holds Try.pinned (OpenSpec.ofChange fnExactPickTextSpec)

/-- ITS FALSE NEIGHBOUR: 'it returns false'. Refute it at one input. -/
def fnExactPickTextWrong : ChangeSpec := { name := "fnExactPickText", fn := fun _ => fun
  | [d] => { results := [.lit (.bool false)], args := [d] }
  | _ => none }
def FnExactPickTextWrongFalsely : Prop := fnExactPickTextRow.holds Try.pinned (OpenSpec.ofChange fnExactPickTextWrong)

/-- 'laws.FnExactFits': WHATEVER THE INPUT: true; the input reads as it did. -/
def fnExactFitsSpec : ChangeSpec := { name := "fnExactFits", fn := fun _ => fun
  | [d1, d2] => { results := [.lit (.bool true)], args := [d1, d2] }
  | _ => none }
def fnExactFitsRow : OpenClaim := { program := "ytklmnopgogcbhaa", sum := "78b7709081be4d45b235e76d5c09a2d76a364383f7c9794ba12c49ce1cb0da7d", func := "loop.example/g00465/laws.FnExactFits", spec := "fnExactFits", inPlace := ["internal/bytealg.IndexByteString"], unfollowed := true, recurses := true, apart := false }
def FnExactFitsSaid : Prop := fnExactFitsRow.holds Try.pinned (OpenSpec.ofChange fnExactFitsSpec)

/-- ITS FALSE NEIGHBOUR: 'it returns false'. Refute it at one input. -/
def fnExactFitsWrong : ChangeSpec := { name := "fnExactFits", fn := fun _ => fun
  | [d1, d2] => { results := [.lit (.bool false)], args := [d1, d2] }
  | _ => none }
def FnExactFitsWrongFalsely : Prop := fnExactFitsRow.holds Try.pinned (OpenSpec.ofChange fnExactFitsWrong)

/-- 'laws.FnChosen': WHATEVER THE INPUT: true; the input reads as it did. -/
def fnChosenSpec : ChangeSpec := { name := "fnChosen", fn := fun _ => fun
  | [d] => { results := [.lit (.bool true)], args := [d] }
  | _ => none }
def fnChosenRow : OpenClaim := { program := "ytklmnopgogcbhaa", sum := "78b7709081be4d45b235e76d5c09a2d76a364383f7c9794ba12c49ce1cb0da7d", func := "loop.example/g00465/laws.FnChosen", spec := "fnChosen", inPlace := ["internal/bytealg.IndexByteString"], unfollowed := true, recurses := true, apart := false }
def FnChosenSaid : Prop := fnChosenRow.holds Try.pinned (OpenSpec.ofChange fnChosenSpec)

/-- ITS FALSE NEIGHBOUR: 'it returns false'. Refute it at one input. -/
def fnChosenWrong : ChangeSpec := { name := "fnChosen", fn := fun _ => fun
  | [d] => { results := [.lit (.bool false)], args := [d] }
  | _ => none }
def FnChosenWrongFalsely : Prop := fnChosenRow.holds Try.pinned (OpenSpec.ofChange fnChosenWrong)

/-- 'laws.FnExactChosen': WHATEVER THE INPUT: true; the input reads as it did. -/
def fnExactChosenSpec : ChangeSpec := { name := "fnExactChosen", fn := fun _ => fun
  | [d1, d2] => { results := [.lit (.bool true)], args := [d1, d2] }
  | _ => none }
def fnExactChosenRow : OpenClaim := { program := "ytklmnopgogcbhaa", sum := "78b7709081be4d45b235e76d5c09a2d76a364383f7c9794ba12c49ce1cb0da7d", func := "loop.example/g00465/laws.FnExactChosen", spec := "fnExactChosen", inPlace := ["internal/bytealg.IndexByteString"], unfollowed := true, recurses := true, apart := false }
def FnExactChosenSaid : Prop := fnExactChosenRow.holds Try.pinned (OpenSpec.ofChange fnExactChosenSpec)

/-- ITS FALSE NEIGHBOUR: 'it returns false'. Refute it at one input. -/
def fnExactChosenWrong : ChangeSpec := { name := "fnExactChosen", fn := fun _ => fun
  | [d1, d2] => { results := [.lit (.bool false)], args := [d1, d2] }
  | _ => none }
def FnExactChosenWrongFalsely : Prop := fnExactChosenRow.holds Try.pinned (OpenSpec.ofChange fnExactChosenWrong)

/- THE SECOND FORM. 'bulk': how many values and letters a reading holds, each counted each time it is reached (what is shared counts as often as it is met; a slice's spare places count too). A statement '..UptoSaid' is the law's where the arguments, and the package variables that the reading takes, are together of bulk at most 1048576: NARROWER than '..Said'. Prove '..Said' where nothing that the law and all that it calls make is longer than what came in: it says more and counts as full. Else prove '..UptoSaid'. A law counts once. -/
mutual
def uptoBulk {H : Type} : DataW H → Nat
  | .lit (.string bytes) => bytes.length + 1
  | .lit _ => 1
  | .nil => 1
  | .ptr d => uptoBulk d + 1
  | .slice elems spare => uptoBulkAll elems + uptoBulkAll spare + 1
  | .agg parts => uptoBulkAll parts + 1
  | .iface _ d => uptoBulk d + 1
  | .map entries => uptoBulkEntries entries + 1
  | .held _ => 1
def uptoBulkAll {H : Type} : List (DataW H) → Nat
  | [] => 0
  | d :: r => uptoBulk d + uptoBulkAll r
def uptoBulkEntries {H : Type} : List (Lit × DataW H) → Nat
  | [] => 0
  | x :: r => uptoBulkEntry x + uptoBulkEntries r
def uptoBulkEntry {H : Type} : Lit × DataW H → Nat
  | (.string bytes, d) => bytes.length + uptoBulk d + 1
  | (_, d) => uptoBulk d + 1
 end
def uptoSmall : (H : Type) → List (DataW H) → Bool := fun _ ds => decide (uptoBulkAll ds ≤ 1048576)
def OpenSpec.upto (s : _root_.Go.ChangeSpec) : _root_.Go.OpenSpec := { _root_.Go.OpenSpec.ofChange s with cond := some uptoSmall }

/-- 'laws.FnExactPickOk', WHERE WHAT IT READS IS OF BULK AT MOST 1048576: true; the input reads as it did. -/
def fnExactPickOkUptoRow : OpenClaim := { program := "ytklmnopgogcbhaa", sum := "78b7709081be4d45b235e76d5c09a2d76a364383f7c9794ba12c49ce1cb0da7d", func := "loop.example/g00465/laws.FnExactPickOk", spec := "fnExactPickOk", inPlace := ["internal/bytealg.IndexByteString"], apart := false, narrowed := true }
def FnExactPickOkUptoSaid : Prop := fnExactPickOkUptoRow.holds Try.pinned (OpenSpec.upto fnExactPickOkSpec)

/-- 'laws.FnExactPickText', WHERE WHAT IT READS IS OF BULK AT MOST 1048576: true; the input reads as it did. -/
def fnExactPickTextUptoRow : OpenClaim := { program := "ytklmnopgogcbhaa", sum := "78b7709081be4d45b235e76d5c09a2d76a364383f7c9794ba12c49ce1cb0da7d", func := "loop.example/g00465/laws.FnExactPickText", spec := "fnExactPickText", inPlace := ["internal/bytealg.IndexByteString", "internal/abi.NoEscape", "internal/bytealg.MakeNoZero"], apart := false, narrowed := true }
def FnExactPickTextUptoSaid : Prop := fnExactPickTextUptoRow.holds Try.pinned (OpenSpec.upto fnExactPickTextSpec)

/-- 'laws.FnExactFits', WHERE WHAT IT READS IS OF BULK AT MOST 1048576: true; the input reads as it did. -/
def fnExactFitsUptoRow : OpenClaim := { program := "ytklmnopgogcbhaa", sum := "78b7709081be4d45b235e76d5c09a2d76a364383f7c9794ba12c49ce1cb0da7d", func := "loop.example/g00465/laws.FnExactFits", spec := "fnExactFits", inPlace := ["internal/bytealg.IndexByteString"], unfollowed := true, recurses := true, apart := false, narrowed := true }
def FnExactFitsUptoSaid : Prop := fnExactFitsUptoRow.holds Try.pinned (OpenSpec.upto fnExactFitsSpec)

/-- 'laws.FnChosen', WHERE WHAT IT READS IS OF BULK AT MOST 1048576: true; the input reads as it did. -/
def fnChosenUptoRow : OpenClaim := { program := "ytklmnopgogcbhaa", sum := "78b7709081be4d45b235e76d5c09a2d76a364383f7c9794ba12c49ce1cb0da7d", func := "loop.example/g00465/laws.FnChosen", spec := "fnChosen", inPlace := ["internal/bytealg.IndexByteString"], unfollowed := true, recurses := true, apart := false, narrowed := true }
def FnChosenUptoSaid : Prop := fnChosenUptoRow.holds Try.pinned (OpenSpec.upto fnChosenSpec)

/-- 'laws.FnExactChosen', WHERE WHAT IT READS IS OF BULK AT MOST 1048576: true; the input reads as it did. -/
def fnExactChosenUptoRow : OpenClaim := { program := "ytklmnopgogcbhaa", sum := "78b7709081be4d45b235e76d5c09a2d76a364383f7c9794ba12c49ce1cb0da7d", func := "loop.example/g00465/laws.FnExactChosen", spec := "fnExactChosen", inPlace := ["internal/bytealg.IndexByteString"], unfollowed := true, recurses := true, apart := false, narrowed := true }
def FnExactChosenUptoSaid : Prop := fnExactChosenUptoRow.holds Try.pinned (OpenSpec.upto fnExactChosenSpec)

end Rows
end Go.Proofs.Ytklmnopgogcbhaa

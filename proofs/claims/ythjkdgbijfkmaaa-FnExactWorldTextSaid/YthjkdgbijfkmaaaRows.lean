/-
  No cell of these rows narrows 'for every input' (looked for: loops, veiled, ifaces, maps, wideKeys, modest, calm, conditions, laid).
  DERIVED. THE GIVEN ROWS OF THIS SEAT. 4 by the template 'for every input the law returns true; each argument reads behind the call as it read before'; 0 by the template 'total and deterministic' (their statements: YthjkdgbijfkmaaaTotals.lean).
  GIVEN WITH THE SEED: the statements are not yours to turn. If you find one false, say at which input.
  Laid BY PROGRAM, IN A SANDBOX (cutbox-rows.mjs): the forced cells as the released guide's own fill.sh prints them over the translation 94b90eac8672fcb9… (all of the seat's roots in one cut). By AI agents, Wed Nov 11 2026. No macro, syntax, notation, axiom, sorry.
-/
import Derived.Test.YthjkdgbijfkmaaaChecked
import GoSem.Claim
import GoSem.ClaimJoined
import GoSem.ClaimMapViews
import Derived.JoinedTies
import Derived.KernelRfl
namespace Go.Proofs.Ythjkdgbijfkmaaa
/- THE CELL 'sum', in the pinned program and in every row, IS THE sha256 OF THE DUMP (.gsa) THAT YthjkdgbijfkmaaaProg.lean LOADS. Nothing in Lean hashes anything: it is a label: what it is worth is what the hold of that sum in a sandbox is worth. -/
noncomputable def Try.pinned : Pinned := { name := "ythjkdgbijfkmaaa", sum := "94b90eac8672fcb985e5f15faac1a466b9e32e902cd591e040e0cf19b877d17d", checked := Try.checked }
namespace Rows
def none {H : Type} : Left H := { results := [], args := [] }

/-- 'laws.FnExactAnswerText': WHATEVER THE INPUT: true; the input reads as it did. -/
def fnExactAnswerTextSpec : ChangeSpec := { name := "fnExactAnswerText", fn := fun _ => fun
  | [d] => { results := [.lit (.bool true)], args := [d] }
  | _ => none }
def fnExactAnswerTextRow : OpenClaim := { program := "ythjkdgbijfkmaaa", sum := "94b90eac8672fcb985e5f15faac1a466b9e32e902cd591e040e0cf19b877d17d", func := "loop.example/g00465/laws.FnExactAnswerText", spec := "fnExactAnswerText", inPlace := ["internal/abi.NoEscape", "internal/bytealg.MakeNoZero"], recurses := true, apart := false }
def FnExactAnswerTextSaid : Prop := fnExactAnswerTextRow.holds Try.pinned (OpenSpec.ofChange fnExactAnswerTextSpec)

/-- ITS FALSE NEIGHBOUR: 'it returns false'. Refute it at one input. -/
def fnExactAnswerTextWrong : ChangeSpec := { name := "fnExactAnswerText", fn := fun _ => fun
  | [d] => { results := [.lit (.bool false)], args := [d] }
  | _ => none }
def FnExactAnswerTextWrongFalsely : Prop := fnExactAnswerTextRow.holds Try.pinned (OpenSpec.ofChange fnExactAnswerTextWrong)

/-- 'laws.FnExactScaleText': WHATEVER THE INPUT: true; the input reads as it did. -/
def fnExactScaleTextSpec : ChangeSpec := { name := "fnExactScaleText", fn := fun _ => fun
  | [d] => { results := [.lit (.bool true)], args := [d] }
  | _ => none }
def fnExactScaleTextRow : OpenClaim := { program := "ythjkdgbijfkmaaa", sum := "94b90eac8672fcb985e5f15faac1a466b9e32e902cd591e040e0cf19b877d17d", func := "loop.example/g00465/laws.FnExactScaleText", spec := "fnExactScaleText", inPlace := ["internal/abi.NoEscape", "internal/bytealg.MakeNoZero"], recurses := true, apart := false }
def FnExactScaleTextSaid : Prop := fnExactScaleTextRow.holds Try.pinned (OpenSpec.ofChange fnExactScaleTextSpec)

/-- ITS FALSE NEIGHBOUR: 'it returns false'. Refute it at one input. -/
def fnExactScaleTextWrong : ChangeSpec := { name := "fnExactScaleText", fn := fun _ => fun
  | [d] => { results := [.lit (.bool false)], args := [d] }
  | _ => none }
def FnExactScaleTextWrongFalsely : Prop := fnExactScaleTextRow.holds Try.pinned (OpenSpec.ofChange fnExactScaleTextWrong)

/-- 'laws.FnExactOrderText': WHATEVER THE INPUT: true; the input reads as it did. -/
def fnExactOrderTextSpec : ChangeSpec := { name := "fnExactOrderText", fn := fun _ => fun
  | [d] => { results := [.lit (.bool true)], args := [d] }
  | _ => none }
def fnExactOrderTextRow : OpenClaim := { program := "ythjkdgbijfkmaaa", sum := "94b90eac8672fcb985e5f15faac1a466b9e32e902cd591e040e0cf19b877d17d", func := "loop.example/g00465/laws.FnExactOrderText", spec := "fnExactOrderText", inPlace := ["internal/abi.NoEscape", "internal/bytealg.MakeNoZero"], recurses := true, apart := false }
def FnExactOrderTextSaid : Prop := fnExactOrderTextRow.holds Try.pinned (OpenSpec.ofChange fnExactOrderTextSpec)

/-- ITS FALSE NEIGHBOUR: 'it returns false'. Refute it at one input. -/
def fnExactOrderTextWrong : ChangeSpec := { name := "fnExactOrderText", fn := fun _ => fun
  | [d] => { results := [.lit (.bool false)], args := [d] }
  | _ => none }
def FnExactOrderTextWrongFalsely : Prop := fnExactOrderTextRow.holds Try.pinned (OpenSpec.ofChange fnExactOrderTextWrong)

/-- 'laws.FnExactWorldText': WHATEVER THE INPUT: true; the input reads as it did. -/
def fnExactWorldTextSpec : ChangeSpec := { name := "fnExactWorldText", fn := fun _ => fun
  | [d] => { results := [.lit (.bool true)], args := [d] }
  | _ => none }
def fnExactWorldTextRow : OpenClaim := { program := "ythjkdgbijfkmaaa", sum := "94b90eac8672fcb985e5f15faac1a466b9e32e902cd591e040e0cf19b877d17d", func := "loop.example/g00465/laws.FnExactWorldText", spec := "fnExactWorldText", inPlace := ["internal/abi.NoEscape", "internal/bytealg.MakeNoZero"], recurses := true, apart := false }
def FnExactWorldTextSaid : Prop := fnExactWorldTextRow.holds Try.pinned (OpenSpec.ofChange fnExactWorldTextSpec)

/-- ITS FALSE NEIGHBOUR: 'it returns false'. Refute it at one input. -/
def fnExactWorldTextWrong : ChangeSpec := { name := "fnExactWorldText", fn := fun _ => fun
  | [d] => { results := [.lit (.bool false)], args := [d] }
  | _ => none }
def FnExactWorldTextWrongFalsely : Prop := fnExactWorldTextRow.holds Try.pinned (OpenSpec.ofChange fnExactWorldTextWrong)

/- THE SECOND FORM. 'bulk': how many values and letters a reading holds, each counted each time it is reached (what is shared counts as often as it is met; a slice's spare places count too). A statement '..UptoSaid' is the law's where the arguments, and the package variables that the reading takes, are together of bulk at most 1048576: NARROWER than '..Said'. Prove '..Said' where nothing that the law and all that it calls make is longer than what came in: it says more and counts as full. Else prove '..UptoSaid'. A law counts once. -/
mutual
def uptoBulk {H : Type} : DataW H → Nat
  | .lit (.string bytes) => bytes.length + 1
  | .lit _ => 1
  | .nil => 1
  | .ptr d => uptoBulk d + 1
  | .slice elems spare => uptoBulkAll elems + uptoBulkAll spare + 1
  | .agg parts => uptoBulkAll parts + 1
  | .iface _ d => uptoBulk d + 1
  | .map entries => uptoBulkEntries entries + 1
  | .held _ => 1
def uptoBulkAll {H : Type} : List (DataW H) → Nat
  | [] => 0
  | d :: r => uptoBulk d + uptoBulkAll r
def uptoBulkEntries {H : Type} : List (Lit × DataW H) → Nat
  | [] => 0
  | x :: r => uptoBulkEntry x + uptoBulkEntries r
def uptoBulkEntry {H : Type} : Lit × DataW H → Nat
  | (.string bytes, d) => bytes.length + uptoBulk d + 1
  | (_, d) => uptoBulk d + 1
 end
def uptoSmall : (H : Type) → List (DataW H) → Bool := fun _ ds => decide (uptoBulkAll ds ≤ 1048576)
def OpenSpec.upto (s : _root_.Go.ChangeSpec) : _root_.Go.OpenSpec := { _root_.Go.OpenSpec.ofChange s with cond := some uptoSmall }

/-- 'laws.FnExactAnswerText', WHERE WHAT IT READS IS OF BULK AT MOST 1048576: true; the input reads as it did. -/
def fnExactAnswerTextUptoRow : OpenClaim := { program := "ythjkdgbijfkmaaa", sum := "94b90eac8672fcb985e5f15faac1a466b9e32e902cd591e040e0cf19b877d17d", func := "loop.example/g00465/laws.FnExactAnswerText", spec := "fnExactAnswerText", inPlace := ["internal/abi.NoEscape", "internal/bytealg.MakeNoZero"], recurses := true, apart := false, narrowed := true }
def FnExactAnswerTextUptoSaid : Prop := fnExactAnswerTextUptoRow.holds Try.pinned (OpenSpec.upto fnExactAnswerTextSpec)

/-- 'laws.FnExactScaleText', WHERE WHAT IT READS IS OF BULK AT MOST 1048576: true; the input reads as it did. -/
def fnExactScaleTextUptoRow : OpenClaim := { program := "ythjkdgbijfkmaaa", sum := "94b90eac8672fcb985e5f15faac1a466b9e32e902cd591e040e0cf19b877d17d", func := "loop.example/g00465/laws.FnExactScaleText", spec := "fnExactScaleText", inPlace := ["internal/abi.NoEscape", "internal/bytealg.MakeNoZero"], recurses := true, apart := false, narrowed := true }
def FnExactScaleTextUptoSaid : Prop := fnExactScaleTextUptoRow.holds Try.pinned (OpenSpec.upto fnExactScaleTextSpec)

/-- 'laws.FnExactOrderText', WHERE WHAT IT READS IS OF BULK AT MOST 1048576: true; the input reads as it did. -/
def fnExactOrderTextUptoRow : OpenClaim := { program := "ythjkdgbijfkmaaa", sum := "94b90eac8672fcb985e5f15faac1a466b9e32e902cd591e040e0cf19b877d17d", func := "loop.example/g00465/laws.FnExactOrderText", spec := "fnExactOrderText", inPlace := ["internal/abi.NoEscape", "internal/bytealg.MakeNoZero"], recurses := true, apart := false, narrowed := true }
def FnExactOrderTextUptoSaid : Prop := fnExactOrderTextUptoRow.holds Try.pinned (OpenSpec.upto fnExactOrderTextSpec)

/-- 'laws.FnExactWorldText', WHERE WHAT IT READS IS OF BULK AT MOST 1048576: true; the input reads as it did. -/
def fnExactWorldTextUptoRow : OpenClaim := { program := "ythjkdgbijfkmaaa", sum := "94b90eac8672fcb985e5f15faac1a466b9e32e902cd591e040e0cf19b877d17d", func := "loop.example/g00465/laws.FnExactWorldText", spec := "fnExactWorldText", inPlace := ["internal/abi.NoEscape", "internal/bytealg.MakeNoZero"], recurses := true, apart := false, narrowed := true }
def FnExactWorldTextUptoSaid : Prop := fnExactWorldTextUptoRow.holds Try.pinned (OpenSpec.upto fnExactWorldTextSpec)

end Rows
end Go.Proofs.Ythjkdgbijfkmaaa

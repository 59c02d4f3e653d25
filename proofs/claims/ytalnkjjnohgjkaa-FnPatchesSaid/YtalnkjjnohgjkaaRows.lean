/-
  NARROWER THAN 'FOR EVERY INPUT', by the rows' own cells (each row's printed sentence says how): FnExactDiff: loops · FnExactPatchOne: loops · FnExactPatchAll: loops.
  DERIVED. THE GIVEN ROWS OF THIS SEAT. 5 by the template 'for every input the law returns true; each argument reads behind the call as it read before'; 0 by the template 'total and deterministic' (their statements: YtalnkjjnohgjkaaTotals.lean).
  GIVEN WITH THE SEED: the statements are not yours to turn. If you find one false, say at which input.
  Laid BY PROGRAM, IN A SANDBOX (cutbox-rows.mjs): the forced cells as the released guide's own fill.sh prints them over the translation 171ad7581e726fc7… (all of the seat's roots in one cut). By AI agents, Wed Nov 11 2026. No macro, syntax, notation, axiom, sorry.
-/
import Derived.Test.YtalnkjjnohgjkaaChecked
import GoSem.Claim
import GoSem.ClaimJoined
import GoSem.ClaimMapViews
import Derived.JoinedTies
import Derived.KernelRfl
namespace Go.Proofs.Ytalnkjjnohgjkaa
/- THE CELL 'sum', in the pinned program and in every row, IS THE sha256 OF THE DUMP (.gsa) THAT YtalnkjjnohgjkaaProg.lean LOADS. Nothing in Lean hashes anything: it is a label: what it is worth is what the hold of that sum in a sandbox is worth. -/
noncomputable def Try.pinned : Pinned := { name := "ytalnkjjnohgjkaa", sum := "171ad7581e726fc7c3473817b6328667f0b65f59d9c5c9cdbf7b664e5bb48f69", checked := Try.checked }
namespace Rows
def none {H : Type} : Left H := { results := [], args := [] }

/-- 'laws.FnTested': WHATEVER THE INPUT: true; the input reads as it did. -/
def fnTestedSpec : ChangeSpec := { name := "fnTested", fn := fun _ => fun
  | [d] => { results := [.lit (.bool true)], args := [d] }
  | _ => none }
def fnTestedRow : OpenClaim := { program := "ytalnkjjnohgjkaa", sum := "171ad7581e726fc7c3473817b6328667f0b65f59d9c5c9cdbf7b664e5bb48f69", func := "loop.example/g00465/laws.FnTested", spec := "fnTested", inPlace := ["slices.overlaps[string]", "slices.overlaps[loop.example/g00465/impl.Node]"], unfollowed := true, recurses := true, apart := false }
def FnTestedSaid : Prop := fnTestedRow.holds Try.pinned (OpenSpec.ofChange fnTestedSpec)

/-- ITS FALSE NEIGHBOUR: 'it returns false'. Refute it at one input. -/
def fnTestedWrong : ChangeSpec := { name := "fnTested", fn := fun _ => fun
  | [d] => { results := [.lit (.bool false)], args := [d] }
  | _ => none }
def FnTestedWrongFalsely : Prop := fnTestedRow.holds Try.pinned (OpenSpec.ofChange fnTestedWrong)

/-- 'laws.FnPatches': WHATEVER THE INPUT: true; the input reads as it did. -/
def fnPatchesSpec : ChangeSpec := { name := "fnPatches", fn := fun _ => fun
  | [d] => { results := [.lit (.bool true)], args := [d] }
  | _ => none }
def fnPatchesRow : OpenClaim := { program := "ytalnkjjnohgjkaa", sum := "171ad7581e726fc7c3473817b6328667f0b65f59d9c5c9cdbf7b664e5bb48f69", func := "loop.example/g00465/laws.FnPatches", spec := "fnPatches", inPlace := ["slices.overlaps[string]", "slices.overlaps[loop.example/g00465/impl.Node]"], unfollowed := true, recurses := true, apart := false }
def FnPatchesSaid : Prop := fnPatchesRow.holds Try.pinned (OpenSpec.ofChange fnPatchesSpec)

/-- ITS FALSE NEIGHBOUR: 'it returns false'. Refute it at one input. -/
def fnPatchesWrong : ChangeSpec := { name := "fnPatches", fn := fun _ => fun
  | [d] => { results := [.lit (.bool false)], args := [d] }
  | _ => none }
def FnPatchesWrongFalsely : Prop := fnPatchesRow.holds Try.pinned (OpenSpec.ofChange fnPatchesWrong)

/-- 'laws.FnExactDiff': WHATEVER THE INPUT: true; the input reads as it did. -/
def fnExactDiffSpec : ChangeSpec := { name := "fnExactDiff", fn := fun _ => fun
  | [d1, d2] => { results := [.lit (.bool true)], args := [d1, d2] }
  | _ => none }
def fnExactDiffRow : OpenClaim := { program := "ytalnkjjnohgjkaa", sum := "171ad7581e726fc7c3473817b6328667f0b65f59d9c5c9cdbf7b664e5bb48f69", func := "loop.example/g00465/laws.FnExactDiff", spec := "fnExactDiff", unfollowed := true, recurses := true, loops := true, apart := false }
def FnExactDiffSaid : Prop := fnExactDiffRow.holds Try.pinned (OpenSpec.ofChange fnExactDiffSpec)

/-- ITS FALSE NEIGHBOUR: 'it returns false'. Refute it at one input. -/
def fnExactDiffWrong : ChangeSpec := { name := "fnExactDiff", fn := fun _ => fun
  | [d1, d2] => { results := [.lit (.bool false)], args := [d1, d2] }
  | _ => none }
def FnExactDiffWrongFalsely : Prop := fnExactDiffRow.holds Try.pinned (OpenSpec.ofChange fnExactDiffWrong)

/-- 'laws.FnExactPatchOne': WHATEVER THE INPUT: true; the input reads as it did. -/
def fnExactPatchOneSpec : ChangeSpec := { name := "fnExactPatchOne", fn := fun _ => fun
  | [d1, d2] => { results := [.lit (.bool true)], args := [d1, d2] }
  | _ => none }
def fnExactPatchOneRow : OpenClaim := { program := "ytalnkjjnohgjkaa", sum := "171ad7581e726fc7c3473817b6328667f0b65f59d9c5c9cdbf7b664e5bb48f69", func := "loop.example/g00465/laws.FnExactPatchOne", spec := "fnExactPatchOne", inPlace := ["slices.overlaps[string]", "slices.overlaps[loop.example/g00465/impl.Node]"], unfollowed := true, recurses := true, loops := true, apart := false }
def FnExactPatchOneSaid : Prop := fnExactPatchOneRow.holds Try.pinned (OpenSpec.ofChange fnExactPatchOneSpec)

/-- ITS FALSE NEIGHBOUR: 'it returns false'. Refute it at one input. -/
def fnExactPatchOneWrong : ChangeSpec := { name := "fnExactPatchOne", fn := fun _ => fun
  | [d1, d2] => { results := [.lit (.bool false)], args := [d1, d2] }
  | _ => none }
def FnExactPatchOneWrongFalsely : Prop := fnExactPatchOneRow.holds Try.pinned (OpenSpec.ofChange fnExactPatchOneWrong)

/-- 'laws.FnExactPatchAll': WHATEVER THE INPUT: true; the input reads as it did. -/
def fnExactPatchAllSpec : ChangeSpec := { name := "fnExactPatchAll", fn := fun _ => fun
  | [d1, d2] => { results := [.lit (.bool true)], args := [d1, d2] }
  | _ => none }
def fnExactPatchAllRow : OpenClaim := { program := "ytalnkjjnohgjkaa", sum := "171ad7581e726fc7c3473817b6328667f0b65f59d9c5c9cdbf7b664e5bb48f69", func := "loop.example/g00465/laws.FnExactPatchAll", spec := "fnExactPatchAll", inPlace := ["slices.overlaps[string]", "slices.overlaps[loop.example/g00465/impl.Node]"], unfollowed := true, recurses := true, loops := true, apart := false }
def FnExactPatchAllSaid : Prop := fnExactPatchAllRow.holds Try.pinned (OpenSpec.ofChange fnExactPatchAllSpec)

/-- ITS FALSE NEIGHBOUR: 'it returns false'. Refute it at one input. -/
def fnExactPatchAllWrong : ChangeSpec := { name := "fnExactPatchAll", fn := fun _ => fun
  | [d1, d2] => { results := [.lit (.bool false)], args := [d1, d2] }
  | _ => none }
def FnExactPatchAllWrongFalsely : Prop := fnExactPatchAllRow.holds Try.pinned (OpenSpec.ofChange fnExactPatchAllWrong)

/- THE SECOND FORM. 'bulk': how many values and letters a reading holds, each counted each time it is reached (what is shared counts as often as it is met; a slice's spare places count too). A statement '..UptoSaid' is the law's where the arguments, and the package variables that the reading takes, are together of bulk at most 1048576: NARROWER than '..Said'. Prove '..Said' where nothing that the law and all that it calls make is longer than what came in: it says more and counts as full. Else prove '..UptoSaid'. A law counts once. -/
mutual
def uptoBulk {H : Type} : DataW H → Nat
  | .lit (.string bytes) => bytes.length + 1
  | .lit _ => 1
  | .nil => 1
  | .ptr d => uptoBulk d + 1
  | .slice elems spare => uptoBulkAll elems + uptoBulkAll spare + 1
  | .agg parts => uptoBulkAll parts + 1
  | .iface _ d => uptoBulk d + 1
  | .map entries => uptoBulkEntries entries + 1
  | .held _ => 1
def uptoBulkAll {H : Type} : List (DataW H) → Nat
  | [] => 0
  | d :: r => uptoBulk d + uptoBulkAll r
def uptoBulkEntries {H : Type} : List (Lit × DataW H) → Nat
  | [] => 0
  | x :: r => uptoBulkEntry x + uptoBulkEntries r
def uptoBulkEntry {H : Type} : Lit × DataW H → Nat
  | (.string bytes, d) => bytes.length + uptoBulk d + 1
  | (_, d) => uptoBulk d + 1
 end
def uptoSmall : (H : Type) → List (DataW H) → Bool := fun _ ds => decide (uptoBulkAll ds ≤ 1048576)
def OpenSpec.upto (s : _root_.Go.ChangeSpec) : _root_.Go.OpenSpec := { _root_.Go.OpenSpec.ofChange s with cond := some uptoSmall }

/-- 'laws.FnTested', WHERE WHAT IT READS IS OF BULK AT MOST 1048576: true; the input reads as it did. -/
def fnTestedUptoRow : OpenClaim := { program := "ytalnkjjnohgjkaa", sum := "171ad7581e726fc7c3473817b6328667f0b65f59d9c5c9cdbf7b664e5bb48f69", func := "loop.example/g00465/laws.FnTested", spec := "fnTested", inPlace := ["slices.overlaps[string]", "slices.overlaps[loop.example/g00465/impl.Node]"], unfollowed := true, recurses := true, apart := false, narrowed := true }
def FnTestedUptoSaid : Prop := fnTestedUptoRow.holds Try.pinned (OpenSpec.upto fnTestedSpec)

/-- 'laws.FnPatches', WHERE WHAT IT READS IS OF BULK AT MOST 1048576: true; the input reads as it did. -/
def fnPatchesUptoRow : OpenClaim := { program := "ytalnkjjnohgjkaa", sum := "171ad7581e726fc7c3473817b6328667f0b65f59d9c5c9cdbf7b664e5bb48f69", func := "loop.example/g00465/laws.FnPatches", spec := "fnPatches", inPlace := ["slices.overlaps[string]", "slices.overlaps[loop.example/g00465/impl.Node]"], unfollowed := true, recurses := true, apart := false, narrowed := true }
def FnPatchesUptoSaid : Prop := fnPatchesUptoRow.holds Try.pinned (OpenSpec.upto fnPatchesSpec)

/-- 'laws.FnExactDiff', WHERE WHAT IT READS IS OF BULK AT MOST 1048576: true; the input reads as it did. -/
def fnExactDiffUptoRow : OpenClaim := { program := "ytalnkjjnohgjkaa", sum := "171ad7581e726fc7c3473817b6328667f0b65f59d9c5c9cdbf7b664e5bb48f69", func := "loop.example/g00465/laws.FnExactDiff", spec := "fnExactDiff", unfollowed := true, recurses := true, loops := true, apart := false, narrowed := true }
def FnExactDiffUptoSaid : Prop := fnExactDiffUptoRow.holds Try.pinned (OpenSpec.upto fnExactDiffSpec)

/-- 'laws.FnExactPatchOne', WHERE WHAT IT READS IS OF BULK AT MOST 1048576: true; the input reads as it did. -/
def fnExactPatchOneUptoRow : OpenClaim := { program := "ytalnkjjnohgjkaa", sum := "171ad7581e726fc7c3473817b6328667f0b65f59d9c5c9cdbf7b664e5bb48f69", func := "loop.example/g00465/laws.FnExactPatchOne", spec := "fnExactPatchOne", inPlace := ["slices.overlaps[string]", "slices.overlaps[loop.example/g00465/impl.Node]"], unfollowed := true, recurses := true, loops := true, apart := false, narrowed := true }
def FnExactPatchOneUptoSaid : Prop := fnExactPatchOneUptoRow.holds Try.pinned (OpenSpec.upto fnExactPatchOneSpec)

/-- 'laws.FnExactPatchAll', WHERE WHAT IT READS IS OF BULK AT MOST 1048576: true; the input reads as it did. -/
def fnExactPatchAllUptoRow : OpenClaim := { program := "ytalnkjjnohgjkaa", sum := "171ad7581e726fc7c3473817b6328667f0b65f59d9c5c9cdbf7b664e5bb48f69", func := "loop.example/g00465/laws.FnExactPatchAll", spec := "fnExactPatchAll", inPlace := ["slices.overlaps[string]", "slices.overlaps[loop.example/g00465/impl.Node]"], unfollowed := true, recurses := true, loops := true, apart := false, narrowed := true }
def FnExactPatchAllUptoSaid : Prop := fnExactPatchAllUptoRow.holds Try.pinned (OpenSpec.upto fnExactPatchAllSpec)

end Rows
end Go.Proofs.Ytalnkjjnohgjkaa

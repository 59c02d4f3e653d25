/-
  No cell of these rows narrows 'for every input' (looked for: loops, veiled, ifaces, maps, wideKeys, modest, calm, conditions, laid).
  DERIVED. THE GIVEN ROWS OF THIS SEAT. 7 by the template 'for every input the law returns true; each argument reads behind the call as it read before'; 0 by the template 'total and deterministic' (their statements: YtnbehmbjoanfoaaTotals.lean).
  GIVEN WITH THE SEED: the statements are not yours to turn. If you find one false, say at which input.
  Laid BY PROGRAM, IN A SANDBOX (cutbox-rows.mjs): the forced cells as the released guide's own fill.sh prints them over the translation 03177b648e9c8b61… (all of the seat's roots in one cut). By AI agents, Wed Nov 11 2026. No macro, syntax, notation, axiom, sorry.
-/
import Derived.Test.YtnbehmbjoanfoaaChecked
import GoSem.Claim
import GoSem.ClaimJoined
import GoSem.ClaimMapViews
import Derived.JoinedTies
import Derived.KernelRfl
namespace Go.Proofs.Ytnbehmbjoanfoaa
/- THE CELL 'sum', in the pinned program and in every row, IS THE sha256 OF THE DUMP (.gsa) THAT YtnbehmbjoanfoaaProg.lean LOADS. Nothing in Lean hashes anything: it is a label: what it is worth is what the hold of that sum in a sandbox is worth. -/
noncomputable def Try.pinned : Pinned := { name := "ytnbehmbjoanfoaa", sum := "03177b648e9c8b614612ecfb5543f8201d0151a39644e75c1d899d0decfbf330", checked := Try.checked }
namespace Rows
def none {H : Type} : Left H := { results := [], args := [] }

/-- 'laws.FnExactHistOk': WHATEVER THE INPUT: true; the input reads as it did. -/
def fnExactHistOkSpec : ChangeSpec := { name := "fnExactHistOk", fn := fun _ => fun
  | [d] => { results := [.lit (.bool true)], args := [d] }
  | _ => none }
def fnExactHistOkRow : OpenClaim := { program := "ytnbehmbjoanfoaa", sum := "03177b648e9c8b614612ecfb5543f8201d0151a39644e75c1d899d0decfbf330", func := "loop.example/g00465/laws.FnExactHistOk", spec := "fnExactHistOk", inPlace := ["internal/bytealg.IndexByteString"], apart := false }
def FnExactHistOkSaid : Prop := fnExactHistOkRow.holds Try.pinned (OpenSpec.ofChange fnExactHistOkSpec)

/-- ITS FALSE NEIGHBOUR: 'it returns false'. Refute it at one input. -/
def fnExactHistOkWrong : ChangeSpec := { name := "fnExactHistOk", fn := fun _ => fun
  | [d] => { results := [.lit (.bool false)], args := [d] }
  | _ => none }
def FnExactHistOkWrongFalsely : Prop := fnExactHistOkRow.holds Try.pinned (OpenSpec.ofChange fnExactHistOkWrong)

/-- 'laws.FnCatchesUp': WHATEVER THE INPUT: true; the input reads as it did. -/
def fnCatchesUpSpec : ChangeSpec := { name := "fnCatchesUp", fn := fun _ => fun
  | [d] => { results := [.lit (.bool true)], args := [d] }
  | _ => none }
def fnCatchesUpRow : OpenClaim := { program := "ytnbehmbjoanfoaa", sum := "03177b648e9c8b614612ecfb5543f8201d0151a39644e75c1d899d0decfbf330", func := "loop.example/g00465/laws.FnCatchesUp", spec := "fnCatchesUp", inPlace := ["internal/bytealg.IndexByteString", "slices.overlaps[loop.example/g00465/impl.Item]"], unfollowed := true, recurses := true, apart := false }
def FnCatchesUpSaid : Prop := fnCatchesUpRow.holds Try.pinned (OpenSpec.ofChange fnCatchesUpSpec)

/-- ITS FALSE NEIGHBOUR: 'it returns false'. Refute it at one input. -/
def fnCatchesUpWrong : ChangeSpec := { name := "fnCatchesUp", fn := fun _ => fun
  | [d] => { results := [.lit (.bool false)], args := [d] }
  | _ => none }
def FnCatchesUpWrongFalsely : Prop := fnCatchesUpRow.holds Try.pinned (OpenSpec.ofChange fnCatchesUpWrong)

/-- 'laws.FnExactReplay': WHATEVER THE INPUT: true; the input reads as it did. -/
def fnExactReplaySpec : ChangeSpec := { name := "fnExactReplay", fn := fun _ => fun
  | [d1, d2] => { results := [.lit (.bool true)], args := [d1, d2] }
  | _ => none }
def fnExactReplayRow : OpenClaim := { program := "ytnbehmbjoanfoaa", sum := "03177b648e9c8b614612ecfb5543f8201d0151a39644e75c1d899d0decfbf330", func := "loop.example/g00465/laws.FnExactReplay", spec := "fnExactReplay", apart := false }
def FnExactReplaySaid : Prop := fnExactReplayRow.holds Try.pinned (OpenSpec.ofChange fnExactReplaySpec)

/-- ITS FALSE NEIGHBOUR: 'it returns false'. Refute it at one input. -/
def fnExactReplayWrong : ChangeSpec := { name := "fnExactReplay", fn := fun _ => fun
  | [d1, d2] => { results := [.lit (.bool false)], args := [d1, d2] }
  | _ => none }
def FnExactReplayWrongFalsely : Prop := fnExactReplayRow.holds Try.pinned (OpenSpec.ofChange fnExactReplayWrong)

/-- 'laws.FnHists': WHATEVER THE INPUT: true; the input reads as it did. -/
def fnHistsSpec : ChangeSpec := { name := "fnHists", fn := fun _ => fun
  | [d] => { results := [.lit (.bool true)], args := [d] }
  | _ => none }
def fnHistsRow : OpenClaim := { program := "ytnbehmbjoanfoaa", sum := "03177b648e9c8b614612ecfb5543f8201d0151a39644e75c1d899d0decfbf330", func := "loop.example/g00465/laws.FnHists", spec := "fnHists", inPlace := ["internal/bytealg.IndexByteString"], apart := false }
def FnHistsSaid : Prop := fnHistsRow.holds Try.pinned (OpenSpec.ofChange fnHistsSpec)

/-- ITS FALSE NEIGHBOUR: 'it returns false'. Refute it at one input. -/
def fnHistsWrong : ChangeSpec := { name := "fnHists", fn := fun _ => fun
  | [d] => { results := [.lit (.bool false)], args := [d] }
  | _ => none }
def FnHistsWrongFalsely : Prop := fnHistsRow.holds Try.pinned (OpenSpec.ofChange fnHistsWrong)

/-- 'laws.FnExactSince': WHATEVER THE INPUT: true; the input reads as it did. -/
def fnExactSinceSpec : ChangeSpec := { name := "fnExactSince", fn := fun _ => fun
  | [d1, d2] => { results := [.lit (.bool true)], args := [d1, d2] }
  | _ => none }
def fnExactSinceRow : OpenClaim := { program := "ytnbehmbjoanfoaa", sum := "03177b648e9c8b614612ecfb5543f8201d0151a39644e75c1d899d0decfbf330", func := "loop.example/g00465/laws.FnExactSince", spec := "fnExactSince", inPlace := ["internal/bytealg.IndexByteString"], apart := false }
def FnExactSinceSaid : Prop := fnExactSinceRow.holds Try.pinned (OpenSpec.ofChange fnExactSinceSpec)

/-- ITS FALSE NEIGHBOUR: 'it returns false'. Refute it at one input. -/
def fnExactSinceWrong : ChangeSpec := { name := "fnExactSince", fn := fun _ => fun
  | [d1, d2] => { results := [.lit (.bool false)], args := [d1, d2] }
  | _ => none }
def FnExactSinceWrongFalsely : Prop := fnExactSinceRow.holds Try.pinned (OpenSpec.ofChange fnExactSinceWrong)

/-- 'laws.FnExactCompact': WHATEVER THE INPUT: true; the input reads as it did. -/
def fnExactCompactSpec : ChangeSpec := { name := "fnExactCompact", fn := fun _ => fun
  | [d1, d2] => { results := [.lit (.bool true)], args := [d1, d2] }
  | _ => none }
def fnExactCompactRow : OpenClaim := { program := "ytnbehmbjoanfoaa", sum := "03177b648e9c8b614612ecfb5543f8201d0151a39644e75c1d899d0decfbf330", func := "loop.example/g00465/laws.FnExactCompact", spec := "fnExactCompact", inPlace := ["internal/bytealg.IndexByteString"], apart := false }
def FnExactCompactSaid : Prop := fnExactCompactRow.holds Try.pinned (OpenSpec.ofChange fnExactCompactSpec)

/-- ITS FALSE NEIGHBOUR: 'it returns false'. Refute it at one input. -/
def fnExactCompactWrong : ChangeSpec := { name := "fnExactCompact", fn := fun _ => fun
  | [d1, d2] => { results := [.lit (.bool false)], args := [d1, d2] }
  | _ => none }
def FnExactCompactWrongFalsely : Prop := fnExactCompactRow.holds Try.pinned (OpenSpec.ofChange fnExactCompactWrong)

/-- 'laws.FnExactHistAdd': WHATEVER THE INPUT: true; the input reads as it did. -/
def fnExactHistAddSpec : ChangeSpec := { name := "fnExactHistAdd", fn := fun _ => fun
  | [d1, d2, d3] => { results := [.lit (.bool true)], args := [d1, d2, d3] }
  | _ => none }
def fnExactHistAddRow : OpenClaim := { program := "ytnbehmbjoanfoaa", sum := "03177b648e9c8b614612ecfb5543f8201d0151a39644e75c1d899d0decfbf330", func := "loop.example/g00465/laws.FnExactHistAdd", spec := "fnExactHistAdd", inPlace := ["internal/bytealg.IndexByteString"], apart := false }
def FnExactHistAddSaid : Prop := fnExactHistAddRow.holds Try.pinned (OpenSpec.ofChange fnExactHistAddSpec)

/-- ITS FALSE NEIGHBOUR: 'it returns false'. Refute it at one input. -/
def fnExactHistAddWrong : ChangeSpec := { name := "fnExactHistAdd", fn := fun _ => fun
  | [d1, d2, d3] => { results := [.lit (.bool false)], args := [d1, d2, d3] }
  | _ => none }
def FnExactHistAddWrongFalsely : Prop := fnExactHistAddRow.holds Try.pinned (OpenSpec.ofChange fnExactHistAddWrong)

/- THE SECOND FORM. 'bulk': how many values and letters a reading holds, each counted each time it is reached (what is shared counts as often as it is met; a slice's spare places count too). A statement '..UptoSaid' is the law's where the arguments, and the package variables that the reading takes, are together of bulk at most 1048576: NARROWER than '..Said'. Prove '..Said' where nothing that the law and all that it calls make is longer than what came in: it says more and counts as full. Else prove '..UptoSaid'. A law counts once. -/
mutual
def uptoBulk {H : Type} : DataW H → Nat
  | .lit (.string bytes) => bytes.length + 1
  | .lit _ => 1
  | .nil => 1
  | .ptr d => uptoBulk d + 1
  | .slice elems spare => uptoBulkAll elems + uptoBulkAll spare + 1
  | .agg parts => uptoBulkAll parts + 1
  | .iface _ d => uptoBulk d + 1
  | .map entries => uptoBulkEntries entries + 1
  | .held _ => 1
def uptoBulkAll {H : Type} : List (DataW H) → Nat
  | [] => 0
  | d :: r => uptoBulk d + uptoBulkAll r
def uptoBulkEntries {H : Type} : List (Lit × DataW H) → Nat
  | [] => 0
  | x :: r => uptoBulkEntry x + uptoBulkEntries r
def uptoBulkEntry {H : Type} : Lit × DataW H → Nat
  | (.string bytes, d) => bytes.length + uptoBulk d + 1
  | (_, d) => uptoBulk d + 1
 end
def uptoSmall : (H : Type) → List (DataW H) → Bool := fun _ ds => decide (uptoBulkAll ds ≤ 1048576)
def OpenSpec.upto (s : _root_.Go.ChangeSpec) : _root_.Go.OpenSpec := { _root_.Go.OpenSpec.ofChange s with cond := some uptoSmall }

/-- 'laws.FnExactHistOk', WHERE WHAT IT READS IS OF BULK AT MOST 1048576: true; the input reads as it did. -/
def fnExactHistOkUptoRow : OpenClaim := { program := "ytnbehmbjoanfoaa", sum := "03177b648e9c8b614612ecfb5543f8201d0151a39644e75c1d899d0decfbf330", func := "loop.example/g00465/laws.FnExactHistOk", spec := "fnExactHistOk", inPlace := ["internal/bytealg.IndexByteString"], apart := false, narrowed := true }
def FnExactHistOkUptoSaid : Prop := fnExactHistOkUptoRow.holds Try.pinned (OpenSpec.upto fnExactHistOkSpec)

/-- 'laws.FnCatchesUp', WHERE WHAT IT READS IS OF BULK AT MOST 1048576: true; the input reads as it did. -/
def fnCatchesUpUptoRow : OpenClaim := { program := "ytnbehmbjoanfoaa", sum := "03177b648e9c8b614612ecfb5543f8201d0151a39644e75c1d899d0decfbf330", func := "loop.example/g00465/laws.FnCatchesUp", spec := "fnCatchesUp", inPlace := ["internal/bytealg.IndexByteString", "slices.overlaps[loop.example/g00465/impl.Item]"], unfollowed := true, recurses := true, apart := false, narrowed := true }
def FnCatchesUpUptoSaid : Prop := fnCatchesUpUptoRow.holds Try.pinned (OpenSpec.upto fnCatchesUpSpec)

/-- 'laws.FnExactReplay', WHERE WHAT IT READS IS OF BULK AT MOST 1048576: true; the input reads as it did. -/
def fnExactReplayUptoRow : OpenClaim := { program := "ytnbehmbjoanfoaa", sum := "03177b648e9c8b614612ecfb5543f8201d0151a39644e75c1d899d0decfbf330", func := "loop.example/g00465/laws.FnExactReplay", spec := "fnExactReplay", apart := false, narrowed := true }
def FnExactReplayUptoSaid : Prop := fnExactReplayUptoRow.holds Try.pinned (OpenSpec.upto fnExactReplaySpec)

/-- 'laws.FnHists', WHERE WHAT IT READS IS OF BULK AT MOST 1048576: true; the input reads as it did. -/
def fnHistsUptoRow : OpenClaim := { program := "ytnbehmbjoanfoaa", sum := "03177b648e9c8b614612ecfb5543f8201d0151a39644e75c1d899d0decfbf330", func := "loop.example/g00465/laws.FnHists", spec := "fnHists", inPlace := ["internal/bytealg.IndexByteString"], apart := false, narrowed := true }
def FnHistsUptoSaid : Prop := fnHistsUptoRow.holds Try.pinned (OpenSpec.upto fnHistsSpec)

/-- 'laws.FnExactSince', WHERE WHAT IT READS IS OF BULK AT MOST 1048576: true; the input reads as it did. -/
def fnExactSinceUptoRow : OpenClaim := { program := "ytnbehmbjoanfoaa", sum := "03177b648e9c8b614612ecfb5543f8201d0151a39644e75c1d899d0decfbf330", func := "loop.example/g00465/laws.FnExactSince", spec := "fnExactSince", inPlace := ["internal/bytealg.IndexByteString"], apart := false, narrowed := true }
def FnExactSinceUptoSaid : Prop := fnExactSinceUptoRow.holds Try.pinned (OpenSpec.upto fnExactSinceSpec)

/-- 'laws.FnExactCompact', WHERE WHAT IT READS IS OF BULK AT MOST 1048576: true; the input reads as it did. -/
def fnExactCompactUptoRow : OpenClaim := { program := "ytnbehmbjoanfoaa", sum := "03177b648e9c8b614612ecfb5543f8201d0151a39644e75c1d899d0decfbf330", func := "loop.example/g00465/laws.FnExactCompact", spec := "fnExactCompact", inPlace := ["internal/bytealg.IndexByteString"], apart := false, narrowed := true }
def FnExactCompactUptoSaid : Prop := fnExactCompactUptoRow.holds Try.pinned (OpenSpec.upto fnExactCompactSpec)

/-- 'laws.FnExactHistAdd', WHERE WHAT IT READS IS OF BULK AT MOST 1048576: true; the input reads as it did. -/
def fnExactHistAddUptoRow : OpenClaim := { program := "ytnbehmbjoanfoaa", sum := "03177b648e9c8b614612ecfb5543f8201d0151a39644e75c1d899d0decfbf330", func := "loop.example/g00465/laws.FnExactHistAdd", spec := "fnExactHistAdd", inPlace := ["internal/bytealg.IndexByteString"], apart := false, narrowed := true }
def FnExactHistAddUptoSaid : Prop := fnExactHistAddUptoRow.holds Try.pinned (OpenSpec.upto fnExactHistAddSpec)

end Rows
end Go.Proofs.Ytnbehmbjoanfoaa

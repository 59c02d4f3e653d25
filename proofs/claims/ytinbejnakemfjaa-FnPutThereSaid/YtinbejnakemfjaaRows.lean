/-
  NARROWER THAN 'FOR EVERY INPUT', by the rows' own cells (each row's printed sentence says how): FnExactAllPtrs: loops · FnExactAtPtr: loops · FnExactCutPtr: loops · FnExactPutPtr: loops.
  DERIVED. THE GIVEN ROWS OF THIS SEAT. 5 by the template 'for every input the law returns true; each argument reads behind the call as it read before'; 0 by the template 'total and deterministic' (their statements: YtinbejnakemfjaaTotals.lean).
  GIVEN WITH THE SEED: the statements are not yours to turn. If you find one false, say at which input.
  Laid BY PROGRAM, IN A SANDBOX (cutbox-rows.mjs): the forced cells as the released guide's own fill.sh prints them over the translation 56c5b5a6e7fbbfb5… (all of the seat's roots in one cut). By AI agents, Wed Nov 11 2026. No macro, syntax, notation, axiom, sorry.
-/
import Derived.Test.YtinbejnakemfjaaChecked
import GoSem.Claim
import GoSem.ClaimJoined
import GoSem.ClaimMapViews
import Derived.JoinedTies
import Derived.KernelRfl
namespace Go.Proofs.Ytinbejnakemfjaa
/- THE CELL 'sum', in the pinned program and in every row, IS THE sha256 OF THE DUMP (.gsa) THAT YtinbejnakemfjaaProg.lean LOADS. Nothing in Lean hashes anything: it is a label: what it is worth is what the hold of that sum in a sandbox is worth. -/
noncomputable def Try.pinned : Pinned := { name := "ytinbejnakemfjaa", sum := "56c5b5a6e7fbbfb512daed6da87fdd95f1d7884c481bb704de3c9de742f2db96", checked := Try.checked }
namespace Rows
def none {H : Type} : Left H := { results := [], args := [] }

/-- 'laws.FnExactAllPtrs': WHATEVER THE INPUT: true; the input reads as it did. -/
def fnExactAllPtrsSpec : ChangeSpec := { name := "fnExactAllPtrs", fn := fun _ => fun
  | [d] => { results := [.lit (.bool true)], args := [d] }
  | _ => none }
def fnExactAllPtrsRow : OpenClaim := { program := "ytinbejnakemfjaa", sum := "56c5b5a6e7fbbfb512daed6da87fdd95f1d7884c481bb704de3c9de742f2db96", func := "loop.example/g00465/laws.FnExactAllPtrs", spec := "fnExactAllPtrs", recurses := true, loops := true, apart := false }
def FnExactAllPtrsSaid : Prop := fnExactAllPtrsRow.holds Try.pinned (OpenSpec.ofChange fnExactAllPtrsSpec)

/-- ITS FALSE NEIGHBOUR: 'it returns false'. Refute it at one input. -/
def fnExactAllPtrsWrong : ChangeSpec := { name := "fnExactAllPtrs", fn := fun _ => fun
  | [d] => { results := [.lit (.bool false)], args := [d] }
  | _ => none }
def FnExactAllPtrsWrongFalsely : Prop := fnExactAllPtrsRow.holds Try.pinned (OpenSpec.ofChange fnExactAllPtrsWrong)

/-- 'laws.FnExactAtPtr': WHATEVER THE INPUT: true; the input reads as it did. -/
def fnExactAtPtrSpec : ChangeSpec := { name := "fnExactAtPtr", fn := fun _ => fun
  | [d1, d2] => { results := [.lit (.bool true)], args := [d1, d2] }
  | _ => none }
def fnExactAtPtrRow : OpenClaim := { program := "ytinbejnakemfjaa", sum := "56c5b5a6e7fbbfb512daed6da87fdd95f1d7884c481bb704de3c9de742f2db96", func := "loop.example/g00465/laws.FnExactAtPtr", spec := "fnExactAtPtr", recurses := true, loops := true, apart := false }
def FnExactAtPtrSaid : Prop := fnExactAtPtrRow.holds Try.pinned (OpenSpec.ofChange fnExactAtPtrSpec)

/-- ITS FALSE NEIGHBOUR: 'it returns false'. Refute it at one input. -/
def fnExactAtPtrWrong : ChangeSpec := { name := "fnExactAtPtr", fn := fun _ => fun
  | [d1, d2] => { results := [.lit (.bool false)], args := [d1, d2] }
  | _ => none }
def FnExactAtPtrWrongFalsely : Prop := fnExactAtPtrRow.holds Try.pinned (OpenSpec.ofChange fnExactAtPtrWrong)

/-- 'laws.FnExactCutPtr': WHATEVER THE INPUT: true; the input reads as it did. -/
def fnExactCutPtrSpec : ChangeSpec := { name := "fnExactCutPtr", fn := fun _ => fun
  | [d1, d2] => { results := [.lit (.bool true)], args := [d1, d2] }
  | _ => none }
def fnExactCutPtrRow : OpenClaim := { program := "ytinbejnakemfjaa", sum := "56c5b5a6e7fbbfb512daed6da87fdd95f1d7884c481bb704de3c9de742f2db96", func := "loop.example/g00465/laws.FnExactCutPtr", spec := "fnExactCutPtr", unfollowed := true, recurses := true, loops := true, apart := false }
def FnExactCutPtrSaid : Prop := fnExactCutPtrRow.holds Try.pinned (OpenSpec.ofChange fnExactCutPtrSpec)

/-- ITS FALSE NEIGHBOUR: 'it returns false'. Refute it at one input. -/
def fnExactCutPtrWrong : ChangeSpec := { name := "fnExactCutPtr", fn := fun _ => fun
  | [d1, d2] => { results := [.lit (.bool false)], args := [d1, d2] }
  | _ => none }
def FnExactCutPtrWrongFalsely : Prop := fnExactCutPtrRow.holds Try.pinned (OpenSpec.ofChange fnExactCutPtrWrong)

/-- 'laws.FnExactPutPtr': WHATEVER THE INPUT: true; the input reads as it did. -/
def fnExactPutPtrSpec : ChangeSpec := { name := "fnExactPutPtr", fn := fun _ => fun
  | [d1, d2, d3] => { results := [.lit (.bool true)], args := [d1, d2, d3] }
  | _ => none }
def fnExactPutPtrRow : OpenClaim := { program := "ytinbejnakemfjaa", sum := "56c5b5a6e7fbbfb512daed6da87fdd95f1d7884c481bb704de3c9de742f2db96", func := "loop.example/g00465/laws.FnExactPutPtr", spec := "fnExactPutPtr", inPlace := ["slices.overlaps[string]", "slices.overlaps[loop.example/g00465/impl.Node]"], unfollowed := true, recurses := true, loops := true, apart := false }
def FnExactPutPtrSaid : Prop := fnExactPutPtrRow.holds Try.pinned (OpenSpec.ofChange fnExactPutPtrSpec)

/-- ITS FALSE NEIGHBOUR: 'it returns false'. Refute it at one input. -/
def fnExactPutPtrWrong : ChangeSpec := { name := "fnExactPutPtr", fn := fun _ => fun
  | [d1, d2, d3] => { results := [.lit (.bool false)], args := [d1, d2, d3] }
  | _ => none }
def FnExactPutPtrWrongFalsely : Prop := fnExactPutPtrRow.holds Try.pinned (OpenSpec.ofChange fnExactPutPtrWrong)

/-- 'laws.FnPutThere': WHATEVER THE INPUT: true; the input reads as it did. -/
def fnPutThereSpec : ChangeSpec := { name := "fnPutThere", fn := fun _ => fun
  | [d] => { results := [.lit (.bool true)], args := [d] }
  | _ => none }
def fnPutThereRow : OpenClaim := { program := "ytinbejnakemfjaa", sum := "56c5b5a6e7fbbfb512daed6da87fdd95f1d7884c481bb704de3c9de742f2db96", func := "loop.example/g00465/laws.FnPutThere", spec := "fnPutThere", inPlace := ["slices.overlaps[string]", "slices.overlaps[loop.example/g00465/impl.Node]"], unfollowed := true, recurses := true, apart := false }
def FnPutThereSaid : Prop := fnPutThereRow.holds Try.pinned (OpenSpec.ofChange fnPutThereSpec)

/-- ITS FALSE NEIGHBOUR: 'it returns false'. Refute it at one input. -/
def fnPutThereWrong : ChangeSpec := { name := "fnPutThere", fn := fun _ => fun
  | [d] => { results := [.lit (.bool false)], args := [d] }
  | _ => none }
def FnPutThereWrongFalsely : Prop := fnPutThereRow.holds Try.pinned (OpenSpec.ofChange fnPutThereWrong)

/- THE SECOND FORM. 'bulk': how many values and letters a reading holds, each counted each time it is reached (what is shared counts as often as it is met; a slice's spare places count too). A statement '..UptoSaid' is the law's where the arguments, and the package variables that the reading takes, are together of bulk at most 1048576: NARROWER than '..Said'. Prove '..Said' where nothing that the law and all that it calls make is longer than what came in: it says more and counts as full. Else prove '..UptoSaid'. A law counts once. -/
mutual
def uptoBulk {H : Type} : DataW H → Nat
  | .lit (.string bytes) => bytes.length + 1
  | .lit _ => 1
  | .nil => 1
  | .ptr d => uptoBulk d + 1
  | .slice elems spare => uptoBulkAll elems + uptoBulkAll spare + 1
  | .agg parts => uptoBulkAll parts + 1
  | .iface _ d => uptoBulk d + 1
  | .map entries => uptoBulkEntries entries + 1
  | .held _ => 1
def uptoBulkAll {H : Type} : List (DataW H) → Nat
  | [] => 0
  | d :: r => uptoBulk d + uptoBulkAll r
def uptoBulkEntries {H : Type} : List (Lit × DataW H) → Nat
  | [] => 0
  | x :: r => uptoBulkEntry x + uptoBulkEntries r
def uptoBulkEntry {H : Type} : Lit × DataW H → Nat
  | (.string bytes, d) => bytes.length + uptoBulk d + 1
  | (_, d) => uptoBulk d + 1
 end
def uptoSmall : (H : Type) → List (DataW H) → Bool := fun _ ds => decide (uptoBulkAll ds ≤ 1048576)
def OpenSpec.upto (s : _root_.Go.ChangeSpec) : _root_.Go.OpenSpec := { _root_.Go.OpenSpec.ofChange s with cond := some uptoSmall }

/-- 'laws.FnExactAllPtrs', WHERE WHAT IT READS IS OF BULK AT MOST 1048576: true; the input reads as it did. -/
def fnExactAllPtrsUptoRow : OpenClaim := { program := "ytinbejnakemfjaa", sum := "56c5b5a6e7fbbfb512daed6da87fdd95f1d7884c481bb704de3c9de742f2db96", func := "loop.example/g00465/laws.FnExactAllPtrs", spec := "fnExactAllPtrs", recurses := true, loops := true, apart := false, narrowed := true }
def FnExactAllPtrsUptoSaid : Prop := fnExactAllPtrsUptoRow.holds Try.pinned (OpenSpec.upto fnExactAllPtrsSpec)

/-- 'laws.FnExactAtPtr', WHERE WHAT IT READS IS OF BULK AT MOST 1048576: true; the input reads as it did. -/
def fnExactAtPtrUptoRow : OpenClaim := { program := "ytinbejnakemfjaa", sum := "56c5b5a6e7fbbfb512daed6da87fdd95f1d7884c481bb704de3c9de742f2db96", func := "loop.example/g00465/laws.FnExactAtPtr", spec := "fnExactAtPtr", recurses := true, loops := true, apart := false, narrowed := true }
def FnExactAtPtrUptoSaid : Prop := fnExactAtPtrUptoRow.holds Try.pinned (OpenSpec.upto fnExactAtPtrSpec)

/-- 'laws.FnExactCutPtr', WHERE WHAT IT READS IS OF BULK AT MOST 1048576: true; the input reads as it did. -/
def fnExactCutPtrUptoRow : OpenClaim := { program := "ytinbejnakemfjaa", sum := "56c5b5a6e7fbbfb512daed6da87fdd95f1d7884c481bb704de3c9de742f2db96", func := "loop.example/g00465/laws.FnExactCutPtr", spec := "fnExactCutPtr", unfollowed := true, recurses := true, loops := true, apart := false, narrowed := true }
def FnExactCutPtrUptoSaid : Prop := fnExactCutPtrUptoRow.holds Try.pinned (OpenSpec.upto fnExactCutPtrSpec)

/-- 'laws.FnExactPutPtr', WHERE WHAT IT READS IS OF BULK AT MOST 1048576: true; the input reads as it did. -/
def fnExactPutPtrUptoRow : OpenClaim := { program := "ytinbejnakemfjaa", sum := "56c5b5a6e7fbbfb512daed6da87fdd95f1d7884c481bb704de3c9de742f2db96", func := "loop.example/g00465/laws.FnExactPutPtr", spec := "fnExactPutPtr", inPlace := ["slices.overlaps[string]", "slices.overlaps[loop.example/g00465/impl.Node]"], unfollowed := true, recurses := true, loops := true, apart := false, narrowed := true }
def FnExactPutPtrUptoSaid : Prop := fnExactPutPtrUptoRow.holds Try.pinned (OpenSpec.upto fnExactPutPtrSpec)

/-- 'laws.FnPutThere', WHERE WHAT IT READS IS OF BULK AT MOST 1048576: true; the input reads as it did. -/
def fnPutThereUptoRow : OpenClaim := { program := "ytinbejnakemfjaa", sum := "56c5b5a6e7fbbfb512daed6da87fdd95f1d7884c481bb704de3c9de742f2db96", func := "loop.example/g00465/laws.FnPutThere", spec := "fnPutThere", inPlace := ["slices.overlaps[string]", "slices.overlaps[loop.example/g00465/impl.Node]"], unfollowed := true, recurses := true, apart := false, narrowed := true }
def FnPutThereUptoSaid : Prop := fnPutThereUptoRow.holds Try.pinned (OpenSpec.upto fnPutThereSpec)

end Rows
end Go.Proofs.Ytinbejnakemfjaa

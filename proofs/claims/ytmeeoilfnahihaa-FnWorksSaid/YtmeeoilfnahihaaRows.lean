/-
  No cell of these rows narrows 'for every input' (looked for: loops, veiled, ifaces, maps, wideKeys, modest, calm, conditions, laid).
  DERIVED. THE GIVEN ROWS OF THIS SEAT. 8 by the template 'for every input the law returns true; each argument reads behind the call as it read before'; 0 by the template 'total and deterministic' (their statements: YtmeeoilfnahihaaTotals.lean).
  GIVEN WITH THE SEED: the statements are not yours to turn. If you find one false, say at which input.
  Laid BY PROGRAM, IN A SANDBOX (cutbox-rows.mjs): the forced cells as the released guide's own fill.sh prints them over the translation 91436be14a8928f2… (all of the seat's roots in one cut). By AI agents, Wed Nov 11 2026. No macro, syntax, notation, axiom, sorry.
-/
import Derived.Test.YtmeeoilfnahihaaChecked
import GoSem.Claim
import GoSem.ClaimJoined
import GoSem.ClaimMapViews
import Derived.JoinedTies
import Derived.KernelRfl
namespace Go.Proofs.Ytmeeoilfnahihaa
/- THE CELL 'sum', in the pinned program and in every row, IS THE sha256 OF THE DUMP (.gsa) THAT YtmeeoilfnahihaaProg.lean LOADS. Nothing in Lean hashes anything: it is a label: what it is worth is what the hold of that sum in a sandbox is worth. -/
noncomputable def Try.pinned : Pinned := { name := "ytmeeoilfnahihaa", sum := "91436be14a8928f2c21070af09b58b4d46226caed54e35a40e3c190440c49107", checked := Try.checked }
namespace Rows
def none {H : Type} : Left H := { results := [], args := [] }

/-- 'laws.FnExactWaitOf': WHATEVER THE INPUT: true; the input reads as it did. -/
def fnExactWaitOfSpec : ChangeSpec := { name := "fnExactWaitOf", fn := fun _ => fun
  | [d1, d2] => { results := [.lit (.bool true)], args := [d1, d2] }
  | _ => none }
def fnExactWaitOfRow : OpenClaim := { program := "ytmeeoilfnahihaa", sum := "91436be14a8928f2c21070af09b58b4d46226caed54e35a40e3c190440c49107", func := "loop.example/g00465/laws.FnExactWaitOf", spec := "fnExactWaitOf", unfollowed := true, recurses := true, apart := false }
def FnExactWaitOfSaid : Prop := fnExactWaitOfRow.holds Try.pinned (OpenSpec.ofChange fnExactWaitOfSpec)

/-- ITS FALSE NEIGHBOUR: 'it returns false'. Refute it at one input. -/
def fnExactWaitOfWrong : ChangeSpec := { name := "fnExactWaitOf", fn := fun _ => fun
  | [d1, d2] => { results := [.lit (.bool false)], args := [d1, d2] }
  | _ => none }
def FnExactWaitOfWrongFalsely : Prop := fnExactWaitOfRow.holds Try.pinned (OpenSpec.ofChange fnExactWaitOfWrong)

/-- 'laws.FnWaits': WHATEVER THE INPUT: true; the input reads as it did. -/
def fnWaitsSpec : ChangeSpec := { name := "fnWaits", fn := fun _ => fun
  | [d] => { results := [.lit (.bool true)], args := [d] }
  | _ => none }
def fnWaitsRow : OpenClaim := { program := "ytmeeoilfnahihaa", sum := "91436be14a8928f2c21070af09b58b4d46226caed54e35a40e3c190440c49107", func := "loop.example/g00465/laws.FnWaits", spec := "fnWaits", unfollowed := true, recurses := true, apart := false }
def FnWaitsSaid : Prop := fnWaitsRow.holds Try.pinned (OpenSpec.ofChange fnWaitsSpec)

/-- ITS FALSE NEIGHBOUR: 'it returns false'. Refute it at one input. -/
def fnWaitsWrong : ChangeSpec := { name := "fnWaits", fn := fun _ => fun
  | [d] => { results := [.lit (.bool false)], args := [d] }
  | _ => none }
def FnWaitsWrongFalsely : Prop := fnWaitsRow.holds Try.pinned (OpenSpec.ofChange fnWaitsWrong)

/-- 'laws.FnOneAtATime': WHATEVER THE INPUT: true; the input reads as it did. -/
def fnOneAtATimeSpec : ChangeSpec := { name := "fnOneAtATime", fn := fun _ => fun
  | [d] => { results := [.lit (.bool true)], args := [d] }
  | _ => none }
def fnOneAtATimeRow : OpenClaim := { program := "ytmeeoilfnahihaa", sum := "91436be14a8928f2c21070af09b58b4d46226caed54e35a40e3c190440c49107", func := "loop.example/g00465/laws.FnOneAtATime", spec := "fnOneAtATime", unfollowed := true, recurses := true, apart := false }
def FnOneAtATimeSaid : Prop := fnOneAtATimeRow.holds Try.pinned (OpenSpec.ofChange fnOneAtATimeSpec)

/-- ITS FALSE NEIGHBOUR: 'it returns false'. Refute it at one input. -/
def fnOneAtATimeWrong : ChangeSpec := { name := "fnOneAtATime", fn := fun _ => fun
  | [d] => { results := [.lit (.bool false)], args := [d] }
  | _ => none }
def FnOneAtATimeWrongFalsely : Prop := fnOneAtATimeRow.holds Try.pinned (OpenSpec.ofChange fnOneAtATimeWrong)

/-- 'laws.FnExactWorkQOk': WHATEVER THE INPUT: true; the input reads as it did. -/
def fnExactWorkQOkSpec : ChangeSpec := { name := "fnExactWorkQOk", fn := fun _ => fun
  | [d] => { results := [.lit (.bool true)], args := [d] }
  | _ => none }
def fnExactWorkQOkRow : OpenClaim := { program := "ytmeeoilfnahihaa", sum := "91436be14a8928f2c21070af09b58b4d46226caed54e35a40e3c190440c49107", func := "loop.example/g00465/laws.FnExactWorkQOk", spec := "fnExactWorkQOk", unfollowed := true, recurses := true, apart := false }
def FnExactWorkQOkSaid : Prop := fnExactWorkQOkRow.holds Try.pinned (OpenSpec.ofChange fnExactWorkQOkSpec)

/-- ITS FALSE NEIGHBOUR: 'it returns false'. Refute it at one input. -/
def fnExactWorkQOkWrong : ChangeSpec := { name := "fnExactWorkQOk", fn := fun _ => fun
  | [d] => { results := [.lit (.bool false)], args := [d] }
  | _ => none }
def FnExactWorkQOkWrongFalsely : Prop := fnExactWorkQOkRow.holds Try.pinned (OpenSpec.ofChange fnExactWorkQOkWrong)

/-- 'laws.FnExactWorkTake': WHATEVER THE INPUT: true; the input reads as it did. -/
def fnExactWorkTakeSpec : ChangeSpec := { name := "fnExactWorkTake", fn := fun _ => fun
  | [d] => { results := [.lit (.bool true)], args := [d] }
  | _ => none }
def fnExactWorkTakeRow : OpenClaim := { program := "ytmeeoilfnahihaa", sum := "91436be14a8928f2c21070af09b58b4d46226caed54e35a40e3c190440c49107", func := "loop.example/g00465/laws.FnExactWorkTake", spec := "fnExactWorkTake", unfollowed := true, recurses := true, apart := false }
def FnExactWorkTakeSaid : Prop := fnExactWorkTakeRow.holds Try.pinned (OpenSpec.ofChange fnExactWorkTakeSpec)

/-- ITS FALSE NEIGHBOUR: 'it returns false'. Refute it at one input. -/
def fnExactWorkTakeWrong : ChangeSpec := { name := "fnExactWorkTake", fn := fun _ => fun
  | [d] => { results := [.lit (.bool false)], args := [d] }
  | _ => none }
def FnExactWorkTakeWrongFalsely : Prop := fnExactWorkTakeRow.holds Try.pinned (OpenSpec.ofChange fnExactWorkTakeWrong)

/-- 'laws.FnExactWorkAdd': WHATEVER THE INPUT: true; the input reads as it did. -/
def fnExactWorkAddSpec : ChangeSpec := { name := "fnExactWorkAdd", fn := fun _ => fun
  | [d1, d2] => { results := [.lit (.bool true)], args := [d1, d2] }
  | _ => none }
def fnExactWorkAddRow : OpenClaim := { program := "ytmeeoilfnahihaa", sum := "91436be14a8928f2c21070af09b58b4d46226caed54e35a40e3c190440c49107", func := "loop.example/g00465/laws.FnExactWorkAdd", spec := "fnExactWorkAdd", unfollowed := true, recurses := true, apart := false }
def FnExactWorkAddSaid : Prop := fnExactWorkAddRow.holds Try.pinned (OpenSpec.ofChange fnExactWorkAddSpec)

/-- ITS FALSE NEIGHBOUR: 'it returns false'. Refute it at one input. -/
def fnExactWorkAddWrong : ChangeSpec := { name := "fnExactWorkAdd", fn := fun _ => fun
  | [d1, d2] => { results := [.lit (.bool false)], args := [d1, d2] }
  | _ => none }
def FnExactWorkAddWrongFalsely : Prop := fnExactWorkAddRow.holds Try.pinned (OpenSpec.ofChange fnExactWorkAddWrong)

/-- 'laws.FnWorks': WHATEVER THE INPUT: true; the input reads as it did. -/
def fnWorksSpec : ChangeSpec := { name := "fnWorks", fn := fun _ => fun
  | [d] => { results := [.lit (.bool true)], args := [d] }
  | _ => none }
def fnWorksRow : OpenClaim := { program := "ytmeeoilfnahihaa", sum := "91436be14a8928f2c21070af09b58b4d46226caed54e35a40e3c190440c49107", func := "loop.example/g00465/laws.FnWorks", spec := "fnWorks", unfollowed := true, recurses := true, apart := false }
def FnWorksSaid : Prop := fnWorksRow.holds Try.pinned (OpenSpec.ofChange fnWorksSpec)

/-- ITS FALSE NEIGHBOUR: 'it returns false'. Refute it at one input. -/
def fnWorksWrong : ChangeSpec := { name := "fnWorks", fn := fun _ => fun
  | [d] => { results := [.lit (.bool false)], args := [d] }
  | _ => none }
def FnWorksWrongFalsely : Prop := fnWorksRow.holds Try.pinned (OpenSpec.ofChange fnWorksWrong)

/-- 'laws.FnExactWorkDone': WHATEVER THE INPUT: true; the input reads as it did. -/
def fnExactWorkDoneSpec : ChangeSpec := { name := "fnExactWorkDone", fn := fun _ => fun
  | [d1, d2, d3] => { results := [.lit (.bool true)], args := [d1, d2, d3] }
  | _ => none }
def fnExactWorkDoneRow : OpenClaim := { program := "ytmeeoilfnahihaa", sum := "91436be14a8928f2c21070af09b58b4d46226caed54e35a40e3c190440c49107", func := "loop.example/g00465/laws.FnExactWorkDone", spec := "fnExactWorkDone", unfollowed := true, recurses := true, apart := false }
def FnExactWorkDoneSaid : Prop := fnExactWorkDoneRow.holds Try.pinned (OpenSpec.ofChange fnExactWorkDoneSpec)

/-- ITS FALSE NEIGHBOUR: 'it returns false'. Refute it at one input. -/
def fnExactWorkDoneWrong : ChangeSpec := { name := "fnExactWorkDone", fn := fun _ => fun
  | [d1, d2, d3] => { results := [.lit (.bool false)], args := [d1, d2, d3] }
  | _ => none }
def FnExactWorkDoneWrongFalsely : Prop := fnExactWorkDoneRow.holds Try.pinned (OpenSpec.ofChange fnExactWorkDoneWrong)

/- THE SECOND FORM. 'bulk': how many values and letters a reading holds, each counted each time it is reached (what is shared counts as often as it is met; a slice's spare places count too). A statement '..UptoSaid' is the law's where the arguments, and the package variables that the reading takes, are together of bulk at most 1048576: NARROWER than '..Said'. Prove '..Said' where nothing that the law and all that it calls make is longer than what came in: it says more and counts as full. Else prove '..UptoSaid'. A law counts once. -/
mutual
def uptoBulk {H : Type} : DataW H → Nat
  | .lit (.string bytes) => bytes.length + 1
  | .lit _ => 1
  | .nil => 1
  | .ptr d => uptoBulk d + 1
  | .slice elems spare => uptoBulkAll elems + uptoBulkAll spare + 1
  | .agg parts => uptoBulkAll parts + 1
  | .iface _ d => uptoBulk d + 1
  | .map entries => uptoBulkEntries entries + 1
  | .held _ => 1
def uptoBulkAll {H : Type} : List (DataW H) → Nat
  | [] => 0
  | d :: r => uptoBulk d + uptoBulkAll r
def uptoBulkEntries {H : Type} : List (Lit × DataW H) → Nat
  | [] => 0
  | x :: r => uptoBulkEntry x + uptoBulkEntries r
def uptoBulkEntry {H : Type} : Lit × DataW H → Nat
  | (.string bytes, d) => bytes.length + uptoBulk d + 1
  | (_, d) => uptoBulk d + 1
 end
def uptoSmall : (H : Type) → List (DataW H) → Bool := fun _ ds => decide (uptoBulkAll ds ≤ 1048576)
def OpenSpec.upto (s : _root_.Go.ChangeSpec) : _root_.Go.OpenSpec := { _root_.Go.OpenSpec.ofChange s with cond := some uptoSmall }

/-- 'laws.FnExactWaitOf', WHERE WHAT IT READS IS OF BULK AT MOST 1048576: true; the input reads as it did. -/
def fnExactWaitOfUptoRow : OpenClaim := { program := "ytmeeoilfnahihaa", sum := "91436be14a8928f2c21070af09b58b4d46226caed54e35a40e3c190440c49107", func := "loop.example/g00465/laws.FnExactWaitOf", spec := "fnExactWaitOf", unfollowed := true, recurses := true, apart := false, narrowed := true }
def FnExactWaitOfUptoSaid : Prop := fnExactWaitOfUptoRow.holds Try.pinned (OpenSpec.upto fnExactWaitOfSpec)

/-- 'laws.FnWaits', WHERE WHAT IT READS IS OF BULK AT MOST 1048576: true; the input reads as it did. -/
def fnWaitsUptoRow : OpenClaim := { program := "ytmeeoilfnahihaa", sum := "91436be14a8928f2c21070af09b58b4d46226caed54e35a40e3c190440c49107", func := "loop.example/g00465/laws.FnWaits", spec := "fnWaits", unfollowed := true, recurses := true, apart := false, narrowed := true }
def FnWaitsUptoSaid : Prop := fnWaitsUptoRow.holds Try.pinned (OpenSpec.upto fnWaitsSpec)

/-- 'laws.FnOneAtATime', WHERE WHAT IT READS IS OF BULK AT MOST 1048576: true; the input reads as it did. -/
def fnOneAtATimeUptoRow : OpenClaim := { program := "ytmeeoilfnahihaa", sum := "91436be14a8928f2c21070af09b58b4d46226caed54e35a40e3c190440c49107", func := "loop.example/g00465/laws.FnOneAtATime", spec := "fnOneAtATime", unfollowed := true, recurses := true, apart := false, narrowed := true }
def FnOneAtATimeUptoSaid : Prop := fnOneAtATimeUptoRow.holds Try.pinned (OpenSpec.upto fnOneAtATimeSpec)

/-- 'laws.FnExactWorkQOk', WHERE WHAT IT READS IS OF BULK AT MOST 1048576: true; the input reads as it did. -/
def fnExactWorkQOkUptoRow : OpenClaim := { program := "ytmeeoilfnahihaa", sum := "91436be14a8928f2c21070af09b58b4d46226caed54e35a40e3c190440c49107", func := "loop.example/g00465/laws.FnExactWorkQOk", spec := "fnExactWorkQOk", unfollowed := true, recurses := true, apart := false, narrowed := true }
def FnExactWorkQOkUptoSaid : Prop := fnExactWorkQOkUptoRow.holds Try.pinned (OpenSpec.upto fnExactWorkQOkSpec)

/-- 'laws.FnExactWorkTake', WHERE WHAT IT READS IS OF BULK AT MOST 1048576: true; the input reads as it did. -/
def fnExactWorkTakeUptoRow : OpenClaim := { program := "ytmeeoilfnahihaa", sum := "91436be14a8928f2c21070af09b58b4d46226caed54e35a40e3c190440c49107", func := "loop.example/g00465/laws.FnExactWorkTake", spec := "fnExactWorkTake", unfollowed := true, recurses := true, apart := false, narrowed := true }
def FnExactWorkTakeUptoSaid : Prop := fnExactWorkTakeUptoRow.holds Try.pinned (OpenSpec.upto fnExactWorkTakeSpec)

/-- 'laws.FnExactWorkAdd', WHERE WHAT IT READS IS OF BULK AT MOST 1048576: true; the input reads as it did. -/
def fnExactWorkAddUptoRow : OpenClaim := { program := "ytmeeoilfnahihaa", sum := "91436be14a8928f2c21070af09b58b4d46226caed54e35a40e3c190440c49107", func := "loop.example/g00465/laws.FnExactWorkAdd", spec := "fnExactWorkAdd", unfollowed := true, recurses := true, apart := false, narrowed := true }
def FnExactWorkAddUptoSaid : Prop := fnExactWorkAddUptoRow.holds Try.pinned (OpenSpec.upto fnExactWorkAddSpec)

/-- 'laws.FnWorks', WHERE WHAT IT READS IS OF BULK AT MOST 1048576: true; the input reads as it did. -/
def fnWorksUptoRow : OpenClaim := { program := "ytmeeoilfnahihaa", sum := "91436be14a8928f2c21070af09b58b4d46226caed54e35a40e3c190440c49107", func := "loop.example/g00465/laws.FnWorks", spec := "fnWorks", unfollowed := true, recurses := true, apart := false, narrowed := true }
def FnWorksUptoSaid : Prop := fnWorksUptoRow.holds Try.pinned (OpenSpec.upto fnWorksSpec)

/-- 'laws.FnExactWorkDone', WHERE WHAT IT READS IS OF BULK AT MOST 1048576: true; the input reads as it did. -/
def fnExactWorkDoneUptoRow : OpenClaim := { program := "ytmeeoilfnahihaa", sum := "91436be14a8928f2c21070af09b58b4d46226caed54e35a40e3c190440c49107", func := "loop.example/g00465/laws.FnExactWorkDone", spec := "fnExactWorkDone", unfollowed := true, recurses := true, apart := false, narrowed := true }
def FnExactWorkDoneUptoSaid : Prop := fnExactWorkDoneUptoRow.holds Try.pinned (OpenSpec.upto fnExactWorkDoneSpec)

end Rows
end Go.Proofs.Ytmeeoilfnahihaa

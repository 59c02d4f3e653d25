/-
  DERIVED. GIVEN WITH THE SEED: THE CARDS: each row of YtinbejnakemfjaaDoorRows.lean that lists a variable, with what it lists TIED to the program's text (the seventh form; the later family's looks); each row that meets fmt, with fmt's text TOLD by the authors' own Lean function (tested against real Go, not proved from fmt's source: count such statements apart). THE CARD IS WHAT COUNTS. Prove the row's statement (the work); the ties are given (YtinbejnakemfjaaDoorTie.lean); close each card by the builder's one call (the guide's Derived/Test/ToyasCard.lean, 'card_holds'). Laid BY PROGRAM, IN A SANDBOX (cutbox-door.mjs). By AI agents, Wed Nov 11 2026. No macro, syntax, notation, axiom, sorry.
-/
import Derived.Test.YtinbejnakemfjaaDoorRows
import GoSem.ClaimSeven
namespace Go.Proofs.YtinbejnakemfjaaDoor
namespace Rows

/-- THE TIED CARD OF 'laws.FnExactPtrText'. -/
def fnExactPtrTextCard : Claim7 := { stood := { row := fnExactPtrTextRow, standIns := [], harness := (true, "ba54902c40157a84a1f30121caf6e60eccfeb03c9c5c0256848b2754a350f937"), looks := false }, kinds := [], alts := [], laidByText := true, laidKinds := [.data, .pinned], laidTests := true, laidLooks := .later }
def FnExactPtrTextCardSaid : Prop := Claim7.holds Tryd.pinned (.plain (OpenSpec.ofChange fnExactPtrTextSpec)) fnExactPtrTextCard

/-- THE TIED CARD OF 'laws.FnExactPtrOf'. -/
def fnExactPtrOfCard : Claim7 := { stood := { row := fnExactPtrOfRow, standIns := [], harness := (true, "ba54902c40157a84a1f30121caf6e60eccfeb03c9c5c0256848b2754a350f937"), looks := false }, kinds := [], alts := [], laidByText := true, laidKinds := [.data, .pinned], laidTests := true, laidLooks := .later }
def FnExactPtrOfCardSaid : Prop := Claim7.holds Tryd.pinned (.plain (OpenSpec.ofChange fnExactPtrOfSpec)) fnExactPtrOfCard

/-- THE TIED CARD OF 'laws.FnPtrs'. -/
def fnPtrsCard : Claim7 := { stood := { row := fnPtrsRow, standIns := [], harness := (true, "ba54902c40157a84a1f30121caf6e60eccfeb03c9c5c0256848b2754a350f937"), looks := false }, kinds := [], alts := [], laidByText := true, laidKinds := [.data, .pinned], laidTests := true, laidLooks := .later }
def FnPtrsCardSaid : Prop := Claim7.holds Tryd.pinned (.plain (OpenSpec.ofChange fnPtrsSpec)) fnPtrsCard

/-- THE SECOND FORM's CARD OF 'laws.FnExactPtrText'. -/
def fnExactPtrTextUptoCard : Claim7 := { stood := { row := fnExactPtrTextUptoRow, standIns := [], harness := (true, "ba54902c40157a84a1f30121caf6e60eccfeb03c9c5c0256848b2754a350f937"), looks := false }, kinds := [], alts := [], laidByText := true, laidKinds := [.data, .pinned], laidTests := true, laidLooks := .later }
def FnExactPtrTextUptoCardSaid : Prop := Claim7.holds Tryd.pinned (.plain (OpenSpec.upto fnExactPtrTextSpec)) fnExactPtrTextUptoCard

/-- THE SECOND FORM's CARD OF 'laws.FnExactPtrOf'. -/
def fnExactPtrOfUptoCard : Claim7 := { stood := { row := fnExactPtrOfUptoRow, standIns := [], harness := (true, "ba54902c40157a84a1f30121caf6e60eccfeb03c9c5c0256848b2754a350f937"), looks := false }, kinds := [], alts := [], laidByText := true, laidKinds := [.data, .pinned], laidTests := true, laidLooks := .later }
def FnExactPtrOfUptoCardSaid : Prop := Claim7.holds Tryd.pinned (.plain (OpenSpec.upto fnExactPtrOfSpec)) fnExactPtrOfUptoCard

/-- THE SECOND FORM's CARD OF 'laws.FnPtrs'. -/
def fnPtrsUptoCard : Claim7 := { stood := { row := fnPtrsUptoRow, standIns := [], harness := (true, "ba54902c40157a84a1f30121caf6e60eccfeb03c9c5c0256848b2754a350f937"), looks := false }, kinds := [], alts := [], laidByText := true, laidKinds := [.data, .pinned], laidTests := true, laidLooks := .later }
def FnPtrsUptoCardSaid : Prop := Claim7.holds Tryd.pinned (.plain (OpenSpec.upto fnPtrsSpec)) fnPtrsUptoCard
end Rows
end Go.Proofs.YtinbejnakemfjaaDoor

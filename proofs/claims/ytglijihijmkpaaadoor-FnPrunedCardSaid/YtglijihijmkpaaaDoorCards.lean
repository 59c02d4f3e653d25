/-
  DERIVED. GIVEN WITH THE SEED: THE CARDS: each row of YtglijihijmkpaaaDoorRows.lean that lists a variable, with what it lists TIED to the program's text (the seventh form; the later family's looks); each row that meets fmt, with fmt's text TOLD by the authors' own Lean function (tested against real Go, not proved from fmt's source: count such statements apart). THE CARD IS WHAT COUNTS. Prove the row's statement (the work); the ties are given (YtglijihijmkpaaaDoorTie.lean); close each card by the builder's one call (the guide's Derived/Test/ToyasCard.lean, 'card_holds'). Laid BY PROGRAM, IN A SANDBOX (cutbox-door.mjs). By AI agents, Wed Nov 11 2026. No macro, syntax, notation, axiom, sorry.
-/
import Derived.Test.YtglijihijmkpaaaDoorRows
import GoSem.ClaimSeven
namespace Go.Proofs.YtglijihijmkpaaaDoor
namespace Rows

/-- THE TIED CARD OF 'laws.FnExactConform'. -/
def fnExactConformCard : Claim7 := { stood := { row := fnExactConformRow, standIns := [], harness := (true, "ea024d1eb4909b104bfa6094b4b9c059200d800f3c7d23506bda4f7155e256c2"), looks := false }, kinds := [], alts := [], laidByText := true, laidKinds := [.data, .pinned], laidTests := true, laidLooks := .later }
def FnExactConformCardSaid : Prop := Claim7.holds Tryd.pinned (.plain (OpenSpec.ofChange fnExactConformSpec)) fnExactConformCard

/-- THE TIED CARD OF 'laws.FnPruned'. -/
def fnPrunedCard : Claim7 := { stood := { row := fnPrunedRow, standIns := [], harness := (true, "ea024d1eb4909b104bfa6094b4b9c059200d800f3c7d23506bda4f7155e256c2"), looks := false }, kinds := [], alts := [], laidByText := true, laidKinds := [.data, .pinned], laidTests := true, laidLooks := .later }
def FnPrunedCardSaid : Prop := Claim7.holds Tryd.pinned (.plain (OpenSpec.ofChange fnPrunedSpec)) fnPrunedCard

/-- THE TIED CARD OF 'laws.FnRules'. -/
def fnRulesCard : Claim7 := { stood := { row := fnRulesRow, standIns := [], harness := (true, "ea024d1eb4909b104bfa6094b4b9c059200d800f3c7d23506bda4f7155e256c2"), looks := false }, kinds := [], alts := [], laidByText := true, laidKinds := [.data, .pinned], laidTests := true, laidLooks := .later }
def FnRulesCardSaid : Prop := Claim7.holds Tryd.pinned (.plain (OpenSpec.ofChange fnRulesSpec)) fnRulesCard

/-- THE SECOND FORM's CARD OF 'laws.FnExactConform'. -/
def fnExactConformUptoCard : Claim7 := { stood := { row := fnExactConformUptoRow, standIns := [], harness := (true, "ea024d1eb4909b104bfa6094b4b9c059200d800f3c7d23506bda4f7155e256c2"), looks := false }, kinds := [], alts := [], laidByText := true, laidKinds := [.data, .pinned], laidTests := true, laidLooks := .later }
def FnExactConformUptoCardSaid : Prop := Claim7.holds Tryd.pinned (.plain (OpenSpec.upto fnExactConformSpec)) fnExactConformUptoCard

/-- THE SECOND FORM's CARD OF 'laws.FnPruned'. -/
def fnPrunedUptoCard : Claim7 := { stood := { row := fnPrunedUptoRow, standIns := [], harness := (true, "ea024d1eb4909b104bfa6094b4b9c059200d800f3c7d23506bda4f7155e256c2"), looks := false }, kinds := [], alts := [], laidByText := true, laidKinds := [.data, .pinned], laidTests := true, laidLooks := .later }
def FnPrunedUptoCardSaid : Prop := Claim7.holds Tryd.pinned (.plain (OpenSpec.upto fnPrunedSpec)) fnPrunedUptoCard

/-- THE SECOND FORM's CARD OF 'laws.FnRules'. -/
def fnRulesUptoCard : Claim7 := { stood := { row := fnRulesUptoRow, standIns := [], harness := (true, "ea024d1eb4909b104bfa6094b4b9c059200d800f3c7d23506bda4f7155e256c2"), looks := false }, kinds := [], alts := [], laidByText := true, laidKinds := [.data, .pinned], laidTests := true, laidLooks := .later }
def FnRulesUptoCardSaid : Prop := Claim7.holds Tryd.pinned (.plain (OpenSpec.upto fnRulesSpec)) fnRulesUptoCard
end Rows
end Go.Proofs.YtglijihijmkpaaaDoor

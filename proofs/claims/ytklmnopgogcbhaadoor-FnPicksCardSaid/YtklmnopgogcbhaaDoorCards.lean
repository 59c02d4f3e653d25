/-
  DERIVED. GIVEN WITH THE SEED: THE CARDS: each row of YtklmnopgogcbhaaDoorRows.lean that lists a variable, with what it lists TIED to the program's text (the seventh form; the later family's looks); each row that meets fmt, with fmt's text TOLD by the authors' own Lean function (tested against real Go, not proved from fmt's source: count such statements apart). THE CARD IS WHAT COUNTS. Prove the row's statement (the work); the ties are given (YtklmnopgogcbhaaDoorTie.lean); close each card by the builder's one call (the guide's Derived/Test/ToyasCard.lean, 'card_holds'). Laid BY PROGRAM, IN A SANDBOX (cutbox-door.mjs). By AI agents, Wed Nov 11 2026. No macro, syntax, notation, axiom, sorry.
-/
import Derived.Test.YtklmnopgogcbhaaDoorRows
import GoSem.ClaimSeven
namespace Go.Proofs.YtklmnopgogcbhaaDoor
namespace Rows

/-- THE TIED CARD OF 'laws.FnExactPickOf'. -/
def fnExactPickOfCard : Claim7 := { stood := { row := fnExactPickOfRow, standIns := [], harness := (true, "92e71baf64c936a6d1c598fdef355f49f59c7d26fff0b9bba2b7780be5c6ed61"), looks := false }, kinds := [], alts := [], laidByText := true, laidKinds := [.data, .pinned], laidTests := true, laidLooks := .later }
def FnExactPickOfCardSaid : Prop := Claim7.holds Tryd.pinned (.plain (OpenSpec.ofChange fnExactPickOfSpec)) fnExactPickOfCard

/-- THE TIED CARD OF 'laws.FnPicks'. -/
def fnPicksCard : Claim7 := { stood := { row := fnPicksRow, standIns := [], harness := (true, "92e71baf64c936a6d1c598fdef355f49f59c7d26fff0b9bba2b7780be5c6ed61"), looks := false }, kinds := [], alts := [], laidByText := true, laidKinds := [.data, .pinned], laidTests := true, laidLooks := .later }
def FnPicksCardSaid : Prop := Claim7.holds Tryd.pinned (.plain (OpenSpec.ofChange fnPicksSpec)) fnPicksCard

/-- THE SECOND FORM's CARD OF 'laws.FnExactPickOf'. -/
def fnExactPickOfUptoCard : Claim7 := { stood := { row := fnExactPickOfUptoRow, standIns := [], harness := (true, "92e71baf64c936a6d1c598fdef355f49f59c7d26fff0b9bba2b7780be5c6ed61"), looks := false }, kinds := [], alts := [], laidByText := true, laidKinds := [.data, .pinned], laidTests := true, laidLooks := .later }
def FnExactPickOfUptoCardSaid : Prop := Claim7.holds Tryd.pinned (.plain (OpenSpec.upto fnExactPickOfSpec)) fnExactPickOfUptoCard

/-- THE SECOND FORM's CARD OF 'laws.FnPicks'. -/
def fnPicksUptoCard : Claim7 := { stood := { row := fnPicksUptoRow, standIns := [], harness := (true, "92e71baf64c936a6d1c598fdef355f49f59c7d26fff0b9bba2b7780be5c6ed61"), looks := false }, kinds := [], alts := [], laidByText := true, laidKinds := [.data, .pinned], laidTests := true, laidLooks := .later }
def FnPicksUptoCardSaid : Prop := Claim7.holds Tryd.pinned (.plain (OpenSpec.upto fnPicksSpec)) fnPicksUptoCard
end Rows
end Go.Proofs.YtklmnopgogcbhaaDoor

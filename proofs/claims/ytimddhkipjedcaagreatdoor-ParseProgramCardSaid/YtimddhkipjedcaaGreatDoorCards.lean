/-
  DERIVED. GIVEN WITH THE SEED: THE CARDS: each row of YtimddhkipjedcaaGreatDoorRows.lean that lists a variable, with what it lists TIED to the program's text (the seventh form; the later family's looks); each row that meets fmt, with fmt's text TOLD by the authors' own Lean function (tested against real Go, not proved from fmt's source: count such statements apart). THE CARD IS WHAT COUNTS. Prove the row's statement (the work); the ties are given (YtimddhkipjedcaaGreatDoorTie.lean); close each card by the builder's one call (the guide's Derived/Test/ToyasCard.lean, 'card_holds'). Laid BY PROGRAM, IN A SANDBOX (cutbox-door.mjs). By AI agents, Wed Nov 11 2026. No macro, syntax, notation, axiom, sorry.
-/
import Derived.Test.YtimddhkipjedcaaGreatDoorRows
import GoSem.ClaimSeven
namespace Go.Proofs.YtimddhkipjedcaaGreatDoor
namespace Rows

/-- THE TIED CARD OF 'armaturelaw55.ParseProgram'. -/
def parseProgramCard : Claim7 := { stood := { row := parseProgramRow, standIns := [], harness := (true, "70cbe4a2c2bc7add123adffe8ec1d7e5a51e883f571649bcbb5803503967bfaf"), looks := true }, kinds := [], alts := [], laidByText := true, laidKinds := [.data, .data, .data, .data, .sentinel, .sentinel, .widerDeep, .pinned], laidTests := true, laidLooks := .later }
def ParseProgramCardSaid : Prop := Claim7.holds Tryz.pinned (.plain (OpenSpec.ofChange parseProgramSpec)) parseProgramCard

/-- THE TIED CARD OF 'armaturelaw55.ParseExpr'. -/
def parseExprCard : Claim7 := { stood := { row := parseExprRow, standIns := [], harness := (true, "70cbe4a2c2bc7add123adffe8ec1d7e5a51e883f571649bcbb5803503967bfaf"), looks := true }, kinds := [], alts := [], laidByText := true, laidKinds := [.data, .data, .data, .data, .sentinel, .sentinel, .widerDeep, .pinned], laidTests := true, laidLooks := .later }
def ParseExprCardSaid : Prop := Claim7.holds Tryz.pinned (.plain (OpenSpec.ofChange parseExprSpec)) parseExprCard

/-- THE TIED CARD OF 'armaturelaw55.ParseRoundTrip'. -/
def parseRoundTripCard : Claim7 := { stood := { row := parseRoundTripRow, standIns := [], harness := (true, "70cbe4a2c2bc7add123adffe8ec1d7e5a51e883f571649bcbb5803503967bfaf"), looks := true }, kinds := [], alts := [], laidByText := true, laidKinds := [.data, .data, .data, .data, .sentinel, .sentinel, .widerDeep, .pinned], laidTests := true, laidLooks := .later }
def ParseRoundTripCardSaid : Prop := Claim7.holds Tryz.pinned (.plain (OpenSpec.ofChange parseRoundTripSpec)) parseRoundTripCard

/-- THE TIED CARD OF 'armaturelaw55.ParseCanonical'. -/
def parseCanonicalCard : Claim7 := { stood := { row := parseCanonicalRow, standIns := [], harness := (true, "70cbe4a2c2bc7add123adffe8ec1d7e5a51e883f571649bcbb5803503967bfaf"), looks := true }, kinds := [], alts := [], laidByText := true, laidKinds := [.data, .data, .data, .data, .sentinel, .sentinel, .widerDeep, .pinned], laidTests := true, laidLooks := .later }
def ParseCanonicalCardSaid : Prop := Claim7.holds Tryz.pinned (.plain (OpenSpec.ofChange parseCanonicalSpec)) parseCanonicalCard

/-- THE TIED CARD OF 'armaturelaw55.ParseTokens'. -/
def parseTokensCard : Claim7 := { stood := { row := parseTokensRow, standIns := [], harness := (true, "70cbe4a2c2bc7add123adffe8ec1d7e5a51e883f571649bcbb5803503967bfaf"), looks := true }, kinds := [], alts := [], laidByText := true, laidKinds := [.data, .data, .data, .data, .sentinel, .sentinel, .widerDeep, .pinned], laidTests := true, laidLooks := .later }
def ParseTokensCardSaid : Prop := Claim7.holds Tryz.pinned (.plain (OpenSpec.ofChange parseTokensSpec)) parseTokensCard

/-- THE TIED CARD OF 'armaturelaw55.ParseFirstError'. -/
def parseFirstErrorCard : Claim7 := { stood := { row := parseFirstErrorRow, standIns := [], harness := (true, "70cbe4a2c2bc7add123adffe8ec1d7e5a51e883f571649bcbb5803503967bfaf"), looks := true }, kinds := [], alts := [], laidByText := true, laidKinds := [.data, .data, .data, .data, .sentinel, .sentinel, .widerDeep, .pinned], laidTests := true, laidLooks := .later }
def ParseFirstErrorCardSaid : Prop := Claim7.holds Tryz.pinned (.plain (OpenSpec.ofChange parseFirstErrorSpec)) parseFirstErrorCard

/-- THE SECOND FORM's CARD OF 'armaturelaw55.ParseProgram'. -/
def parseProgramUptoCard : Claim7 := { stood := { row := parseProgramUptoRow, standIns := [], harness := (true, "70cbe4a2c2bc7add123adffe8ec1d7e5a51e883f571649bcbb5803503967bfaf"), looks := true }, kinds := [], alts := [], laidByText := true, laidKinds := [.data, .data, .data, .data, .sentinel, .sentinel, .widerDeep, .pinned], laidTests := true, laidLooks := .later }
def ParseProgramUptoCardSaid : Prop := Claim7.holds Tryz.pinned (.plain (OpenSpec.upto parseProgramSpec)) parseProgramUptoCard

/-- THE SECOND FORM's CARD OF 'armaturelaw55.ParseExpr'. -/
def parseExprUptoCard : Claim7 := { stood := { row := parseExprUptoRow, standIns := [], harness := (true, "70cbe4a2c2bc7add123adffe8ec1d7e5a51e883f571649bcbb5803503967bfaf"), looks := true }, kinds := [], alts := [], laidByText := true, laidKinds := [.data, .data, .data, .data, .sentinel, .sentinel, .widerDeep, .pinned], laidTests := true, laidLooks := .later }
def ParseExprUptoCardSaid : Prop := Claim7.holds Tryz.pinned (.plain (OpenSpec.upto parseExprSpec)) parseExprUptoCard

/-- THE SECOND FORM's CARD OF 'armaturelaw55.ParseRoundTrip'. -/
def parseRoundTripUptoCard : Claim7 := { stood := { row := parseRoundTripUptoRow, standIns := [], harness := (true, "70cbe4a2c2bc7add123adffe8ec1d7e5a51e883f571649bcbb5803503967bfaf"), looks := true }, kinds := [], alts := [], laidByText := true, laidKinds := [.data, .data, .data, .data, .sentinel, .sentinel, .widerDeep, .pinned], laidTests := true, laidLooks := .later }
def ParseRoundTripUptoCardSaid : Prop := Claim7.holds Tryz.pinned (.plain (OpenSpec.upto parseRoundTripSpec)) parseRoundTripUptoCard

/-- THE SECOND FORM's CARD OF 'armaturelaw55.ParseCanonical'. -/
def parseCanonicalUptoCard : Claim7 := { stood := { row := parseCanonicalUptoRow, standIns := [], harness := (true, "70cbe4a2c2bc7add123adffe8ec1d7e5a51e883f571649bcbb5803503967bfaf"), looks := true }, kinds := [], alts := [], laidByText := true, laidKinds := [.data, .data, .data, .data, .sentinel, .sentinel, .widerDeep, .pinned], laidTests := true, laidLooks := .later }
def ParseCanonicalUptoCardSaid : Prop := Claim7.holds Tryz.pinned (.plain (OpenSpec.upto parseCanonicalSpec)) parseCanonicalUptoCard

/-- THE SECOND FORM's CARD OF 'armaturelaw55.ParseTokens'. -/
def parseTokensUptoCard : Claim7 := { stood := { row := parseTokensUptoRow, standIns := [], harness := (true, "70cbe4a2c2bc7add123adffe8ec1d7e5a51e883f571649bcbb5803503967bfaf"), looks := true }, kinds := [], alts := [], laidByText := true, laidKinds := [.data, .data, .data, .data, .sentinel, .sentinel, .widerDeep, .pinned], laidTests := true, laidLooks := .later }
def ParseTokensUptoCardSaid : Prop := Claim7.holds Tryz.pinned (.plain (OpenSpec.upto parseTokensSpec)) parseTokensUptoCard

/-- THE SECOND FORM's CARD OF 'armaturelaw55.ParseFirstError'. -/
def parseFirstErrorUptoCard : Claim7 := { stood := { row := parseFirstErrorUptoRow, standIns := [], harness := (true, "70cbe4a2c2bc7add123adffe8ec1d7e5a51e883f571649bcbb5803503967bfaf"), looks := true }, kinds := [], alts := [], laidByText := true, laidKinds := [.data, .data, .data, .data, .sentinel, .sentinel, .widerDeep, .pinned], laidTests := true, laidLooks := .later }
def ParseFirstErrorUptoCardSaid : Prop := Claim7.holds Tryz.pinned (.plain (OpenSpec.upto parseFirstErrorSpec)) parseFirstErrorUptoCard
end Rows
end Go.Proofs.YtimddhkipjedcaaGreatDoor

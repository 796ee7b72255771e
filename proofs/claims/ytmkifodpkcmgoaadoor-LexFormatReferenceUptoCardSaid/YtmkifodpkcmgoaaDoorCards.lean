/-
  DERIVED. GIVEN WITH THE SEED: THE CARDS: each row of YtmkifodpkcmgoaaDoorRows.lean that lists a variable, with what it lists TIED to the program's text (the seventh form; the later family's looks); each row that meets fmt, with fmt's text TOLD by the authors' own Lean function (tested against real Go, not proved from fmt's source: count such statements apart). THE CARD IS WHAT COUNTS. Prove the row's statement (the work); the ties are given (YtmkifodpkcmgoaaDoorTie.lean); close each card by the builder's one call (the guide's Derived/Test/ToyasCard.lean, 'card_holds'). Laid BY PROGRAM, IN A SANDBOX (cutbox-door.mjs). By AI agents, Wed Nov 11 2026. No macro, syntax, notation, axiom, sorry.
-/
import Derived.Test.YtmkifodpkcmgoaaDoorRows
import GoSem.ClaimSeven
namespace Go.Proofs.YtmkifodpkcmgoaaDoor
namespace Rows

/-- THE TIED CARD OF 'armaturelaw53.LexTokenizeReference'. -/
def lexTokenizeReferenceCard : Claim7 := { stood := { row := lexTokenizeReferenceRow, standIns := [], harness := (true, "9c5817708c0938cec988683cb7f3482569d79a81dd119230ab5cbe26d930a2f6"), looks := true }, kinds := [], alts := [], laidByText := true, laidKinds := [.data, .data, .data, .data, .sentinel, .sentinel, .pinned], laidTests := true, laidLooks := .later }
def LexTokenizeReferenceCardSaid : Prop := Claim7.holds Tryd.pinned (.plain (OpenSpec.ofChange lexTokenizeReferenceSpec)) lexTokenizeReferenceCard

/-- THE TIED CARD OF 'armaturelaw53.LexJoinRoundTrip'. -/
def lexJoinRoundTripCard : Claim7 := { stood := { row := lexJoinRoundTripRow, standIns := [], harness := (true, "9c5817708c0938cec988683cb7f3482569d79a81dd119230ab5cbe26d930a2f6"), looks := true }, kinds := [], alts := [], laidByText := true, laidKinds := [.data, .data, .data, .data, .sentinel, .sentinel, .pinned], laidTests := true, laidLooks := .later }
def LexJoinRoundTripCardSaid : Prop := Claim7.holds Tryd.pinned (.plain (OpenSpec.ofChange lexJoinRoundTripSpec)) lexJoinRoundTripCard

/-- THE TIED CARD OF 'armaturelaw53.LexOffsets'. -/
def lexOffsetsCard : Claim7 := { stood := { row := lexOffsetsRow, standIns := [], harness := (true, "9c5817708c0938cec988683cb7f3482569d79a81dd119230ab5cbe26d930a2f6"), looks := true }, kinds := [], alts := [], laidByText := true, laidKinds := [.data, .data, .data, .data, .sentinel, .sentinel, .pinned], laidTests := true, laidLooks := .later }
def LexOffsetsCardSaid : Prop := Claim7.holds Tryd.pinned (.plain (OpenSpec.ofChange lexOffsetsSpec)) lexOffsetsCard

/-- THE TIED CARD OF 'armaturelaw53.LexIgnoresComments'. -/
def lexIgnoresCommentsCard : Claim7 := { stood := { row := lexIgnoresCommentsRow, standIns := [], harness := (true, "9c5817708c0938cec988683cb7f3482569d79a81dd119230ab5cbe26d930a2f6"), looks := true }, kinds := [], alts := [], laidByText := true, laidKinds := [.data, .data, .data, .data, .sentinel, .sentinel, .pinned], laidTests := true, laidLooks := .later }
def LexIgnoresCommentsCardSaid : Prop := Claim7.holds Tryd.pinned (.plain (OpenSpec.ofChange lexIgnoresCommentsSpec)) lexIgnoresCommentsCard

/-- THE TIED CARD OF 'armaturelaw53.LexFormatReference'. -/
def lexFormatReferenceCard : Claim7 := { stood := { row := lexFormatReferenceRow, standIns := [], harness := (true, "9c5817708c0938cec988683cb7f3482569d79a81dd119230ab5cbe26d930a2f6"), looks := true }, kinds := [], alts := [], laidByText := true, laidKinds := [.data, .data, .data, .data, .sentinel, .sentinel, .pinned], laidTests := true, laidLooks := .later }
def LexFormatReferenceCardSaid : Prop := Claim7.holds Tryd.pinned (.plain (OpenSpec.ofChange lexFormatReferenceSpec)) lexFormatReferenceCard

/-- THE SECOND FORM's CARD OF 'armaturelaw53.LexTokenizeReference'. -/
def lexTokenizeReferenceUptoCard : Claim7 := { stood := { row := lexTokenizeReferenceUptoRow, standIns := [], harness := (true, "9c5817708c0938cec988683cb7f3482569d79a81dd119230ab5cbe26d930a2f6"), looks := true }, kinds := [], alts := [], laidByText := true, laidKinds := [.data, .data, .data, .data, .sentinel, .sentinel, .pinned], laidTests := true, laidLooks := .later }
def LexTokenizeReferenceUptoCardSaid : Prop := Claim7.holds Tryd.pinned (.plain (OpenSpec.upto lexTokenizeReferenceSpec)) lexTokenizeReferenceUptoCard

/-- THE SECOND FORM's CARD OF 'armaturelaw53.LexJoinRoundTrip'. -/
def lexJoinRoundTripUptoCard : Claim7 := { stood := { row := lexJoinRoundTripUptoRow, standIns := [], harness := (true, "9c5817708c0938cec988683cb7f3482569d79a81dd119230ab5cbe26d930a2f6"), looks := true }, kinds := [], alts := [], laidByText := true, laidKinds := [.data, .data, .data, .data, .sentinel, .sentinel, .pinned], laidTests := true, laidLooks := .later }
def LexJoinRoundTripUptoCardSaid : Prop := Claim7.holds Tryd.pinned (.plain (OpenSpec.upto lexJoinRoundTripSpec)) lexJoinRoundTripUptoCard

/-- THE SECOND FORM's CARD OF 'armaturelaw53.LexOffsets'. -/
def lexOffsetsUptoCard : Claim7 := { stood := { row := lexOffsetsUptoRow, standIns := [], harness := (true, "9c5817708c0938cec988683cb7f3482569d79a81dd119230ab5cbe26d930a2f6"), looks := true }, kinds := [], alts := [], laidByText := true, laidKinds := [.data, .data, .data, .data, .sentinel, .sentinel, .pinned], laidTests := true, laidLooks := .later }
def LexOffsetsUptoCardSaid : Prop := Claim7.holds Tryd.pinned (.plain (OpenSpec.upto lexOffsetsSpec)) lexOffsetsUptoCard

/-- THE SECOND FORM's CARD OF 'armaturelaw53.LexIgnoresComments'. -/
def lexIgnoresCommentsUptoCard : Claim7 := { stood := { row := lexIgnoresCommentsUptoRow, standIns := [], harness := (true, "9c5817708c0938cec988683cb7f3482569d79a81dd119230ab5cbe26d930a2f6"), looks := true }, kinds := [], alts := [], laidByText := true, laidKinds := [.data, .data, .data, .data, .sentinel, .sentinel, .pinned], laidTests := true, laidLooks := .later }
def LexIgnoresCommentsUptoCardSaid : Prop := Claim7.holds Tryd.pinned (.plain (OpenSpec.upto lexIgnoresCommentsSpec)) lexIgnoresCommentsUptoCard

/-- THE SECOND FORM's CARD OF 'armaturelaw53.LexFormatReference'. -/
def lexFormatReferenceUptoCard : Claim7 := { stood := { row := lexFormatReferenceUptoRow, standIns := [], harness := (true, "9c5817708c0938cec988683cb7f3482569d79a81dd119230ab5cbe26d930a2f6"), looks := true }, kinds := [], alts := [], laidByText := true, laidKinds := [.data, .data, .data, .data, .sentinel, .sentinel, .pinned], laidTests := true, laidLooks := .later }
def LexFormatReferenceUptoCardSaid : Prop := Claim7.holds Tryd.pinned (.plain (OpenSpec.upto lexFormatReferenceSpec)) lexFormatReferenceUptoCard
end Rows
end Go.Proofs.YtmkifodpkcmgoaaDoor

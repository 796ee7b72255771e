/-
  DERIVED. GIVEN WITH THE SEED: THE CARDS: each row of YtalalcpefggniaaGreatDoorRows.lean that lists a variable, with what it lists TIED to the program's text (the seventh form; the later family's looks); each row that meets fmt, with fmt's text TOLD by the authors' own Lean function (tested against real Go, not proved from fmt's source: count such statements apart). THE CARD IS WHAT COUNTS. Prove the row's statement (the work); the ties are given (YtalalcpefggniaaGreatDoorTie.lean); close each card by the builder's one call (the guide's Derived/Test/ToyasCard.lean, 'card_holds'). Laid BY PROGRAM, IN A SANDBOX (cutbox-door.mjs). By AI agents, Wed Nov 11 2026. No macro, syntax, notation, axiom, sorry.
-/
import Derived.Test.YtalalcpefggniaaGreatDoorRows
import GoSem.ClaimSeven
namespace Go.Proofs.YtalalcpefggniaaGreatDoor
namespace Rows

/-- THE TIED CARD OF 'armaturelaw54.AstChecks'. -/
def astChecksCard : Claim7 := { stood := { row := astChecksRow, standIns := [], harness := (true, "5e5778d1b71a18d787a3372f90ff963b3a4282069397c740a5e966d4ac80b63c"), looks := false }, kinds := [], alts := [], laidByText := true, laidKinds := [.data, .data, .data, .data, .widerDeep, .pinned], laidTests := true, laidLooks := .later }
def AstChecksCardSaid : Prop := Claim7.holds Tryz.pinned (.plain (OpenSpec.ofChange astChecksSpec)) astChecksCard

/-- THE TIED CARD OF 'armaturelaw54.AstOnes'. -/
def astOnesCard : Claim7 := { stood := { row := astOnesRow, standIns := [], harness := (true, "5e5778d1b71a18d787a3372f90ff963b3a4282069397c740a5e966d4ac80b63c"), looks := false }, kinds := [], alts := [], laidByText := true, laidKinds := [.data, .data, .data, .data, .widerDeep, .pinned], laidTests := true, laidLooks := .later }
def AstOnesCardSaid : Prop := Claim7.holds Tryz.pinned (.plain (OpenSpec.ofChange astOnesSpec)) astOnesCard

/-- THE TIED CARD OF 'armaturelaw54.AstSame'. -/
def astSameCard : Claim7 := { stood := { row := astSameRow, standIns := [], harness := (true, "5e5778d1b71a18d787a3372f90ff963b3a4282069397c740a5e966d4ac80b63c"), looks := false }, kinds := [], alts := [], laidByText := true, laidKinds := [.data, .data, .data, .data, .widerDeep, .pinned], laidTests := true, laidLooks := .later }
def AstSameCardSaid : Prop := Claim7.holds Tryz.pinned (.plain (OpenSpec.ofChange astSameSpec)) astSameCard

/-- THE TIED CARD OF 'armaturelaw54.AstTexts'. -/
def astTextsCard : Claim7 := { stood := { row := astTextsRow, standIns := [], harness := (true, "5e5778d1b71a18d787a3372f90ff963b3a4282069397c740a5e966d4ac80b63c"), looks := false }, kinds := [], alts := [], laidByText := true, laidKinds := [.data, .data, .data, .data, .widerDeep, .pinned], laidTests := true, laidLooks := .later }
def AstTextsCardSaid : Prop := Claim7.holds Tryz.pinned (.plain (OpenSpec.ofChange astTextsSpec)) astTextsCard

/-- THE TIED CARD OF 'armaturelaw54.AstOwn'. -/
def astOwnCard : Claim7 := { stood := { row := astOwnRow, standIns := [], harness := (true, "5e5778d1b71a18d787a3372f90ff963b3a4282069397c740a5e966d4ac80b63c"), looks := false }, kinds := [], alts := [], laidByText := true, laidKinds := [.data, .data, .data, .data, .widerDeep, .pinned], laidTests := true, laidLooks := .later }
def AstOwnCardSaid : Prop := Claim7.holds Tryz.pinned (.plain (OpenSpec.ofChange astOwnSpec)) astOwnCard

/-- THE TIED CARD OF 'armaturelaw54.AstDeeper'. -/
def astDeeperCard : Claim7 := { stood := { row := astDeeperRow, standIns := [], harness := (true, "5e5778d1b71a18d787a3372f90ff963b3a4282069397c740a5e966d4ac80b63c"), looks := false }, kinds := [], alts := [], laidByText := true, laidKinds := [.data, .data, .data, .data, .widerDeep, .pinned], laidTests := true, laidLooks := .later }
def AstDeeperCardSaid : Prop := Claim7.holds Tryz.pinned (.plain (OpenSpec.ofChange astDeeperSpec)) astDeeperCard

/-- THE SECOND FORM's CARD OF 'armaturelaw54.AstChecks'. -/
def astChecksUptoCard : Claim7 := { stood := { row := astChecksUptoRow, standIns := [], harness := (true, "5e5778d1b71a18d787a3372f90ff963b3a4282069397c740a5e966d4ac80b63c"), looks := false }, kinds := [], alts := [], laidByText := true, laidKinds := [.data, .data, .data, .data, .widerDeep, .pinned], laidTests := true, laidLooks := .later }
def AstChecksUptoCardSaid : Prop := Claim7.holds Tryz.pinned (.plain (OpenSpec.upto astChecksSpec)) astChecksUptoCard

/-- THE SECOND FORM's CARD OF 'armaturelaw54.AstOnes'. -/
def astOnesUptoCard : Claim7 := { stood := { row := astOnesUptoRow, standIns := [], harness := (true, "5e5778d1b71a18d787a3372f90ff963b3a4282069397c740a5e966d4ac80b63c"), looks := false }, kinds := [], alts := [], laidByText := true, laidKinds := [.data, .data, .data, .data, .widerDeep, .pinned], laidTests := true, laidLooks := .later }
def AstOnesUptoCardSaid : Prop := Claim7.holds Tryz.pinned (.plain (OpenSpec.upto astOnesSpec)) astOnesUptoCard

/-- THE SECOND FORM's CARD OF 'armaturelaw54.AstSame'. -/
def astSameUptoCard : Claim7 := { stood := { row := astSameUptoRow, standIns := [], harness := (true, "5e5778d1b71a18d787a3372f90ff963b3a4282069397c740a5e966d4ac80b63c"), looks := false }, kinds := [], alts := [], laidByText := true, laidKinds := [.data, .data, .data, .data, .widerDeep, .pinned], laidTests := true, laidLooks := .later }
def AstSameUptoCardSaid : Prop := Claim7.holds Tryz.pinned (.plain (OpenSpec.upto astSameSpec)) astSameUptoCard

/-- THE SECOND FORM's CARD OF 'armaturelaw54.AstTexts'. -/
def astTextsUptoCard : Claim7 := { stood := { row := astTextsUptoRow, standIns := [], harness := (true, "5e5778d1b71a18d787a3372f90ff963b3a4282069397c740a5e966d4ac80b63c"), looks := false }, kinds := [], alts := [], laidByText := true, laidKinds := [.data, .data, .data, .data, .widerDeep, .pinned], laidTests := true, laidLooks := .later }
def AstTextsUptoCardSaid : Prop := Claim7.holds Tryz.pinned (.plain (OpenSpec.upto astTextsSpec)) astTextsUptoCard

/-- THE SECOND FORM's CARD OF 'armaturelaw54.AstOwn'. -/
def astOwnUptoCard : Claim7 := { stood := { row := astOwnUptoRow, standIns := [], harness := (true, "5e5778d1b71a18d787a3372f90ff963b3a4282069397c740a5e966d4ac80b63c"), looks := false }, kinds := [], alts := [], laidByText := true, laidKinds := [.data, .data, .data, .data, .widerDeep, .pinned], laidTests := true, laidLooks := .later }
def AstOwnUptoCardSaid : Prop := Claim7.holds Tryz.pinned (.plain (OpenSpec.upto astOwnSpec)) astOwnUptoCard

/-- THE SECOND FORM's CARD OF 'armaturelaw54.AstDeeper'. -/
def astDeeperUptoCard : Claim7 := { stood := { row := astDeeperUptoRow, standIns := [], harness := (true, "5e5778d1b71a18d787a3372f90ff963b3a4282069397c740a5e966d4ac80b63c"), looks := false }, kinds := [], alts := [], laidByText := true, laidKinds := [.data, .data, .data, .data, .widerDeep, .pinned], laidTests := true, laidLooks := .later }
def AstDeeperUptoCardSaid : Prop := Claim7.holds Tryz.pinned (.plain (OpenSpec.upto astDeeperSpec)) astDeeperUptoCard
end Rows
end Go.Proofs.YtalalcpefggniaaGreatDoor

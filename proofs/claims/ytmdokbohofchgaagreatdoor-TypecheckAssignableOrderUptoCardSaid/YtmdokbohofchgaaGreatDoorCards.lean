/-
  DERIVED. GIVEN WITH THE SEED: THE CARDS: each row of YtmdokbohofchgaaGreatDoorRows.lean that lists a variable, with what it lists TIED to the program's text (the seventh form; the later family's looks); each row that meets fmt, with fmt's text TOLD by the authors' own Lean function (tested against real Go, not proved from fmt's source: count such statements apart). THE CARD IS WHAT COUNTS. Prove the row's statement (the work); the ties are given (YtmdokbohofchgaaGreatDoorTie.lean); close each card by the builder's one call (the guide's Derived/Test/ToyasCard.lean, 'card_holds'). Laid BY PROGRAM, IN A SANDBOX (cutbox-door.mjs). By AI agents, Wed Nov 11 2026. No macro, syntax, notation, axiom, sorry.
-/
import Derived.Test.YtmdokbohofchgaaGreatDoorRows
import GoSem.ClaimSeven
namespace Go.Proofs.YtmdokbohofchgaaGreatDoor
namespace Rows

/-- THE TIED CARD OF 'armaturelaw56.TypecheckCheckReference'. -/
def typecheckCheckReferenceCard : Claim7 := { stood := { row := typecheckCheckReferenceRow, standIns := [], harness := (true, "525fd02e241afa9c690fa28d884390e1d4262ca99f1b27c97d45c86e2815047a"), looks := false }, kinds := [], alts := [], laidByText := true, laidKinds := [.widerDeep], laidTests := true, laidLooks := .later }
def TypecheckCheckReferenceCardSaid : Prop := Claim7.holds Tryz.pinned (.plain (OpenSpec.ofChange typecheckCheckReferenceSpec)) typecheckCheckReferenceCard

/-- THE TIED CARD OF 'armaturelaw56.TypecheckUnusedClass'. -/
def typecheckUnusedClassCard : Claim7 := { stood := { row := typecheckUnusedClassRow, standIns := [], harness := (true, "525fd02e241afa9c690fa28d884390e1d4262ca99f1b27c97d45c86e2815047a"), looks := false }, kinds := [], alts := [], laidByText := true, laidKinds := [.widerDeep], laidTests := true, laidLooks := .later }
def TypecheckUnusedClassCardSaid : Prop := Claim7.holds Tryz.pinned (.plain (OpenSpec.ofChange typecheckUnusedClassSpec)) typecheckUnusedClassCard

/-- THE TIED CARD OF 'armaturelaw56.TypecheckOrderIrrelevant'. -/
def typecheckOrderIrrelevantCard : Claim7 := { stood := { row := typecheckOrderIrrelevantRow, standIns := [], harness := (true, "525fd02e241afa9c690fa28d884390e1d4262ca99f1b27c97d45c86e2815047a"), looks := false }, kinds := [], alts := [], laidByText := true, laidKinds := [.widerDeep], laidTests := true, laidLooks := .later }
def TypecheckOrderIrrelevantCardSaid : Prop := Claim7.holds Tryz.pinned (.plain (OpenSpec.ofChange typecheckOrderIrrelevantSpec)) typecheckOrderIrrelevantCard

/-- THE TIED CARD OF 'armaturelaw56.TypecheckAssignableOrder'. -/
def typecheckAssignableOrderCard : Claim7 := { stood := { row := typecheckAssignableOrderRow, standIns := [], harness := (true, "525fd02e241afa9c690fa28d884390e1d4262ca99f1b27c97d45c86e2815047a"), looks := false }, kinds := [], alts := [], laidByText := true, laidKinds := [.widerDeep], laidTests := true, laidLooks := .later }
def TypecheckAssignableOrderCardSaid : Prop := Claim7.holds Tryz.pinned (.plain (OpenSpec.ofChange typecheckAssignableOrderSpec)) typecheckAssignableOrderCard

/-- THE TIED CARD OF 'armaturelaw56.TypecheckLookupReference'. -/
def typecheckLookupReferenceCard : Claim7 := { stood := { row := typecheckLookupReferenceRow, standIns := [], harness := (true, "525fd02e241afa9c690fa28d884390e1d4262ca99f1b27c97d45c86e2815047a"), looks := false }, kinds := [], alts := [], laidByText := true, laidKinds := [.widerDeep], laidTests := true, laidLooks := .later }
def TypecheckLookupReferenceCardSaid : Prop := Claim7.holds Tryz.pinned (.plain (OpenSpec.ofChange typecheckLookupReferenceSpec)) typecheckLookupReferenceCard

/-- THE TIED CARD OF 'armaturelaw56.TypecheckMembersInherited'. -/
def typecheckMembersInheritedCard : Claim7 := { stood := { row := typecheckMembersInheritedRow, standIns := [], harness := (true, "525fd02e241afa9c690fa28d884390e1d4262ca99f1b27c97d45c86e2815047a"), looks := false }, kinds := [], alts := [], laidByText := true, laidKinds := [.widerDeep], laidTests := true, laidLooks := .later }
def TypecheckMembersInheritedCardSaid : Prop := Claim7.holds Tryz.pinned (.plain (OpenSpec.ofChange typecheckMembersInheritedSpec)) typecheckMembersInheritedCard

/-- THE TIED CARD OF 'armaturelaw56.TypecheckBodyReference'. -/
def typecheckBodyReferenceCard : Claim7 := { stood := { row := typecheckBodyReferenceRow, standIns := [], harness := (true, "525fd02e241afa9c690fa28d884390e1d4262ca99f1b27c97d45c86e2815047a"), looks := false }, kinds := [], alts := [], laidByText := true, laidKinds := [.widerDeep], laidTests := true, laidLooks := .later }
def TypecheckBodyReferenceCardSaid : Prop := Claim7.holds Tryz.pinned (.plain (OpenSpec.ofChange typecheckBodyReferenceSpec)) typecheckBodyReferenceCard

/-- THE SECOND FORM's CARD OF 'armaturelaw56.TypecheckCheckReference'. -/
def typecheckCheckReferenceUptoCard : Claim7 := { stood := { row := typecheckCheckReferenceUptoRow, standIns := [], harness := (true, "525fd02e241afa9c690fa28d884390e1d4262ca99f1b27c97d45c86e2815047a"), looks := false }, kinds := [], alts := [], laidByText := true, laidKinds := [.widerDeep], laidTests := true, laidLooks := .later }
def TypecheckCheckReferenceUptoCardSaid : Prop := Claim7.holds Tryz.pinned (.plain (OpenSpec.upto typecheckCheckReferenceSpec)) typecheckCheckReferenceUptoCard

/-- THE SECOND FORM's CARD OF 'armaturelaw56.TypecheckUnusedClass'. -/
def typecheckUnusedClassUptoCard : Claim7 := { stood := { row := typecheckUnusedClassUptoRow, standIns := [], harness := (true, "525fd02e241afa9c690fa28d884390e1d4262ca99f1b27c97d45c86e2815047a"), looks := false }, kinds := [], alts := [], laidByText := true, laidKinds := [.widerDeep], laidTests := true, laidLooks := .later }
def TypecheckUnusedClassUptoCardSaid : Prop := Claim7.holds Tryz.pinned (.plain (OpenSpec.upto typecheckUnusedClassSpec)) typecheckUnusedClassUptoCard

/-- THE SECOND FORM's CARD OF 'armaturelaw56.TypecheckOrderIrrelevant'. -/
def typecheckOrderIrrelevantUptoCard : Claim7 := { stood := { row := typecheckOrderIrrelevantUptoRow, standIns := [], harness := (true, "525fd02e241afa9c690fa28d884390e1d4262ca99f1b27c97d45c86e2815047a"), looks := false }, kinds := [], alts := [], laidByText := true, laidKinds := [.widerDeep], laidTests := true, laidLooks := .later }
def TypecheckOrderIrrelevantUptoCardSaid : Prop := Claim7.holds Tryz.pinned (.plain (OpenSpec.upto typecheckOrderIrrelevantSpec)) typecheckOrderIrrelevantUptoCard

/-- THE SECOND FORM's CARD OF 'armaturelaw56.TypecheckAssignableOrder'. -/
def typecheckAssignableOrderUptoCard : Claim7 := { stood := { row := typecheckAssignableOrderUptoRow, standIns := [], harness := (true, "525fd02e241afa9c690fa28d884390e1d4262ca99f1b27c97d45c86e2815047a"), looks := false }, kinds := [], alts := [], laidByText := true, laidKinds := [.widerDeep], laidTests := true, laidLooks := .later }
def TypecheckAssignableOrderUptoCardSaid : Prop := Claim7.holds Tryz.pinned (.plain (OpenSpec.upto typecheckAssignableOrderSpec)) typecheckAssignableOrderUptoCard

/-- THE SECOND FORM's CARD OF 'armaturelaw56.TypecheckLookupReference'. -/
def typecheckLookupReferenceUptoCard : Claim7 := { stood := { row := typecheckLookupReferenceUptoRow, standIns := [], harness := (true, "525fd02e241afa9c690fa28d884390e1d4262ca99f1b27c97d45c86e2815047a"), looks := false }, kinds := [], alts := [], laidByText := true, laidKinds := [.widerDeep], laidTests := true, laidLooks := .later }
def TypecheckLookupReferenceUptoCardSaid : Prop := Claim7.holds Tryz.pinned (.plain (OpenSpec.upto typecheckLookupReferenceSpec)) typecheckLookupReferenceUptoCard

/-- THE SECOND FORM's CARD OF 'armaturelaw56.TypecheckMembersInherited'. -/
def typecheckMembersInheritedUptoCard : Claim7 := { stood := { row := typecheckMembersInheritedUptoRow, standIns := [], harness := (true, "525fd02e241afa9c690fa28d884390e1d4262ca99f1b27c97d45c86e2815047a"), looks := false }, kinds := [], alts := [], laidByText := true, laidKinds := [.widerDeep], laidTests := true, laidLooks := .later }
def TypecheckMembersInheritedUptoCardSaid : Prop := Claim7.holds Tryz.pinned (.plain (OpenSpec.upto typecheckMembersInheritedSpec)) typecheckMembersInheritedUptoCard

/-- THE SECOND FORM's CARD OF 'armaturelaw56.TypecheckBodyReference'. -/
def typecheckBodyReferenceUptoCard : Claim7 := { stood := { row := typecheckBodyReferenceUptoRow, standIns := [], harness := (true, "525fd02e241afa9c690fa28d884390e1d4262ca99f1b27c97d45c86e2815047a"), looks := false }, kinds := [], alts := [], laidByText := true, laidKinds := [.widerDeep], laidTests := true, laidLooks := .later }
def TypecheckBodyReferenceUptoCardSaid : Prop := Claim7.holds Tryz.pinned (.plain (OpenSpec.upto typecheckBodyReferenceSpec)) typecheckBodyReferenceUptoCard
end Rows
end Go.Proofs.YtmdokbohofchgaaGreatDoor

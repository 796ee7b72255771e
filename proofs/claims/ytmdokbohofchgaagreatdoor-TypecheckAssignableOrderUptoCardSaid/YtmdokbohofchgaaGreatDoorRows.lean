/-
  NARROWER THAN 'FOR EVERY INPUT', by the rows' own cells (each row's printed sentence says how): TypecheckCheckReference: loops, laid · TypecheckUnusedClass: loops, laid · TypecheckOrderIrrelevant: loops, laid · TypecheckAssignableOrder: loops, laid · TypecheckLookupReference: loops, laid · TypecheckMembersInherited: loops, laid · TypecheckBodyReference: loops, laid.
  DERIVED. THE GIVEN ROWS OF THIS SEAT. 7 by the template 'for every input the law returns true; each argument reads behind the call as it read before'; 0 by the template 'total and deterministic' (their statements: YtmdokbohofchgaaGreatDoorTotals.lean).
  GIVEN WITH THE SEED: the statements are not yours to turn. If you find one false, say at which input.
  Laid BY PROGRAM, IN A SANDBOX (cutbox-rows.mjs): the forced cells as the released guide's own fill.sh prints them over the translation 9fb61c8e341e43da… (all of the seat's roots in one cut). By AI agents, Wed Nov 11 2026. No macro, syntax, notation, axiom, sorry.
-/
import Derived.Test.YtmdokbohofchgaaGreatDoorChecked
import GoSem.Claim
import GoSem.ClaimJoined
import GoSem.ClaimMapViews
import Derived.JoinedTies
import Derived.KernelRfl
namespace Go.Proofs.YtmdokbohofchgaaGreatDoor
/- THE CELL 'sum', in the pinned program and in every row, IS THE sha256 OF THE DUMP (.gsa) THAT YtmdokbohofchgaaGreatDoorProg.lean LOADS. Nothing in Lean hashes anything: it is a label: what it is worth is what the hold of that sum in a sandbox is worth. -/
noncomputable def Tryz.pinned : Pinned := { name := "ytmdokbohofchgaagreatdoor", sum := "9fb61c8e341e43da553a11ee0965abff1f9752dca0308164cb4f5161e63eed63", checked := Tryz.checked }
namespace Rows
def none {H : Type} : Left H := { results := [], args := [] }

/- WHAT THE LISTED PACKAGE-LEVEL VARIABLES READ AS WHEN THE CALL BEGINS. Each datum BY PROGRAM (the guide's laid-datum.mjs) off the statement by which the dump's own 'gosem.cut.vars' lays the variable. In a bare row this is a premise. The card (YtmdokbohofchgaaGreatDoorCards.lean) ties it to the program's text. -/
def laid_armature_ast_operators {H : Type} : DataW H := .slice [.lit (.string [124, 124]), .lit (.string [38, 38]), .lit (.string [124]), .lit (.string [94]), .lit (.string [38]), .lit (.string [61, 61]), .lit (.string [33, 61]), .lit (.string [60]), .lit (.string [60, 61]), .lit (.string [62]), .lit (.string [62, 61]), .lit (.string [60, 60]), .lit (.string [62, 62]), .lit (.string [62, 62, 62]), .lit (.string [43]), .lit (.string [45]), .lit (.string [42]), .lit (.string [47]), .lit (.string [37])] []

/-- 'armaturelaw56.TypecheckCheckReference': WHATEVER THE INPUT: true; the input reads as it did. -/
def typecheckCheckReferenceSpec : ChangeSpec := { name := "typecheckCheckReference", fn := fun _ => fun
  | [d] => { results := [.lit (.bool true)], args := [d] }
  | _ => none }
def typecheckCheckReferenceRow : OpenClaim := { program := "ytmdokbohofchgaagreatdoor", sum := "9fb61c8e341e43da553a11ee0965abff1f9752dca0308164cb4f5161e63eed63", func := "armature/armaturelaw56.TypecheckCheckReference", spec := "typecheckCheckReference", inPlace := ["internal/bytealg.IndexByteString"], unfollowed := true, recurses := true, named := ["armature/ast.operators"], loops := true, plainKeys := false, apart := false, laid := [("armature/ast.operators", laid_armature_ast_operators)] }
def TypecheckCheckReferenceSaid : Prop := typecheckCheckReferenceRow.holds Tryz.pinned (OpenSpec.ofChange typecheckCheckReferenceSpec)

/-- ITS FALSE NEIGHBOUR: 'it returns false'. Refute it at one input. -/
def typecheckCheckReferenceWrong : ChangeSpec := { name := "typecheckCheckReference", fn := fun _ => fun
  | [d] => { results := [.lit (.bool false)], args := [d] }
  | _ => none }
def TypecheckCheckReferenceWrongFalsely : Prop := typecheckCheckReferenceRow.holds Tryz.pinned (OpenSpec.ofChange typecheckCheckReferenceWrong)

/-- 'armaturelaw56.TypecheckUnusedClass': WHATEVER THE INPUT: true; the input reads as it did. -/
def typecheckUnusedClassSpec : ChangeSpec := { name := "typecheckUnusedClass", fn := fun _ => fun
  | [d] => { results := [.lit (.bool true)], args := [d] }
  | _ => none }
def typecheckUnusedClassRow : OpenClaim := { program := "ytmdokbohofchgaagreatdoor", sum := "9fb61c8e341e43da553a11ee0965abff1f9752dca0308164cb4f5161e63eed63", func := "armature/armaturelaw56.TypecheckUnusedClass", spec := "typecheckUnusedClass", inPlace := ["internal/bytealg.IndexByteString"], unfollowed := true, recurses := true, named := ["armature/ast.operators"], loops := true, plainKeys := false, apart := false, laid := [("armature/ast.operators", laid_armature_ast_operators)] }
def TypecheckUnusedClassSaid : Prop := typecheckUnusedClassRow.holds Tryz.pinned (OpenSpec.ofChange typecheckUnusedClassSpec)

/-- ITS FALSE NEIGHBOUR: 'it returns false'. Refute it at one input. -/
def typecheckUnusedClassWrong : ChangeSpec := { name := "typecheckUnusedClass", fn := fun _ => fun
  | [d] => { results := [.lit (.bool false)], args := [d] }
  | _ => none }
def TypecheckUnusedClassWrongFalsely : Prop := typecheckUnusedClassRow.holds Tryz.pinned (OpenSpec.ofChange typecheckUnusedClassWrong)

/-- 'armaturelaw56.TypecheckOrderIrrelevant': WHATEVER THE INPUT: true; the input reads as it did. -/
def typecheckOrderIrrelevantSpec : ChangeSpec := { name := "typecheckOrderIrrelevant", fn := fun _ => fun
  | [d] => { results := [.lit (.bool true)], args := [d] }
  | _ => none }
def typecheckOrderIrrelevantRow : OpenClaim := { program := "ytmdokbohofchgaagreatdoor", sum := "9fb61c8e341e43da553a11ee0965abff1f9752dca0308164cb4f5161e63eed63", func := "armature/armaturelaw56.TypecheckOrderIrrelevant", spec := "typecheckOrderIrrelevant", inPlace := ["internal/bytealg.IndexByteString"], unfollowed := true, recurses := true, named := ["armature/ast.operators"], loops := true, plainKeys := false, apart := false, laid := [("armature/ast.operators", laid_armature_ast_operators)] }
def TypecheckOrderIrrelevantSaid : Prop := typecheckOrderIrrelevantRow.holds Tryz.pinned (OpenSpec.ofChange typecheckOrderIrrelevantSpec)

/-- ITS FALSE NEIGHBOUR: 'it returns false'. Refute it at one input. -/
def typecheckOrderIrrelevantWrong : ChangeSpec := { name := "typecheckOrderIrrelevant", fn := fun _ => fun
  | [d] => { results := [.lit (.bool false)], args := [d] }
  | _ => none }
def TypecheckOrderIrrelevantWrongFalsely : Prop := typecheckOrderIrrelevantRow.holds Tryz.pinned (OpenSpec.ofChange typecheckOrderIrrelevantWrong)

/-- 'armaturelaw56.TypecheckAssignableOrder': WHATEVER THE INPUT: true; the input reads as it did. -/
def typecheckAssignableOrderSpec : ChangeSpec := { name := "typecheckAssignableOrder", fn := fun _ => fun
  | [d1, d2, d3, d4] => { results := [.lit (.bool true)], args := [d1, d2, d3, d4] }
  | _ => none }
def typecheckAssignableOrderRow : OpenClaim := { program := "ytmdokbohofchgaagreatdoor", sum := "9fb61c8e341e43da553a11ee0965abff1f9752dca0308164cb4f5161e63eed63", func := "armature/armaturelaw56.TypecheckAssignableOrder", spec := "typecheckAssignableOrder", inPlace := ["internal/bytealg.IndexByteString"], unfollowed := true, recurses := true, named := ["armature/ast.operators"], loops := true, plainKeys := false, apart := false, laid := [("armature/ast.operators", laid_armature_ast_operators)] }
def TypecheckAssignableOrderSaid : Prop := typecheckAssignableOrderRow.holds Tryz.pinned (OpenSpec.ofChange typecheckAssignableOrderSpec)

/-- ITS FALSE NEIGHBOUR: 'it returns false'. Refute it at one input. -/
def typecheckAssignableOrderWrong : ChangeSpec := { name := "typecheckAssignableOrder", fn := fun _ => fun
  | [d1, d2, d3, d4] => { results := [.lit (.bool false)], args := [d1, d2, d3, d4] }
  | _ => none }
def TypecheckAssignableOrderWrongFalsely : Prop := typecheckAssignableOrderRow.holds Tryz.pinned (OpenSpec.ofChange typecheckAssignableOrderWrong)

/-- 'armaturelaw56.TypecheckLookupReference': WHATEVER THE INPUT: true; the input reads as it did. -/
def typecheckLookupReferenceSpec : ChangeSpec := { name := "typecheckLookupReference", fn := fun _ => fun
  | [d1, d2, d3, d4, d5] => { results := [.lit (.bool true)], args := [d1, d2, d3, d4, d5] }
  | _ => none }
def typecheckLookupReferenceRow : OpenClaim := { program := "ytmdokbohofchgaagreatdoor", sum := "9fb61c8e341e43da553a11ee0965abff1f9752dca0308164cb4f5161e63eed63", func := "armature/armaturelaw56.TypecheckLookupReference", spec := "typecheckLookupReference", inPlace := ["internal/bytealg.IndexByteString"], unfollowed := true, recurses := true, named := ["armature/ast.operators"], loops := true, plainKeys := false, apart := false, laid := [("armature/ast.operators", laid_armature_ast_operators)] }
def TypecheckLookupReferenceSaid : Prop := typecheckLookupReferenceRow.holds Tryz.pinned (OpenSpec.ofChange typecheckLookupReferenceSpec)

/-- ITS FALSE NEIGHBOUR: 'it returns false'. Refute it at one input. -/
def typecheckLookupReferenceWrong : ChangeSpec := { name := "typecheckLookupReference", fn := fun _ => fun
  | [d1, d2, d3, d4, d5] => { results := [.lit (.bool false)], args := [d1, d2, d3, d4, d5] }
  | _ => none }
def TypecheckLookupReferenceWrongFalsely : Prop := typecheckLookupReferenceRow.holds Tryz.pinned (OpenSpec.ofChange typecheckLookupReferenceWrong)

/-- 'armaturelaw56.TypecheckMembersInherited': WHATEVER THE INPUT: true; the input reads as it did. -/
def typecheckMembersInheritedSpec : ChangeSpec := { name := "typecheckMembersInherited", fn := fun _ => fun
  | [d1, d2, d3, d4] => { results := [.lit (.bool true)], args := [d1, d2, d3, d4] }
  | _ => none }
def typecheckMembersInheritedRow : OpenClaim := { program := "ytmdokbohofchgaagreatdoor", sum := "9fb61c8e341e43da553a11ee0965abff1f9752dca0308164cb4f5161e63eed63", func := "armature/armaturelaw56.TypecheckMembersInherited", spec := "typecheckMembersInherited", inPlace := ["internal/bytealg.IndexByteString"], unfollowed := true, recurses := true, named := ["armature/ast.operators"], loops := true, plainKeys := false, apart := false, laid := [("armature/ast.operators", laid_armature_ast_operators)] }
def TypecheckMembersInheritedSaid : Prop := typecheckMembersInheritedRow.holds Tryz.pinned (OpenSpec.ofChange typecheckMembersInheritedSpec)

/-- ITS FALSE NEIGHBOUR: 'it returns false'. Refute it at one input. -/
def typecheckMembersInheritedWrong : ChangeSpec := { name := "typecheckMembersInherited", fn := fun _ => fun
  | [d1, d2, d3, d4] => { results := [.lit (.bool false)], args := [d1, d2, d3, d4] }
  | _ => none }
def TypecheckMembersInheritedWrongFalsely : Prop := typecheckMembersInheritedRow.holds Tryz.pinned (OpenSpec.ofChange typecheckMembersInheritedWrong)

/-- 'armaturelaw56.TypecheckBodyReference': WHATEVER THE INPUT: true; the input reads as it did. -/
def typecheckBodyReferenceSpec : ChangeSpec := { name := "typecheckBodyReference", fn := fun _ => fun
  | [d1, d2, d3] => { results := [.lit (.bool true)], args := [d1, d2, d3] }
  | _ => none }
def typecheckBodyReferenceRow : OpenClaim := { program := "ytmdokbohofchgaagreatdoor", sum := "9fb61c8e341e43da553a11ee0965abff1f9752dca0308164cb4f5161e63eed63", func := "armature/armaturelaw56.TypecheckBodyReference", spec := "typecheckBodyReference", inPlace := ["internal/bytealg.IndexByteString"], unfollowed := true, recurses := true, named := ["armature/ast.operators"], loops := true, plainKeys := false, apart := false, laid := [("armature/ast.operators", laid_armature_ast_operators)] }
def TypecheckBodyReferenceSaid : Prop := typecheckBodyReferenceRow.holds Tryz.pinned (OpenSpec.ofChange typecheckBodyReferenceSpec)

/-- ITS FALSE NEIGHBOUR: 'it returns false'. Refute it at one input. -/
def typecheckBodyReferenceWrong : ChangeSpec := { name := "typecheckBodyReference", fn := fun _ => fun
  | [d1, d2, d3] => { results := [.lit (.bool false)], args := [d1, d2, d3] }
  | _ => none }
def TypecheckBodyReferenceWrongFalsely : Prop := typecheckBodyReferenceRow.holds Tryz.pinned (OpenSpec.ofChange typecheckBodyReferenceWrong)

/- THE SECOND FORM. 'bulk': how many values and letters a reading holds, each counted each time it is reached (what is shared counts as often as it is met; a slice's spare places count too). A statement '..UptoSaid' is the law's where the arguments, and the package variables that the reading takes, are together of bulk at most 1048576: NARROWER than '..Said'. Prove '..Said' where nothing that the law and all that it calls make is longer than what came in: it says more and counts as full. Else prove '..UptoSaid'. A law counts once. -/
mutual
def uptoBulk {H : Type} : DataW H → Nat
  | .lit (.string bytes) => bytes.length + 1
  | .lit _ => 1
  | .nil => 1
  | .ptr d => uptoBulk d + 1
  | .slice elems spare => uptoBulkAll elems + uptoBulkAll spare + 1
  | .agg parts => uptoBulkAll parts + 1
  | .iface _ d => uptoBulk d + 1
  | .map entries => uptoBulkEntries entries + 1
  | .held _ => 1
def uptoBulkAll {H : Type} : List (DataW H) → Nat
  | [] => 0
  | d :: r => uptoBulk d + uptoBulkAll r
def uptoBulkEntries {H : Type} : List (Lit × DataW H) → Nat
  | [] => 0
  | x :: r => uptoBulkEntry x + uptoBulkEntries r
def uptoBulkEntry {H : Type} : Lit × DataW H → Nat
  | (.string bytes, d) => bytes.length + uptoBulk d + 1
  | (_, d) => uptoBulk d + 1
 end
def uptoSmall : (H : Type) → List (DataW H) → Bool := fun _ ds => decide (uptoBulkAll ds ≤ 1048576)
def OpenSpec.upto (s : _root_.Go.ChangeSpec) : _root_.Go.OpenSpec := { _root_.Go.OpenSpec.ofChange s with cond := some uptoSmall }

/-- 'armaturelaw56.TypecheckCheckReference', WHERE WHAT IT READS IS OF BULK AT MOST 1048576: true; the input reads as it did. -/
def typecheckCheckReferenceUptoRow : OpenClaim := { program := "ytmdokbohofchgaagreatdoor", sum := "9fb61c8e341e43da553a11ee0965abff1f9752dca0308164cb4f5161e63eed63", func := "armature/armaturelaw56.TypecheckCheckReference", spec := "typecheckCheckReference", inPlace := ["internal/bytealg.IndexByteString"], unfollowed := true, recurses := true, named := ["armature/ast.operators"], loops := true, plainKeys := false, apart := false, laid := [("armature/ast.operators", laid_armature_ast_operators)], narrowed := true }
def TypecheckCheckReferenceUptoSaid : Prop := typecheckCheckReferenceUptoRow.holds Tryz.pinned (OpenSpec.upto typecheckCheckReferenceSpec)

/-- 'armaturelaw56.TypecheckUnusedClass', WHERE WHAT IT READS IS OF BULK AT MOST 1048576: true; the input reads as it did. -/
def typecheckUnusedClassUptoRow : OpenClaim := { program := "ytmdokbohofchgaagreatdoor", sum := "9fb61c8e341e43da553a11ee0965abff1f9752dca0308164cb4f5161e63eed63", func := "armature/armaturelaw56.TypecheckUnusedClass", spec := "typecheckUnusedClass", inPlace := ["internal/bytealg.IndexByteString"], unfollowed := true, recurses := true, named := ["armature/ast.operators"], loops := true, plainKeys := false, apart := false, laid := [("armature/ast.operators", laid_armature_ast_operators)], narrowed := true }
def TypecheckUnusedClassUptoSaid : Prop := typecheckUnusedClassUptoRow.holds Tryz.pinned (OpenSpec.upto typecheckUnusedClassSpec)

/-- 'armaturelaw56.TypecheckOrderIrrelevant', WHERE WHAT IT READS IS OF BULK AT MOST 1048576: true; the input reads as it did. -/
def typecheckOrderIrrelevantUptoRow : OpenClaim := { program := "ytmdokbohofchgaagreatdoor", sum := "9fb61c8e341e43da553a11ee0965abff1f9752dca0308164cb4f5161e63eed63", func := "armature/armaturelaw56.TypecheckOrderIrrelevant", spec := "typecheckOrderIrrelevant", inPlace := ["internal/bytealg.IndexByteString"], unfollowed := true, recurses := true, named := ["armature/ast.operators"], loops := true, plainKeys := false, apart := false, laid := [("armature/ast.operators", laid_armature_ast_operators)], narrowed := true }
def TypecheckOrderIrrelevantUptoSaid : Prop := typecheckOrderIrrelevantUptoRow.holds Tryz.pinned (OpenSpec.upto typecheckOrderIrrelevantSpec)

/-- 'armaturelaw56.TypecheckAssignableOrder', WHERE WHAT IT READS IS OF BULK AT MOST 1048576: true; the input reads as it did. -/
def typecheckAssignableOrderUptoRow : OpenClaim := { program := "ytmdokbohofchgaagreatdoor", sum := "9fb61c8e341e43da553a11ee0965abff1f9752dca0308164cb4f5161e63eed63", func := "armature/armaturelaw56.TypecheckAssignableOrder", spec := "typecheckAssignableOrder", inPlace := ["internal/bytealg.IndexByteString"], unfollowed := true, recurses := true, named := ["armature/ast.operators"], loops := true, plainKeys := false, apart := false, laid := [("armature/ast.operators", laid_armature_ast_operators)], narrowed := true }
def TypecheckAssignableOrderUptoSaid : Prop := typecheckAssignableOrderUptoRow.holds Tryz.pinned (OpenSpec.upto typecheckAssignableOrderSpec)

/-- 'armaturelaw56.TypecheckLookupReference', WHERE WHAT IT READS IS OF BULK AT MOST 1048576: true; the input reads as it did. -/
def typecheckLookupReferenceUptoRow : OpenClaim := { program := "ytmdokbohofchgaagreatdoor", sum := "9fb61c8e341e43da553a11ee0965abff1f9752dca0308164cb4f5161e63eed63", func := "armature/armaturelaw56.TypecheckLookupReference", spec := "typecheckLookupReference", inPlace := ["internal/bytealg.IndexByteString"], unfollowed := true, recurses := true, named := ["armature/ast.operators"], loops := true, plainKeys := false, apart := false, laid := [("armature/ast.operators", laid_armature_ast_operators)], narrowed := true }
def TypecheckLookupReferenceUptoSaid : Prop := typecheckLookupReferenceUptoRow.holds Tryz.pinned (OpenSpec.upto typecheckLookupReferenceSpec)

/-- 'armaturelaw56.TypecheckMembersInherited', WHERE WHAT IT READS IS OF BULK AT MOST 1048576: true; the input reads as it did. -/
def typecheckMembersInheritedUptoRow : OpenClaim := { program := "ytmdokbohofchgaagreatdoor", sum := "9fb61c8e341e43da553a11ee0965abff1f9752dca0308164cb4f5161e63eed63", func := "armature/armaturelaw56.TypecheckMembersInherited", spec := "typecheckMembersInherited", inPlace := ["internal/bytealg.IndexByteString"], unfollowed := true, recurses := true, named := ["armature/ast.operators"], loops := true, plainKeys := false, apart := false, laid := [("armature/ast.operators", laid_armature_ast_operators)], narrowed := true }
def TypecheckMembersInheritedUptoSaid : Prop := typecheckMembersInheritedUptoRow.holds Tryz.pinned (OpenSpec.upto typecheckMembersInheritedSpec)

/-- 'armaturelaw56.TypecheckBodyReference', WHERE WHAT IT READS IS OF BULK AT MOST 1048576: true; the input reads as it did. -/
def typecheckBodyReferenceUptoRow : OpenClaim := { program := "ytmdokbohofchgaagreatdoor", sum := "9fb61c8e341e43da553a11ee0965abff1f9752dca0308164cb4f5161e63eed63", func := "armature/armaturelaw56.TypecheckBodyReference", spec := "typecheckBodyReference", inPlace := ["internal/bytealg.IndexByteString"], unfollowed := true, recurses := true, named := ["armature/ast.operators"], loops := true, plainKeys := false, apart := false, laid := [("armature/ast.operators", laid_armature_ast_operators)], narrowed := true }
def TypecheckBodyReferenceUptoSaid : Prop := typecheckBodyReferenceUptoRow.holds Tryz.pinned (OpenSpec.upto typecheckBodyReferenceSpec)

end Rows
end Go.Proofs.YtmdokbohofchgaaGreatDoor

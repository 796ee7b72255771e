/- 'ParseProgram' holds for every input: the tied card of this statement is proved. Conditions: none beyond the row's own (the listed variables hold what their text lays). -/
import Derived.Test.YtimddhkipjedcaaGreatDoorMrg8
set_option linter.unusedSimpArgs false
set_option linter.unusedVariables false
set_option maxHeartbeats 4000000
set_option maxRecDepth 20000
namespace Go.Proofs.YtimddhkipjedcaaGreatDoor.lawG
open Go Go.ChangeShapes Go.WideShapes Go.ChangeAt Go.RowKit
open Go.ChangeMaps (open_string shut_string)
open Go.Proofs.YtimddhkipjedcaaGreatDoor.E
set_option maxRecDepth 100000 in
theorem lifted (os:Os) (started:os.Started) (H:Type) (enc:TypeId×Value->H):
  ReturnsInHanded {} Tryz.checked os 3 .any (fun w args=>(Rows.parseProgramSpec.pre enc Tryz.prog Tryz.f3 Rows.parseProgramRow.domain false w args/\laidMetH Tryz.prog yZ w)/\sizedMet enc Tryz.prog Tryz.f3 (OpenSpec.ofChange Rows.parseProgramSpec) false w args)
   (Rows.parseProgramSpec.post enc Tryz.prog Tryz.f3 false true false false):=by
 refine Si (C:=Tryz.checked) (X:=fun w _=>laidMetH Tryz.prog yZ w) (fun _ _ _ hh h=>h.of_heap hh) E.own started (by kernel_rfl) Tryz.func3
  (ChangeSpec.witness_shaped (enc:=enc) (C:=Tryz.checked) (os:=os) (X:=fun w _=>laidMetH Tryz.prog yZ w) false (World.laidAll Tryz.prog os yZ) #[.string .empty] 8 (World.laidAll_os _ _ _)
   (World.shaped_of_ZipB (by kernel_rfl) (by kernel_rfl)) (by kernel_rfl) (by kernel_rfl) (by kernel_rfl)
   (by rw[MakeChecks.laidMetH_plain _ _ _ (by kernel_rfl)];exact laidMet_laidAll _ (by kernel_rfl) (by kernel_rfl))) ?_
 intro W base args ds gs before O6 hW hL xG Px;have EC:∀(j:Nat) t v,Tryz.f3.params[j]? =some t->args[j]? =some v->Value.okWide Tryz.prog W .any base t v:=O6;have Fg:=hW;obtain⟨p,q,hA0,hV,rfl,_,_⟩:=hW;have hA:DataW.TrodAll enc Tryz.prog W 0 (fun _=>true) true Tryz.f3.params.toList args.toList ds p:=hA0;rw[Tryz.params3] at hA EC;obtain⟨v0,d0,rfl,rfl,h0⟩:=trodAll_one hA;obtain⟨rfl,rfl⟩:=trodVars_none hV;obtain⟨s,rfl,rfl,rfl,Ii⟩:=open_string Tryz.underlying9 (EC 0 9 v0 rfl rfl) h0;have IT:(DataW.weightsEach Tryz.prog [9] [DataW.lit (H:=H) (.string s.data.toList)]).all (· <=reachBytes)=true:=Px;have hlen:s.size<=140737488351232:=by
  have e:(tl s).length=s.size:=Ha s;simp only[DataW.weightsEach,DataW.weights,List.append_nil,List.all_cons,List.all_nil,Bool.and_true,gz,reachBytes] at IT;unfold tl at e;have:=of_decide_eq_true IT;omega
 clear hA0 O6 Px IT;simp only[List.append_nil] at Fg;have fin:Calls Tryz.prog 3 #[.string s] W fun e w' =>e= .returned (.bool true)/\Below W.heap.size W w' :=by
  have:=SI (tl s) ⟨W,kS W⟩ (VG hL xG) (by rw[Ha];exact cR hlen (by decide));rw[lH] at this;exact Wb (cL:=[.string s]) (fun V=>rfl) (this.mono fun _ _ _ _ h=>⟨h.1,h.2.2,h.2.1⟩)
 refine fin.mono fun e W' ⟨he,hw⟩=> ?_
 subst he;exact⟨_,rfl,_,_,_,[],[],[],Fg,trodAll_mk1 (shut_bool Tryz.underlying4 _),trodAll_mk1 (shut_string Tryz.underlying9 Ii),rfl,hw.frame _,fun h=>by cases h⟩
theorem named:Tryz.pinned.checked.prog.funcNamed Rows.parseProgramRow.func=some 3:=by kernel_rfl
theorem closed:joinedFacts Tryz.pinned.checked.prog 3 Tryz.f3 Rows.parseProgramSpec Rows.parseProgramRow=true:=by kernel_rfl
theorem inst:decide (Tryz.f3.isInstance Tryz.pinned.checked.prog Rows.parseProgramRow.origin Rows.parseProgramRow.targs)=true:=by kernel_rfl
theorem holds:Rows.ParseProgramSaid:=
 OpenClaim.holds_of_wide 3 Tryz.f3 rfl rfl rfl rfl rfl rfl rfl ⟨rfl,rfl,rfl,rfl,rfl⟩ rfl rfl rfl rfl rfl named Tryz.func3 closed
  (of_decide_eq_true inst) (by unfold Func.isWrapper;first |(rw[aj (by decide+kernel)];kernel_rfl) |(rw[ae (by decide+kernel)];exact⟨rfl,rfl⟩))
  (fun os started H enc _=>lifted os started H enc)
theorem plain (f:FuncId) (fn:Func) (hf:Tryz.pinned.checked.prog.funcNamed "armature/armaturelaw55.ParseProgram" =some f) (fk:Tryz.pinned.checked.prog.funcs[f]? =some fn):
  true=Tryz.pinned.checked.prog.looks []/\∀(j:Nat) t,fn.params[j]? =some t->Tryz.pinned.checked.prog.wantsStandIn t=false:=by
 obtain rfl:f=3:=Option.some.inj ((show Tryz.prog.funcNamed "armature/armaturelaw55.ParseProgram" =some 3 by kernel_rfl).symm.trans hf) |>.symm;obtain rfl:fn=Tryz.f3:=(Option.some.inj (Tryz.func3.symm.trans fk)).symm;refine⟨by kernel_rfl,fun j t ht=> ?_⟩;rw[Tryz.params3] at ht;have hm:t∈[9]:=by simpa using Array.mem_of_getElem? ht
 have kp:([9].all fun u=> !Tryz.prog.wantsStandIn u)=true:=by kernel_rfl
 exact(show Tryz.prog.wantsStandIn t=false by simpa using List.all_eq_true.1 kp t hm)
theorem card:Rows.ParseProgramCardSaid:=
 Claim7.holds_tied_plain_at .later [] _ _ _ _ holds (fun _ h=>by cases h) (by kernel_rfl) (fun _ h=>by cases h) parseProgram_row_tie rfl ⟨rfl,rfl⟩ (by kernel_rfl) rfl plain (by kernel_rfl)
#print axioms card
end Go.Proofs.YtimddhkipjedcaaGreatDoor.lawG

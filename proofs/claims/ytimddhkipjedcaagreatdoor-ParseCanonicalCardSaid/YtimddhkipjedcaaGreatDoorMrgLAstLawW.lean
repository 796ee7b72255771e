/- 'ParseCanonical' holds for every input: the tied card of this statement is proved. Conditions: none beyond the row's own (the listed variables hold what their text lays). -/
import Derived.Test.YtimddhkipjedcaaGreatDoorMrg8
set_option linter.unusedSimpArgs false
set_option linter.unusedVariables false
set_option maxHeartbeats 4000000
set_option maxRecDepth 20000
namespace Go.Proofs.YtimddhkipjedcaaGreatDoor.lawW
open Go Go.ChangeShapes Go.WideShapes Go.ChangeAt Go.RowKit
open Go.ChangeMaps (open_string shut_string)
open Go.Proofs.YtimddhkipjedcaaGreatDoor.E
set_option maxRecDepth 100000 in
theorem lifted (os:Os) (started:os.Started) (H:Type) (lF:TypeId×Value->H):
  ReturnsInHanded {} Tryz.checked os 6 .any (fun w args=>(Rows.parseCanonicalSpec.pre lF Tryz.prog Tryz.f6 Rows.parseCanonicalRow.domain false w args/\laidMetH Tryz.prog Aa w)/\sizedMet lF Tryz.prog Tryz.f6 (OpenSpec.ofChange Rows.parseCanonicalSpec) false w args)
   (Rows.parseCanonicalSpec.post lF Tryz.prog Tryz.f6 false true false false):=by
 refine W2 (C:=Tryz.checked) (X:=fun w _=>laidMetH Tryz.prog Aa w) (fun _ _ _ hh h=>h.of_heap hh) E.own started (by kernel_rfl) Tryz.func6
  (ChangeSpec.witness_shaped (enc:=lF) (C:=Tryz.checked) (os:=os) (X:=fun w _=>laidMetH Tryz.prog Aa w) false (World.laidAll Tryz.prog os Aa) #[.string .empty] 8 (World.laidAll_os _ _ _)
   (World.shaped_of_ZipB (by kernel_rfl) (by kernel_rfl)) (by kernel_rfl) (by kernel_rfl) (by kernel_rfl)
   (by rw[MakeChecks.laidMetH_plain _ _ _ (by kernel_rfl)];exact laidMet_laidAll _ (by kernel_rfl) (by kernel_rfl))) ?_
 intro W base args ds gs before Tu hW hL Dj TW;have F6:∀(j:Nat) t v,Tryz.f6.params[j]? =some t->args[j]? =some v->Value.okWide Tryz.prog W .any base t v:=Tu;have GR:=hW;obtain⟨p,q,hA0,hV,rfl,_,_⟩:=hW;have hA:DataW.TrodAll lF Tryz.prog W 0 (fun _=>true) true Tryz.f6.params.toList args.toList ds p:=hA0;rw[Tryz.params6] at hA F6;obtain⟨v0,d0,rfl,rfl,h0⟩:=trodAll_one hA;obtain⟨rfl,rfl⟩:=trodVars_none hV;obtain⟨s,rfl,rfl,rfl,KG⟩:=open_string Tryz.underlying9 (F6 0 9 v0 rfl rfl) h0;have Lr:(DataW.weightsEach Tryz.prog [9] [DataW.lit (H:=H) (.string s.data.toList)]).all (· <=reachBytes)=true:=TW;have hlen:s.size<=140737488351232:=by
  have e:(tl s).length=s.size:=I5 s;simp only[DataW.weightsEach,DataW.weights,List.append_nil,List.all_cons,List.all_nil,Bool.and_true,bt,reachBytes] at Lr;unfold tl at e;have:=of_decide_eq_true Lr;omega
 clear hA0 Tu TW Lr;simp only[List.append_nil] at GR;have fin:Calls Tryz.prog 6 #[.string s] W fun e w' =>e= .returned (.bool true)/\Below W.heap.size W w' :=by
  have:=Xt (tl s) ⟨W,lG W⟩ (aas hL Dj) (by rw[I5];exact cZ hlen (by decide));rw[oG] at this;exact aa2 (fe:=[.string s]) (fun V=>rfl) (this.mono fun _ _ _ _ h=>⟨h.1,h.2.2,h.2.1⟩)
 refine fin.mono fun e W' ⟨he,hw⟩=> ?_
 subst he;exact⟨_,rfl,_,_,_,[],[],[],GR,trodAll_mk1 (shut_bool Tryz.underlying4 _),trodAll_mk1 (shut_string Tryz.underlying9 KG),rfl,hw.frame _,fun h=>by cases h⟩
theorem named:Tryz.pinned.checked.prog.funcNamed Rows.parseCanonicalRow.func=some 6:=by kernel_rfl
theorem closed:joinedFacts Tryz.pinned.checked.prog 6 Tryz.f6 Rows.parseCanonicalSpec Rows.parseCanonicalRow=true:=by kernel_rfl
theorem inst:decide (Tryz.f6.isInstance Tryz.pinned.checked.prog Rows.parseCanonicalRow.origin Rows.parseCanonicalRow.targs)=true:=by kernel_rfl
theorem holds:Rows.ParseCanonicalSaid:=
 OpenClaim.holds_of_wide 6 Tryz.f6 rfl rfl rfl rfl rfl rfl rfl ⟨rfl,rfl,rfl,rfl,rfl⟩ rfl rfl rfl rfl rfl named Tryz.func6 closed
  (of_decide_eq_true inst) (by unfold Func.isWrapper;first |(rw[ah (by decide+kernel)];kernel_rfl) |(rw[af (by decide+kernel)];exact⟨rfl,rfl⟩))
  (fun os started H lF _=>lifted os started H lF)
theorem plain (f:FuncId) (fn:Func) (hf:Tryz.pinned.checked.prog.funcNamed "armature/armaturelaw55.ParseCanonical" =some f) (fU:Tryz.pinned.checked.prog.funcs[f]? =some fn):
  true=Tryz.pinned.checked.prog.looks []/\∀(j:Nat) t,fn.params[j]? =some t->Tryz.pinned.checked.prog.wantsStandIn t=false:=by
 obtain rfl:f=6:=Option.some.inj ((show Tryz.prog.funcNamed "armature/armaturelaw55.ParseCanonical" =some 6 by kernel_rfl).symm.trans hf) |>.symm;obtain rfl:fn=Tryz.f6:=(Option.some.inj (Tryz.func6.symm.trans fU)).symm;refine⟨by kernel_rfl,fun j t ht=> ?_⟩;rw[Tryz.params6] at ht;have hm:t∈[9]:=by simpa using Array.mem_of_getElem? ht
 have gm:([9].all fun u=> !Tryz.prog.wantsStandIn u)=true:=by kernel_rfl
 exact(show Tryz.prog.wantsStandIn t=false by simpa using List.all_eq_true.1 gm t hm)
theorem card:Rows.ParseCanonicalCardSaid:=
 Claim7.holds_tied_plain_at .later [] _ _ _ _ holds (fun _ h=>by cases h) (by kernel_rfl) (fun _ h=>by cases h) parseCanonical_row_tie rfl ⟨rfl,rfl⟩ (by kernel_rfl) rfl plain (by kernel_rfl)
#print axioms card
end Go.Proofs.YtimddhkipjedcaaGreatDoor.lawW

/- 'TypecheckMembersInherited' holds for every input of bulk at most 1048576: the tied card of the bounded form of this statement is proved. Conditions: the bound, and the row's own (the listed variables hold what their text lays). -/
import Derived.Test.YtmdokbohofchgaaGreatDoorMrg7
set_option linter.unusedSimpArgs false
set_option linter.unusedVariables false
set_option maxHeartbeats 4000000
set_option maxRecDepth 20000
namespace Go.Proofs.YtmdokbohofchgaaGreatDoor.lawM
open Go Go.ChangeShapes Go.WideShapes Go.ChangeAt Go.RowKit
open Go.Proofs.YtmdokbohofchgaaGreatDoor.E
theorem laidOut:laidOutB Tryz.prog=true:=by kernel_rfl
theorem reads (os:Os) {H:Type} (enc:TypeId×Value->H):∃places,DataW.whole enc Tryz.prog ((World.laidAll Tryz.prog os oZ).forCall (fun _ _=>0) ⟨#[],#[.slice none 0 0,.string .empty,.string .empty,.int .i64 0],[]⟩).memory Tryz.f8.params.toList Rows.typecheckMembersInheritedSpec.vars false #[Value.slice none 0 0,.string .empty,.string .empty,.int .i64 0].toList 8=some ([.nil,.lit (.string []),.lit (.string []),.lit (.int .i64 0)],[],places):=
 ⟨[],by kernel_rfl⟩
set_option maxRecDepth 100000 in
theorem yh (H:Type) (enc:TypeId×Value->H) (W:World) (base:Nat) (args:Array Value) (ds gs:List (DataW H)) (before:List MemPlace)
  (fm:∀(j:Nat) t v,Tryz.f8.params[j]? =some t->args[j]? =some v->Value.okWide Tryz.prog W .any base t v)
  (hW:DataW.Whole enc Tryz.prog Tryz.f8.params.toList Rows.typecheckMembersInheritedSpec.vars false W args.toList ds gs before) (hk:Rows.uptoSmall H (ds++gs)=true)
  (hL:laidMetH Tryz.prog oZ W) (kP:W.ShapedOpen Tryz.prog):
  Calls Tryz.prog 8 args W fun e W' =>∃v,e= .returned v/\Rows.typecheckMembersInheritedSpec.post enc Tryz.prog Tryz.f8 false true false false W args v W' :=by
 have iA:=hW;obtain⟨p,q,hA0,hV,rfl,_,_⟩:=hW;have hA:DataW.TrodAll enc Tryz.prog W 0 (fun _=>true) true Tryz.f8.params.toList args.toList ds p:=hA0;rw[Tryz.params8] at hA fm;obtain⟨v0,v1,v2,v3,d0,d1,d2,d3,p0,p1,p2,p3,rfl,rfl,rfl,h0,h1,h2,h3⟩:=trodAll_four hA;obtain⟨rfl,rfl⟩:=trodVars_none hV;clear hA0;simp only[List.append_nil] at iA hk;have hb:Rows.uptoBulk d0<=1048576/\Rows.uptoBulk d1<=1048576/\Rows.uptoBulk d2<=1048576/\Rows.uptoBulk d3<=1048576:=by
  have h:Rows.uptoBulkAll [d0,d1,d2,d3]<=1048576:=of_decide_eq_true hk;simp only[Rows.uptoBulkAll] at h;omega
 obtain⟨CV,kq,Al,hb3⟩:=hb;obtain⟨l0,a0,n0,c0,hv0,hr0,hf0,kj⟩:=DL (fm 0 22 v0 rfl rfl) h0 CV;obtain⟨s1,hv1,bE⟩:=Io (fm 1 9 v1 rfl rfl) h1;obtain⟨s2,ri,cd⟩:=Io (fm 2 9 v2 rfl rfl) h2;obtain⟨k3,hv3,_,_,xq⟩:=open_int (Tryz.underlying3) (fm 3 3 v3 rfl rfl) h3;have aj:∀x∈p0++p1++p2++p3,x.block<W.heap.size:=fun x hx=>iA.lt x (by simpa using hx)
 subst hv0 hv1 ri hv3;have fin:Calls Tryz.prog 8 #[.slice a0 n0 c0,.string (bs s1),.string (bs s2),.int .i64 k3] W fun e w' =>e= .returned (.bool true)/\Below W.heap.size W w' :=
  Ez (aO:=[.slice a0 n0 c0,.string (bs s1),.string (bs s2),.int .i64 k3]) (fun V=>rfl) (OJ s1 s2 k3 l0 a0 n0 c0 ⟨W,dR W⟩ (EV hL kP) (Eh kj) hr0 (Jt kj))
 refine fin.mono fun e W' ⟨he,hw⟩=> ?_
 subst he;refine⟨_,rfl,_,_,_,[],p0++p1++p2++p3,[],iA,trodAll_mk1 (shut_bool (show Tryz.prog.underlying 4=some .bool by kernel_rfl) _),(by have:=trodAll_mk4 (Below.trod laidOut (by kernel_rfl) (of_decide_eq_true (by kernel_rfl)) h0 hw (fun x hx=>aj x (List.mem_append_left _ (List.mem_append_left _ (List.mem_append_left _ hx))))) (Below.trod laidOut (by kernel_rfl) (of_decide_eq_true (by kernel_rfl)) h1 hw (fun x hx=>aj x (List.mem_append_left _ (List.mem_append_left _ (List.mem_append_right _ hx))))) (Below.trod laidOut (by kernel_rfl) (of_decide_eq_true (by kernel_rfl)) h2 hw (fun x hx=>aj x (List.mem_append_left _ (List.mem_append_right _ hx)))) (Below.trod laidOut (by kernel_rfl) (of_decide_eq_true (by kernel_rfl)) h3 hw (fun x hx=>aj x (List.mem_append_right _ hx)));rw[List.append_assoc,List.append_assoc];exact this),rfl,hw.frame _,fun h=>by cases h⟩
set_option maxRecDepth 100000 in
theorem lifted (os:Os) (started:os.Started) (H:Type) (enc:TypeId×Value->H) (F:Stop.Interp):
  ReturnsInHanded {} Tryz.checked os 8 .any ((Rows.OpenSpec.upto Rows.typecheckMembersInheritedSpec).preRow enc Tryz.prog Tryz.f8 Rows.typecheckMembersInheritedUptoRow.domain false Rows.typecheckMembersInheritedUptoRow.laid) (((Rows.OpenSpec.upto Rows.typecheckMembersInheritedSpec).at F).post enc Tryz.prog Tryz.f8 false true false false):=by
 obtain⟨places,hx⟩:=reads os enc;refine returnsInHanded_of_row (C:=Tryz.checked) (s:=Rows.OpenSpec.upto Rows.typecheckMembersInheritedSpec) E.own started (by kernel_rfl) Tryz.func8
  (Da (enc:=enc) (C:=Tryz.checked) false (World.laidAll Tryz.prog os oZ) #[.slice none 0 0,.string .empty,.string .empty,.int .i64 0] (World.laidAll_os _ _ _) (World.shaped_of_ZipB (by kernel_rfl) (by kernel_rfl)) (by kernel_rfl)
   (OpenSpec.preRow_of_cond 8 hx (by kernel_rfl) (fun k hk=>by cases hk;kernel_rfl) (by kernel_rfl) (by rw[MakeChecks.laidMetH_plain _ _ _ (by kernel_rfl)];exact laidMet_laidAll _ (by kernel_rfl) (by kernel_rfl)))) ?_
 intro W base args ds gs before fm hW _ yY Ns hL kP _;exact yh H enc W base args ds gs before fm hW (yY _ rfl) hL kP
theorem named:Tryz.pinned.checked.prog.funcNamed Rows.typecheckMembersInheritedUptoRow.func=some 8:=by kernel_rfl
theorem closed:joinedFacts Tryz.pinned.checked.prog 8 Tryz.f8 (Rows.OpenSpec.upto Rows.typecheckMembersInheritedSpec).bare Rows.typecheckMembersInheritedUptoRow=true:=by kernel_rfl
theorem inst:decide (Tryz.f8.isInstance Tryz.pinned.checked.prog Rows.typecheckMembersInheritedUptoRow.origin Rows.typecheckMembersInheritedUptoRow.targs)=true:=by kernel_rfl
theorem said:Rows.TypecheckMembersInheritedUptoSaid:=
 OpenClaim.holds_of_cond 8 Tryz.f8 rfl rfl rfl rfl rfl rfl rfl ⟨rfl,rfl,rfl,rfl,rfl⟩ rfl rfl rfl rfl rfl named Tryz.func8 closed
  (of_decide_eq_true inst) (by unfold Func.isWrapper;first |(rw[ak (by decide+kernel)];kernel_rfl) |(rw[ae (by decide+kernel)];exact⟨rfl,rfl⟩))
  (fun os started H enc _ F=>by rw[OpenClaim.pre_eq_preRow];exact lifted os started H enc F)
theorem plain (f:FuncId) (fn:Func) (hf:Tryz.pinned.checked.prog.funcNamed "armature/armaturelaw56.TypecheckMembersInherited" =some f) (dK:Tryz.pinned.checked.prog.funcs[f]? =some fn):
  false=Tryz.pinned.checked.prog.looks []/\∀(j:Nat) t,fn.params[j]? =some t->Tryz.pinned.checked.prog.wantsStandIn t=false:=by
 obtain rfl:f=8:=Option.some.inj ((show Tryz.prog.funcNamed "armature/armaturelaw56.TypecheckMembersInherited" =some 8 by kernel_rfl).symm.trans hf) |>.symm;obtain rfl:fn=Tryz.f8:=(Option.some.inj (Tryz.func8.symm.trans dK)).symm;refine⟨by kernel_rfl,fun j t ht=> ?_⟩;rw[Tryz.params8] at ht;have hm:t∈[22,9,9,3]:=by simpa using Array.mem_of_getElem? ht
 have lV:([22,9,9,3].all fun u=> !Tryz.prog.wantsStandIn u)=true:=by kernel_rfl
 exact(show Tryz.prog.wantsStandIn t=false by simpa using List.all_eq_true.1 lV t hm)
theorem card:Rows.TypecheckMembersInheritedUptoCardSaid:=
 Claim7.holds_tied_plain_at .later [] _ _ _ _ said (fun _ h=>by cases h) (by kernel_rfl) (fun _ h=>by cases h) typecheckMembersInheritedUpto_row_tie rfl ⟨rfl,rfl⟩ (by kernel_rfl) rfl plain (by kernel_rfl)
#print axioms card
end Go.Proofs.YtmdokbohofchgaaGreatDoor.lawM

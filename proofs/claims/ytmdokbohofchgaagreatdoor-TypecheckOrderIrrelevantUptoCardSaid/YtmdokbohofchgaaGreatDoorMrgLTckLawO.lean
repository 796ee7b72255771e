/- 'TypecheckOrderIrrelevant' holds for every input of bulk at most 1048576: the tied card of the bounded form of this statement is proved. Conditions: the bound, and the row's own (the listed variables hold what their text lays). -/
import Derived.Test.YtmdokbohofchgaaGreatDoorMrg7
set_option linter.unusedSimpArgs false
set_option linter.unusedVariables false
set_option maxHeartbeats 4000000
set_option maxRecDepth 20000
namespace Go.Proofs.YtmdokbohofchgaaGreatDoor.lawQ
open Go Go.ChangeShapes Go.WideShapes Go.ChangeAt Go.RowKit
open Go.Proofs.YtmdokbohofchgaaGreatDoor.E
theorem laidOut:laidOutB Tryz.prog=true:=by kernel_rfl
theorem reads (os:Os) {H:Type} (enc:TypeId×Value->H):∃places,DataW.whole enc Tryz.prog ((World.laidAll Tryz.prog os oZ).forCall (fun _ _=>0) ⟨#[],#[.slice none 0 0],[]⟩).memory Tryz.f5.params.toList Rows.typecheckOrderIrrelevantSpec.vars false #[Value.slice none 0 0].toList 8=some ([.nil],[],places):=
 ⟨[],by kernel_rfl⟩
set_option maxRecDepth 100000 in
theorem yh (H:Type) (enc:TypeId×Value->H) (W:World) (base:Nat) (args:Array Value) (ds gs:List (DataW H)) (before:List MemPlace)
  (fm:∀(j:Nat) t v,Tryz.f5.params[j]? =some t->args[j]? =some v->Value.okWide Tryz.prog W .any base t v)
  (hW:DataW.Whole enc Tryz.prog Tryz.f5.params.toList Rows.typecheckOrderIrrelevantSpec.vars false W args.toList ds gs before) (hk:Rows.uptoSmall H (ds++gs)=true)
  (hL:laidMetH Tryz.prog oZ W) (kP:W.ShapedOpen Tryz.prog):
  Calls Tryz.prog 5 args W fun e W' =>∃v,e= .returned v/\Rows.typecheckOrderIrrelevantSpec.post enc Tryz.prog Tryz.f5 false true false false W args v W' :=by
 have iA:=hW;obtain⟨p,q,hA0,hV,rfl,_,_⟩:=hW;have hA:DataW.TrodAll enc Tryz.prog W 0 (fun _=>true) true Tryz.f5.params.toList args.toList ds p:=hA0;rw[Tryz.params5] at hA fm;obtain⟨v0,d0,rfl,rfl,h0⟩:=trodAll_one hA;obtain⟨rfl,rfl⟩:=trodVars_none hV;clear hA0;simp only[List.append_nil] at iA hk;have hb:Rows.uptoBulk d0<=1048576:=by
  have h:Rows.uptoBulkAll [d0]<=1048576:=of_decide_eq_true hk;simp only[Rows.uptoBulkAll] at h;omega
 obtain⟨l0,a0,n0,c0,hv0,hr0,hf0,kj⟩:=DL (fm 0 22 v0 rfl rfl) h0 hb;have aj:∀x∈p,x.block<W.heap.size:=fun x hx=>iA.lt x (by simpa using hx)
 subst hv0;have fin:Calls Tryz.prog 5 #[.slice a0 n0 c0] W fun e w' =>e= .returned (.bool true)/\Below W.heap.size W w' :=by
  have:=Qv l0 a0 n0 c0 ⟨W,dR W⟩ (EV hL kP) (Eh kj) hr0;exact Ez (aO:=[.slice a0 n0 c0]) (fun V=>rfl) this
 refine fin.mono fun e W' ⟨he,hw⟩=> ?_
 subst he;refine⟨_,rfl,_,_,_,[],p,[],iA,trodAll_mk1 (shut_bool (show Tryz.prog.underlying 4=some .bool by kernel_rfl) _),trodAll_mk1 (Below.trod laidOut (by kernel_rfl) (of_decide_eq_true (by kernel_rfl)) h0 hw aj),rfl,hw.frame _,fun h=>by cases h⟩
set_option maxRecDepth 100000 in
theorem lifted (os:Os) (started:os.Started) (H:Type) (enc:TypeId×Value->H) (F:Stop.Interp):
  ReturnsInHanded {} Tryz.checked os 5 .any ((Rows.OpenSpec.upto Rows.typecheckOrderIrrelevantSpec).preRow enc Tryz.prog Tryz.f5 Rows.typecheckOrderIrrelevantUptoRow.domain false Rows.typecheckOrderIrrelevantUptoRow.laid) (((Rows.OpenSpec.upto Rows.typecheckOrderIrrelevantSpec).at F).post enc Tryz.prog Tryz.f5 false true false false):=by
 obtain⟨places,hx⟩:=reads os enc;refine returnsInHanded_of_row (C:=Tryz.checked) (s:=Rows.OpenSpec.upto Rows.typecheckOrderIrrelevantSpec) E.own started (by kernel_rfl) Tryz.func5
  (Da (enc:=enc) (C:=Tryz.checked) false (World.laidAll Tryz.prog os oZ) #[.slice none 0 0] (World.laidAll_os _ _ _) (World.shaped_of_ZipB (by kernel_rfl) (by kernel_rfl)) (by kernel_rfl)
   (OpenSpec.preRow_of_cond 8 hx (by kernel_rfl) (fun k hk=>by cases hk;kernel_rfl) (by kernel_rfl) (by rw[MakeChecks.laidMetH_plain _ _ _ (by kernel_rfl)];exact laidMet_laidAll _ (by kernel_rfl) (by kernel_rfl)))) ?_
 intro W base args ds gs before fm hW _ yY Ns hL kP _;exact yh H enc W base args ds gs before fm hW (yY _ rfl) hL kP
theorem named:Tryz.pinned.checked.prog.funcNamed Rows.typecheckOrderIrrelevantUptoRow.func=some 5:=by kernel_rfl
theorem closed:joinedFacts Tryz.pinned.checked.prog 5 Tryz.f5 (Rows.OpenSpec.upto Rows.typecheckOrderIrrelevantSpec).bare Rows.typecheckOrderIrrelevantUptoRow=true:=by kernel_rfl
theorem inst:decide (Tryz.f5.isInstance Tryz.pinned.checked.prog Rows.typecheckOrderIrrelevantUptoRow.origin Rows.typecheckOrderIrrelevantUptoRow.targs)=true:=by kernel_rfl
theorem said:Rows.TypecheckOrderIrrelevantUptoSaid:=
 OpenClaim.holds_of_cond 5 Tryz.f5 rfl rfl rfl rfl rfl rfl rfl ⟨rfl,rfl,rfl,rfl,rfl⟩ rfl rfl rfl rfl rfl named Tryz.func5 closed
  (of_decide_eq_true inst) (by unfold Func.isWrapper;first |(rw[ak (by decide+kernel)];kernel_rfl) |(rw[ae (by decide+kernel)];exact⟨rfl,rfl⟩))
  (fun os started H enc _ F=>by rw[OpenClaim.pre_eq_preRow];exact lifted os started H enc F)
theorem plain (f:FuncId) (fn:Func) (hf:Tryz.pinned.checked.prog.funcNamed "armature/armaturelaw56.TypecheckOrderIrrelevant" =some f) (dK:Tryz.pinned.checked.prog.funcs[f]? =some fn):
  false=Tryz.pinned.checked.prog.looks []/\∀(j:Nat) t,fn.params[j]? =some t->Tryz.pinned.checked.prog.wantsStandIn t=false:=by
 obtain rfl:f=5:=Option.some.inj ((show Tryz.prog.funcNamed "armature/armaturelaw56.TypecheckOrderIrrelevant" =some 5 by kernel_rfl).symm.trans hf) |>.symm;obtain rfl:fn=Tryz.f5:=(Option.some.inj (Tryz.func5.symm.trans dK)).symm;refine⟨by kernel_rfl,fun j t ht=> ?_⟩;rw[Tryz.params5] at ht;have hm:t∈[22]:=by simpa using Array.mem_of_getElem? ht
 have lV:([22].all fun u=> !Tryz.prog.wantsStandIn u)=true:=by kernel_rfl
 exact(show Tryz.prog.wantsStandIn t=false by simpa using List.all_eq_true.1 lV t hm)
theorem card:Rows.TypecheckOrderIrrelevantUptoCardSaid:=
 Claim7.holds_tied_plain_at .later [] _ _ _ _ said (fun _ h=>by cases h) (by kernel_rfl) (fun _ h=>by cases h) typecheckOrderIrrelevantUpto_row_tie rfl ⟨rfl,rfl⟩ (by kernel_rfl) rfl plain (by kernel_rfl)
#print axioms card
end Go.Proofs.YtmdokbohofchgaaGreatDoor.lawQ

/- 'TypecheckUnusedClass' holds for every input of bulk at most 1048576: the tied card of the bounded form of this statement is proved. Conditions: the bound, and the row's own (the listed variables hold what their text lays). -/
import Derived.Test.YtmdokbohofchgaaGreatDoorMrg7
set_option linter.unusedSimpArgs false
set_option linter.unusedVariables false
set_option maxHeartbeats 4000000
set_option maxRecDepth 20000
namespace Go.Proofs.YtmdokbohofchgaaGreatDoor.lawU
open Go Go.ChangeShapes Go.WideShapes Go.ChangeAt Go.RowKit
open Go.Proofs.YtmdokbohofchgaaGreatDoor.E
theorem laidOut:laidOutB Tryz.prog=true:=by kernel_rfl
theorem reads (os:Os) {H:Type} (enc:TypeId×Value->H):∃places,DataW.whole enc Tryz.prog ((World.laidAll Tryz.prog os Bd).forCall (fun _ _=>0) ⟨#[],#[.slice none 0 0],[]⟩).memory Tryz.f4.params.toList Rows.typecheckUnusedClassSpec.vars false #[Value.slice none 0 0].toList 8=some ([.nil],[],places):=
 ⟨[],by kernel_rfl⟩
set_option maxRecDepth 100000 in
theorem RG (H:Type) (enc:TypeId×Value->H) (W:World) (base:Nat) (args:Array Value) (ds gs:List (DataW H)) (before:List MemPlace)
  (v7:∀(j:Nat) t v,Tryz.f4.params[j]? =some t->args[j]? =some v->Value.okWide Tryz.prog W .any base t v)
  (hW:DataW.Whole enc Tryz.prog Tryz.f4.params.toList Rows.typecheckUnusedClassSpec.vars false W args.toList ds gs before) (hk:Rows.uptoSmall H (ds++gs)=true)
  (hL:laidMetH Tryz.prog Bd W) (uk:W.ShapedOpen Tryz.prog):
  Calls Tryz.prog 4 args W fun e W' =>∃v,e= .returned v/\Rows.typecheckUnusedClassSpec.post enc Tryz.prog Tryz.f4 false true false false W args v W' :=by
 have nl:=hW;obtain⟨p,q,hA0,hV,rfl,_,_⟩:=hW;have hA:DataW.TrodAll enc Tryz.prog W 0 (fun _=>true) true Tryz.f4.params.toList args.toList ds p:=hA0;rw[Tryz.params4] at hA v7;obtain⟨v0,d0,rfl,rfl,h0⟩:=trodAll_one hA;obtain⟨rfl,rfl⟩:=trodVars_none hV;clear hA0;simp only[List.append_nil] at nl hk;have hb:Rows.uptoBulk d0<=1048576:=by
  have h:Rows.uptoBulkAll [d0]<=1048576:=of_decide_eq_true hk;simp only[Rows.uptoBulkAll] at h;omega
 obtain⟨l0,a0,n0,c0,hv0,hr0,hf0,Fj⟩:=OZ (v7 0 22 v0 rfl rfl) h0 hb;have an:∀x∈p,x.block<W.heap.size:=fun x hx=>nl.lt x (by simpa using hx)
 subst hv0;have fin:Calls Tryz.prog 4 #[.slice a0 n0 c0] W fun e w' =>e= .returned (.bool true)/\Below W.heap.size W w' :=by
  have:=Nt l0 a0 n0 c0 ⟨W,ee W⟩ (Tg hL uk) (QD Fj) hr0;exact RO (aN:=[.slice a0 n0 c0]) (fun V=>rfl) this
 refine fin.mono fun e W' ⟨he,hw⟩=> ?_
 subst he;refine⟨_,rfl,_,_,_,[],p,[],nl,trodAll_mk1 (shut_bool (show Tryz.prog.underlying 4=some .bool by kernel_rfl) _),trodAll_mk1 (Below.trod laidOut (by kernel_rfl) (of_decide_eq_true (by kernel_rfl)) h0 hw an),rfl,hw.frame _,fun h=>by cases h⟩
set_option maxRecDepth 100000 in
theorem lifted (os:Os) (started:os.Started) (H:Type) (enc:TypeId×Value->H) (F:Stop.Interp):
  ReturnsInHanded {} Tryz.checked os 4 .any ((Rows.OpenSpec.upto Rows.typecheckUnusedClassSpec).preRow enc Tryz.prog Tryz.f4 Rows.typecheckUnusedClassUptoRow.domain false Rows.typecheckUnusedClassUptoRow.laid) (((Rows.OpenSpec.upto Rows.typecheckUnusedClassSpec).at F).post enc Tryz.prog Tryz.f4 false true false false):=by
 obtain⟨places,hx⟩:=reads os enc;refine returnsInHanded_of_row (C:=Tryz.checked) (s:=Rows.OpenSpec.upto Rows.typecheckUnusedClassSpec) E.own started (by kernel_rfl) Tryz.func4
  (M0 (enc:=enc) (C:=Tryz.checked) false (World.laidAll Tryz.prog os Bd) #[.slice none 0 0] (World.laidAll_os _ _ _) (World.shaped_of_ZipB (by kernel_rfl) (by kernel_rfl)) (by kernel_rfl)
   (OpenSpec.preRow_of_cond 8 hx (by kernel_rfl) (fun k hk=>by cases hk;kernel_rfl) (by kernel_rfl) (by rw[MakeChecks.laidMetH_plain _ _ _ (by kernel_rfl)];exact laidMet_laidAll _ (by kernel_rfl) (by kernel_rfl)))) ?_
 intro W base args ds gs before v7 hW _ XP hwt hL uk _;exact RG H enc W base args ds gs before v7 hW (XP _ rfl) hL uk
theorem named:Tryz.pinned.checked.prog.funcNamed Rows.typecheckUnusedClassUptoRow.func=some 4:=by kernel_rfl
theorem closed:joinedFacts Tryz.pinned.checked.prog 4 Tryz.f4 (Rows.OpenSpec.upto Rows.typecheckUnusedClassSpec).bare Rows.typecheckUnusedClassUptoRow=true:=by kernel_rfl
theorem inst:decide (Tryz.f4.isInstance Tryz.pinned.checked.prog Rows.typecheckUnusedClassUptoRow.origin Rows.typecheckUnusedClassUptoRow.targs)=true:=by kernel_rfl
theorem said:Rows.TypecheckUnusedClassUptoSaid:=
 OpenClaim.holds_of_cond 4 Tryz.f4 rfl rfl rfl rfl rfl rfl rfl ⟨rfl,rfl,rfl,rfl,rfl⟩ rfl rfl rfl rfl rfl named Tryz.func4 closed
  (of_decide_eq_true inst) (by unfold Func.isWrapper;first |(rw[ai (by decide+kernel)];kernel_rfl) |(rw[aa (by decide+kernel)];exact⟨rfl,rfl⟩))
  (fun os started H enc _ F=>by rw[OpenClaim.pre_eq_preRow];exact lifted os started H enc F)
theorem plain (f:FuncId) (fn:Func) (hf:Tryz.pinned.checked.prog.funcNamed "armature/armaturelaw56.TypecheckUnusedClass" =some f) (ep:Tryz.pinned.checked.prog.funcs[f]? =some fn):
  false=Tryz.pinned.checked.prog.looks []/\∀(j:Nat) t,fn.params[j]? =some t->Tryz.pinned.checked.prog.wantsStandIn t=false:=by
 obtain rfl:f=4:=Option.some.inj ((show Tryz.prog.funcNamed "armature/armaturelaw56.TypecheckUnusedClass" =some 4 by kernel_rfl).symm.trans hf) |>.symm;obtain rfl:fn=Tryz.f4:=(Option.some.inj (Tryz.func4.symm.trans ep)).symm;refine⟨by kernel_rfl,fun j t ht=> ?_⟩;rw[Tryz.params4] at ht;have hm:t∈[22]:=by simpa using Array.mem_of_getElem? ht
 have qy:([22].all fun u=> !Tryz.prog.wantsStandIn u)=true:=by kernel_rfl
 exact(show Tryz.prog.wantsStandIn t=false by simpa using List.all_eq_true.1 qy t hm)
theorem card:Rows.TypecheckUnusedClassUptoCardSaid:=
 Claim7.holds_tied_plain_at .later [] _ _ _ _ said (fun _ h=>by cases h) (by kernel_rfl) (fun _ h=>by cases h) typecheckUnusedClassUpto_row_tie rfl ⟨rfl,rfl⟩ (by kernel_rfl) rfl plain (by kernel_rfl)
#print axioms card
end Go.Proofs.YtmdokbohofchgaaGreatDoor.lawU

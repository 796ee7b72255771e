/- 'ParseRoundTrip' holds for every input of bulk at most 1048576: the tied card of the bounded form of this statement is proved. Conditions: the bound, and the row's own (the listed variables hold what their text lays). -/
import Derived.Test.YtimddhkipjedcaaGreatDoorMrg9
set_option linter.unusedSimpArgs false
set_option linter.unusedVariables false
set_option maxHeartbeats 4000000
set_option maxRecDepth 20000
namespace Go.Proofs.YtimddhkipjedcaaGreatDoor.lawR
open Go Go.ChangeShapes Go.WideShapes Go.ChangeAt Go.RowKit
open Go.Proofs.YtimddhkipjedcaaGreatDoor.E
theorem laidOut:laidOutB Tryz.prog=true:=by kernel_rfl
theorem reads (os:Os) {H:Type} (enc:TypeId×Value->H):∃places,DataW.whole enc Tryz.prog ((World.laidAll Tryz.prog os C4).forCall (fun _ _=>0) ⟨#[],#[.slice none 0 0,.agg #[.int .i64 0,.int .i64 0,.string .empty,.string .empty,.int .i64 0,.int .u8 0,.string .empty,.slice none 0 0]],[]⟩).memory Tryz.f5.params.toList Rows.parseRoundTripSpec.vars false #[Value.slice none 0 0,.agg #[.int .i64 0,.int .i64 0,.string .empty,.string .empty,.int .i64 0,.int .u8 0,.string .empty,.slice none 0 0]].toList 8=some ([.nil,.agg [.lit (.int .i64 0),.lit (.int .i64 0),.lit (.string []),.lit (.string []),.agg [.lit (.int .i64 0),.lit (.int .u8 0),.lit (.string [])],.nil]],[],places):=
 ⟨[],by kernel_rfl⟩
set_option maxRecDepth 100000 in
theorem abO (H:Type) (enc:TypeId×Value->H) (W:World) (base:Nat) (args:Array Value) (ds gs:List (DataW H)) (before:List MemPlace)
  (vt:∀(j:Nat) t v,Tryz.f5.params[j]? =some t->args[j]? =some v->Value.okWide Tryz.prog W .any base t v)
  (hW:DataW.Whole enc Tryz.prog Tryz.f5.params.toList Rows.parseRoundTripSpec.vars false W args.toList ds gs before) (hk:Rows.uptoSmall H (ds++gs)=true)
  (hL:laidMetH Tryz.prog C4 W) (yY:W.ShapedOpen Tryz.prog):
  Calls Tryz.prog 5 args W fun e W' =>∃v,e= .returned v/\Rows.parseRoundTripSpec.post enc Tryz.prog Tryz.f5 false true false false W args v W' :=by
 have D7:=hW;obtain⟨p,q,hA0,hV,rfl,_,_⟩:=hW;have hA:DataW.TrodAll enc Tryz.prog W 0 (fun _=>true) true Tryz.f5.params.toList args.toList ds p:=hA0;rw[Tryz.params5] at hA vt;obtain⟨v0,v1,d0,d1,p0,p1,rfl,rfl,rfl,h0,h1⟩:=trodAll_two hA;obtain⟨rfl,rfl⟩:=trodVars_none hV;clear hA0;simp only[List.append_nil] at D7 hk;have hb:Rows.uptoBulk d0<=1048576/\Rows.uptoBulk d1<=1048576:=by
  have h:Rows.uptoBulkAll [d0,d1]<=1048576:=of_decide_eq_true hk;simp only[Rows.uptoBulkAll] at h;omega
 obtain⟨dk,ng⟩:=hb;obtain⟨l0,a0,n0,c0,di,hr0,_,kQ⟩:=Zg (vt 0 23 v0 rfl rfl) h0 dk;obtain⟨e1,c1,aU,Hj,Vz⟩:=Zh (vt 1 33 v1 rfl rfl) h1 ng;obtain⟨x1,rfl⟩:=mC Hj;have zd:=xH e1;have aw:∀x∈p0++p1,x.block<W.heap.size:=fun x hx=>D7.lt x (by simpa using hx)
 subst di aU;have fin:Calls Tryz.prog 5 #[.slice a0 n0 c0,.agg ⟨x1.cs⟩] W fun e w' =>e= .returned (.bool true)/\Below W.heap.size W w' :=by
  have:=Yg l0 a0 n0 c0 e1 x1 ⟨W,fR W⟩ (abj hL yY) hr0 kQ Hj (by simp only[aq];omega) (by simp only[aq];omega);exact abV (fy:=[.slice a0 n0 c0,.agg ⟨x1.cs⟩]) (fun V=>rfl) (this.mono fun _ _ _ _ h=>⟨h.1,h.2.2,h.2.1⟩)
 refine fin.mono fun e W' ⟨he,hw⟩=> ?_
 subst he;refine⟨_,rfl,_,_,_,[],p0++p1,[],D7,trodAll_mk1 (shut_bool (show Tryz.prog.underlying 4=some .bool by kernel_rfl) _),trodAll_mk2 (Below.trod laidOut (by kernel_rfl) (of_decide_eq_true (by kernel_rfl)) h0 hw (fun x hx=>aw x (List.mem_append_left _ hx))) (Below.trod laidOut (by kernel_rfl) (of_decide_eq_true (by kernel_rfl)) h1 hw (fun x hx=>aw x (List.mem_append_right _ hx))),rfl,hw.frame _,fun h=>by cases h⟩
set_option maxRecDepth 100000 in
theorem lifted (os:Os) (started:os.Started) (H:Type) (enc:TypeId×Value->H) (F:Stop.Interp):
  ReturnsInHanded {} Tryz.checked os 5 .any ((Rows.OpenSpec.upto Rows.parseRoundTripSpec).preRow enc Tryz.prog Tryz.f5 Rows.parseRoundTripUptoRow.domain false Rows.parseRoundTripUptoRow.laid) (((Rows.OpenSpec.upto Rows.parseRoundTripSpec).at F).post enc Tryz.prog Tryz.f5 false true false false):=by
 obtain⟨places,hx⟩:=reads os enc;refine returnsInHanded_of_row (C:=Tryz.checked) (s:=Rows.OpenSpec.upto Rows.parseRoundTripSpec) E.own started (by kernel_rfl) Tryz.func5
  (WY (enc:=enc) (C:=Tryz.checked) false (World.laidAll Tryz.prog os C4) #[.slice none 0 0,.agg #[.int .i64 0,.int .i64 0,.string .empty,.string .empty,.int .i64 0,.int .u8 0,.string .empty,.slice none 0 0]] (World.laidAll_os _ _ _) (World.shaped_of_ZipB (by kernel_rfl) (by kernel_rfl)) (by kernel_rfl)
   (OpenSpec.preRow_of_cond 8 hx (by kernel_rfl) (fun k hk=>by cases hk;kernel_rfl) (by kernel_rfl) (by rw[MakeChecks.laidMetH_plain _ _ _ (by kernel_rfl)];exact laidMet_laidAll _ (by kernel_rfl) (by kernel_rfl)))) ?_
 intro W base args ds gs before vt hW _ ahM hwt hL yY _;exact abO H enc W base args ds gs before vt hW (ahM _ rfl) hL yY
theorem named:Tryz.pinned.checked.prog.funcNamed Rows.parseRoundTripUptoRow.func=some 5:=by kernel_rfl
theorem closed:joinedFacts Tryz.pinned.checked.prog 5 Tryz.f5 (Rows.OpenSpec.upto Rows.parseRoundTripSpec).bare Rows.parseRoundTripUptoRow=true:=by kernel_rfl
theorem inst:decide (Tryz.f5.isInstance Tryz.pinned.checked.prog Rows.parseRoundTripUptoRow.origin Rows.parseRoundTripUptoRow.targs)=true:=by kernel_rfl
theorem said:Rows.ParseRoundTripUptoSaid:=
 OpenClaim.holds_of_cond 5 Tryz.f5 rfl rfl rfl rfl rfl rfl rfl ⟨rfl,rfl,rfl,rfl,rfl⟩ rfl rfl rfl rfl rfl named Tryz.func5 closed
  (of_decide_eq_true inst) (by unfold Func.isWrapper;first |(rw[ah (by decide+kernel)];kernel_rfl) |(rw[af (by decide+kernel)];exact⟨rfl,rfl⟩))
  (fun os started H enc _ F=>by rw[OpenClaim.pre_eq_preRow];exact lifted os started H enc F)
theorem plain (f:FuncId) (fn:Func) (hf:Tryz.pinned.checked.prog.funcNamed "armature/armaturelaw55.ParseRoundTrip" =some f) (gC:Tryz.pinned.checked.prog.funcs[f]? =some fn):
  true=Tryz.pinned.checked.prog.looks []/\∀(j:Nat) t,fn.params[j]? =some t->Tryz.pinned.checked.prog.wantsStandIn t=false:=by
 obtain rfl:f=5:=Option.some.inj ((show Tryz.prog.funcNamed "armature/armaturelaw55.ParseRoundTrip" =some 5 by kernel_rfl).symm.trans hf) |>.symm;obtain rfl:fn=Tryz.f5:=(Option.some.inj (Tryz.func5.symm.trans gC)).symm;refine⟨by kernel_rfl,fun j t ht=> ?_⟩;rw[Tryz.params5] at ht;have hm:t∈[23,33]:=by simpa using Array.mem_of_getElem? ht
 have gu:([23,33].all fun u=> !Tryz.prog.wantsStandIn u)=true:=by kernel_rfl
 exact(show Tryz.prog.wantsStandIn t=false by simpa using List.all_eq_true.1 gu t hm)
theorem card:Rows.ParseRoundTripUptoCardSaid:=
 Claim7.holds_tied_plain_at .later [] _ _ _ _ said (fun _ h=>by cases h) (by kernel_rfl) (fun _ h=>by cases h) parseRoundTripUpto_row_tie rfl ⟨rfl,rfl⟩ (by kernel_rfl) rfl plain (by kernel_rfl)
#print axioms card
end Go.Proofs.YtimddhkipjedcaaGreatDoor.lawR

/- Several texts in one. -/
import Derived.Test.YtimddhkipjedcaaGreatDoorMrg5
set_option linter.unusedSimpArgs false
set_option linter.unusedVariables false
set_option maxHeartbeats 4000000
set_option maxRecDepth 20000
namespace Go.Proofs.YtimddhkipjedcaaGreatDoor.E
open Go
section
variable {P:Program} {cfg:Cfg} {C:Ctx} {n:Nat} {st:LS} {V:Vl} {D:Nat->Nat} {w:World}
theorem SatW.reCells {bx:List Bx} {vc:List Vc} {nid:Nat} {m:Mem} (hW:SatW C bx vc nid m V D w) {k:Nat} {b:Bx} {du:List SV} (hb:ie bx k=some b) (hd:du.map (bj V)=b.cs.map (bj V)) (ho:fy nid vc du):SatW C (km bx k du) vc nid m V D w:=by
 have eC:=(tE hb).2;refine⟨⟨fun x hx=> ?_,hW.heap.vc,?_,hW.heap.uniq⟩,hW.wf,hW.frm,?_,hW.baseB,hW.baseV,⟨fun x hx=> ?_,hW.ids.2⟩,hW.le0,hW.m0,hW.mle⟩
 ·rcases As hx with hx |⟨b0,h1,h2,rfl⟩
  ·exact hW.heap.bx x hx
  ·have e:b0=b:=by rw[h2] at hb;exact Option.some.inj hb
   subst e;obtain⟨⟨o,q1,q2⟩,q3⟩:=hW.heap.bx b0 h1;refine⟨⟨o,q1,?_⟩,q3⟩;show mu b0.ty (du.map (bj V)) o;rw[hd];exact q2
 ·rw[Dt (At bx)];exact hW.heap.apart
 ·rw[Dt (At bx)];exact hW.own
 ·rcases As hx with hx |⟨b0,h1,h2,rfl⟩
  ·exact hW.ids.1 x hx
  ·exact⟨(hW.ids.1 b0 h1).1,ho⟩
theorem Nf {nid:Nat} {vc:List Vc} {x:SV} (hx:ll nid vc x):∀{l:List SV} {i:Nat},fy nid vc l->fy nid vc (l.set i x)
 |[],_,h=>h
 |s::r,0,h=>⟨hx,h.2⟩
 |s::r,i+1,h=>⟨h.1,Nf hx (i:=i) h.2⟩
theorem J1 {V:Vl} {k u:Nat} (hv:(V.γ k u).val= .slice none 0 0):∀{cs:List SV} {i:Nat},cs[i]? =some (.v (.slice none 0 0))->(cs.set i (.vec k u)).map (bj V)=cs.map (bj V)
 |c::r,0,h=>by
  have e:c= .v (.slice none 0 0):=by simpa using h
  subst e;show(V.γ k u).val::_=_::_;rw[hv];rfl
 |c::r,i+1,h=>by
  simp only[List.set_cons_succ,br];rw[J1 hv (cs:=r) (i:=i) (by simpa using h)]
theorem yy {x:Code} {Q:Exit->LS->Prop} (k i:Nat) (b:Bx) (e:TypeId) (sz:Nat) (h0:0<sz) (hb:ie st.bx k=some b) (hc:b.cs[i]? =some (.v (.slice none 0 0)))
  (h:jR (.mk (k:=(P,n,x,Q)) ⟨st.env,st.rho,km st.bx k (b.cs.set i (.vec st.nid 0)),⟨st.nid,0,e,sz,0,[]⟩::st.vc,st.nid+1,st.m⟩)):jR (.mk (k:=(P,n,x,Q)) st):=by
 rintro C a w ⟨gi,V,D,hS⟩;obtain⟨V',ha,hγ,hW⟩:=hS.w.addVc (w' :=w) (hd:=⟨none,0,0⟩) (e:=e) (sz:=sz) (n:=0) (xs:=[]) rfl rfl rfl (aq _) (fun _ _=>rfl) (World.ownsRow_nil w 0 e sz) (fun g hg=>by cases hg) h0 (fun u hu=>by cases hu);have hv:(V'.γ st.nid 0).val= .slice none 0 0:=by rw[hγ];rfl
 have eC:=(tE hb).2;have Fg:=hW.reCells hb (J1 hv hc) (Nf (x:= .vec st.nid 0) (show st.nid<st.nid+1/\bS (⟨st.nid,0,e,sz,0,[]⟩::st.vc) st.nid 0 from⟨Nat.lt_succ_self _,by simp [bS]⟩) (hW.ids.1 b eC).2);exact h C a w ⟨gi,V',D,hS.to ha (Nat.le_succ _) (fun k u hk hv=>tf rfl k u hk hv) Fg⟩
theorem DO {a rest:Code} {Q:Exit->LS->Prop} {X:Type} (S:X->LS) (J:X->Prop) (hn:∀x,J x->st.nid<=(S x).nid) (hm:∀x,J x->an st.m (S x).m) (ax:∀x,pv (S x))
  (h:WP P n a (jI (fun ak=>∃x,Match ak (S x)/\J x) Q) st) (hr:∀x,J x->WP P n rest Q (S x)):WP P n (.seq a rest) Q st:=by
 rintro C a1 w ⟨gi,V,D,hS⟩;refine wp_seq (wp_mono (h C a1 w ⟨gi,V,D,hS⟩) ?_);rintro e a2 w2 ⟨bR,bQ,hq⟩;cases e with
 |normal=>
  obtain⟨x,hM,hx⟩:=hq;obtain⟨_,V2,D2,hS2⟩:=bQ;refine hr x hx C a2 w2 ⟨hM.2.1,V2,D2,hS2.weaken hM (ax x) (fun b hb=>ej (hS.w.baseB b hb).2 (hn x hx)) (fun b hb=>ej (hS.w.baseV b hb).2.1 (hn x hx)) ?_⟩;rcases hm x hx with e |h
  ·rw[<- e];exact hS.w.m0
  ·exact Mem.le_trans hS.w.m0 h
 |exit id=>exact⟨bR,bQ,hq⟩
 |goto l=>exact⟨bR,bQ,hq⟩
 |ret=>exact⟨bR,bQ,hq⟩
 |panic ch=>exact⟨bR,bQ,hq⟩
 |outgrown=>exact⟨bR,bQ,hq⟩
end
@[reducible] def ur (k:Nat):Bx:=⟨k,59,[.v (.int .i64 0),.v (.string (bs [])),.v (.string (bs [])),.v (.slice none 0 0),.v (.slice none 0 0),.v (.slice none 0 0),.v (.slice none 0 0)]⟩
@[reducible] def QS (v:Int):Bx:=⟨10,59,[.v (.int .i64 v),.v (.string (bs [])),.v (.string (bs [])),.v (.slice none 0 0),.v (.slice none 0 0),.v (.slice none 0 0),.v (.slice none 0 0)]⟩
@[reducible] def QI (v:Int) (n sp:List UInt8) (is:Value):Bx:=⟨10,59,[.v (.int .i64 v),.v (.string (bs n)),.v (.string (bs sp)),.v is,.v (.slice none 0 0),.v (.slice none 0 0),.v (.slice none 0 0)]⟩
@[reducible] def dB (y:DSt):Bx:=⟨10,59,[.v (.int .i64 y.d.fl),.v (.string (bs y.d.name)),.v (.string (bs y.d.super)),.v (.slice y.ia y.d.ifs.length y.ic),.vec 102 y.uf,.vec 103 y.um,.vec 104 y.ui]⟩
@[reducible] def fV (y:DSt):Vc:=⟨102,y.uf,94,5,y.d.fields.length,flat Fc.cs y.d.fields⟩
@[reducible] def mV (y:DSt):Vc:=⟨103,y.um,98,8,y.d.methods.length,y.ms⟩
@[reducible] def iV (y:DSt):Vc:=⟨104,y.ui,73,23,y.d.init.length,y.is⟩
attribute [go_sem] ur QS QI dB fV mV iV
theorem Nc:∀fl:Int,0<=fl->fl<2->bits .or .i64 fl 1536=fl+1536:=fun fl h0 h1=>by
 have h:(List.range 2).all (fun n=>decide (bits .or .i64 (n:Int) 1536=(n:Int)+1536))=true:=by kernel_rfl
 obtain⟨k,rfl⟩:=Int.eq_ofNat_of_zero_le h0;exact of_decide_eq_true (List.all_eq_true.1 h k (List.mem_range.2 (by omega)))
abbrev Cc.svs (x:Cc):List SV:=[.v (.int .i64 x.fl),.v (.string (bs x.name)),.v (.string (bs x.super)),.v (.slice x.ia x.il x.ic),.v (.slice x.fa x.fn x.fc),.v (.slice x.ma x.ml x.mc),.v (.slice x.sa x.sl x.sc)]
attribute [go_sem] Cc.svs
abbrev adS (ts:List Tk) (en:Int) (s:PSt) (K:PR Cd) (m:Mem):SV->Hp->Mem->Prop:=fun r H' m' =>an m m' /\∃(x:Cc) (d:Cd) (s' :PSt),r= .agg x.svs/\jW m' d x.cs/\H' =pH ts en s' /\Res ts en s K d s'
structure HdR (ts:List Tk) (en:Int) (s:PSt) (m:Mem) (s1:PSt) (v:Int) (nm sp:List UInt8) (is:List (List UInt8)) (ia:Option Addr) (ic:Nat):Prop where
 inv:Inv ts s1
 fl:0<=v/\v<4096
 hn:nm.length<=1000000
 hs:sp.length<=1000000
 il:is.length<=1000001
 ic:is.length<=ic
 ir:aK m ia is.length 1 (strs is)
 iw:∀w∈is,w.length<=1000000
 res:∀(a:Cd) (s' :PSt),Res ts en s1 (aW [123] (ts.drop s1.i) fun r=> .ok (⟨v,nm,sp,is,[],[],[]⟩,r)) a s' ->Res ts en s (kZ (ts.drop s.i)) a s'
section
variable {ts:List Tk} {en:Int} {s:PSt}
theorem T5 (hT:TsB ts) (hI:Inv ts s) (m:Mem):FnH Tryz.prog 26 [.box 0 0] (pH ts en s) m (adS ts en s (wo (ts.drop s.i)) m):=by
 have hl:=hT.len;refine iA (iA (iA (OF Tryz.func26 rfl rfl (dL rfl) ?_ ?_)))
 ·simp only[go_sem]
 ·refine DO (fun _:Unit=>⟨[⟨0,[],.box 0 0⟩,⟨2,[],.box 2 0⟩],[],[ur 2,lT en s],[j4 ts],10,m⟩) (fun _=>True) (fun _ _=>dL rfl) (fun _ _=> .inl rfl) (fun _=> ?_) (qD ay (by kernel_rfl) ?_) fun _ _=> ?_
  ·simp only[go_sem]
  ·simp only[go_sem];exact⟨(),trivial⟩
  ·refine DO (fun _:Unit=>⟨[⟨0,[],.box 0 0⟩,⟨2,[],.box 2 0⟩,⟨3,[],.box 10 0⟩],[],[ur 10,ur 2,lT en s],[j4 ts],20,m⟩) (fun _=>True) (fun _ _=>dL rfl) (fun _ _=> .inl rfl) (fun _=> ?_) (qD ay (by kernel_rfl) ?_) fun _ _=> ?_
   ·simp only[go_sem]
   ·simp only[go_sem];exact⟨(),trivial⟩
   ·refine DO (fun y:PSt×Int×Mem=>⟨[⟨0,[],.box 0 0⟩,⟨2,[],.box 2 0⟩,⟨3,[],.box 10 0⟩],[],[QS y.2.1,ur 2,lT en y.1],[j4 ts],40,y.2.2⟩) (fun y=>an m y.2.2/\(0<=y.2.1/\y.2.1<2)/\ModR ts fR 0 s y.2.1 y.1) (fun _ _=>dL rfl) (fun y hy=>hy.1) (fun _=> ?_) (qD ay (by kernel_rfl) ?_) ?_
    ·simp only[go_sem]
    ·by_cases hc:ah ts s.i Pr=true
     ·have ha:=dA (en:=en) hT hc;have hi:=aJ hc;simp only[go_sem];refine ab ((ha m).mono ?_);clear ha;rintro r H' m1 aN ⟨l1,rfl,rfl⟩;simp only[go_sem];exact⟨(s.next,1,m1),⟨⟨rfl,⟨rfl,rfl,rfl⟩⟩,.inl rfl⟩,l1,⟨(by decide:(0:Int)<=1),(by decide:(1:Int)<2)⟩,⟨hI.next hi,Nat.le_succ _,rfl,fun h=>(by rw[hI.nfl hi] at h;cases h),by rw[fR,eE,aj (by rw[<- ar];exact hc),<- bD];rfl⟩⟩
     ·have ha:=dC (en:=en) hT hc;simp only[go_sem];refine ab ((ha m).mono ?_);clear ha;rintro r H' m1 aN ⟨l1,rfl,rfl⟩;simp only[go_sem];exact⟨(s,0,m1),⟨⟨rfl,⟨rfl,rfl,rfl⟩⟩,.inl rfl⟩,l1,⟨(by decide:(0:Int)<=0),(by decide:(0:Int)<2)⟩,⟨hI,aq _,rfl,fun _=>rfl,by rw[fR,eE,ae (by rw[<- ar];exact hc)];rfl⟩⟩
    ·rintro⟨s1,v,m1⟩ ⟨q1,⟨q2,q3⟩,hM⟩;dsimp only at q1 q2 q3 hM;refine DO (fun y:PSt×Int×List UInt8×List UInt8×List (List UInt8)×Option Addr×Nat×Mem=>⟨[⟨0,[],.box 0 0⟩,⟨2,[],.box 2 0⟩,⟨3,[],.box 10 0⟩],[],[QI y.2.1 y.2.2.1 y.2.2.2.1 (.slice y.2.2.2.2.2.1 y.2.2.2.2.1.length y.2.2.2.2.2.2.1),ur 2,lT en y.1],[j4 ts],100,y.2.2.2.2.2.2.2⟩)
      (fun y=>an m1 y.2.2.2.2.2.2.2/\HdR ts en s y.2.2.2.2.2.2.2 y.1 y.2.1 y.2.2.1 y.2.2.2.1 y.2.2.2.2.1 y.2.2.2.2.2.1 y.2.2.2.2.2.2.1) (fun _ _=>dL rfl) (fun y hy=>hy.1) (fun _=> ?_) (qD ay (by kernel_rfl) ?_) ?_
     ·simp only[go_sem]
     ·simp only[go_sem];have eL:=OV v q2 (by omega);have o1:=Hh v q2 (by omega);have o2:=Hh (v+16) (by omega) (by omega);have o3:=Nc v q2 q3;by_cases hc10:ah ts (s1).i zo=true
      ·have BT:=fun m' =>dA (en:=en) hT hc10 m'
       refine ab ((BT m1).mono ?_);clear BT;rintro r H' m2 aH ⟨l2,rfl,rfl⟩;simp only[go_sem,eL,o1,o2,o3];have adf:=hM.inv.next (aJ hc10);have agb:(s1).next.i=(s1).i+1:=rfl;try rw[Nc v q2 q3]
       have P1:=fun m' =>oN ts en (s1).next m' hT adf
       refine ab ((P1 m2).mono ?_);clear P1;rintro r H' m3 bN ⟨l3,w12,sR,rfl,hw12,rfl,hR12⟩;simp only[go_sem,eL,o1,o2,o3];have aga:=hR12.mono;by_cases hc13:ah ts (sR).i gZ=true
       ·have BR:=fun m' =>dA (en:=en) hT hc13 m'
        refine ab ((BR m3).mono ?_);clear BR;rintro r H' m4 dd ⟨l4,rfl,rfl⟩;simp only[go_sem,eL,o1,o2,o3];have ade:=hR12.inv.next (aJ hc13);have af8:(sR).next.i=(sR).i+1:=rfl;have oE:=fun m' =>zX (s:=(sR).next) (en:=en) hT ade m'
        refine ab ((oE m4).mono ?_);clear oE;rintro r H' m5 cW ⟨l5,l1015,a15,CA,s15,rfl,ha15,hb15,hc15,hd15,rfl,hR15⟩;simp only[go_sem,eL,o1,o2,o3];have Pd:=hR15.mono;exact⟨(s15,v+1536,w12,ld,l1015,a15,CA,m5),⟨⟨⟨rfl,rfl,rfl,rfl⟩,⟨rfl,rfl,rfl⟩⟩,.inl rfl⟩,(aa l2 (aa l3 (aa l4 l5))),⟨hR15.inv,(by constructor<;>omega:(0:Int)<=v+1536/\v+1536<4096),hw12,(by decide:ld.length<=1000000),hb15,ha15,hc15,hd15,fun a s' h=>(by unfold kZ;rw[hM.val];exact js hM (by dsimp only;rw[aj (by rw[<- ar];exact hc10),<- bD];exact bO hM.inv (aJ hc10) (aR hR12 (aR (show Res ts en (sR) (gY gZ (ts.drop (sR).i)) l1015 s15 from by unfold gY;rw[aj (by rw[<- ar];exact hc13),<- bD];exact bO hR12.inv (aJ hc13) hR15) h))))⟩⟩
       ·have BR:=fun m' =>dC (en:=en) hT hc13 m'
        refine ab ((BR m3).mono ?_);clear BR;rintro r H' m4 dd ⟨l4,rfl,rfl⟩;simp only[go_sem,eL,o1,o2,o3];exact⟨(sR,v+1536,w12,ld,[],none,0,m4),⟨⟨⟨rfl,rfl,rfl,rfl⟩,⟨rfl,rfl,rfl⟩⟩,.inl rfl⟩,(aa l2 (aa l3 l4)),⟨hR12.inv,(by constructor<;>omega:(0:Int)<=v+1536/\v+1536<4096),hw12,(by decide:ld.length<=1000000),au _,aq _,cX _ _,fun w hw=>(by cases hw),fun a s' h=>(by unfold kZ;rw[hM.val];exact js hM (by dsimp only;rw[aj (by rw[<- ar];exact hc10),<- bD];exact bO hM.inv (aJ hc10) (aR hR12 (aR (show Res ts en (sR) (gY gZ (ts.drop (sR).i)) [] (sR) from by unfold gY;rw[ae (by rw[<- ar];exact hc13)];exact bY _ hR12.inv) h))))⟩⟩
      ·have BT:=fun m' =>dC (en:=en) hT hc10 m'
       refine ab ((BT m1).mono ?_);clear BT;rintro r H' m2 aH ⟨l2,rfl,rfl⟩;simp only[go_sem,eL,o1,o2,o3];by_cases hc12:ah ts (s1).i Iu=true
       ·have BS:=fun m' =>dA (en:=en) hT hc12 m'
        refine ab ((BS m2).mono ?_);clear BS;rintro r H' m3 bN ⟨l3,rfl,rfl⟩;simp only[go_sem,eL,o1,o2,o3];have xq:=hM.inv.next (aJ hc12);have af9:(s1).next.i=(s1).i+1:=rfl;by_cases hc14:ah ts ((s1).next).i BF=true
        ·have oE:=fun m' =>dA (en:=en) hT hc14 m'
         refine ab ((oE m3).mono ?_);clear oE;rintro r H' m4 dd ⟨l4,rfl,rfl⟩;simp only[go_sem,eL,o1,o2,o3];have ug:=xq.next (aJ hc14);have Pd:((s1).next).next.i=((s1).next).i+1:=rfl;have rE:=fun m' =>eV ts en ((s1).next).next kA m' hT.l8
         have xp:Inv ts (aU ts en ((s1).next).next kA):=ff ug;have HY:(((s1).next).next).i<=(aU ts en ((s1).next).next kA).i:=gC ug;refine ab ((rE m4).mono ?_);clear rE;rintro r H' m5 cW ⟨l5,rfl,rfl⟩;simp only[go_sem,eL,o1,o2,o3];have rD:=fun m' =>oN ts en (aU ts en ((s1).next).next kA) m' hT xp
         refine ab ((rD m5).mono ?_);clear rD;rintro r H' m6 fb ⟨l6,w17,jz,rfl,hw17,rfl,hR17⟩;simp only[go_sem,eL,o1,o2,o3];have HW:=hR17.mono;have rC:=fun m' =>eV ts en jz gZ m' hT.l8
         have xo:Inv ts (aU ts en jz gZ):=ff hR17.inv;have HV:(jz).i<=(aU ts en jz gZ).i:=gC hR17.inv;refine ab ((rC m6).mono ?_);clear rC;rintro r H' m7 gM ⟨l7,rfl,rfl⟩;simp only[go_sem,eL,o1,o2,o3];have rA:=fun m' =>oN ts en (aU ts en jz gZ) m' hT xo
         refine ab ((rA m7).mono ?_);clear rA;rintro r H' m8 ku ⟨l8,w19,eg,rfl,hw19,rfl,hR19⟩;simp only[go_sem,eL,o1,o2,o3];have HU:=hR19.mono;by_cases hc20:ah ts (eg).i lM=true
         ·have iM:=fun m' =>dA (en:=en) hT hc20 m'
          refine ab ((iM m8).mono ?_);clear iM;rintro r H' m9 nA ⟨l9,rfl,rfl⟩;simp only[go_sem,eL,o1,o2,o3];have xm:=hR19.inv.next (aJ hc20);have Ek:(eg).next.i=(eg).i+1:=rfl;have jB:=fun m' =>zX (s:=(eg).next) (en:=en) hT xm m'
          refine ab ((jB m9).mono ?_);clear jB;rintro r H' m10 vC ⟨l10,l1022,a22,rY,s22,rfl,ha22,hb22,hc22,hd22,rfl,hR22⟩;simp only[go_sem,eL,o1,o2,o3];have Bd:=hR22.mono;exact⟨(s22,v+16+1024,w17,w19,l1022,a22,rY,m10),⟨⟨⟨rfl,rfl,rfl,rfl⟩,⟨rfl,rfl,rfl⟩⟩,.inl rfl⟩,(aa l2 (aa l3 (aa l4 (aa l5 (aa l6 (aa l7 (aa l8 (aa l9 l10)))))))),⟨hR22.inv,(by constructor<;>omega:(0:Int)<=v+16+1024/\v+16+1024<4096),hw17,hw19,hb22,ha22,hc22,hd22,fun a s' h=>(by unfold kZ;rw[hM.val];exact js hM (by dsimp only;rw[ae (by rw[<- ar];exact hc10),show bg iN v (ts.drop s1.i)=(v+16+1024,ts.drop (((s1).next).next).i) from by rw[iN,eE,aj (by rw[<- ar];exact hc12),<- bD,eE,aj (by rw[<- ar];exact hc14),<- bD];rfl];exact(bO hM.inv (aJ hc12) (bO xq (aJ hc14) (dI ug (aR hR17 (dI hR17.inv (aR hR19 (aR (show Res ts en (eg) (gY lM (ts.drop (eg).i)) l1022 s22 from by unfold gY;rw[aj (by rw[<- ar];exact hc20),<- bD];exact bO hR19.inv (aJ hc20) hR22) h)))))))))⟩⟩
         ·have iM:=fun m' =>dC (en:=en) hT hc20 m'
          refine ab ((iM m8).mono ?_);clear iM;rintro r H' m9 nA ⟨l9,rfl,rfl⟩;simp only[go_sem,eL,o1,o2,o3];exact⟨(eg,v+16+1024,w17,w19,[],none,0,m9),⟨⟨⟨rfl,rfl,rfl,rfl⟩,⟨rfl,rfl,rfl⟩⟩,.inl rfl⟩,(aa l2 (aa l3 (aa l4 (aa l5 (aa l6 (aa l7 (aa l8 l9))))))),⟨hR19.inv,(by constructor<;>omega:(0:Int)<=v+16+1024/\v+16+1024<4096),hw17,hw19,au _,aq _,cX _ _,fun w hw=>(by cases hw),fun a s' h=>(by unfold kZ;rw[hM.val];exact js hM (by dsimp only;rw[ae (by rw[<- ar];exact hc10),show bg iN v (ts.drop s1.i)=(v+16+1024,ts.drop (((s1).next).next).i) from by rw[iN,eE,aj (by rw[<- ar];exact hc12),<- bD,eE,aj (by rw[<- ar];exact hc14),<- bD];rfl];exact(bO hM.inv (aJ hc12) (bO xq (aJ hc14) (dI ug (aR hR17 (dI hR17.inv (aR hR19 (aR (show Res ts en (eg) (gY lM (ts.drop (eg).i)) [] (eg) from by unfold gY;rw[ae (by rw[<- ar];exact hc20)];exact bY _ hR19.inv) h)))))))))⟩⟩
        ·have oE:=fun m' =>dC (en:=en) hT hc14 m'
         refine ab ((oE m3).mono ?_);clear oE;rintro r H' m4 dd ⟨l4,rfl,rfl⟩;simp only[go_sem,eL,o1,o2,o3];have rE:=fun m' =>eV ts en (s1).next kA m' hT.l8
         have xp:Inv ts (aU ts en (s1).next kA):=ff xq;have HY:((s1).next).i<=(aU ts en (s1).next kA).i:=gC xq;refine ab ((rE m4).mono ?_);clear rE;rintro r H' m5 cW ⟨l5,rfl,rfl⟩;simp only[go_sem,eL,o1,o2,o3];have rD:=fun m' =>oN ts en (aU ts en (s1).next kA) m' hT xp
         refine ab ((rD m5).mono ?_);clear rD;rintro r H' m6 fb ⟨l6,w17,jz,rfl,hw17,rfl,hR17⟩;simp only[go_sem,eL,o1,o2,o3];have HW:=hR17.mono;have rC:=fun m' =>eV ts en jz gZ m' hT.l8
         have xo:Inv ts (aU ts en jz gZ):=ff hR17.inv;have HV:(jz).i<=(aU ts en jz gZ).i:=gC hR17.inv;refine ab ((rC m6).mono ?_);clear rC;rintro r H' m7 gM ⟨l7,rfl,rfl⟩;simp only[go_sem,eL,o1,o2,o3];have rA:=fun m' =>oN ts en (aU ts en jz gZ) m' hT xo
         refine ab ((rA m7).mono ?_);clear rA;rintro r H' m8 ku ⟨l8,w19,eg,rfl,hw19,rfl,hR19⟩;simp only[go_sem,eL,o1,o2,o3];have HU:=hR19.mono;by_cases hc20:ah ts (eg).i lM=true
         ·have iM:=fun m' =>dA (en:=en) hT hc20 m'
          refine ab ((iM m8).mono ?_);clear iM;rintro r H' m9 nA ⟨l9,rfl,rfl⟩;simp only[go_sem,eL,o1,o2,o3];have xm:=hR19.inv.next (aJ hc20);have Ek:(eg).next.i=(eg).i+1:=rfl;have jB:=fun m' =>zX (s:=(eg).next) (en:=en) hT xm m'
          refine ab ((jB m9).mono ?_);clear jB;rintro r H' m10 vC ⟨l10,l1022,a22,rY,s22,rfl,ha22,hb22,hc22,hd22,rfl,hR22⟩;simp only[go_sem,eL,o1,o2,o3];have Bd:=hR22.mono;exact⟨(s22,v+16,w17,w19,l1022,a22,rY,m10),⟨⟨⟨rfl,rfl,rfl,rfl⟩,⟨rfl,rfl,rfl⟩⟩,.inl rfl⟩,(aa l2 (aa l3 (aa l4 (aa l5 (aa l6 (aa l7 (aa l8 (aa l9 l10)))))))),⟨hR22.inv,(by constructor<;>omega:(0:Int)<=v+16/\v+16<4096),hw17,hw19,hb22,ha22,hc22,hd22,fun a s' h=>(by unfold kZ;rw[hM.val];exact js hM (by dsimp only;rw[ae (by rw[<- ar];exact hc10),show bg iN v (ts.drop s1.i)=(v+16,ts.drop ((s1).next).i) from by rw[iN,eE,aj (by rw[<- ar];exact hc12),<- bD,eE,ae (by rw[<- ar];exact hc14)];rfl];exact(bO hM.inv (aJ hc12) (dI xq (aR hR17 (dI hR17.inv (aR hR19 (aR (show Res ts en (eg) (gY lM (ts.drop (eg).i)) l1022 s22 from by unfold gY;rw[aj (by rw[<- ar];exact hc20),<- bD];exact bO hR19.inv (aJ hc20) hR22) h))))))))⟩⟩
         ·have iM:=fun m' =>dC (en:=en) hT hc20 m'
          refine ab ((iM m8).mono ?_);clear iM;rintro r H' m9 nA ⟨l9,rfl,rfl⟩;simp only[go_sem,eL,o1,o2,o3];exact⟨(eg,v+16,w17,w19,[],none,0,m9),⟨⟨⟨rfl,rfl,rfl,rfl⟩,⟨rfl,rfl,rfl⟩⟩,.inl rfl⟩,(aa l2 (aa l3 (aa l4 (aa l5 (aa l6 (aa l7 (aa l8 l9))))))),⟨hR19.inv,(by constructor<;>omega:(0:Int)<=v+16/\v+16<4096),hw17,hw19,au _,aq _,cX _ _,fun w hw=>(by cases hw),fun a s' h=>(by unfold kZ;rw[hM.val];exact js hM (by dsimp only;rw[ae (by rw[<- ar];exact hc10),show bg iN v (ts.drop s1.i)=(v+16,ts.drop ((s1).next).i) from by rw[iN,eE,aj (by rw[<- ar];exact hc12),<- bD,eE,ae (by rw[<- ar];exact hc14)];rfl];exact(bO hM.inv (aJ hc12) (dI xq (aR hR17 (dI hR17.inv (aR hR19 (aR (show Res ts en (eg) (gY lM (ts.drop (eg).i)) [] (eg) from by unfold gY;rw[ae (by rw[<- ar];exact hc20)];exact bY _ hR19.inv) h))))))))⟩⟩
       ·have BS:=fun m' =>dC (en:=en) hT hc12 m'
        refine ab ((BS m2).mono ?_);clear BS;rintro r H' m3 bN ⟨l3,rfl,rfl⟩;simp only[go_sem,eL,o1,o2,o3];by_cases hc14:ah ts (s1).i BF=true
        ·have oE:=fun m' =>dA (en:=en) hT hc14 m'
         refine ab ((oE m3).mono ?_);clear oE;rintro r H' m4 dd ⟨l4,rfl,rfl⟩;simp only[go_sem,eL,o1,o2,o3];have ug:=hM.inv.next (aJ hc14);have Pd:(s1).next.i=(s1).i+1:=rfl;have rE:=fun m' =>eV ts en (s1).next kA m' hT.l8
         have xp:Inv ts (aU ts en (s1).next kA):=ff ug;have HY:((s1).next).i<=(aU ts en (s1).next kA).i:=gC ug;refine ab ((rE m4).mono ?_);clear rE;rintro r H' m5 cW ⟨l5,rfl,rfl⟩;simp only[go_sem,eL,o1,o2,o3];have rD:=fun m' =>oN ts en (aU ts en (s1).next kA) m' hT xp
         refine ab ((rD m5).mono ?_);clear rD;rintro r H' m6 fb ⟨l6,w17,jz,rfl,hw17,rfl,hR17⟩;simp only[go_sem,eL,o1,o2,o3];have HW:=hR17.mono;have rC:=fun m' =>eV ts en jz gZ m' hT.l8
         have xo:Inv ts (aU ts en jz gZ):=ff hR17.inv;have HV:(jz).i<=(aU ts en jz gZ).i:=gC hR17.inv;refine ab ((rC m6).mono ?_);clear rC;rintro r H' m7 gM ⟨l7,rfl,rfl⟩;simp only[go_sem,eL,o1,o2,o3];have rA:=fun m' =>oN ts en (aU ts en jz gZ) m' hT xo
         refine ab ((rA m7).mono ?_);clear rA;rintro r H' m8 ku ⟨l8,w19,eg,rfl,hw19,rfl,hR19⟩;simp only[go_sem,eL,o1,o2,o3];have HU:=hR19.mono;by_cases hc20:ah ts (eg).i lM=true
         ·have iM:=fun m' =>dA (en:=en) hT hc20 m'
          refine ab ((iM m8).mono ?_);clear iM;rintro r H' m9 nA ⟨l9,rfl,rfl⟩;simp only[go_sem,eL,o1,o2,o3];have xm:=hR19.inv.next (aJ hc20);have Ek:(eg).next.i=(eg).i+1:=rfl;have jB:=fun m' =>zX (s:=(eg).next) (en:=en) hT xm m'
          refine ab ((jB m9).mono ?_);clear jB;rintro r H' m10 vC ⟨l10,l1022,a22,rY,s22,rfl,ha22,hb22,hc22,hd22,rfl,hR22⟩;simp only[go_sem,eL,o1,o2,o3];have Bd:=hR22.mono;exact⟨(s22,v+1024,w17,w19,l1022,a22,rY,m10),⟨⟨⟨rfl,rfl,rfl,rfl⟩,⟨rfl,rfl,rfl⟩⟩,.inl rfl⟩,(aa l2 (aa l3 (aa l4 (aa l5 (aa l6 (aa l7 (aa l8 (aa l9 l10)))))))),⟨hR22.inv,(by constructor<;>omega:(0:Int)<=v+1024/\v+1024<4096),hw17,hw19,hb22,ha22,hc22,hd22,fun a s' h=>(by unfold kZ;rw[hM.val];exact js hM (by dsimp only;rw[ae (by rw[<- ar];exact hc10),show bg iN v (ts.drop s1.i)=(v+1024,ts.drop ((s1).next).i) from by rw[iN,eE,ae (by rw[<- ar];exact hc12),eE,aj (by rw[<- ar];exact hc14),<- bD];rfl];exact(bO hM.inv (aJ hc14) (dI ug (aR hR17 (dI hR17.inv (aR hR19 (aR (show Res ts en (eg) (gY lM (ts.drop (eg).i)) l1022 s22 from by unfold gY;rw[aj (by rw[<- ar];exact hc20),<- bD];exact bO hR19.inv (aJ hc20) hR22) h))))))))⟩⟩
         ·have iM:=fun m' =>dC (en:=en) hT hc20 m'
          refine ab ((iM m8).mono ?_);clear iM;rintro r H' m9 nA ⟨l9,rfl,rfl⟩;simp only[go_sem,eL,o1,o2,o3];exact⟨(eg,v+1024,w17,w19,[],none,0,m9),⟨⟨⟨rfl,rfl,rfl,rfl⟩,⟨rfl,rfl,rfl⟩⟩,.inl rfl⟩,(aa l2 (aa l3 (aa l4 (aa l5 (aa l6 (aa l7 (aa l8 l9))))))),⟨hR19.inv,(by constructor<;>omega:(0:Int)<=v+1024/\v+1024<4096),hw17,hw19,au _,aq _,cX _ _,fun w hw=>(by cases hw),fun a s' h=>(by unfold kZ;rw[hM.val];exact js hM (by dsimp only;rw[ae (by rw[<- ar];exact hc10),show bg iN v (ts.drop s1.i)=(v+1024,ts.drop ((s1).next).i) from by rw[iN,eE,ae (by rw[<- ar];exact hc12),eE,aj (by rw[<- ar];exact hc14),<- bD];rfl];exact(bO hM.inv (aJ hc14) (dI ug (aR hR17 (dI hR17.inv (aR hR19 (aR (show Res ts en (eg) (gY lM (ts.drop (eg).i)) [] (eg) from by unfold gY;rw[ae (by rw[<- ar];exact hc20)];exact bY _ hR19.inv) h))))))))⟩⟩
        ·have oE:=fun m' =>dC (en:=en) hT hc14 m'
         refine ab ((oE m3).mono ?_);clear oE;rintro r H' m4 dd ⟨l4,rfl,rfl⟩;simp only[go_sem,eL,o1,o2,o3];have rE:=fun m' =>eV ts en s1 kA m' hT.l8
         have xp:Inv ts (aU ts en s1 kA):=ff hM.inv;have HY:(s1).i<=(aU ts en s1 kA).i:=gC hM.inv;refine ab ((rE m4).mono ?_);clear rE;rintro r H' m5 cW ⟨l5,rfl,rfl⟩;simp only[go_sem,eL,o1,o2,o3];have rD:=fun m' =>oN ts en (aU ts en s1 kA) m' hT xp
         refine ab ((rD m5).mono ?_);clear rD;rintro r H' m6 fb ⟨l6,w17,jz,rfl,hw17,rfl,hR17⟩;simp only[go_sem,eL,o1,o2,o3];have HW:=hR17.mono;have rC:=fun m' =>eV ts en jz gZ m' hT.l8
         have xo:Inv ts (aU ts en jz gZ):=ff hR17.inv;have HV:(jz).i<=(aU ts en jz gZ).i:=gC hR17.inv;refine ab ((rC m6).mono ?_);clear rC;rintro r H' m7 gM ⟨l7,rfl,rfl⟩;simp only[go_sem,eL,o1,o2,o3];have rA:=fun m' =>oN ts en (aU ts en jz gZ) m' hT xo
         refine ab ((rA m7).mono ?_);clear rA;rintro r H' m8 ku ⟨l8,w19,eg,rfl,hw19,rfl,hR19⟩;simp only[go_sem,eL,o1,o2,o3];have HU:=hR19.mono;by_cases hc20:ah ts (eg).i lM=true
         ·have iM:=fun m' =>dA (en:=en) hT hc20 m'
          refine ab ((iM m8).mono ?_);clear iM;rintro r H' m9 nA ⟨l9,rfl,rfl⟩;simp only[go_sem,eL,o1,o2,o3];have xm:=hR19.inv.next (aJ hc20);have Ek:(eg).next.i=(eg).i+1:=rfl;have jB:=fun m' =>zX (s:=(eg).next) (en:=en) hT xm m'
          refine ab ((jB m9).mono ?_);clear jB;rintro r H' m10 vC ⟨l10,l1022,a22,rY,s22,rfl,ha22,hb22,hc22,hd22,rfl,hR22⟩;simp only[go_sem,eL,o1,o2,o3];have Bd:=hR22.mono;exact⟨(s22,v,w17,w19,l1022,a22,rY,m10),⟨⟨⟨rfl,rfl,rfl,rfl⟩,⟨rfl,rfl,rfl⟩⟩,.inl rfl⟩,(aa l2 (aa l3 (aa l4 (aa l5 (aa l6 (aa l7 (aa l8 (aa l9 l10)))))))),⟨hR22.inv,(by constructor<;>omega:(0:Int)<=v/\v<4096),hw17,hw19,hb22,ha22,hc22,hd22,fun a s' h=>(by unfold kZ;rw[hM.val];exact js hM (by dsimp only;rw[ae (by rw[<- ar];exact hc10),show bg iN v (ts.drop s1.i)=(v,ts.drop (s1).i) from by rw[iN,eE,ae (by rw[<- ar];exact hc12),eE,ae (by rw[<- ar];exact hc14)];rfl];exact(dI hM.inv (aR hR17 (dI hR17.inv (aR hR19 (aR (show Res ts en (eg) (gY lM (ts.drop (eg).i)) l1022 s22 from by unfold gY;rw[aj (by rw[<- ar];exact hc20),<- bD];exact bO hR19.inv (aJ hc20) hR22) h)))))))⟩⟩
         ·have iM:=fun m' =>dC (en:=en) hT hc20 m'
          refine ab ((iM m8).mono ?_);clear iM;rintro r H' m9 nA ⟨l9,rfl,rfl⟩;simp only[go_sem,eL,o1,o2,o3];exact⟨(eg,v,w17,w19,[],none,0,m9),⟨⟨⟨rfl,rfl,rfl,rfl⟩,⟨rfl,rfl,rfl⟩⟩,.inl rfl⟩,(aa l2 (aa l3 (aa l4 (aa l5 (aa l6 (aa l7 (aa l8 l9))))))),⟨hR19.inv,(by constructor<;>omega:(0:Int)<=v/\v<4096),hw17,hw19,au _,aq _,cX _ _,fun w hw=>(by cases hw),fun a s' h=>(by unfold kZ;rw[hM.val];exact js hM (by dsimp only;rw[ae (by rw[<- ar];exact hc10),show bg iN v (ts.drop s1.i)=(v,ts.drop (s1).i) from by rw[iN,eE,ae (by rw[<- ar];exact hc12),eE,ae (by rw[<- ar];exact hc14)];rfl];exact(dI hM.inv (aR hR17 (dI hR17.inv (aR hR19 (aR (show Res ts en (eg) (gY lM (ts.drop (eg).i)) [] (eg) from by unfold gY;rw[ae (by rw[<- ar];exact hc20)];exact bY _ hR19.inv) h)))))))⟩⟩
     ·rintro⟨s2,v2,nm,sp,is,ia,ic,m2⟩ ⟨g1,hH⟩;dsimp only at g1 hH;have hE:=fun m' =>eV ts en s2 [123] m' hT.l8
      have QF:Inv ts (aU ts en s2 [123]):=ff hH.inv;have hRH:Res ts en s (kZ (ts.drop s.i)) ⟨v2,nm,sp,is,[],[],[]⟩ (aU ts en s2 [123]):=hH.res _ _ (dI hH.inv (bY _ QF));refine qD ay (by kernel_rfl) ?_;simp only[go_sem];refine ab ((hE m2).mono ?_);clear hE;rintro r H' m3 bN ⟨l3,rfl,rfl⟩;simp only[go_sem];refine yy 10 4 _ 94 5 (by decide) rfl rfl ?_;refine yy 10 5 _ 98 8 (by decide) rfl rfl ?_;refine yy 10 6 _ 73 23 (by decide) rfl rfl ?_;refine cO ay (fun y:PSt×DSt×Mem=>⟨[⟨0,[],.box 0 0⟩,⟨2,[],.box 2 0⟩,⟨3,[],.box 10 0⟩],[],[dB y.2.1,lT en y.1,ur 2],[fV y.2.1,mV y.2.1,iV y.2.1,j4 ts],200,y.2.2⟩)
       (fun y=>an m3 y.2.2/\Inv ts y.1/\Same ⟨⟨v2,nm,sp,is,[],[],[]⟩,ia,ic,0,0,0,[],[]⟩ y.2.1/\DOk y.2.2 y.2.1 (y.1.i+(if y.1.fl=true then 1 else 0))/\∀a s',Res ts en y.1 (yW y.2.1.d (ts.drop y.1.i)) a s' ->Res ts en s (wo (ts.drop s.i)) a s')
       (fun y=>if y.1.fl=true then 0 else ts.length - y.1.i+1) (aU ts en s2 [123],⟨⟨v2,nm,sp,is,[],[],[]⟩,ia,ic,0,0,0,[],[]⟩,m3) (fun _ _=>dL rfl) (fun y hy=>hy.1) ?_ ?_ ?_
      ·simp only[go_sem];exact rfl
      ·exact⟨.inl rfl,QF,⟨rfl,rfl,rfl,rfl,rfl,rfl,aq _,aq _,aq _⟩,⟨rfl,trivial,rfl,dN _ _,fun f hf=>(by cases hf),au _,au _,au _⟩,fun a s' h=>aR hRH h⟩
      ·rintro⟨s4,y,m4⟩ ⟨p1,p2,p3,p4,p5⟩;dsimp only at p1 p2 p3 p4 p5;have dM:=p2.le;have fk:=p4.fn;have I4:=p4.mn;have fJ:=p4.inn;have zP:(if s4.fl=true then 1 else 0)<=1:=by split<;>decide
       by_cases hf:s4.fl=true
       ·simp only[go_sem];refine⟨fun h=>(by rw[hf] at h;cases h),fun _=> ?_⟩;refine qM 4 rfl (b:=fV y) (by simp [cN]) ⟨(pH ts en s4).bx,[mV y,iV y,j4 ts]⟩ (List.Sublist.refl _) (.cons _ (List.Sublist.refl _)) fun a1 c1 w1 x1 x2 x3=> ?_
        refine qM 5 rfl (b:=mV y) (by simp [cN]) ⟨(pH ts en s4).bx,[iV y,j4 ts]⟩ (List.Sublist.refl _) (.cons _ (List.Sublist.refl _)) fun a2 c2 w2 x4 x5 x6=> ?_
        refine qM 6 rfl (b:=iV y) (by simp [cN]) (pH ts en s4) (List.Sublist.refl _) (.cons _ (List.Sublist.refl _)) fun a3 c3 w3 x7 x8 x9=> ?_
        have hw:an m4 w3:=aa (.inl rfl:an m4 m4) (aa (.inr x1) (aa (.inr x4) (.inr x7)));have hy:=p4.up hw (aq _);have kp:an m2 w3:=aa l3 (aa p1 hw);have xP:CdOk y.d:=⟨by rw[p3.fl];have:=hH.fl;unfold az;dsimp only;omega,by rw[p3.name];have:=hH.hn;unfold aA;dsimp only;omega,by rw[p3.super];have:=hH.hs;unfold aA;dsimp only;omega,by rw[p3.ifs];have:=hH.il;unfold aA;dsimp only;omega,by rw[p3.ifs];intro w hw;have:=hH.iw w hw;unfold aA;omega,by unfold aA;omega,hy.fs,by unfold aA;omega,by unfold aA;omega⟩;exact⟨aa q1 (aa g1 kp),⟨y.d.fl,y.d.name,y.d.super,y.ia,y.d.ifs.length,y.ic,a1,y.d.fields.length,c1,a2,y.d.methods.length,c2,a3,y.d.init.length,c3⟩,y.d,s4,rfl,⟨_,⟨rfl,rfl,rfl,rfl⟩,⟨rfl,by rw[p3.ifs,p3.ic];exact hH.ic,rfl,x2,rfl,x5,rfl,x8⟩,xP,by rw[p3.ia,p3.ifs];exact aD kp hH.ir,aD (aa (.inr x4) (.inr x7)) x3,_,_,aD (.inr x7) x6,hy.msr,x9,hy.isr⟩,rfl,p5 _ _ (AP y.d p2 hf)⟩
       ·have rR:s4.fl=false:=by simpa using hf
        by_cases h1:ah ts s4.i [125]=true
        ·have ha:=dA (en:=en) hT h1;have hi:=aJ h1;have fU:=p2.next hi;simp only[go_sem];refine⟨fun _=>ab ((ha m4).mono ?_),fun h=>by rw[rR] at h;cases h⟩;clear ha;rintro r H' m5 cW ⟨l5,rfl,rfl⟩;simp only[go_sem];refine qM 4 rfl (b:=fV y) (by simp [cN]) ⟨(pH ts en s4.next).bx,[j4 ts,mV y,iV y]⟩ (List.Sublist.refl _) (.cons_cons _ (.cons _ (List.Sublist.refl _))) fun a1 c1 w1 x1 x2 x3=> ?_
         refine qM 5 rfl (b:=mV y) (by simp [cN]) ⟨(pH ts en s4.next).bx,[j4 ts,iV y]⟩ (List.Sublist.refl _) (.cons_cons _ (.cons _ (List.Sublist.refl _))) fun a2 c2 w2 x4 x5 x6=> ?_
         refine qM 6 rfl (b:=iV y) (by simp [cN]) (pH ts en s4.next) (List.Sublist.refl _) (.cons_cons _ (.cons _ (List.Sublist.refl _))) fun a3 c3 w3 x7 x8 x9=> ?_
         have hw:an m4 w3:=aa l5 (aa (.inr x1) (aa (.inr x4) (.inr x7)));have hy:=p4.up hw (aq _);have kp:an m2 w3:=aa l3 (aa p1 hw);have xP:CdOk y.d:=⟨by rw[p3.fl];have:=hH.fl;unfold az;dsimp only;omega,by rw[p3.name];have:=hH.hn;unfold aA;dsimp only;omega,by rw[p3.super];have:=hH.hs;unfold aA;dsimp only;omega,by rw[p3.ifs];have:=hH.il;unfold aA;dsimp only;omega,by rw[p3.ifs];intro w hw;have:=hH.iw w hw;unfold aA;omega,by unfold aA;omega,hy.fs,by unfold aA;omega,by unfold aA;omega⟩;exact⟨aa q1 (aa g1 kp),⟨y.d.fl,y.d.name,y.d.super,y.ia,y.d.ifs.length,y.ic,a1,y.d.fields.length,c1,a2,y.d.methods.length,c2,a3,y.d.init.length,c3⟩,y.d,s4.next,rfl,⟨_,⟨rfl,rfl,rfl,rfl⟩,⟨rfl,by rw[p3.ifs,p3.ic];exact hH.ic,rfl,x2,rfl,x5,rfl,x8⟩,xP,by rw[p3.ia,p3.ifs];exact aD kp hH.ir,aD (aa (.inr x4) (.inr x7)) x3,_,_,aD (.inr x7) x6,hy.msr,x9,hy.isr⟩,rfl,p5 _ _ (by rw[Di,aj (by rw[<- ar];exact h1),<- bD];exact bO p2 hi (bY _ fU))⟩
        ·have ha:=dC (en:=en) hT h1;rw[ae hf] at p4;have hb:=fun m' h=>RS (en:=en) hT p2 rR y m' h
         simp only[go_sem];refine⟨fun _=>ab ((ha m4).mono ?_),fun h=>by rw[rR] at h;cases h⟩;clear ha;rintro r H' m5 cW ⟨l5,rfl,rfl⟩;simp only[go_sem];refine ab ((hb m5 (p4.up l5 (aq _))).mono ?_);clear hb;rintro r H' m6 fb ⟨l6,y6,s6,rfl,rfl,jr,ax,hR6⟩;have fI:=lW hR6 rR (nH _ _);have xT:=hR6.inv.le;simp only[go_sem];refine⟨⟨jr.uf,jr.um,jr.ui⟩,(s6,y6,m6),⟨⟨⟨rfl,rfl,rfl,rfl,rfl,rfl,rfl⟩,⟨rfl,rfl,rfl⟩⟩,⟨⟨rfl,rfl,rfl⟩,⟨rfl,rfl,rfl⟩,rfl,rfl,rfl⟩,.inl rfl⟩,⟨aa p1 (aa l5 l6),hR6.inv,⟨jr.ia.trans p3.ia,jr.ic.trans p3.ic,jr.fl.trans p3.fl,jr.name.trans p3.name,jr.super.trans p3.super,jr.ifs.trans p3.ifs,au _,au _,au _⟩,ax,fun a s' h=>p5 a s' ?_⟩,?_⟩
         ·rw[Di,ae (by rw[<- ar];exact h1)];exact aR hR6 h
         ·dsimp only;rw[ae hf];rcases fI with h |h
          ·rw[aj h];omega
          ·split<;>omega
end
end Go.Proofs.YtimddhkipjedcaaGreatDoor.E
namespace Go.Proofs.YtimddhkipjedcaaGreatDoor.E
open Go Go.RowKit
theorem Mw (s:List UInt8):∀(f p:Nat) (acc:List Tk),acc.length<=5000->(nh s f p acc).1.length<=5000
 |0,p,acc,h=>h
 |f+1,p,acc,h=>by
  simp only[nh];split
  ·exact h
  ·split
   ·exact au _
   ·split
    ·exact au _
    ·exact Mw s f _ _ (by rw[bM,fr];omega)
theorem uS (s:List UInt8):(aP s).1.length<=5000:=by
 unfold aP;split
 ·exact au _
 ·exact Mw s _ _ _ (au _)
theorem GV (s:List UInt8):∀(f rX pos:Nat),∀t∈(qg f rX pos (s.drop pos)).1,∃q:Nat,t.at_=q/\pos<=q/\q<s.length/\∃len,iG (s.drop q)=some (t.k,t.s,t.n,len)
 |0,_,_,t,h=>by cases h
 |f+1,rX,pos,t,h=>by
  simp only[qg] at h;split at h
  ·cases h
  ·rename_i cP;split at h
   ·cases h
   ·split at h
    ·cases h
    ·rename_i k tt n len ht;have hl:=GI ht;rw[List.drop_drop] at ht;rw[cH,cH] at hl;unfold tQ at h;split at h
     ·rcases List.mem_cons.1 h with rfl |h
      ·exact⟨pos+dn false (s.drop pos),rfl,by omega,by omega,len,ht⟩
      ·rw[List.drop_drop,<- Nat.add_assoc] at h;obtain⟨q,e1,e2,e3,e4⟩:=GV s f _ _ t h;exact⟨q,e1,by omega,e3,e4⟩
     ·cases h
def grow:Int->List Tk->Prop
 |_,[]=>True
 |b,t::r=>b<=t.at_/\grow (t.at_+1) r
theorem YI {l:List UInt8} (cP:l.take (di l)≠[]) (h:(fO l).2.2.2=true):∃v:Nat,(fO l).2.1=v/\v<=9223372036854775807/\((fO l).1=false->v<=2147483647):=by
 have hp:=Kw cP (Hu l);simp only[fO,cY,gz,decide_eq_false_iff_not] at h ⊢;cases hr:nY 0 (l.take (di l)) with
 |none=>rw[hr] at hp;rw[hp] at h;exact absurd h.1.1 Bool.false_ne_true
 |some v=>
  rw[hr] at hp;obtain⟨hp,hv⟩:=hp;rw[hp] at h ⊢;refine⟨v,rfl,hv,fun hb=> ?_⟩;have:=h.1.2;rw[ae hb] at this;have this:(v:Int)<=2147483647:=this;omega
theorem KP {l:List UInt8} {k:Int} {s:List UInt8} {n:Int} {len:Nat} (h:iG l=some (k,s,n,len)) (q:Int):px ⟨k,s,n,q⟩≠none/\s.length<=1024/\az n:=by
 cases l with
 |nil=>cases h
 |cons c r=>
  simp only[iG] at h;split at h
  ·split at h
   ·rename_i hn;simp only[dy,Prod.mk.injEq] at h;obtain⟨rfl,rfl,rfl,_⟩:=h;have hl:(fZ (c::r)).length<=64:=by unfold eF at hn;exact of_decide_eq_true (Bool.and_eq_true_iff.1 hn).1
    refine⟨?_,by omega,by unfold az;omega⟩;cases hk:fz.contains (fZ (c::r)) with
    |true=>have hm:=List.contains_iff_mem.1 hk;simp [px,hm]
    |false=>
     have hm:¬fZ (c::r)∈fz:=fun h=>by rw[List.contains_iff_mem.2 h] at hk;cases hk
     simp [px,hm,hn]
   ·cases h
  ·split at h
   ·rename_i hd;split at h
    ·rename_i hn;simp only[dy,Prod.mk.injEq] at h;obtain⟨rfl,rfl,rfl,_⟩:=h;have cP:(c::r).take (di (c::r))≠[]:=by
      simp only[di];rw[aj hd,Nat.add_comm,List.take_succ_cons];exact List.cons_ne_nil _ _
     obtain⟨v,e1,e2,e3⟩:=YI cP hn;rw[e1];refine⟨?_,au _,by unfold az;omega⟩;cases hB:(fO (c::r)).1 with
     |true=>simp [px]
     |false=>have:=e3 hB;simp [px];omega
    ·cases h
   ·split at h
    ·split at h
     ·split at h
      ·rename_i hb;simp only[dy,Prod.mk.injEq] at h;obtain⟨rfl,rfl,rfl,_⟩:=h;exact⟨by simp [px,hb],hb,by unfold az;omega⟩
      ·cases h
     ·cases h
    ·obtain⟨o,ho,e⟩:=Option.map_eq_some_iff.1 h;simp only[Prod.mk.injEq] at e;obtain⟨rfl,rfl,rfl,_⟩:=e;have hm:=List.mem_of_find?_eq_some ho;have h1:∀o∈fB,o.length<=3:=by decide
     have:=h1 _ hm;exact⟨by simp [px,hm],by omega,by unfold az;omega⟩
theorem Xe:∀s∈fz,∀c∈s,c≠47:=by decide
theorem UI {l:List UInt8} {k:Int} {s:List UInt8} {n:Int} {len:Nat} (h:iG l=some (k,s,n,len)) (hk:k=6\/k=2):∃r,l=s++r:=by
 cases l with
 |nil=>cases h
 |cons c r=>
  simp only[iG] at h;split at h
  ·split at h
   ·simp only[dy,Prod.mk.injEq] at h;obtain⟨rfl,rfl,rfl,_⟩:=h;cases hkw:fz.contains (fZ (c::r)) with
    |false=>rw[hkw] at hk;simp at hk
    |true=>
     have hm:=Xe _ (List.contains_iff_mem.1 hkw);have he:=Oq (c::r);have ht:sJ ((c::r).length+1) ((c::r).drop (cC true (c::r)))=[]:=by
      simp only[sJ];split
      ·rename_i hc;exfalso;refine hm 47 ?_ rfl;rw[he];simp only[sJ];rw[aj hc];exact List.mem_append_right _ (dz ..)
      ·rfl
     rw[ht,List.append_nil] at he;exact⟨(c::r).drop (cC true (c::r)),by rw[he,List.take_append_drop]⟩
   ·cases h
  ·split at h
   ·split at h
    ·simp only[dy,Prod.mk.injEq] at h;obtain⟨rfl,_⟩:=h;split at hk<;>omega
    ·cases h
   ·split at h
    ·split at h
     ·split at h
      ·simp only[dy,Prod.mk.injEq] at h;omega
      ·cases h
     ·cases h
    ·obtain⟨o,ho,e⟩:=Option.map_eq_some_iff.1 h;simp only[Prod.mk.injEq] at e;obtain⟨rfl,rfl,rfl,_⟩:=e;exact CS.1 (List.find?_some ho)
structure TkIn (s:List UInt8) (t:Tk):Prop where
 lo:0<=t.at_
 hi:t.at_<s.length
 fmt:px t≠none
 ok:adM t
 text:t.k=6\/t.k=2->∃r,s.drop t.at_.toNat=t.s++r
theorem Yo {s:List UInt8}:∀t∈(aP s).1,TkIn s t:=by
 intro t ht;by_cases hs:s.length<=20000
 ·rw[J0 hs] at ht;obtain⟨q,e,h1,h2,len,h3⟩:=GV s (s.length+1) 0 0 t ht;obtain⟨v1,v2,v3⟩:=KP h3 t.at_;refine⟨by omega,by omega,v1,⟨by omega,v3⟩,fun hk=> ?_⟩;rw[e,Int.toNat_natCast];exact UI h3 hk
 ·have e:aP s=([],0,8):=aj (by omega);rw[e] at ht;cases ht
theorem NY (s:List UInt8):∀t∈(aP s).1,t.s.length<=1024/\az t.n:=by
 intro t ht;by_cases hs:s.length<=20000
 ·rw[J0 hs] at ht;obtain⟨q,e,h1,h2,len,h3⟩:=GV s (s.length+1) 0 0 t ht;exact(KP h3 t.at_).2
 ·have e:aP s=([],0,8):=aj (by omega);rw[e] at ht;cases ht
theorem Wr {P:Program} {f:FuncId} {args:List SV} {m:Mem} {R R' :SV->Hp->Mem->Prop} (h:FnH P f args ⟨[],[]⟩ m R)
  (hR:∀r H' m',m.le m' ->R r H' m' ->R' r H' m' \/∃(g:SV->SV) (k u:Nat) (el:TypeId) (sz n:Nat) (xs:List Value),H' =⟨[],[⟨k,u,el,sz,n,xs⟩]⟩/\r=g (.vec k u)/\
   (∀V V2:Vl,V.γ k u=V2.γ 0 0->den V (g (.vec k u))=den V2 (g (.vec 0 0)))/\R' (g (.vec 0 0)) ⟨[],[⟨0,0,el,sz,n,xs⟩]⟩ m'):FnH P f args ⟨[],[]⟩ m R' :=by
 intro V w D j8 hle hH;refine(h V w D j8 hle hH).mono ?_;rintro e w' ⟨r,V',D',H',m',e1,e2,e3,e4,e5,e6,e7,e8,e9,gQ,ke⟩;rcases hR r H' m' e9 ke with hr |⟨g,k,u,el,sz,n,xs,rfl,rfl,hg,hr⟩
 ·exact⟨r,V',D',H',m',e1,e2,e3,e4,e5,e6,e7,e8,e9,gQ,hr⟩
 ·let V2:Vl:=⟨V'.β,fun a b=>if a=0 then V'.γ k u else V'.γ a b⟩
  have hV:V'.γ k u=V2.γ 0 0:=rfl;have hb:a7 V2 ⟨[],[⟨0,0,el,sz,n,xs⟩]⟩=a7 V' ⟨[],[⟨k,u,el,sz,n,xs⟩]⟩:=rfl;refine⟨g (.vec 0 0),V2,D',⟨[],[⟨0,0,el,sz,n,xs⟩]⟩,m',by rw[e1,hg V' V2 hV],e2,⟨fun b hb=>(by cases hb),fun b hb=> ?_,by rw[hb];exact e3.apart,by simp⟩,fun b hb=>(by cases hb),fun b hb=>(by cases hb),e6,by rw[hb];exact e7,e8,e9,gQ,hr⟩;rw[List.mem_singleton.1 hb];exact e3.vc _ (List.mem_singleton.2 rfl)
theorem H9 {f:FuncId} {s:List UInt8} {m:Mem} {x:List Tk×Int×Int} (h:FnH Tryz.prog f [.v (.string (bs s))] ⟨[],[]⟩ m fun r H' m' =>an m m' /\vJ x r H'):
  FnH Tryz.prog f [.v (.string (bs s))] ⟨[],[]⟩ m fun r H' m' =>an m m' /\((x.2.2=0/\r= .tup [.vec 0 0,.v (.int .i64 x.2.1),.v (.int .i64 x.2.2)]/\H' =⟨[],[⟨0,0,50,4,x.1.length,cG x.1⟩]⟩)\/
   (x.2.2≠0/\x.1=[]/\r= .tup [.v (.slice none 0 0),.v (.int .i64 x.2.1),.v (.int .i64 x.2.2)]/\H' =⟨[],[]⟩)):=by
 refine Wr h ?_;rintro r H' m' hm ⟨l1,⟨h0,k,u,rfl,rfl⟩ |⟨h0,h1,rfl,rfl⟩⟩
 ·refine .inr ⟨fun z=> .tup [z,.v (.int .i64 x.2.1),.v (.int .i64 x.2.2)],k,u,_,_,_,_,rfl,rfl,fun V V2 e=> ?_,l1,.inl ⟨h0,rfl,rfl⟩⟩;show Value.tuple ⟨[(V.γ k u).val,_,_]⟩=Value.tuple ⟨[(V2.γ 0 0).val,_,_]⟩;rw[e];rfl
 ·exact .inl ⟨l1,.inr ⟨h0,h1,rfl,rfl⟩⟩
theorem DE (t:List UInt8):TsB (aP t).1:=⟨cR (uS t) (by decide),fun x hx=>cR (NY t x hx).1 (by decide),fun x hx=>(NY t x hx).2⟩
section
variable {ts:List Tk} {en:Int} {s:PSt}
theorem Gn (hT:TsB ts) (m:Mem):FnH Tryz.prog 25 [.box 0 0] (pH ts en s) m fun r H' m' =>m' =m/\r= .v (.bool (decide (s.i<ts.length)))/\H' =pH ts en s:=by
 refine aL ay Tryz.func25 ?_
 ·simp only[go_sem];refine cg (.hoist 0 (.hoist 1 (.hoist 2 (.hoist 3 (.hoist 4 (.hoist 5 (.hoist 6 (.hoist 7 (.hoist 8 (.hoist 9 (.hoist 10 .done))))))))))) ay (by kernel_rfl) (by kernel_rfl) ?_;simp only[go_sem];rw[decide_eq_decide];omega
end
theorem K8 (t:List UInt8) (m:Mem) (ht:t.length<=4611686018427387904) (hk:FnH Tryz.prog 48 [.v (.string (bs t))] ⟨[],[]⟩ m fun r H' m' =>an m m' /\vJ (aP t) r H'):
  FnH Tryz.prog 24 [.v (.string (bs t))] ⟨[],[]⟩ m fun r H' m' =>an m m' /\(((aP t).2.2≠0/\r= .tup [.v (.pointer none),.v (.int .i64 (aP t).2.1),.v (.int .i64 (aP t).2.2)]/\H' =⟨[],[]⟩)\/
   ((aP t).2.2=0/\r= .tup [.box 1 0,.v (.int .i64 0),.v (.int .i64 0)]/\H' =⟨[⟨1,62,[.vec 0 0,.v (.int .i64 0),.v (.int .i64 t.length),.v (.bool false),.v (.int .i64 0)]⟩],[⟨0,0,50,4,(aP t).1.length,cG (aP t).1⟩]⟩)):=by
 have h1:=H9 hk;by_cases h0:(aP t).2.2=0
 ·have h2:=h1.mono (R' :=fun r H' m' =>an m m' /\r= .tup [.vec 0 0,.v (.int .i64 (aP t).2.1),.v (.int .i64 0)]/\H' =⟨[],[⟨0,0,50,4,(aP t).1.length,cG (aP t).1⟩]⟩) fun r H' m' _ h=>by
   rcases h with ⟨l1,⟨_,h3,h4⟩ |⟨h3,_⟩⟩
   ·rw[h0] at h3;exact⟨l1,h3,h4⟩
   ·exact absurd h0 h3
  clear h1;refine aL ay Tryz.func24 ?_
  ·simp only[go_sem];refine ab (h2.mono ?_);clear h2;rintro r H' m1 aN ⟨l1,rfl,rfl⟩;simp only[go_sem];exact⟨fun h=>absurd trivial h,l1,.inr h0⟩
 ·have h2:=h1.mono (R' :=fun r H' m' =>an m m' /\r= .tup [.v (.slice none 0 0),.v (.int .i64 (aP t).2.1),.v (.int .i64 (aP t).2.2)]/\H' =⟨[],[]⟩) fun r H' m' _ h=>by
   rcases h with ⟨l1,⟨h3,_⟩ |⟨_,_,h3,h4⟩⟩
   ·exact absurd h3 h0
   ·exact⟨l1,h3,h4⟩
  clear h1;refine aL ay Tryz.func24 ?_
  ·simp only[go_sem];refine ab (h2.mono ?_);clear h2;rintro r H' m1 aN ⟨l1,rfl,rfl⟩;simp only[go_sem];exact⟨fun _=>⟨l1,.inl h0⟩,fun h=>absurd h h0⟩
theorem Hj {t:List UInt8} {m:Mem} (ht:t.length<=4611686018427387904) (hk:FnH Tryz.prog 48 [.v (.string (bs t))] ⟨[],[]⟩ m fun r H' m' =>an m m' /\vJ (aP t) r H') (h0:(aP t).2.2=0):
  FnH Tryz.prog 24 [.v (.string (bs t))] ⟨[],[]⟩ m fun r H' m' =>an m m' /\r= .tup [.box 1 0,.v (.int .i64 0),.v (.int .i64 0)]/\H' =⟨[⟨1,62,[.vec 0 0,.v (.int .i64 0),.v (.int .i64 t.length),.v (.bool false),.v (.int .i64 0)]⟩],[⟨0,0,50,4,(aP t).1.length,cG (aP t).1⟩]⟩:=
 (K8 t m ht hk).mono fun r H' m' _ h=>by
  rcases h with ⟨l1,⟨h1,_⟩ |⟨_,h2,h3⟩⟩
  ·exact absurd h0 h1
  ·exact⟨l1,h2,h3⟩
theorem Hk {t:List UInt8} {m:Mem} (ht:t.length<=4611686018427387904) (hk:FnH Tryz.prog 48 [.v (.string (bs t))] ⟨[],[]⟩ m fun r H' m' =>an m m' /\vJ (aP t) r H') (h0:¬(aP t).2.2=0):
  FnH Tryz.prog 24 [.v (.string (bs t))] ⟨[],[]⟩ m fun r H' m' =>an m m' /\r= .tup [.v (.pointer none),.v (.int .i64 (aP t).2.1),.v (.int .i64 (aP t).2.2)]/\H' =⟨[],[]⟩:=
 (K8 t m ht hk).mono fun r H' m' _ h=>by
  rcases h with ⟨l1,⟨_,h2,h3⟩ |⟨h1,_⟩⟩
  ·exact⟨l1,h2,h3⟩
  ·exact absurd h1 h0
theorem Oi:∀(s:List UInt8),(∀c∈s,c.toNat≠47)->Lib.indexByte s 47= -1
 |[],_=>rfl
 |b::l,h=>by
  have hb:(b==47)=false:=by
   rw[beq_eq_false_iff_ne];intro e;exact h b (dz ..) (by rw[e];rfl)
  have ih:=Oi l fun c hc=>h c (cS _ hc)
  simp [Lib.indexByte,hb,ih]
theorem Oj:∀(s:List UInt8),(∃c∈s,c.toNat=47)->0<=Lib.indexByte s 47
 |[],h=>by obtain⟨c,hc,_⟩:=h;cases hc
 |b::l,h=>by
  unfold Lib.indexByte;split
  ·exact Int.le_refl _
  ·rename_i hb;have:∃c∈l,c.toNat=47:=by
    obtain⟨c,hc,he⟩:=h;rcases List.mem_cons.1 hc with rfl |hc
    ·exact absurd (beq_iff_eq.2 (UInt8.toNat_inj.1 (he.trans rfl))) hb
    ·exact⟨c,hc,he⟩
   have ih:=Oj l this;split
   ·rename_i h1;have:=eq_of_beq h1;omega
   ·omega
theorem W1 {s:List UInt8} (h:∃c∈s,c.toNat=47):nZ s=false:=by
 obtain⟨c,hc,he⟩:=h;cases s with
 |nil=>cases hc
 |cons b r=>
  rcases List.mem_cons.1 hc with rfl |hc
  ·simp [nZ,dm,he]
  ·have:r.all rb=false:=by
    rw[List.all_eq_false];exact⟨c,hc,by simp [rb,dm,dF,he]⟩
   rw[nZ,this,Bool.and_false]
theorem SM (s:List UInt8):pg s=(decide (s=eH)||decide (s=wJ)||(decide (s.length<=64)&&nZ s)):=by
 rw[pg,eF];by_cases h:∃c∈s,c.toNat=47
 ·have h1:=Oj s h;have h2:decide (Lib.indexByte s 47<0)=false:=bo (by omega);rw[W1 h,h2,Bool.and_false,Bool.and_false]
 ·have h2:∀c∈s,c.toNat≠47:=fun c hc he=>h ⟨c,hc,he⟩
  rw[Oi s h2,Nk s h2];simp
theorem Tt (s:List UInt8) (m:Mem) (hs:BL s):FnH Tryz.prog 213 [.v (.string (bs s))] ⟨[],[]⟩ m fun r H' _=>r= .v (.bool (pg s))/\H' =⟨[],[]⟩:=by
 refine aL IK Tryz.func213 ?_
 ·simp only[go_sem];rw[SM];have e:decide ((s.length:Int)<=64)=decide (s.length<=64):=by rw[decide_eq_decide];omega
  rw[e];exact⟨fun _=>hs,rfl⟩
abbrev cfR:Cfg:=fP (fun _=>false) [(213,eZ BL fun s=> .bool (pg s)),(107,eZ BL fun s=> .bool (dT s))]
theorem puR:cK cfR Tryz.prog:=pure_cons (by kernel_rfl) (fM Tt) (pure_cons (by kernel_rfl) (fM yg) pure_nil)
theorem CK (s:List UInt8) (m:Mem) (hs:BL s):FnH Tryz.prog 163 [.v (.string (bs s))] ⟨[],[]⟩ m fun r H' _=>r= .v (.bool (eP s))/\H' =⟨[],[]⟩:=by
 refine aL puR Tryz.func163 ?_
 ·simp only[go_sem];have e:∀u:UInt8,((u.toNat:Int)=60)=(u=60):=fun u=>propext ⟨fun h=>UInt8.toNat_inj.1 (by have:(60:UInt8).toNat=60:=rfl;omega),fun h=>by rw[h];rfl⟩
  simp only[e];refine⟨hs,fun h=>⟨by omega,by have:=My h;omega⟩,fun _=>hs,fun h=>ab ((JH m).mono ?_),fun h=> ?_⟩
  ·rintro r H' m' hm ⟨rfl,rfl,rfl⟩;simp only[go_sem];refine⟨by kernel_rfl,fun a c m1 aN hc cu=>dh ((GX fz s a 28 c m1 cu (by omega)).mono ?_)⟩;rintro r H' m' aH ⟨rfl,rfl⟩;have h1:=h.1.1;have h2:=h.1.2;have h3:=h.2;generalize hb:fz.contains s=kb
   simp only[go_sem];rw[eP,h1,h3,hb,bX h2];rfl
  ·rw[eP];rcases h with (h |h) |h
   ·simp [h]
   ·have:decide (s.getD 0 0≠60)=false:=by rw[h];rfl
    rw[this];simp
   ·simp [h]
abbrev adt:Cfg:=fP (fun _=>false) [(170,eZ BL fun s=> .bool (eF s))]
theorem acg:cK adt Tryz.prog:=pure_cons (by kernel_rfl) (fM Fx) pure_nil
theorem Rv (d b:Int) (s:List UInt8) (m:Mem) (hs:BL s):FnH Tryz.prog 214 [.v (.agg ⟨[.int .i64 d,.int .u8 b,.string (bs s)]⟩)] ⟨[],[]⟩ m fun r H' _=>r= .v (.bool (tz d b s))/\H' =⟨[],[]⟩:=by
 refine aL acg Tryz.func214 ?_
 ·simp only[go_sem];refine⟨fun h=>by simp only[tz,aj h],fun h=> ?_⟩;have h0:¬(d<0\/8<d):=fun h' =>h'.elim h.1 h.2
  simp only[tz,ae h0];refine⟨fun h1=>⟨fun _=>by simp [h1],fun n=>absurd h1 n⟩,fun h1=>⟨fun h2=>by simp [h2],fun h2=>⟨fun h3=>by simp [h3,Bool.and_comm],fun h3=>⟨fun h4=>⟨hs,by simp [h4]⟩,fun h4=>by simp [h1,h2,h3,h4]⟩⟩⟩⟩
abbrev ads:Cfg:=fP (fun _=>false) [(214,rG tz),(107,eZ BL fun s=> .bool (dT s))]
theorem acf:cK ads Tryz.prog:=pure_cons (by kernel_rfl) (u0 Rv) (pure_cons (by kernel_rfl) (fM yg) pure_nil)
theorem FC (d b:Int) (s:List UInt8) (m:Mem) (hs:BL s):FnH Tryz.prog 164 [.v (.agg ⟨[.int .i64 d,.int .u8 b,.string (bs s)]⟩)] ⟨[],[]⟩ m fun r H' _=>r= .v (.bool (gR d b s))/\H' =⟨[],[]⟩:=by
 refine aL acf Tryz.func164 ?_
 ·simp only[go_sem];refine⟨hs,fun _=>hs,?_⟩;simp [gR]
theorem Sg (s:List UInt8) (m:Mem) (_:BL s):FnH Tryz.prog 165 [.v (.string (bs s))] ⟨[],[]⟩ m fun r H' _=>r= .v (.bool (opsL.contains s))/\H' =⟨[],[]⟩:=by
 refine aL ay Tryz.func165 ?_
 ·simp only[go_sem];refine⟨by kernel_rfl,fun a c m1 hm hc hr=>dh ((GX opsL s a 19 c m1 hr (by omega)).mono ?_)⟩;rintro r H' m' aH ⟨rfl,rfl⟩;generalize opsL.contains s=kb
  simp only[go_sem]
theorem RA (s:List UInt8) (m:Mem) (hs:BL s):FnH Tryz.prog 162 [.v (.string (bs s))] ⟨[],[]⟩ m fun r H' _=>r= .v (.bool (qR s))/\H' =⟨[],[]⟩:=by
 refine aL nu Tryz.func162 ?_
 ·simp only[go_sem];refine cO nu (fun k:Nat=>⟨[⟨0,[],.v (.string (bs s))⟩,⟨3,[],.v (.int .i64 k)⟩],[],[],[],0,m⟩)
   (fun k=>k<=s.length/\(s.take k).all oW=true) (fun k=>s.length - k) 0 (fun _ _=>aq _) (fun _ _=> .inl rfl) ?_ ?_ ?_
  ·simp only[go_sem];rfl
  ·simp
  ·rintro k ⟨hk,hp⟩;simp only[go_sem];refine⟨fun ao=> ?_,fun cQ=> ?_⟩
   ·have cE:k<s.length:=by omega
    have hd:=drop_at cE;refine⟨⟨by omega,ao⟩,fun _=>⟨by omega,ao⟩,fun _=>⟨by omega,ao⟩,fun h=> ?_,fun h=>⟨by unfold az;have:s.length<=4611686018427387904:=hs;omega,k+1,by omega,⟨by omega,?_⟩,by omega⟩⟩
    ·have hb:oW (s.getD k 0)=false:=by
      simp only[oW,Bool.or_eq_false_iff,Bool.and_eq_false_iff,decide_eq_false_iff_not];exact⟨by omega,by omega⟩
     have:s.all oW=false:=by
      rw[<- List.take_append_drop k s,List.all_append,hd,List.all_cons,hb];simp
     rw[qR,this,Bool.false_and]
    ·have hb:oW (s.getD k 0)=true:=by
      simp only[oW,Bool.or_eq_true,cY,gz];omega
     rw[List.take_succ_eq_append_getElem cE,List.all_append,hp,List.all_cons];have e:s.getD k 0=s[k]:=by rw[List.getD_eq_getElem?_getD,List.getElem?_eq_getElem cE];rfl
     rw[e] at hb;simp [hb]
   ·rw[gm (by omega)] at hp;rw[qR,hp,Bool.true_and,decide_eq_decide];omega
theorem Ty.eq_s (x:Ty):Ty.eq x x=true:=by simp [Ty.eq]
mutual
theorem oo:∀(e:Ex),iP e e=true
 | .mk k n s c ty args=>by rw[iP,Ty.eq_s,OE args];simp
theorem OE:∀(l:List Ex),nl l l=true
 |[]=>by simp only[nl]
 |e::r=>by rw[nl,oo e,OE r];rfl
end
mutual
theorem aap:∀(e:St),de e e=true
 | .mk k nm ty tg ex body alt=>by rw[de,Ty.eq_s,oo,oo,n9 body,n9 alt];simp
theorem n9:∀(l:List St),ib l l=true
 |[]=>by simp only[ib]
 |e::r=>by rw[ib,aap e,n9 r];rfl
end
theorem ri (e:Ex):iP e zE=mS e:=by
 cases e with
 |mk k n s c ty args=>
  have:nl args []=decide (args.length=0):=by cases args<;>simp [nl]
  simp only[zE,iP,mS,kh,this];grind
theorem qJ (l:List St):ib l []=decide (l.length=0):=by cases l<;>simp [ib]
def kD (nm:List UInt8) (ty:Ty) (t:Bool):Bool:=if t=true then gR ty.dim ty.base ty.name&&eP nm else Ty.eq ty ai&&decide (nm=[])
def iR (nm:List UInt8) (ty:Ty) (tg:Ex) (body alt:List St) (t t2 a b:Bool):Bool:=
 kD nm ty t&&(t2||mS tg)&&(a||decide (body.length=0))&&(b||decide (alt.length=0))&&fD false body&&fD false alt
def gX (k:Int) (nm:List UInt8) (ty:Ty) (tg ex:Ex) (body alt:List St):Bool:=
 if k=1 then iR nm ty tg body alt true false false false&&dS ex
 else if k=2 then iR nm ty tg body alt false true false false&&dS ex&&dS tg&&(decide (tg.k=6)||decide (tg.k=7)||decide (tg.k=8)||decide (tg.k=9))
 else if k=3 then iR nm ty tg body alt false false false false&&dS ex&&(decide (ex.k=10)||decide (ex.k=11)||decide (ex.k=12)||decide (ex.k=13))
 else if k=4 then iR nm ty tg body alt false false true true&&dS ex
 else if k=5\/k=9 then iR nm ty tg body alt false false true false&&dS ex
 else if k=6 then iR nm ty tg body alt false false false false&&(mS ex||dS ex)
 else if k=7 then iR nm ty tg body alt false false false false&&dS ex
 else if k=8 then iR nm ty tg body alt true false true true&&mS ex
 else if k=10 then iR nm ty tg body alt false false true false&&mS ex
 else if k=11 then iR nm ty tg body alt false false false false&&uZ ex
 else false
theorem KK (l:List St) (h:decide (l.length=0)=true) (b:Bool):fD b l=true:=by
 cases l with
 |nil=>simp [fD,jj]
 |cons a r=>simp at h
theorem N1 (k:Int) (nm:List UInt8) (ty:Ty) (tg ex:Ex) (body alt:List St):iB (.mk k nm ty tg ex body alt)=gX k nm ty tg ex body alt:=by
 have h1:=KK body;have h2:=KK alt;rw[iB];change (iD k nm ty tg ex (fD false body&&fD false alt)&&_)=_
 generalize hb:fD false body=b1
 generalize ha:fD false alt=b2
 by_cases k1:k=1
 ·subst k1;simp only[gX,iD,jt,iR,kD,if_true,de,oo,ri,qJ,n9,Ty.eq_s,hb,ha,aF];grind
 by_cases k2:k=2
 ·subst k2;simp only[gX,iD,jt,iR,kD,if_true,if_false,Int.reduceEq,de,oo,ri,qJ,n9,Ty.eq_s,hb,ha,aF,tA];grind
 by_cases k3:k=3
 ·subst k3;simp only[gX,iD,jt,iR,kD,if_true,if_false,or_false,Int.reduceEq,de,oo,ri,qJ,n9,Ty.eq_s,hb,ha,aF,tR];grind
 by_cases k4:k=4
 ·subst k4;simp only[gX,iD,jt,iR,kD,if_true,if_false,or_false,true_or,Int.reduceEq,de,oo,ri,qJ,n9,Ty.eq_s,hb,ha,aF];grind
 by_cases k5:k=5
 ·subst k5;simp only[gX,iD,jt,iR,kD,if_true,if_false,or_false,true_or,or_true,Int.reduceEq,de,oo,ri,qJ,n9,Ty.eq_s,hb,ha,aF];grind
 by_cases k6:k=6
 ·subst k6;simp only[gX,iD,jt,iR,kD,if_true,if_false,or_false,true_or,or_true,Int.reduceEq,de,oo,ri,qJ,n9,Ty.eq_s,hb,ha,aF];grind
 by_cases k7:k=7
 ·subst k7;simp only[gX,iD,jt,iR,kD,if_true,if_false,or_false,true_or,or_true,Int.reduceEq,de,oo,ri,qJ,n9,Ty.eq_s,hb,ha,aF];grind
 by_cases k8:k=8
 ·subst k8;simp only[gX,iD,jt,iR,kD,if_true,if_false,or_false,true_or,or_true,Int.reduceEq,de,oo,ri,qJ,n9,Ty.eq_s,hb,ha,aF];grind
 by_cases k9:k=9
 ·subst k9;simp only[gX,iD,jt,iR,kD,if_true,if_false,or_false,true_or,or_true,Int.reduceEq,de,oo,ri,qJ,n9,Ty.eq_s,hb,ha,aF];grind
 by_cases k10:k=10
 ·subst k10;simp only[gX,iD,jt,iR,kD,if_true,if_false,or_false,true_or,or_true,Int.reduceEq,de,oo,ri,qJ,n9,Ty.eq_s,hb,ha,aF];grind
 by_cases k11:k=11
 ·subst k11;simp only[gX,iD,jt,iR,kD,if_true,if_false,or_false,true_or,or_true,Int.reduceEq,de,oo,ri,qJ,n9,Ty.eq_s,hb,ha,aF];grind
 simp only[gX,iD,k1,k2,k3,k4,k5,k6,k7,k8,k9,k10,k11,if_false,or_false,Bool.false_and]
def fv (u:List UInt8) (n:Int) (s c:List UInt8) (ty:Ty):Bool:=(u.contains 78||decide (n=0))&&(u.contains 83||decide (s=[]))&&(u.contains 67||decide (c=[]))&&(u.contains 84||Ty.eq ty ai)
def Ee (k n:Int) (s c:List UInt8) (ty:Ty) (l:Nat):Bool:=
 if k=1 then fv [78] n s c ty&&decide ((l:Int)=0)&&decide (0<=n)&&decide (n<2147483648)
 else if k=2 then fv [78] n s c ty&&decide ((l:Int)=0)&&decide (0<=n)
 else if k=3 then fv [83] n s c ty&&decide ((l:Int)=0)&&qR s
 else if k=4\/k=5 then fv [] n s c ty&&decide ((l:Int)=0)
 else if k=6 then fv [83] n s c ty&&decide ((l:Int)=0)&&eP s
 else if k=7 then fv [83] n s c ty&&decide ((l:Int)=1)&&eP s
 else if k=8 then fv [83,67] n s c ty&&decide ((l:Int)=0)&&eP s&&dT c
 else if k=9 then fv [] n s c ty&&decide ((l:Int)=2)
 else if k=10 then fv [83] n s c ty&&decide (1<=(l:Int))&&decide ((l:Int)<=17)&&eP s
 else if k=11 then fv [83,67] n s c ty&&decide ((l:Int)<=16)&&eP s&&dT c
 else if k=12 then fv [83] n s c ty&&decide ((l:Int)<=16)&&eP s
 else if k=13 then fv [67] n s c ty&&decide ((l:Int)<=16)&&dT c
 else if k=14 then fv [84] n s c ty&&decide ((l:Int)=1)&&gR ty.dim ty.base ty.name&&decide (ty.dim<8)
 else if k=15 then fv [83] n s c ty&&decide ((l:Int)=1)&&(decide (s=[45])||decide (s=[33]))
 else if k=16 then fv [83] n s c ty&&decide ((l:Int)=2)&&opsL.contains s
 else if k=17\/k=18 then fv [84] n s c ty&&decide ((l:Int)=1)&&gR ty.dim ty.base ty.name
 else if k=19\/k=20\/k=21 then fv [] n s c ty&&decide ((l:Int)=1)
 else false
theorem W5 (k n:Int) (s c:List UInt8) (ty:Ty) (l:Nat):Ee k n s c ty l=qX k n s c ty.dim ty.base ty.name l:=by
 have h1:fv [78] n s c ty=(decide (s=[])&&decide (c=[])&&Ty.eq ty ai):=by simp [fv]
 have h2:fv [83] n s c ty=(decide (n=0)&&decide (c=[])&&Ty.eq ty ai):=by simp [fv]
 have h3:fv [] n s c ty=(decide (n=0)&&decide (s=[])&&decide (c=[])&&Ty.eq ty ai):=by simp [fv]
 have h4:fv [83,67] n s c ty=(decide (n=0)&&Ty.eq ty ai):=by simp [fv]
 have h5:fv [67] n s c ty=(decide (n=0)&&decide (s=[])&&Ty.eq ty ai):=by simp [fv]
 have h6:fv [84] n s c ty=(decide (n=0)&&decide (s=[])&&decide (c=[])):=by simp [fv]
 have ht:Ty.eq ty ai=(decide (ty.dim=0)&&(decide (ty.base=0)&&decide (ty.name=[]))):=rfl;by_cases hk:isKind k=true
 ·have iu:=kinds hk;rw[qX,hk];generalize hg1:qR s=g1
  generalize s9:opsL.contains s=g2
  generalize hg3:eP s=g3
  generalize hg4:dT c=g4
  generalize hg5:gR ty.dim ty.base ty.name=g5
  rcases iu with rfl |rfl |rfl |rfl |rfl |rfl |rfl |rfl |rfl |rfl |rfl |rfl |rfl |rfl |rfl |rfl |rfl |rfl |rfl |rfl |rfl<;>
   simp only[Ee,nX,qf,Int.reduceEq,if_true,if_false,or_true,or_false,true_or,false_or,h1,h2,h3,h4,h5,h6,hg1,s9,hg3,hg4,hg5,ht,Bool.false_eq_true,Bool.true_and]<;>grind
 ·rw[Bool.not_eq_true] at hk;rw[qX,hk];have:∀j:Int,1<=j->j<=21->¬k=j:=fun j h1 h2 h=>by rw[h] at hk;simp [isKind,h1,h2] at hk
  simp only[Ee,this 1 (by decide) (by decide),this 2 (by decide) (by decide),this 3 (by decide) (by decide),this 4 (by decide) (by decide),this 5 (by decide) (by decide),this 6 (by decide) (by decide),this 7 (by decide) (by decide),this 8 (by decide) (by decide),this 9 (by decide) (by decide),this 10 (by decide) (by decide),this 11 (by decide) (by decide),this 12 (by decide) (by decide),this 13 (by decide) (by decide),this 14 (by decide) (by decide),this 15 (by decide) (by decide),this 16 (by decide) (by decide),this 17 (by decide) (by decide),this 18 (by decide) (by decide),this 19 (by decide) (by decide),this 20 (by decide) (by decide),this 21 (by decide) (by decide),or_false,if_false,Bool.false_and]
theorem UM {u:List UInt8} {c:UInt8} {k:Nat} (h:k<u.length):(u.take (k+1)).contains c=((u.take k).contains c||decide (u.getD k 0=c)):=by
 have e:u.getD k 0=u[k]:=by rw[List.getD_eq_getElem?_getD,List.getElem?_eq_getElem h];rfl
 rw[List.take_succ_eq_append_getElem h,e];simp only[List.contains_eq_mem,List.mem_append,List.mem_singleton,Bool.decide_or,eq_comm]
theorem DQ (d c:UInt8):decide (d=c)=decide ((d.toNat:Int)=(c.toNat:Int)):=by
 rw[decide_eq_decide];exact⟨fun e=>by rw[e],fun e=>UInt8.toNat_inj.1 (by omega)⟩
theorem Uc (k n:Int) (s c:List UInt8) (ty:Ty) (sl:Value) (u:List UInt8) (m:Mem) (fT:sl.oneCell' =true) (hu:u.length<=4):
  FnH Tryz.prog 161 [.v (.agg ⟨dt k n s c ty sl⟩),.v (.string (bs u))] ⟨[],[]⟩ m fun r H' _=>r= .v (.bool (fv u n s c ty))/\H' =⟨[],[]⟩:=by
 refine enter gA ay Tryz.func161 rfl rfl (by kernel_rfl) rfl ?_ ?_
 ·simp only[go_sem,dt]
 ·simp only[go_sem,dt];refine fg ay (fun k' :Nat=>⟨[⟨1,[],.v (.string (bs u))⟩,⟨2,[],.box 0 0⟩,⟨5,[],.v (.bool ((u.take k').contains 78))⟩,⟨6,[],.v (.bool ((u.take k').contains 83))⟩,⟨7,[],.v (.bool ((u.take k').contains 67))⟩,⟨8,[],.v (.bool ((u.take k').contains 84))⟩,⟨9,[],.v (.int .i64 k')⟩],[],[⟨0,33,(dt k n s c ty sl).map .v⟩],[],1,m⟩)
   (fun k' =>k' <=u.length) (fun k' =>u.length - k') 0 (by kernel_rfl) (fun _ _=>aq _) (fun _ _=> .inl rfl) (fun _=> ?_) ?_ ?_ ?_
  ·simp only[go_sem,dt]
  ·simp only[go_sem,dt];simp
  ·exact au _
  ·intro k' hk;simp only[go_sem,dt,qc];have hc:k' <u.length->∀c,(u.take (k' +1)).contains c=((u.take k').contains c||decide (u.getD k' 0=c)):=fun h c=>UM h
   generalize u.getD k' 0=d at hc ⊢
   have BN:decide (d=78)=decide ((d.toNat:Int)=78):=DQ d 78;have BM:decide (d=83)=decide ((d.toNat:Int)=83):=DQ d 83;have BO:decide (d=67)=decide ((d.toNat:Int)=67):=DQ d 67;have BK:decide (d=84)=decide ((d.toNat:Int)=84):=DQ d 84;refine⟨fun ao=> ?_,fun cQ=> ?_⟩
   ·have hc:=hc (by omega);exact⟨by omega,fun h1=>⟨by unfold az;omega,k' +1,⟨by rw[hc,BN];simp [h1],by rw[hc,BM];simp [h1],by rw[hc,BO];simp [h1],by rw[hc,BK];simp [h1],by simp⟩,by omega,by omega⟩,fun n1=>⟨fun h2=>⟨by unfold az;omega,k' +1,⟨by rw[hc,BN];simp [n1,h2],by rw[hc,BM];simp [n1,h2],by rw[hc,BO];simp [n1,h2],by rw[hc,BK];simp [n1,h2],by simp⟩,by omega,by omega⟩,fun n2=>⟨fun h3=>⟨by unfold az;omega,k' +1,⟨by rw[hc,BN];simp [n1,n2,h3],by rw[hc,BM];simp [n1,n2,h3],by rw[hc,BO];simp [n1,n2,h3],by rw[hc,BK];simp [n1,n2,h3],by simp⟩,by omega,by omega⟩,fun n3=>⟨fun h4=>⟨by unfold az;omega,k' +1,⟨by rw[hc,BN];simp [n1,n2,n3,h4],by rw[hc,BM];simp [n1,n2,n3,h4],by rw[hc,BO];simp [n1,n2,n3,h4],by rw[hc,BK];simp [n1,n2,n3,h4],by simp⟩,by omega,by omega⟩,fun n4=>⟨by unfold az;omega,k' +1,⟨by rw[hc,BN];simp [n1,n2,n3,n4],by rw[hc,BM];simp [n1,n2,n3,n4],by rw[hc,BO];simp [n1,n2,n3,n4],by rw[hc,BK];simp [n1,n2,n3,n4],by simp⟩,by omega,by omega⟩⟩⟩⟩⟩
   ·rw[gm (by omega)];rfl
def Ed:List Value->Option (Prop×Value)
 |[.agg ⟨[.int .i64 _,.int .i64 n,.string s,.string c,.int .i64 d,.int .u8 b,.string nm,sl]⟩,.string u]=>some (sl.oneCell' =true/\(tl u).length<=4,.bool (fv (tl u) n (tl s) (tl c) ⟨d,b,tl nm⟩))
 |_=>none
attribute [go_sem] Ed.eq_1
theorem Vh:ou Tryz.prog 161 Ed:=fun cL y hy hB m=>by
 unfold Ed at hy;split at hy
 ·rename_i k n s c d b nm sl u;cases hy;have:=Uc k n (tl s) (tl c) ⟨d,b,tl nm⟩ sl (tl u) m hB.1 hB.2;simp only[dt,lH] at this;exact this
 ·cases hy
abbrev Cy:Cfg:=fP (fun _=>false) [(161,Ed),(162,eZ BL fun s=> .bool (qR s)),(163,eZ BL fun s=> .bool (eP s)),(107,eZ BL fun s=> .bool (dT s)),(164,rG gR),(165,eZ BL fun s=> .bool (opsL.contains s))]
theorem zF:cK Cy Tryz.prog:=pure_cons (by kernel_rfl) Vh (pure_cons (by kernel_rfl) (fM RA) (pure_cons (by kernel_rfl) (fM CK) (pure_cons (by kernel_rfl) (fM yg) (pure_cons (by kernel_rfl) (u0 FC) (pure_cons (by kernel_rfl) (fM Sg) pure_nil)))))
theorem WK (k n:Int) (s c:List UInt8) (ty:Ty) (a:Option Addr) (l cp:Nat) (m:Mem) (hs:BL s) (hc:BL c) (hn:BL ty.name) (hk:isKind k=true):
  FnH Tryz.prog 72 [.v (.agg ⟨dt k n s c ty (.slice a l cp)⟩)] ⟨[],[]⟩ m fun r H' _=>r= .v (.bool (Ee k n s c ty l))/\H' =⟨[],[]⟩:=by
 rcases kinds hk with h |h |h |h |h |h |h |h |h |h |h |h |h |h |h |h |h |h |h |h |h<;>subst h<;>refine enter Cy zF Tryz.func72 rfl rfl (by kernel_rfl) rfl (by simp only[go_sem,dt]) ?_<;>
  simp only[go_sem,dt,Int.reduceEq,aF,aQ]
 all_goals first |rfl |exact⟨fun _=>hs,rfl⟩ |exact⟨fun _=>hc,rfl⟩ |exact⟨fun _=>hn,rfl⟩ |exact⟨fun _=>hs,fun _=>hc,rfl⟩
theorem UW (k n:Int) (s c:List UInt8) (ty:Ty) (a:Option Addr) (l cp:Nat) (m:Mem) (e:∀j:Int,1<=j->j<=21->(k=j)=False):
  FnH Tryz.prog 72 [.v (.agg ⟨dt k n s c ty (.slice a l cp)⟩)] ⟨[],[]⟩ m fun r H' _=>r= .v (.bool false)/\H' =⟨[],[]⟩:=by
 have e1:=e 1 (by decide) (by decide);have e2:=e 2 (by decide) (by decide);have e3:=e 3 (by decide) (by decide);have e4:=e 4 (by decide) (by decide);have e5:=e 5 (by decide) (by decide);have e6:=e 6 (by decide) (by decide);have e7:=e 7 (by decide) (by decide);have e8:=e 8 (by decide) (by decide);have e9:=e 9 (by decide) (by decide);have gQ:=e 10 (by decide) (by decide);have ke:=e 11 (by decide) (by decide);have wm:=e 12 (by decide) (by decide);have wk:=e 13 (by decide) (by decide);have wj:=e 14 (by decide) (by decide);have wi:=e 15 (by decide) (by decide);have wh:=e 16 (by decide) (by decide);have wg:=e 17 (by decide) (by decide);have we:=e 18 (by decide) (by decide);have Jx:=e 19 (by decide) (by decide);have Jw:=e 20 (by decide) (by decide);have Jv:=e 21 (by decide) (by decide);refine enter Cy zF Tryz.func72 rfl rfl (by kernel_rfl) rfl ?_ ?_
 ·simp only[go_sem,dt]
 ·simp only[go_sem,dt,e1,e2,e3,e4,e5,e6,e7,e8,e9,gQ,ke,wm,wk,wj,wi,wh,wg,we,Jx,Jw,Jv,aQ]
theorem Sh (k n:Int) (s c:List UInt8) (ty:Ty) (a:Option Addr) (l cp:Nat) (m:Mem) (hs:BL s) (hc:BL c) (hn:BL ty.name):
  FnH Tryz.prog 72 [.v (.agg ⟨dt k n s c ty (.slice a l cp)⟩)] ⟨[],[]⟩ m fun r H' _=>r= .v (.bool (qX k n s c ty.dim ty.base ty.name l))/\H' =⟨[],[]⟩:=by
 by_cases hk:isKind k=true
 ·rw[<- W5];exact WK k n s c ty a l cp m hs hc hn hk
 ·rw[Bool.not_eq_true] at hk;have e0:qX k n s c ty.dim ty.base ty.name l=false:=by rw[qX,hk];rfl
  rw[e0];exact UW k n s c ty a l cp m fun j h1 h2=>eq_false fun h=>by rw[h] at hk;simp [isKind,h1,h2] at hk
theorem Fw:∀{l:List Ex} {i:Nat} (hi:i<l.length),kT (l.take (i+1))=(kT (l.take i)&&dS l[i])
 |[],_,hi=>absurd hi (Nat.not_lt_zero _)
 |e::r,0,_=>by simp [kT]
 |e::r,i+1,hi=>by
  have:=Fw (l:=r) (i:=i) (by simpa using hi);simp only[List.take_succ_cons,kT,this,List.getElem_cons_succ,Bool.and_assoc]
theorem Kj {l:List Ex} {i:Nat} (hi:i<l.length) (h:dS l[i]=false):kT l=false:=by
 cases hv:kT l with
 |false=>rfl
 |true=>rw[JZ hv _ (List.getElem_mem hi)] at h;cases h
theorem CQ:∀(h:Nat) (e:Ex) (cs:List Value) (m:Mem),bL e<=h->bk m e cs->aB 36 [.v (.agg ⟨cs⟩)] m (.bool (dS e))
 |0,.mk k n s c ty args,cs,m,hd,_=>by simp [bL] at hd
 |h+1,.mk k n s c ty args,cs,m,hd,he=>by
  simp only[bk] at he;obtain⟨a,cp,xs,rfl,bl,hr,ax,fm⟩:=he;have hn:=ax.2.2.2.2.2;simp only[bL] at hd;have hN:=fun m' =>Sh k n s c ty a args.length cp m' (cR ax.2.2.1 (by decide)) (cR ax.2.2.2.1 (by decide)) (cR ax.2.2.2.2.1.2.2 (by decide))
  refine enter gA ay Tryz.func36 rfl rfl (by kernel_rfl) rfl ?_ ?_
  ·simp only[go_sem,dt]
  ·simp only[go_sem,dt];refine fg ay (fun x:Nat×Mem=>⟨[⟨1,[],.box 0 0⟩,⟨3,[],.v (.int .i64 x.1)⟩],[],[⟨0,33,(dt k n s c ty (.slice a args.length cp)).map .v⟩],[],1,x.2⟩)
    (fun x=>an m x.2/\x.1<=args.length/\kT (args.take x.1)=true) (fun x=>args.length - x.1) (0,m) (by kernel_rfl) (fun _ _=>aq _) (fun x hx=>hx.1) (fun _=> ?_) ?_ ?_ ?_
   ·simp only[go_sem,dt]
   ·simp only[go_sem,dt];rfl
   ·exact⟨.inl rfl,au _,by simp [kT]⟩
   ·rintro⟨i,mm⟩ ⟨h1,h2,h3⟩;simp only at h1 h2 h3;have hx:∀(hi:i<args.length),∃x:Nd,Rd mm (ct a (i * 8)) x.cs/\a≠none/\aB 36 [.v (.agg ⟨x.cs⟩)] mm (.bool (dS args[i])):=fun hi=>by
     have bh:=aZ h1 (tJ fm hi);obtain⟨x,hx⟩:=qI bh;have cu:=dG (aD h1 hr) hi;rw[hx] at bh cu;exact⟨x,cu.1,cu.2,CQ h args[i] x.cs mm (by have:=yx hi;omega) bh⟩
    simp only[go_sem,dt];refine⟨fun ao=> ?_,fun cQ=> ?_⟩
    ·clear hN;refine Exists.elim (hx (by clear hx;omega)) fun x cB=>⟨⟨by clear hx cB;omega,ao,cB.2.1⟩,x.cs,⟨cB.1,rfl⟩,?_⟩
     clear hx;have ha:=cB.2.2;simp only[go_sem,Nd.cs,dt];refine ab ((aX ha (fun V=>rfl)).mono ?_);clear cB ha;rintro r H' m2 aH ⟨aY,rfl,rfl⟩;simp only[go_sem,dt];have hi:i<args.length:=by omega
     refine⟨fun hv=>⟨aa h1 aY,?_⟩,fun hv=>⟨by unfold az;simp only[aA] at hn;omega,(i+1,m2),⟨by simp,.inl rfl⟩,⟨aa h1 aY,by simp only;omega,?_⟩,by simp only;omega⟩⟩
     ·rw[dS,Kj hi hv,Bool.and_false]
     ·simp only;rw[Fw hi,h3,hv];rfl
    ·clear hx;refine ab ((aX (hN mm) (fun V=>rfl)).mono ?_);clear hN;rintro r H' m2 aH ⟨rfl,rfl⟩;simp only[go_sem];refine⟨aa h1 (.inr aH),?_⟩;rw[gm (by omega)] at h3;rw[dS,h3,Bool.and_true]
theorem FV:∀(h:Nat) (e:Ex) (cs:List Value) (m:Mem),bL e<=h->h<=aA->bk m e cs->aB 37 [.v (.agg ⟨cs⟩)] m (.int .i64 (bL e))
 |0,.mk k n s c ty args,cs,m,hd,_,_=>by simp [bL] at hd
 |h+1,.mk k n s c ty args,cs,m,hd,hb,he=>by
  simp only[bk] at he;obtain⟨a,cp,xs,rfl,bl,hr,ax,fm⟩:=he;have hn:=ax.2.2.2.2.2;simp only[bL] at hd;refine enter gA ay Tryz.func37 rfl rfl (by kernel_rfl) rfl ?_ ?_
  ·simp only[go_sem,dt]
  ·simp only[go_sem,dt];refine fg ay (fun x:Nat×Mem=>⟨[⟨1,[],.box 0 0⟩,⟨3,[],.v (.int .i64 (ki (args.take x.1)))⟩,⟨4,[],.v (.int .i64 x.1)⟩],[],[⟨0,33,(dt k n s c ty (.slice a args.length cp)).map .v⟩],[],1,x.2⟩)
    (fun x=>an m x.2/\x.1<=args.length) (fun x=>args.length - x.1) (0,m) (by kernel_rfl) (fun _ _=>aq _) (fun x hx=>hx.1) (fun _=> ?_) ?_ ?_ ?_
   ·simp only[go_sem,dt]
   ·simp only[go_sem,dt];exact⟨rfl,rfl⟩
   ·exact⟨.inl rfl,au _⟩
   ·rintro⟨i,mm⟩ ⟨h1,h2⟩;simp only at h1 h2;have hx:∀(hi:i<args.length),∃x:Nd,Rd mm (ct a (i * 8)) x.cs/\a≠none/\aB 37 [.v (.agg ⟨x.cs⟩)] mm (.int .i64 (bL args[i])):=fun hi=>by
     have bh:=aZ h1 (tJ fm hi);obtain⟨x,hx⟩:=qI bh;have cu:=dG (aD h1 hr) hi;rw[hx] at bh cu;exact⟨x,cu.1,cu.2,FV h args[i] x.cs mm (by have:=yx hi;omega) (by omega) bh⟩
    simp only[go_sem,dt];refine⟨fun ao=> ?_,fun cQ=> ?_⟩
    ·refine Exists.elim (hx (by clear hx;omega)) fun x cB=>⟨⟨by clear hx cB;omega,ao,cB.2.1⟩,x.cs,⟨cB.1,rfl⟩,?_⟩
     clear hx;have ha:=cB.2.2;simp only[go_sem,Nd.cs,dt];refine ab ((aX ha (fun V=>rfl)).mono ?_);clear cB ha;rintro r H' m2 aH ⟨aY,rfl,rfl⟩;simp only[go_sem,dt];have hi:i<args.length:=by omega
     have jC:=CV hi;refine⟨by unfold az;simp only[aA] at hn;omega,(i+1,m2),⟨⟨?_,by simp⟩,.inl rfl⟩,⟨aa h1 aY,by simp only;omega⟩,by simp only;omega⟩;simp only;rw[jC];split<;>omega
    ·clear hx;have:args.take i=args:=gm (by omega);rw[this];simp only[bL];exact⟨by unfold az;simp only[aA] at hb;omega,h1,by omega⟩
theorem NR {P:Program} {f:FuncId} {args:List SV} {H:Hp} {m:Mem} {R R' :SV->Hp->Mem->Prop} (h:FnH P f args H m R) (e:∀r H' m',m.le m' ->R r H' m' ->∃r',(∀V,den V r' =den V r)/\R' r' H' m'):FnH P f args H m R' :=
 fun V w D h1 h2 h3=>(h V w D h1 h2 h3).mono fun x w2 ⟨r,V',D',H',m',e1,e2,e3,e4,e5,e6,e7,e8,e9,gQ,ke⟩=>(e r H' m' e9 ke).elim fun r' hr=>⟨r',V',D',H',m',by rw[hr.1 V'];exact e1,e2,e3,e4,e5,e6,e7,e8,e9,gQ,hr.2⟩
def adN (f:FuncId) (args:List SV) (m:Mem) (T:List Tk):Prop:=FnH Tryz.prog f args ⟨[],[]⟩ m fun r H' m' =>an m m' /\r= .vec 0 0/\H' =⟨[],[⟨0,0,50,4,T.length,cG T⟩]⟩
theorem aaS:eo Tryz.prog 174=some none:=by kernel_rfl
theorem adm:iQ Tryz.prog 174=some 45:=by kernel_rfl
theorem Yc:ft Tryz.prog 45=some [.v (.slice none 0 0)]:=by kernel_rfl
theorem adw:nE Tryz.prog 45=24:=by kernel_rfl
attribute [go_sem] aaS adm Yc adw dX
def RefE (e:Ex) (m:Mem):Prop:=∀(cs:List Value) (m' :Mem),an m m' ->bk m' e cs->adN 41 [.v (.agg ⟨cs⟩)] m' (H3 e)
theorem RefE.up {e:Ex} {m m' :Mem} (h:RefE e m) (hm:an m m'):RefE e m' :=fun cs m2 hle=>h cs m2 (aa hm hle)
structure TsR (ts:List Tk):Prop extends TsB ts where
 few:ts.length<=5000
 k1:∀t∈ts,t.k=1->eF t.s=true/\fz.contains t.s=false
 k2:∀t∈ts,t.k=2->fz.contains t.s=true
 k6:∀t∈ts,t.k=6->fB.contains t.s=true
theorem Wy (s:List UInt8):TsR (aP s).1:=by
 have h:∀t∈(aP s).1,px t≠none:=fun t ht=>(Yo t ht).fmt
 refine{DE s with few:=uS s,k1:=fun t ht e=> ?_,k2:=fun t ht e=> ?_,k6:=fun t ht e=> ?_}
 ·have:=h t ht;unfold px at this;rw[aj e] at this;split at this
  ·rename_i h1;exact h1.2
  ·exact absurd rfl this
 ·have:=h t ht;unfold px at this;rw[ae (by omega),aj e] at this;split at this
  ·rename_i h1;exact h1.2
  ·exact absurd rfl this
 ·have:=h t ht;unfold px at this;rw[ae (by omega),ae (by omega),ae (by omega),ae (by omega),ae (by omega),aj e] at this;split at this
  ·rename_i h1;exact h1.2
  ·exact absurd rfl this
def fx (w:List UInt8):Bool:=fB.contains w
def eU (w:List UInt8):Bool:=fz.contains w
theorem ZY:∀w∈fz,fB.contains w=false:=by decide
theorem ZJ:∀w∈fB,fz.contains w=false:=by decide
section
variable {ts:List Tk} {i:Nat}
theorem TsR.curk (h:TsR ts) (p:Tk->Prop) (hz:p zT) (hp:∀t∈ts,p t) (i:Nat):p (aO ts i):=by
 by_cases hi:i<ts.length
 ·rw[AJ hi];exact hp _ (List.getElem_mem hi)
 ·rw[wI (by omega)];exact hz
theorem Om (h:TsR ts) {w:List UInt8} (hw:fx w=true):ah ts i w=(decide ((aO ts i).k=6)&&decide ((aO ts i).s=w)):=by
 have h2:=h.curk (fun t=>t.k=2->fz.contains t.s=true) (by decide) h.k2 i;unfold ah;by_cases e:(aO ts i).k=2
 ·have h3:¬(aO ts i).s=w:=fun e2=>by
   have:=h2 e;rw[e2,ZJ w (List.contains_iff_mem.1 hw)] at this;cases this
  rw[bo h3,Bool.and_false,Bool.and_false]
 ·rw[bo e,Bool.false_or]
theorem AV (h:TsR ts) {w:List UInt8} (hw:eU w=true):ah ts i w=(decide ((aO ts i).k=2)&&decide ((aO ts i).s=w)):=by
 have h2:=h.curk (fun t=>t.k=6->fB.contains t.s=true) (by decide) h.k6 i;unfold ah;by_cases e:(aO ts i).k=6
 ·have h3:¬(aO ts i).s=w:=fun e2=>by
   have:=h2 e;rw[e2,ZY w (List.contains_iff_mem.1 hw)] at this;cases this
  rw[bo h3,Bool.and_false,Bool.and_false]
 ·rw[bo e,Bool.or_false]
theorem sg0:(fx [62,62,62]=true)=True:=by decide
theorem sg1:(fx [60,60]=true)=True:=by decide
theorem sg2:(fx [62,62]=true)=True:=by decide
theorem sg3:(fx [61,61]=true)=True:=by decide
theorem sg4:(fx [33,61]=true)=True:=by decide
theorem sg5:(fx [60,61]=true)=True:=by decide
theorem sg6:(fx [62,61]=true)=True:=by decide
theorem sg7:(fx [38,38]=true)=True:=by decide
theorem sg8:(fx [124,124]=true)=True:=by decide
theorem sg9:(fx [123]=true)=True:=by decide
theorem abW:(fx [125]=true)=True:=by decide
theorem abV:(fx [40]=true)=True:=by decide
theorem abU:(fx [41]=true)=True:=by decide
theorem abT:(fx [91]=true)=True:=by decide
theorem abS:(fx [93]=true)=True:=by decide
theorem abR:(fx [59]=true)=True:=by decide
theorem abQ:(fx [44]=true)=True:=by decide
theorem abP:(fx [46]=true)=True:=by decide
theorem abO:(fx [61]=true)=True:=by decide
theorem abN:(fx [43]=true)=True:=by decide
theorem abM:(fx [45]=true)=True:=by decide
theorem abL:(fx [42]=true)=True:=by decide
theorem abK:(fx [47]=true)=True:=by decide
theorem abJ:(fx [37]=true)=True:=by decide
theorem abI:(fx [60]=true)=True:=by decide
theorem abH:(fx [62]=true)=True:=by decide
theorem abG:(fx [38]=true)=True:=by decide
theorem abF:(fx [124]=true)=True:=by decide
theorem abE:(fx [94]=true)=True:=by decide
theorem abD:(fx [33]=true)=True:=by decide
theorem kw0:(eU [97,98,115,116,114,97,99,116]=true)=True:=by decide
theorem kw1:(eU [97,115]=true)=True:=by decide
theorem kw2:(eU [99,97,116,99,104]=true)=True:=by decide
theorem kw3:(eU [99,108,97,115,115]=true)=True:=by decide
theorem kw4:(eU [101,108,115,101]=true)=True:=by decide
theorem kw5:(eU [101,120,116,101,110,100,115]=true)=True:=by decide
theorem kw6:(eU [102,105,110,97,108]=true)=True:=by decide
theorem kw7:(eU [105,102]=true)=True:=by decide
theorem kw8:(eU [105,109,112,108,101,109,101,110,116,115]=true)=True:=by decide
theorem kw9:(eU [105,110,116]=true)=True:=by decide
theorem acL:(eU [105,110,116,101,114,102,97,99,101]=true)=True:=by decide
theorem acK:(eU [105,115]=true)=True:=by decide
theorem acJ:(eU [108,101,110]=true)=True:=by decide
theorem acI:(eU [108,111,110,103]=true)=True:=by decide
theorem acH:(eU [110,101,119]=true)=True:=by decide
theorem acG:(eU [110,117,108,108]=true)=True:=by decide
theorem acF:(eU [112,114,105,118,97,116,101]=true)=True:=by decide
theorem acE:(eU [112,114,111,116,101,99,116,101,100]=true)=True:=by decide
theorem acD:(eU [112,117,98,108,105,99]=true)=True:=by decide
theorem acC:(eU [114,101,116,117,114,110]=true)=True:=by decide
theorem acB:(eU [115,116,97,116,105,99]=true)=True:=by decide
theorem acA:(eU [115,117,112,101,114]=true)=True:=by decide
theorem acz:(eU [115,121,110,99]=true)=True:=by decide
theorem acy:(eU [116,104,105,115]=true)=True:=by decide
theorem acx:(eU [116,104,114,111,119]=true)=True:=by decide
theorem acw:(eU [116,114,121]=true)=True:=by decide
theorem acv:(eU [118,111,105,100]=true)=True:=by decide
theorem acu:(eU [119,104,105,108,101]=true)=True:=by decide
theorem nn0 (i:Nat):(0<=(i:Int))=True:=eq_true (by omega)
theorem nn1 (i:Nat):(0<=(i:Int)+1)=True:=eq_true (by omega)
theorem nn2 (i:Nat):(0<=(i:Int)+2)=True:=eq_true (by omega)
theorem nn3 (i:Nat):(0<=(i:Int)+1+1)=True:=eq_true (by omega)
theorem tn1 (i:Nat):((i:Int)+1).toNat=i+1:=by omega
theorem tn2 (i:Nat):((i:Int)+2).toNat=i+2:=by omega
theorem tn3 (i:Nat):((i:Int)+1+1).toNat=i+2:=by omega
theorem Z7 {i:Nat} (h:i<=100000):az ((i:Int)+1)=True:=eq_true (by unfold az;omega)
theorem Z6 {i:Nat} (h:i<=100000):az ((i:Int)+2)=True:=eq_true (by unfold az;omega)
theorem Z5 {i:Nat} (h:i<=100000):az ((i:Int)+1+1)=True:=eq_true (by unfold az;omega)
attribute [go_sem] nn0 nn1 nn2 nn3 tn1 tn2 tn3 Z7 Z6 Z5 sg0 sg1 sg2 sg3 sg4 sg5 sg6 sg7 sg8 sg9 abW abV abU abT abS abR abQ abP abO abN abM abL abK abJ abI abH abG abF abE abD kw0 kw1 kw2 kw3 kw4 kw5 kw6 kw7 kw8 kw9 acL acK acJ acI acH acG acF acE acD acC acB acA acz acy acx acw acv acu
def oz (ts:List Tk) (F:Nat->Value):Mem->List Value->Option (Prop×Value)
 |m,[.slice a n _,.int .i64 i]=>some ((n=ts.length/\aK m a n 4 (cG ts))/\0<=i,F i.toNat)
 |_,_=>none
def rk (ts:List Tk) (B:List UInt8->Bool) (F:Nat->List UInt8->Value):Mem->List Value->Option (Prop×Value)
 |m,[.slice a n _,.int .i64 i,.string w]=>some ((n=ts.length/\aK m a n 4 (cG ts))/\0<=i/\B (tl w)=true,F i.toNat (tl w))
 |_,_=>none
attribute [go_sem] oz.eq_1 rk.eq_1
theorem wG {P:Program} {f:FuncId} {F:Nat->Value} (h:∀(a:Option Addr) (c i:Nat) (m:Mem),aK m a ts.length 4 (cG ts)->FnH P f [.v (.slice a ts.length c),.v (.int .i64 i)] ⟨[],[]⟩ m fun r H' _=>r= .v (F i)/\H' =⟨[],[]⟩):
  ∀m cL y,oz ts F m cL=some y->y.1->FnH P f (cL.map SV.v) ⟨[],[]⟩ m fun r H' _=>r= .v y.2/\H' =⟨[],[]⟩:=fun m cL y hy hB=>by
 unfold oz at hy;split at hy
 ·rename_i a n c i;cases hy;obtain⟨⟨rfl,hr⟩,hi⟩:=hB;have:=h a c i.toNat m hr;rwa [Int.toNat_of_nonneg hi] at this
 ·cases hy
theorem DI {P:Program} {f:FuncId} {B:List UInt8->Bool} {F:Nat->List UInt8->Value} (h:∀(a:Option Addr) (c i:Nat) (w:List UInt8) (m:Mem),B w=true->aK m a ts.length 4 (cG ts)->FnH P f [.v (.slice a ts.length c),.v (.int .i64 i),.v (.string (bs w))] ⟨[],[]⟩ m fun r H' _=>r= .v (F i w)/\H' =⟨[],[]⟩):
  ∀m cL y,rk ts B F m cL=some y->y.1->FnH P f (cL.map SV.v) ⟨[],[]⟩ m fun r H' _=>r= .v y.2/\H' =⟨[],[]⟩:=fun m cL y hy hB=>by
 unfold rk at hy;split at hy
 ·rename_i a n c i w;cases hy;obtain⟨⟨rfl,hr⟩,hi,hw⟩:=hB;have:=h a c i.toNat (tl w) m hw hr;rwa [Int.toNat_of_nonneg hi,lH] at this
 ·cases hy
section
variable (a:Option Addr) (c i:Nat) (m:Mem)
theorem Ga (hT:TsR ts) (hr:aK m a ts.length 4 (cG ts)):FnH Tryz.prog 70 [.v (.slice a ts.length c),.v (.int .i64 i)] ⟨[],[]⟩ m fun r H' _=>r= .v (.agg ⟨dX (aO ts i)⟩)/\H' =⟨[],[]⟩:=by
 refine NR (R:=fun r H' _=>r=PX (aO ts i)/\H' =⟨[],[]⟩) ?_ fun r H' m' _ hr=>⟨_,fun V=>by rw[hr.1];rfl,rfl,hr.2⟩
 refine aL ay Tryz.func70 ?_
 ·simp only[go_sem];refine⟨fun h=> ?_,fun h=> ?_⟩
  ·rw[wI (by omega)];rfl
  ·have hi:i<ts.length:=by omega
   have hc:=dG hr hi;rw[Ao hi] at hc;refine⟨⟨by omega,by omega,hc.2⟩,dX (aO ts i),⟨hc.1,rfl⟩,?_⟩;simp only[go_sem,dX]
abbrev Iz (ts:List Tk):Cfg:=qY (fun _=>false) [(70,oz ts fun i=> .agg ⟨dX (aO ts i)⟩)]
theorem Pt (hT:TsR ts):cK (Iz ts) Tryz.prog:=nG (by kernel_rfl) (wG fun a c i m hr=>Ga a c i m hT hr) CY
theorem LQ (w:List UInt8) (hT:TsR ts) (hw:fx w=true) (hr:aK m a ts.length 4 (cG ts)):FnH Tryz.prog 58 [.v (.slice a ts.length c),.v (.int .i64 i),.v (.string (bs w))] ⟨[],[]⟩ m fun r H' _=>r= .v (.bool (ah ts i w))/\H' =⟨[],[]⟩:=by
 rw[Om hT hw];refine enter (Iz ts) (Pt hT) Tryz.func58 rfl rfl (by kernel_rfl) rfl ?_ ?_
 ·simp only[go_sem]
 ·simp only[go_sem,hr,dX]
theorem LO (w:List UInt8) (hT:TsR ts) (hw:eU w=true) (hr:aK m a ts.length 4 (cG ts)):FnH Tryz.prog 68 [.v (.slice a ts.length c),.v (.int .i64 i),.v (.string (bs w))] ⟨[],[]⟩ m fun r H' _=>r= .v (.bool (ah ts i w))/\H' =⟨[],[]⟩:=by
 rw[AV hT hw];refine enter (Iz ts) (Pt hT) Tryz.func68 rfl rfl (by kernel_rfl) rfl ?_ ?_
 ·simp only[go_sem]
 ·simp only[go_sem,hr,dX]
abbrev Iy (ts:List Tk):Cfg:=qY (fun _=>false) [(70,oz ts fun i=> .agg ⟨dX (aO ts i)⟩),(107,fun _=>eZ BL fun s=> .bool (dT s)),(163,fun _=>eZ BL fun s=> .bool (eP s))]
theorem Ps (hT:TsR ts):cK (Iy ts) Tryz.prog:=nG (by kernel_rfl) (wG fun a c i m hr=>Ga a c i m hT hr) (nG (by kernel_rfl) (fun m cL y hy hB=>fM yg cL y hy hB m) (nG (by kernel_rfl) (fun m cL y hy hB=>fM CK cL y hy hB m) CY))
theorem LX (hT:TsR ts) (hr:aK m a ts.length 4 (cG ts)):FnH Tryz.prog 87 [.v (.slice a ts.length c),.v (.int .i64 i)] ⟨[],[]⟩ m fun r H' _=>r= .v (.bool (ee (ts.drop i)))/\H' =⟨[],[]⟩:=by
 rw[ee,nQ,kf];have hb:=hT.toTsB.cs i;have hB:BL (aO ts i).s:=by unfold BL;omega
 refine enter (Iy ts) (Ps hT) Tryz.func87 rfl rfl (by kernel_rfl) rfl ?_ ?_
 ·simp only[go_sem]
 ·simp only[go_sem,hr,dX,hB]
theorem OW {s:List UInt8} (h:eF s=true):s.getD 0 0≠60:=by
 intro e;unfold eF at h;have h2:=(Bool.and_eq_true_iff.1 h).2;cases s with
 |nil=>cases e
 |cons c r=>
  obtain rfl:c=60:=e;simp [gD,dm,dF] at h2
theorem YT {s:List UInt8} (h1:eF s=true) (h2:fz.contains s=false) (h3:dT s=false):eP s= !s.contains 47:=by
 have Ct:=OW h1;have e1:¬s=eH:=fun e=>by rw[e] at Ct;exact Ct rfl
 have e2:¬s=wJ:=fun e=>by rw[e] at Ct;exact Ct rfl
 unfold eP pg;rw[h1,h2,h3,bo e1,bo e2,bX Ct,Lib.contains_iff_indexByte];simp only[Bool.false_or,Bool.true_and,Bool.and_true,Bool.not_false];by_cases h:0<=Lib.indexByte s 47
 ·rw[bo (by omega)];simp [h]
 ·rw[bX (by omega)];simp [h]
theorem Tv (hT:TsR ts) (hr:aK m a ts.length 4 (cG ts)):FnH Tryz.prog 148 [.v (.slice a ts.length c),.v (.int .i64 i)] ⟨[],[]⟩ m fun r H' _=>r= .v (.bool (eY (ts.drop i)))/\H' =⟨[],[]⟩:=by
 have hb:=hT.toTsB.cs i;have hB:BL (aO ts i).s:=by unfold BL;omega
 have hk:=hT.curk (fun t=>t.k=1->eF t.s=true/\fz.contains t.s=false) (by decide) hT.k1 i;have e:eY (ts.drop i)=(decide ((aO ts i).k=1)&& !dT (aO ts i).s&&eP (aO ts i).s):=by
  rw[eY,nQ,kf];by_cases h:(aO ts i).k=1
  ·cases h3:dT (aO ts i).s with
   |true=>simp
   |false=>rw[YT (hk h).1 (hk h).2 h3]
  ·rw[bo h];simp
 rw[e];refine enter (Iy ts) (Ps hT) Tryz.func148 rfl rfl (by kernel_rfl) rfl ?_ ?_
 ·simp only[go_sem]
 ·simp only[go_sem,hr,dX,hB]
end
def sH (s:List UInt8):Int:=
 if(fH 0).contains s=true then 1 else if(fH 1).contains s=true then 2 else if(fH 2).contains s=true then 3 else if(fH 3).contains s=true then 4 else if(fH 4).contains s=true then 5 else if(fH 5).contains s=true then 6
 else if(fH 6).contains s=true then 7 else if(fH 7).contains s=true then 8 else if(fH 8).contains s=true then 9 else if(fH 9).contains s=true then 10 else 0
theorem YM:∀n:Fin 10,∀s∈fH n.val,sH s=(n.val:Int)+1:=by decide
theorem TW (s:List UInt8):sH s=0\/∃m:Nat,m<=9/\sH s=(m:Int)+1/\(fH m).contains s=true:=by
 unfold sH;by_cases h0:(fH 0).contains s=true
 ·exact .inr ⟨0,by decide,aj h0,h0⟩
 rw[ae h0];by_cases h1:(fH 1).contains s=true
 ·exact .inr ⟨1,by decide,aj h1,h1⟩
 rw[ae h1];by_cases h2:(fH 2).contains s=true
 ·exact .inr ⟨2,by decide,aj h2,h2⟩
 rw[ae h2];by_cases h3:(fH 3).contains s=true
 ·exact .inr ⟨3,by decide,aj h3,h3⟩
 rw[ae h3];by_cases h4:(fH 4).contains s=true
 ·exact .inr ⟨4,by decide,aj h4,h4⟩
 rw[ae h4];by_cases h5:(fH 5).contains s=true
 ·exact .inr ⟨5,by decide,aj h5,h5⟩
 rw[ae h5];by_cases h6:(fH 6).contains s=true
 ·exact .inr ⟨6,by decide,aj h6,h6⟩
 rw[ae h6];by_cases h7:(fH 7).contains s=true
 ·exact .inr ⟨7,by decide,aj h7,h7⟩
 rw[ae h7];by_cases h8:(fH 8).contains s=true
 ·exact .inr ⟨8,by decide,aj h8,h8⟩
 rw[ae h8];by_cases h9:(fH 9).contains s=true
 ·exact .inr ⟨9,by decide,aj h9,h9⟩
 rw[ae h9];exact .inl rfl
theorem YL {n:Nat} (hn:n<=9) (s:List UInt8):(sH s=(n:Int)+1)=((fH n).contains s=true):=by
 refine eq_iff_iff.2 ⟨fun h=> ?_,fun h=>YM ⟨n,by omega⟩ s (List.contains_iff_mem.1 h)⟩;rcases TW s with h1 |⟨m,h1,h2,h3⟩
 ·omega
 ·obtain rfl:n=m:=by omega
  exact h3
theorem Tu (s:List UInt8) (m:Mem):FnH Tryz.prog 71 [.v (.string (bs s))] ⟨[],[]⟩ m fun r H' _=>r= .v (.int .i64 (sH s))/\H' =⟨[],[]⟩:=by
 refine aL ay Tryz.func71 ?_
 ·by_cases e0:s=[124,124]
  ·have d0:=bX e0;simp only[go_sem,d0];rw[e0];rfl
  have d0:=bo e0;by_cases e1:s=[38,38]
  ·have d1:=bX e1;simp only[go_sem,d0,d1];rw[e1];rfl
  have d1:=bo e1;by_cases e2:s=[124]
  ·have d2:=bX e2;simp only[go_sem,d0,d1,d2];rw[e2];rfl
  have d2:=bo e2;by_cases e3:s=[94]
  ·have d3:=bX e3;simp only[go_sem,d0,d1,d2,d3];rw[e3];rfl
  have d3:=bo e3;by_cases e4:s=[38]
  ·have d4:=bX e4;simp only[go_sem,d0,d1,d2,d3,d4];rw[e4];rfl
  have d4:=bo e4;by_cases e5:s=[61,61]
  ·have d5:=bX e5;simp only[go_sem,d0,d1,d2,d3,d4,d5];rw[e5];rfl
  have d5:=bo e5;by_cases e6:s=[33,61]
  ·have d6:=bX e6;simp only[go_sem,d0,d1,d2,d3,d4,d5,d6];rw[e6];rfl
  have d6:=bo e6;by_cases e7:s=[60]
  ·have d7:=bX e7;simp only[go_sem,d0,d1,d2,d3,d4,d5,d6,d7];rw[e7];rfl
  have d7:=bo e7;by_cases e8:s=[60,61]
  ·have d8:=bX e8;simp only[go_sem,d0,d1,d2,d3,d4,d5,d6,d7,d8];rw[e8];rfl
  have d8:=bo e8;by_cases e9:s=[62]
  ·have d9:=bX e9;simp only[go_sem,d0,d1,d2,d3,d4,d5,d6,d7,d8,d9];rw[e9];rfl
  have d9:=bo e9;by_cases gQ:s=[62,61]
  ·have d10:=bX gQ;simp only[go_sem,d0,d1,d2,d3,d4,d5,d6,d7,d8,d9,d10];rw[gQ];rfl
  have d10:=bo gQ;by_cases ke:s=[60,60]
  ·have d11:=bX ke;simp only[go_sem,d0,d1,d2,d3,d4,d5,d6,d7,d8,d9,d10,d11];rw[ke];rfl
  have d11:=bo ke;by_cases wm:s=[62,62]
  ·have d12:=bX wm;simp only[go_sem,d0,d1,d2,d3,d4,d5,d6,d7,d8,d9,d10,d11,d12];rw[wm];rfl
  have d12:=bo wm;by_cases wk:s=[62,62,62]
  ·have d13:=bX wk;simp only[go_sem,d0,d1,d2,d3,d4,d5,d6,d7,d8,d9,d10,d11,d12,d13];rw[wk];rfl
  have d13:=bo wk;by_cases wj:s=[43]
  ·have d14:=bX wj;simp only[go_sem,d0,d1,d2,d3,d4,d5,d6,d7,d8,d9,d10,d11,d12,d13,d14];rw[wj];rfl
  have d14:=bo wj;by_cases wi:s=[45]
  ·have d15:=bX wi;simp only[go_sem,d0,d1,d2,d3,d4,d5,d6,d7,d8,d9,d10,d11,d12,d13,d14,d15];rw[wi];rfl
  have d15:=bo wi;by_cases wh:s=[42]
  ·have d16:=bX wh;simp only[go_sem,d0,d1,d2,d3,d4,d5,d6,d7,d8,d9,d10,d11,d12,d13,d14,d15,d16];rw[wh];rfl
  have d16:=bo wh;by_cases wg:s=[47]
  ·have d17:=bX wg;simp only[go_sem,d0,d1,d2,d3,d4,d5,d6,d7,d8,d9,d10,d11,d12,d13,d14,d15,d16,d17];rw[wg];rfl
  have d17:=bo wg;by_cases we:s=[37]
  ·have d18:=bX we;simp only[go_sem,d0,d1,d2,d3,d4,d5,d6,d7,d8,d9,d10,d11,d12,d13,d14,d15,d16,d17,d18];rw[we];rfl
  have d18:=bo we;simp only[go_sem,d0,d1,d2,d3,d4,d5,d6,d7,d8,d9,d10,d11,d12,d13,d14,d15,d16,d17,d18];unfold sH;simp [fH,e0,e1,e2,e3,e4,e5,e6,e7,e8,e9,gQ,ke,wm,wk,wj,wi,wh,wg,we]
end
section
variable {ts:List Tk} {i:Nat} {m:Mem} {a:Option Addr} {α β:Type}
/-! Reading a token in memory. -/
theorem AO (hr:aK m a ts.length 4 (cG ts)) (hi:i<ts.length):a≠none/\Rd m (ct a (i * 4)) (dX (aO ts i)):=by
 have hc:=dG hr hi;rw[Ao hi] at hc;exact⟨hc.2,hc.1⟩
theorem lL (hr:aK m a ts.length 4 (cG ts)) (hi:i<ts.length):Bl a ts.length (i:Int)=True:=eq_true ⟨by omega,by omega,(AO hr hi).1⟩
theorem qb (hr:aK m a ts.length 4 (cG ts)) (hi:i+1<ts.length):Bl a ts.length ((i:Int)+1)=True:=eq_true ⟨by omega,by omega,(AO hr hi).1⟩
theorem gh (hr:aK m a ts.length 4 (cG ts)) (hi:i<ts.length):Ei (ct a (i * 4))=True:=eq_true (lz (AO hr hi).2)
theorem eX (hr:aK m a ts.length 4 (cG ts)) (hi:i<ts.length) {K:Value->Prop}:(∃c,Rd m (pT (ct a (i * 4)) 1) [c]/\K c)=K (.string (bs (aO ts i).s)):=by
 have h0:Rd m (pT (ct a (i * 4)) 1) [.string (bs (aO ts i).s)]:=jH (AO hr hi).2 1 1 (by simp [dX]);refine eq_iff_iff.2 ⟨fun h=> ?_,fun h=>⟨_,h0,h⟩⟩;obtain⟨c,⟨ad,e1,_,h1⟩,hk⟩:=h;obtain⟨QX,e2,_,h2⟩:=h0;rw[e1] at e2;cases e2;have h3:=(h1 0 (by simp)).1;have h4:=(h2 0 (by simp)).1;rw[h3] at h4;simp only[List.getElem?_cons_zero,dy] at h4;rw[<- h4];exact hk
/-! The plain parser at an index. -/
theorem gI {w:List UInt8} {k:List Tk->PR α} (h:ah ts i w=true):aW w (ts.drop i) k=k (ts.drop (i+1)):=by rw[aW,<- ar,aj h,List.tail_drop]
theorem gJ {w:List UInt8} {k:List Tk->PR α} (h:ah ts i w=false):aW w (ts.drop i) k= .error (ts.drop i):=by rw[aW,<- ar,ae (by rw[h];decide)]
theorem eI {w:List UInt8} {x y:PR α} (h:ah ts i w=true):(if aC w (ts.drop i)=true then x else y)=x:=by rw[<- ar,aj h]
theorem aT {w:List UInt8} {x y:PR α} (h:ah ts i w=false):(if aC w (ts.drop i)=true then x else y)=y:=by rw[<- ar,ae (by rw[h];decide)]
theorem bz {K:PR α} {f:α->List Tk->PR β} {x:α} {r:List Tk} (h:K= .ok (x,r)):av K f=f x r:=by rw[h];rfl
theorem cV {K:PR α} {f:α->List Tk->PR β} {r:List Tk} (h:K= .error r):av K f= .error r:=by rw[h];rfl
theorem be {w w' :List UInt8} (h:ah ts i w=true) (hw:w≠w'):ah ts i w' =false:=by
 unfold ah at h ⊢;have e:=of_decide_eq_true (Bool.and_eq_true_iff.1 h).2;rw[e,bo hw,Bool.and_false]
theorem bK {b:Bool} (h:¬b=true):b=false:=by
 cases b
 ·rfl
 ·exact absurd rfl h
theorem rO (h:eY (ts.drop i)=true):dr (ts.drop i)= .ok ((aO ts i).s,ts.drop (i+1)):=by rw[dr,aj h,kf,List.tail_drop]
theorem vU (h:eY (ts.drop i)=false):dr (ts.drop i)= .error (ts.drop i):=by rw[dr,ae (by rw[h];decide)]
theorem kX {K:PR α} {x:α} {k:Nat} (g:Good true (ts.drop i) K) (h:K= .ok (x,ts.drop k)) (hk:k<=ts.length):i<k:=by
 have:=(g.ok _ _ h).2 rfl;rw[cH,cH] at this;omega
/-! What a parsing function answers: a node, the index behind it, whether it is one. -/
abbrev iK (ts:List Tk) (K:PR Ex) (m:Mem):SV->Hp->Mem->Prop:=fun r H' m' =>an m m' /\H' =⟨[],[]⟩/\∃(x:Nd) (k:Nat) (b:Bool),r= .tup [.agg x.svs,.v (.int .i64 k),.v (.bool b)]/\k<=ts.length/\
 ((b=true/\∃e,K= .ok (e,ts.drop k)/\bk m' e x.cs)\/(b=false/\K= .error (ts.drop k)))
abbrev Bm (ts:List Tk) (K:PR (List Ex)) (m:Mem):SV->Hp->Mem->Prop:=fun r H' m' =>an m m' /\H' =⟨[],[]⟩/\∃(a:Option Addr) (n c k:Nat) (b:Bool),r= .tup [.v (.slice a n c),.v (.int .i64 k),.v (.bool b)]/\k<=ts.length/\
 ((b=true/\∃es xs,K= .ok (es,ts.drop k)/\n=es.length/\n<=c/\n<=1000001/\aK m' a n 8 xs/\ea m' es xs)\/(b=false/\K= .error (ts.drop k)))
theorem lj {K:PR Ex} {m m' :Mem} (l:an m m') (x:Nd) (k:Nat) {e:Ex} (hk:k<=ts.length) (hK:K= .ok (e,ts.drop k)) (hx:bk m' e x.cs):iK ts K m (.tup [.agg x.svs,.v (.int .i64 k),.v (.bool true)]) ⟨[],[]⟩ m' :=
 ⟨l,rfl,x,k,true,rfl,hk,.inl ⟨rfl,e,hK,hx⟩⟩
theorem iL {K:PR Ex} {m m' :Mem} (l:an m m') (x:Nd) (k:Nat) (hk:k<=ts.length) (hK:K= .error (ts.drop k)):iK ts K m (.tup [.agg x.svs,.v (.int .i64 k),.v (.bool false)]) ⟨[],[]⟩ m' :=
 ⟨l,rfl,x,k,false,rfl,hk,.inr ⟨rfl,hK⟩⟩
def xw:Nd:=⟨0,0,[],[],ai,none,0,0⟩
/-! The contracts. -/
def sQ (ts:List Tk) (n i:Nat):Prop:=∀(a:Option Addr) (c:Nat) (m:Mem),aK m a ts.length 4 (cG ts)->FnH Tryz.prog 35 [.v (.slice a ts.length c),.v (.int .i64 i),.v (.int .i64 ((n:Int)+1))] ⟨[],[]⟩ m (iK ts (cj n (ts.drop i)) m)
def lV (f:FuncId) (ts:List Tk) (K:List Tk->PR Ex) (i:Nat):Prop:=∀(a:Option Addr) (c:Nat) (m:Mem),aK m a ts.length 4 (cG ts)->FnH Tryz.prog f [.v (.slice a ts.length c),.v (.int .i64 i)] ⟨[],[]⟩ m (iK ts (K (ts.drop i)) m)
def Bj (ts:List Tk) (i:Nat):Prop:=∀(a:Option Addr) (c:Nat) (m:Mem),aK m a ts.length 4 (cG ts)->FnH Tryz.prog 93 [.v (.slice a ts.length c),.v (.int .i64 i)] ⟨[],[]⟩ m (Bm ts (jw (ts.drop i)) m)
/-! Types. -/
def iZ (ts:List Tk) (i:Nat):Ty×Bool:=
 if ah ts i iI=true then(⟨0,73,[]⟩,true) else if ah ts i iE=true then(⟨0,74,[]⟩,true) else if ee (ts.drop i)=true then(⟨0,76,(aO ts i).s⟩,true) else(⟨0,0,[]⟩,false)
def zD (t:Ty):List Value:=[.int .i64 t.dim,.int .u8 t.base,.string (bs t.name)]
def baseV (ts:List Tk) (i:Nat):Value:= .tuple ⟨[.agg ⟨zD (iZ ts i).1⟩,.bool (iZ ts i).2]⟩
structure TyB (t:Ty) (d:Nat):Prop where
 d:0<=t.dim/\t.dim<=d
 b:0<=t.base/\t.base<256
 n:t.name.length<=1000000
theorem TyB.ok {t:Ty} {d:Nat} (h:TyB t d) (hd:d<=100000):lh t:=⟨by have:=h.d;unfold az;omega,h.b,by have:=h.n;unfold aA;omega⟩
theorem OL (hT:TsR ts):TyB (iZ ts i).1 0:=by
 have:=hT.toTsB.cs i;unfold iZ;split
 ·exact⟨by decide,by decide,by decide⟩
 ·split
  ·exact⟨by decide,by decide,by decide⟩
  ·split
   ·exact⟨⟨Int.le_refl _,Int.le_refl _⟩,⟨(by decide:(0:Int)<=76),(by decide:(76:Int)<256)⟩,this⟩
   ·exact⟨by decide,by decide,by decide⟩
theorem OJ (h:(iZ ts i).2=true):jX (ts.drop i)= .ok ((iZ ts i).1,ts.drop (i+1))/\i<ts.length:=by
 unfold jX;unfold iZ at h ⊢;by_cases h1:ah ts i iI=true
 ·rw[eI h1,List.tail_drop,aj h1];exact⟨rfl,aJ h1⟩
 ·rw[aT (by simpa using h1)];rw[ae h1] at h ⊢;by_cases h2:ah ts i iE=true
  ·rw[eI h2,List.tail_drop,aj h2];exact⟨rfl,aJ h2⟩
  ·rw[aT (by simpa using h2)];rw[ae h2] at h ⊢;by_cases h3:ee (ts.drop i)=true
   ·rw[fw,aj h3,List.tail_drop,kf,aj h3];exact⟨rfl,DN h3⟩
   ·rw[ae h3] at h;cases h
theorem OK (h:(iZ ts i).2=false):jX (ts.drop i)= .error (ts.drop i):=by
 unfold jX;unfold iZ at h;by_cases h1:ah ts i iI=true
 ·rw[aj h1] at h;cases h
 ·rw[aT (by simpa using h1)];rw[ae h1] at h;by_cases h2:ah ts i iE=true
  ·rw[aj h2] at h;cases h
  ·rw[aT (by simpa using h2)];rw[ae h2] at h;by_cases h3:ee (ts.drop i)=true
   ·rw[aj h3] at h;cases h
   ·rw[fw,ae h3];rfl
end
section
variable {ts:List Tk}
abbrev PK (ts:List Tk):Cfg:=qY (fun _=>false) [(58,rk ts fx fun i w=> .bool (ah ts i w)),(68,rk ts eU fun i w=> .bool (ah ts i w)),(87,oz ts fun i=> .bool (ee (ts.drop i)))]
theorem ace (hT:TsR ts):cK (PK ts) Tryz.prog:=nG (by kernel_rfl) (DI fun a c i w m hw hr=>LQ a c i m w hT hw hr) (nG (by kernel_rfl) (DI fun a c i w m hw hr=>LO a c i m w hT hw hr) (nG (by kernel_rfl) (wG fun a c i m hr=>LX a c i m hT hr) CY))
theorem Sj (a:Option Addr) (c i:Nat) (m:Mem) (hT:TsR ts) (hr:aK m a ts.length 4 (cG ts)):FnH Tryz.prog 160 [.v (.slice a ts.length c),.v (.int .i64 i)] ⟨[],[]⟩ m fun r H' _=>r= .v (baseV ts i)/\H' =⟨[],[]⟩:=by
 refine NR (R:=fun r H' _=>r= .tup [ER (iZ ts i).1,.v (.bool (iZ ts i).2)]/\H' =⟨[],[]⟩) ?_ fun r H' m' _ hr=>⟨_,fun V=>by rw[hr.1];rfl,rfl,hr.2⟩
 unfold iZ;refine enter (PK ts) (ace hT) Tryz.func160 rfl rfl (by kernel_rfl) rfl ?_ ?_
 ·simp only[go_sem]
 ·simp only[go_sem,hr];refine⟨fun h1=>by rw[aj (show ah ts i iI=true from h1)],fun h1=> ?_⟩;rw[ae (by rw[show ah ts i iI=false from h1];decide)];refine⟨fun h2=>by rw[aj (show ah ts i iE=true from h2)],fun h2=> ?_⟩;rw[ae (by rw[show ah ts i iE=false from h2];decide)];refine⟨fun h3=> ?_,fun h3=>by rw[ae (by rw[h3];decide)]⟩;have hi:=DN h3;rw[aj h3];simp only[go_sem,lL hr hi,gh hr hi,eX hr hi]
abbrev cd (ts:List Tk):Cfg:=qY (fun _=>false) [(58,rk ts fx fun i w=> .bool (ah ts i w)),(68,rk ts eU fun i w=> .bool (ah ts i w)),(87,oz ts fun i=> .bool (ee (ts.drop i))),
 (148,oz ts fun i=> .bool (eY (ts.drop i))),(70,oz ts fun i=> .agg ⟨dX (aO ts i)⟩),(160,oz ts (baseV ts)),(71,fun _=>eZ (fun _=>True) fun s=> .int .i64 (sH s))]
theorem bu (hT:TsR ts):cK (cd ts) Tryz.prog:=nG (by kernel_rfl) (DI fun a c i w m hw hr=>LQ a c i m w hT hw hr) (nG (by kernel_rfl) (DI fun a c i w m hw hr=>LO a c i m w hT hw hr) (nG (by kernel_rfl) (wG fun a c i m hr=>LX a c i m hT hr)
 (nG (by kernel_rfl) (wG fun a c i m hr=>Tv a c i m hT hr) (nG (by kernel_rfl) (wG fun a c i m hr=>Ga a c i m hT hr) (nG (by kernel_rfl) (wG fun a c i m hr=>Sj a c i m hT hr) (nG (by kernel_rfl) (fun m cL y hy hB=>fM (fun s m _=>Tu s m) cL y hy hB m) CY))))))
theorem Af (a:Option Addr) (c i:Nat) (m:Mem) (hT:TsR ts) (hi:i<=ts.length) (hr:aK m a ts.length 4 (cG ts)):FnH Tryz.prog 69 [.v (.slice a ts.length c),.v (.int .i64 i)] ⟨[],[]⟩ m fun r H' m' =>an m m' /\H' =⟨[],[]⟩/\∃(t:Ty) (k:Nat) (b:Bool),r= .tup [ER t,.v (.int .i64 k),.v (.bool b)]/\k<=ts.length/\TyB t k/\
  ((b=true/\fN (ts.drop i)= .ok (t,ts.drop k))\/(b=false/\fN (ts.drop i)= .error (ts.drop k))):=by
 rw[NX];have hl:=hT.few;have ck:i<=100000:=by omega
 have hB:=OL (i:=i) hT;cases hb:(iZ ts i).2 with
 |false=>
  refine enter (cd ts) (bu hT) Tryz.func69 rfl rfl (by kernel_rfl) rfl ?_ ?_
  ·simp only[go_sem]
  ·simp only[go_sem,hr,baseV,zD,hb];exact⟨_,i,false,rfl,hi,⟨⟨hB.d.1,by have:=hB.d.2;omega⟩,hB.b,hB.n⟩,.inr ⟨rfl,cV (OK hb)⟩⟩
 |true=>
  obtain⟨e1,ao⟩:=OJ hb;rw[bz e1];refine enter (cd ts) (bu hT) Tryz.func69 rfl rfl (by kernel_rfl) rfl ?_ ?_
  ·simp only[go_sem]
  ·simp only[go_sem,hr,baseV,zD,hb,ck];refine cO (bu hT) (fun y:Ty×Nat=>⟨[⟨0,[],.v (.slice a ts.length c)⟩,⟨1,[],.v (.int .i64 y.2)⟩,⟨4,[],.box 0 0⟩,⟨7,[],.box 1 0⟩],[],[⟨1,30,[.v (.int .i64 y.1.dim),.v (.int .u8 y.1.base),.v (.string (bs y.1.name))]⟩,⟨0,30,[.v (.int .i64 0),.v (.int .u8 0),.v (.string (bs []))]⟩],[],2,m⟩)
    (fun y=>y.2<=ts.length/\TyB y.1 y.2/\vq (iZ ts i).1 (ts.drop (i+1))=vq y.1 (ts.drop y.2)) (fun y=>ts.length - y.2) ((iZ ts i).1,i+1) (fun _ _=>aq _) (fun _ _=> .inl rfl) ?_ ?_ ?_
   ·simp only[go_sem];exact rfl
   ·exact⟨ao,⟨⟨hB.d.1,by have:=hB.d.2;dsimp only;omega⟩,hB.b,hB.n⟩,rfl⟩
   ·rintro⟨t,k⟩ ⟨q1,q2,q3⟩;dsimp only at q1 q2 q3;have bq:k<=100000:=by omega
    rw[q3,G5];cases h1:ah ts k [91] with
    |true=>
     have aV:=aJ h1;rw[eI h1,List.tail_drop];cases h2:ah ts (k+1) [93] with
     |true=>
      have b8:=aJ h2;simp only[go_sem,hr,bq,h1,h2];refine⟨by have:=q2.d;unfold az;omega,(t.up,k+2),⟨rfl,rfl,rfl,rfl⟩,⟨b8,⟨⟨by have:=q2.d;simp only[Ty.up];omega,by have:=q2.d;simp only[Ty.up];omega⟩,q2.b,q2.n⟩,?_⟩,by dsimp only;omega⟩;exact gI h2
     |false=>
      simp only[go_sem,hr,bq,h1,h2];exact⟨t,k+1,false,rfl,aV,⟨⟨q2.d.1,by have:=q2.d.2;omega⟩,q2.b,q2.n⟩,.inr ⟨rfl,gJ h2⟩⟩
    |false=>
     simp only[go_sem,hr,bq,h1];exact⟨t,k,true,rfl,q1,q2,.inl ⟨rfl,aT h1⟩⟩
end
def SZ {α:Type} (c b:Nat) (g:α->Nat) (K:PR α):Prop:=∀x r,K= .ok (x,r)->g x+c * r.length<=b
section
variable {α β:Type} {c b b1:Nat} {g:α->Nat} {g2:β->Nat} {l:List Tk}
theorem cT {x:α} {r:List Tk} (h:g x+c * r.length<=b):SZ c b g (.ok (x,r)):=fun y q e=>by cases e;exact h
theorem jJ {r:List Tk}:SZ c b g (.error r):=fun y q e=>by cases e
theorem b7 {c1:Nat} {K:PR α} {k:α->List Tk->PR β} (h:SZ c1 b1 g K) (hk:∀x r,g x+c1 * r.length<=b1->SZ c b g2 (k x r)):SZ c b g2 (av K k):=by
 cases K with
 |error r=>exact jJ
 |ok p=>exact hk p.1 p.2 (h p.1 p.2 rfl)
theorem gU {s:List UInt8} {k:List Tk->PR α} (h:l.tail.length+1=l.length->SZ c b g (k l.tail)):SZ c b g (aW s l k):=by
 unfold aW;split
 ·rename_i h1;have:=bI h1;exact h (by cases l with |nil=>exact absurd rfl this |cons a r=>rfl)
 ·exact jJ
theorem cU {p:Prop} [Decidable p] {a a' :PR α} (h1:p->SZ c b g a) (h2:¬p->SZ c b g a'):SZ c b g (if p then a else a'):=by
 split
 ·rename_i h;exact h1 h
 ·rename_i h;exact h2 h
theorem jl {K:PR α} (h:SZ c b1 g K) (hb:b1<=b):SZ c b g K:=fun x r e=>cR (h x r e) hb
end
theorem dO {l:List Tk} (h:l≠[]):l.tail.length+1=l.length:=by
 cases l with
 |nil=>exact absurd rfl h
 |cons a r=>rfl
theorem wR (l:List Tk):SZ 1 l.length (fun _=>1) (fw l):=by
 unfold fw;refine cU (fun h=>cT ?_) fun _=>jJ
 have:=dO (l:=l) (fun e=>by rw[e] at h;cases h);omega
theorem so (l:List Tk):SZ 1 l.length (fun _=>1) (dr l):=by
 unfold dr;refine cU (fun h=>cT ?_) fun _=>jJ
 have:=dO (l:=l) (fun e=>by rw[e] at h;cases h);omega
theorem NQ (l:List Tk):SZ 1 l.length (fun _=>1) (jX l):=by
 unfold jX;refine cU (fun h=>cT ?_) fun _=>cU (fun h=>cT ?_) fun _=>b7 (wR l) fun x r h=>cT h
 ·have:=dO (bI h);omega
 ·have:=dO (bI h);omega
theorem NL:∀(f:Nat) (t:Ty) (l:List Tk),SZ 1 l.length (fun _=>0) (mr f t l)
 |0,t,l=>cT (by omega)
 |f+1,t,l=>by
  rw[mr];refine cU (fun h=>gU fun h1=>jl (NL f _ _) ?_) fun _=>cT (by omega)
  have:=dO (bI h);have:=cF l.tail;have:=this.length_le;omega
theorem N8:∀(f:Nat) (t:Ty) (l:List Tk),SZ 1 l.length (fun _=>0) (lf f t l)
 |0,t,l=>cT (by omega)
 |f+1,t,l=>by
  rw[lf];refine cU (fun h=>gU fun h1=>jl (N8 f _ _) ?_) fun _=>cT (by omega)
  have:=dO (bI h);have:=cF l.tail;have:=this.length_le;omega
theorem wM (l:List Tk):SZ 1 l.length (fun _=>1) (fN l):=by
 unfold fN;refine b7 (NQ l) fun t r h=> ?_
 intro x q e;have:=NL _ _ _ x q e;dsimp only at this h ⊢;omega
theorem KT:∀(a b:List Ex),fF (a++b)=fF a+fF b
 |[],b=>by simp [fF]
 |e::r,b=>by simp only[jD,fF,KT r b];omega
structure EZ (f:Nat):Prop where
 expr:∀n l,SZ 1 l.length eG (eQ f n l)
 loop:∀n e l,SZ 1 (eG e+l.length) eG (kY f n e l)
 unary:∀l,SZ 1 l.length eG (mb f l)
 post:∀e l,SZ 1 (eG e+l.length) eG (lB f e l)
 args:∀l,SZ 1 l.length (fun es=>fF es+1) (kI f l)
 more:∀acc l,SZ 1 (fF acc+l.length) fF (o7 f acc l)
 paren:∀l,SZ 1 l.length (fun e=>eG e+1) (iT f l)
 operand:∀l,SZ 1 l.length eG (qG f l)
 key:∀l,SZ 1 l.length eG (rl f l)
theorem HG:∀f,EZ f
 |0=>⟨fun n l=>by rw[eQ];exact jJ,fun n e l=>by rw[kY];exact jJ,fun l=>by rw[mb];exact jJ,fun e l=>by rw[lB];exact jJ,fun l=>by rw[kI];exact jJ,fun a l=>by rw[o7];exact jJ,fun l=>by rw[iT];exact jJ,fun l=>by rw[qG];exact jJ,fun l=>by rw[rl];exact jJ⟩
 |f+1=>by
  have ih:=HG f;refine⟨fun n l=> ?_,fun n e l=> ?_,fun l=> ?_,fun e l=> ?_,fun l=> ?_,fun acc l=> ?_,fun l=> ?_,fun l=> ?_,fun l=> ?_⟩
  ·rw[eQ];exact cU (fun _=>ih.unary l) fun _=>b7 (ih.expr (n+1) l) fun e r h=>jl (ih.loop n e r) (by omega)
  ·rw[kY];refine cU (fun h=> ?_) fun _=>cU (fun h=> ?_) fun _=>cU (fun h=> ?_) fun _=>cT (by omega)
   ·have h1:=dO (l:=l) (fun e=>by rw[e,iF] at h;cases h);refine b7 (ih.expr (n+1) l.tail) fun x r h2=>jl (ih.loop n _ r) ?_
    simp only[eG,fF];omega
   ·have h1:=dO (bI h.2);refine b7 (wM l.tail) fun t r h2=>jl (ih.loop n _ r) ?_
    simp only[eG,fF];omega
   ·have h1:=dO (bI h.2);refine b7 (wM l.tail) fun t r h2=>jl (ih.loop n _ r) ?_
    simp only[eG,fF];omega
  ·rw[mb];refine cU (fun h=> ?_) fun _=>cU (fun h=> ?_) fun _=>b7 (ih.operand l) fun e r h=>jl (ih.post e r) (by omega)
   ·have h1:=dO (bI h);exact b7 (ih.unary l.tail) fun x r h2=>cT (by simp only[eG,fF];omega)
   ·have h1:=dO (bI h);exact b7 (ih.unary l.tail) fun x r h2=>cT (by simp only[eG,fF];omega)
  ·rw[lB];refine cU (fun h=> ?_) fun _=>cU (fun h=> ?_) fun _=>cT (by omega)
   ·have h1:=dO (bI h);refine b7 (so l.tail) fun s r h2=>cU (fun _=> ?_) fun _=> ?_
    ·refine b7 (ih.args r) fun es r2 h3=>jl (ih.post _ r2) ?_
     simp only[eG,fF];omega
    ·refine jl (ih.post _ r) ?_;simp only[eG,fF];omega
   ·have h1:=dO (bI h);refine b7 (ih.expr 0 l.tail) fun i r h2=>gU fun h3=>jl (ih.post _ _) ?_
    simp only[eG,fF];omega
  ·rw[kI];refine gU fun h1=>cU (fun h=>cT ?_) fun _=>b7 (ih.expr 0 l.tail) fun e r h2=> ?_
   ·have h2:=dO (bI h);simp only[fF];omega
   ·intro x q e2;have:=ih.more [e] r x q e2;simp only[fF] at this ⊢;omega
  ·rw[o7];refine cU (fun h=> ?_) fun _=>gU fun h1=>cT (by omega)
   have h1:=dO (bI h);refine b7 (ih.expr 0 l.tail) fun e r h2=>jl (ih.more _ r) ?_
   simp only[KT,fF];omega
  ·rw[iT];exact gU fun h1=>b7 (ih.expr 0 l.tail) fun e r h2=>gU fun h3=>cT (by omega)
  ·rw[qG];refine cU (fun h=> ?_) fun _=>cU (fun h=> ?_) fun _=>cU (fun h=> ?_) fun _=>cU (fun h=> ?_) fun _=>cU (fun h=> ?_) fun _=>cU (fun h=> ?_) fun _=>ih.key l
   ·have h1:=dO (tH h (by decide));exact cT (by simp only[eG,fF];omega)
   ·have h1:=dO (tH h (by decide));exact cT (by simp only[eG,fF];omega)
   ·have h1:=dO (tH h (by decide));exact cT (by simp only[eG,fF];omega)
   ·exact b7 (so l) fun s r h2=>cT (by simp only[eG,fF];omega)
   ·refine b7 (wR l) fun c r h2=>gU fun h3=>b7 (so r.tail) fun s r3 h4=>cU (fun _=> ?_) fun _=>cT (by simp only[eG,fF];omega)
    exact b7 (ih.args r3) fun es r4 h5=>cT (by simp only[eG];omega)
   ·intro x q e2;have:=ih.paren l x q e2;dsimp only at this;omega
  ·rw[rl];refine cU (fun h=> ?_) fun _=>cU (fun h=> ?_) fun _=>cU (fun h=> ?_) fun _=>cU (fun h=> ?_) fun _=>cU (fun h=> ?_) fun _=>cU (fun h=> ?_) fun _=>cU (fun h=> ?_) fun _=>jJ
   ·have h1:=dO (bI h);exact cT (by simp only[eG,fF];omega)
   ·have h1:=dO (bI h);exact cT (by simp only[eG,fF];omega)
   ·have h1:=dO (bI h);exact gU fun h2=>b7 (so _) fun s r2 h3=>b7 (ih.args r2) fun es r3 h4=>cT (by simp only[eG];omega)
   ·have h1:=dO (bI h);refine b7 (NQ _) fun t r h2=>cU (fun _=>b7 (ih.args r) fun es r2 h3=>cT (by simp only[eG];omega)) fun _=> ?_
    refine gU fun h3=>b7 (N8 _ t _) fun t2 r3 h4=>b7 (ih.expr 0 r3) fun e r4 h5=>gU fun h6=>cT (by simp only[eG,fF];omega)
   ·have h1:=dO (bI h);exact b7 (ih.paren _) fun e r h2=>cT (by simp only[eG,fF];omega)
   ·have h1:=dO (bI h);exact b7 (ih.paren _) fun e r h2=>cT (by simp only[eG,fF];omega)
   ·have h1:=dO (bI h);exact b7 (ih.paren _) fun e r h2=>cT (by simp only[eG,fF];omega)
theorem Hz {α:Type} {c b:Nat} {g:α->Nat} {h:Nat->PR α} {K:PR α} (hl:dE h K) (hs:∀f,SZ c b g (h f)):SZ c b g K:=by
 obtain⟨F,hF⟩:=hl;rw[<- hF F (aq _)];exact hs F
theorem VR (l:List Tk):SZ 1 l.length eG (cj 0 l):=Hz (tM (by decide) l) fun f=>(HG f).expr 0 l
theorem CP:∀(a b:List St),ek (a++b)=ek a+ek b
 |[],b=>by simp [ek]
 |e::r,b=>by simp only[jD,ek,CP r b];omega
theorem oR:eG zE=1:=rfl
structure TZ (f:Nat):Prop where
 block:∀l,SZ 3 (3 * l.length) (fun b=>ek b+6) (gW f l)
 stmts:∀acc l,SZ 3 (ek acc+3 * l.length) (fun b=>ek b+3) (oV f acc l)
 stmt:∀l,SZ 3 (3 * l.length) ju (o4 f l)
theorem AL:∀f,TZ f
 |0=>⟨fun l=>by rw[gW];exact jJ,fun a l=>by rw[oV];exact jJ,fun l=>by rw[o4];exact jJ⟩
 |f+1=>by
  have ih:=AL f;have ez:=HG f;refine⟨fun l=> ?_,fun acc l=> ?_,fun l=> ?_⟩
  ·rw[gW];refine gU fun h1=> ?_
   intro x q e;have:=ih.stmts [] l.tail x q e;simp only[ek] at this ⊢;omega
  ·rw[oV];refine cU (fun h=>cT ?_) fun _=>b7 (ih.stmt l) fun x r h=>jl (ih.stmts _ r) ?_
   ·have:=dO (bI h);omega
   ·simp only[CP,ek];omega
  ·have pb:∀(l2:List Tk) (b:Nat) (k:Ex->List St->List Tk->PR St),(∀e bd r,eG e+ek bd+7+3 * r.length<=3 * l2.length->SZ 3 b ju (k e bd r))->SZ 3 b ju (av (iT f l2) fun e r=>av (gW f r) fun bd r2=>k e bd r2):=fun l2 b k hk=>
    b7 (ez.paren l2) fun e r h=>b7 (ih.block r) fun bd r2 h2=>hk e bd r2 (by first |omega |(dsimp only at h2;omega))
   rw[o4];refine cU (fun h=> ?_) fun _=>cU (fun h=> ?_) fun _=>cU (fun h=> ?_) fun _=>cU (fun h=> ?_) fun _=>cU (fun h=> ?_) fun _=>cU (fun h=> ?_) fun _=>
    cU (fun h=> ?_) fun _=>cU (fun h=> ?_) fun _=>cU (fun h=> ?_) fun _=> ?_
   ·have h1:=dO (bI h);refine pb _ _ _ fun e bd r h2=>cU (fun h3=>b7 (ih.block r.tail) fun a r3 h4=>cT ?_) fun _=>cT ?_
    ·have h5:=dO (bI h3);simp only[ju,oR] at h4 ⊢;omega
    ·simp only[ju,oR,ek];omega
   ·have h1:=dO (bI h);exact pb _ _ _ fun e bd r h2=>cT (by simp only[ju,oR,ek];omega)
   ·have h1:=dO (bI h);refine cU (fun h2=>cT ?_) fun _=>b7 (ez.expr 0 l.tail) fun e r h2=>gU fun h3=>cT ?_
    ·have h3:=dO (bI h2);simp only[ju,oR,ek];omega
    ·simp only[ju,oR,ek];omega
   ·have h1:=dO (bI h);exact b7 (ez.expr 0 l.tail) fun e r h2=>gU fun h3=>cT (by simp only[ju,oR,ek];omega)
   ·have h1:=dO (bI h);refine b7 (ih.block l.tail) fun b r h2=>gU fun h3=>gU fun h4=>b7 (wM _) fun t r4 h5=>b7 (so r4) fun s r5 h6=>gU fun h7=>b7 (ih.block _) fun a r7 h8=>cT ?_
    simp only[ju,oR] at h2 h8 ⊢;omega
   ·have h1:=dO (bI h);exact pb _ _ _ fun e bd r h2=>cT (by simp only[ju,oR,ek];omega)
   ·exact b7 (ih.block l) fun b r h2=>cT (by simp only[ju,oR,ek] at h2 ⊢;omega)
   ·have h1:=dO (bI h.1);exact b7 (ez.args l.tail) fun es r h2=>gU fun h3=>cT (by simp only[ju,oR,ek,eG] at h2 ⊢;omega)
   ·exact b7 (wM l) fun t r h2=>b7 (so r) fun s r2 h3=>gU fun h4=>b7 (ez.expr 0 _) fun e r4 h5=>gU fun h6=>cT (by simp only[ju,oR,ek];omega)
   ·refine b7 (ez.expr 0 l) fun e r h2=>cU (fun h3=> ?_) fun _=>gU fun h4=>cT (by simp only[ju,oR,ek];omega)
    have h4:=dO (bI h3);exact b7 (ez.expr 0 r.tail) fun x r2 h5=>gU fun h6=>cT (by simp only[ju,oR,ek];omega)
theorem L6:∀(f:Nat) (acc:List Pc) (l:List Tk),SZ 1 (acc.length+l.length) List.length (pU f acc l)
 |0,acc,l=>by rw[pU];exact jJ
 |f+1,acc,l=>by
  rw[pU];refine cU (fun h=> ?_) fun _=>gU fun h1=>cT (by omega)
  have h1:=dO (bI h);refine b7 (wM l.tail) fun t r h2=>b7 (so r) fun s r2 h3=>jl (L6 f _ r2) ?_
  rw[bM,fr];omega
theorem K7 (f:Nat) (l:List Tk):SZ 1 l.length (fun ps=>List.length ps) (uU f l):=by
 unfold uU;refine gU fun h1=>cU (fun h=>cT ?_) fun _=>b7 (wM _) fun t r h2=>b7 (so r) fun s r3 h3=>jl (L6 f _ r3) ?_
 ·have:=dO (bI h);simp only[eM];omega
 ·simp only[cv,eM];omega
theorem Hc (d:Cd) (x:Md):fG (d.addM x)=fG d+sn x:=by simp only[fG,Cd.addM,List.map_append,List.sum_append,br,List.map_nil,List.sum_cons,List.sum_nil];omega
theorem WG (d:Cd) (x:Fc):fG (d.addF x)=fG d+1:=by simp only[fG,Cd.addF,bM,fr];omega
theorem WE (d:Cd) (x:List St):fG (d.addI x)=fG d+ek x:=by simp only[fG,Cd.addI,CP];omega
theorem M4 (f:Nat) (d:Cd) (fl:Int) (t:Ty) (s:List UInt8) (l:List Tk):SZ 3 (fG d+3 * l.length) fG (vi f d fl t s l):=by
 unfold vi;refine b7 (K7 f l) fun ps r h1=>cU (fun h=>cT ?_) fun _=>b7 ((AL f).block r) fun b r2 h2=>cT ?_
 ·have:=dO (bI h);simp only[Hc,sn,ek];omega
 ·simp only[Hc,sn];omega
theorem TQ (f:Nat) (d:Cd) (fl:Int) (l:List Tk):SZ 3 (fG d+3 * l.length) fG (uV f d fl l):=by
 unfold uV;refine cU (fun h=> ?_) fun _=>cU (fun h=> ?_) fun _=>cU (fun h=> ?_) fun _=> ?_
 ·exact b7 ((AL f).block l) fun b r h1=>cT (by simp only[WE];omega)
 ·have h1:=dO (bI h);exact b7 (K7 f l.tail) fun ps r h2=>b7 ((AL f).block r) fun b r2 h3=>cT (by simp only[Hc,sn];omega)
 ·have h1:=dO (bI h);exact b7 (so l.tail) fun s r h2=>jl (M4 f d fl eT s r) (by omega)
 ·refine b7 (wM l) fun t r h1=>b7 (so r) fun s r2 h2=>cU (fun h=>cT ?_) fun _=>jl (M4 f d fl t s r2) (by omega)
  have:=dO (bI h);simp only[WG];omega
theorem Nl:∀(f:Nat) (d:Cd) (l:List Tk),SZ 3 (fG d+3 * l.length) fG (o8 f d l)
 |0,d,l=>by rw[o8];exact jJ
 |f+1,d,l=>by
  rw[o8];refine cU (fun h=>cT ?_) fun _=>b7 (TQ f d _ _) fun e r h=>jl (Nl f e r) ?_
  ·have:=dO (bI h);omega
  ·have:=(tm bH 0 l).length_le;omega
theorem MN:∀(f:Nat) (acc:List (List UInt8)) (l:List Tk),SZ 1 (acc.length+l.length) List.length (oZ f acc l)
 |0,acc,l=>by rw[oZ];exact jJ
 |f+1,acc,l=>by
  rw[oZ];refine cU (fun h=> ?_) fun _=>cT (by omega)
  have h1:=dO (bI h);refine b7 (wR l.tail) fun s r h2=>jl (MN f _ r) ?_
  rw[bM,fr];omega
theorem On (f:Nat) (w:List UInt8) (l:List Tk):SZ 1 l.length List.length (vA f w l):=by
 unfold vA;refine cU (fun h=> ?_) fun _=>cT (by simp)
 have h1:=dO (bI h);refine b7 (wR l.tail) fun s r h2=>jl (MN f _ r) ?_
 simp only[cv,eM];omega
theorem Xh (f:Nat) (l:List Tk):SZ 3 (3 * l.length) fG (wW f l):=by
 have hs1:=(tm fR 0 l).length_le;have uB:=(tm iN (bg fR 0 l).1 (bg fR 0 l).2).length_le;unfold wW;refine cU (fun h=> ?_) fun _=> ?_
 ·have h1:=dO (bI h);refine b7 (wR _) fun n r h2=>b7 (On f gZ r) fun is r2 h3=>gU fun h4=>cT ?_
  simp only[fG,ek,eM,List.map_nil,List.sum_nil];omega
 ·refine gU fun h1=>b7 (wR _) fun n r2 h2=>gU fun h3=>b7 (wR _) fun sp r4 h4=>b7 (On f lM r4) fun is r5 h5=>gU fun h6=>cT ?_
  simp only[fG,ek,eM,List.map_nil,List.sum_nil];omega
theorem aaG (f:Nat) (l:List Tk):SZ 3 (3 * l.length) fG (Cx f l):=b7 (Xh f l) fun d r h=>jl (Nl f d r) (by omega)
theorem Na:∀(f:Nat) (acc:List Cd) (l:List Tk),SZ 3 ((acc.map fG).sum+3 * l.length) (fun p=>(List.map fG p).sum) (p8 f acc l)
 |0,acc,l=>by rw[p8];exact jJ
 |f+1,acc,l=>by
  rw[p8];refine cU (fun h=>cT ?_) fun _=>b7 (aaG f l) fun d r h=>jl (Na f _ r) ?_
  ·rw[eM];omega
  ·rw[List.map_append,List.sum_append,br,List.map_nil,List.sum_cons,List.sum_nil];omega
theorem L5 (l:List Tk):SZ 3 (3 * l.length) (fun p=>(List.map fG p).sum) (lA [] l):=jl (Hz (O1 [] l) fun f=>Na f [] l) (by simp)
/-! A sequence of statements, to the end of the text. -/
def qe:Nat->List St->List Tk->PR (List St)
 |0,_,l=> .error l
 |f+1,acc,l=>if l=[] then .ok (acc,[]) else av (o4 f l) fun s r=>qe f (acc++[s]) r
theorem WH:∀(N:Nat) (acc:List St) (l:List Tk),l.length<=N->Tot false (fun f=>qe f acc l) l:=fun N=>by
 induction N with
 |zero=>
  intro acc l hl;have:l=[]:=List.eq_nil_of_length_eq_zero (by omega);subst this;refine jS (h:=fun _=> .ok (acc,[])) (fun f=>by rw[qe,aj rfl]) jE
 |succ N ih=>
  intro acc l hl;by_cases h:l=[]
  ·subst h;exact jS (h:=fun _=> .ok (acc,[])) (fun f=>by rw[qe,aj rfl]) jE
  ·refine jS (h:=fun f=>av (o4 f l) fun s r=>qe f (acc++[s]) r) (fun f=>by rw[qe,ae h]) ?_;exact lx false (bZ (b:=false) (pQ l).stmt fun s r h1 h2=>ih _ r (by have:=h2 rfl;omega)) fun h=>by cases h
noncomputable def pq (acc:List St) (l:List Tk):PR (List St):=jx fun f=>qe f acc l
theorem Pv (acc:List St) (l:List Tk):dE (fun f=>qe f acc l) (pq acc l):=(WH _ acc l (aq _)).lim
theorem MZ (acc:List St) (l:List Tk):pq acc l=(if l=[] then .ok (acc,[]) else av (pY l) fun s r=>pq (acc++[s]) r):=
 jk (kB (fun f=>by rw[qe]) (dp (bG _) (bV (OZ l) fun s r=>Pv _ r)))
theorem N2:∀(f:Nat) (acc:List St) (l:List Tk),SZ 3 (ek acc+3 * l.length) ek (qe f acc l)
 |0,acc,l=>by rw[qe];exact jJ
 |f+1,acc,l=>by
  rw[qe];refine cU (fun h=>cT ?_) fun _=>b7 ((AL f).stmt l) fun d r h=>jl (N2 f _ r) ?_
  ·rw[eM];omega
  ·simp only[CP,ek];omega
theorem WI (l:List Tk):SZ 3 (3 * l.length) ek (pq [] l):=jl (Hz (Pv [] l) fun f=>N2 f [] l) (by simp [ek])
noncomputable def pt (l:List Tk):PR Ex:=av (cj 0 l) fun e r=>if r=[] then .ok (e,[]) else .error r
/-! Depths against sizes. -/
mutual
theorem Lv:∀(s:St),fh s<=ju s/\pj s<=ju s
 | .mk k nm ty tg ex body alt=>by
  have h1:=Ac body;have h2:=Ac alt;have h3:=yo tg;have h4:=yo ex;have h5:wY ex<=bL ex:=by cases ex;simp [wY,bL]
  simp only[fh,pj,ju];constructor
  ·omega
  ·split<;>omega
theorem Ac:∀(l:List St),df l<=ek l/\dP l<=ek l
 |[]=>by simp [df,dP]
 |e::r=>by
  have h1:=Lv e;have h2:=Ac r;simp only[df,dP,ek];omega
end
theorem Mq:∀(l:List Md),j0 l<=(l.map sn).sum/\j1 l<=(l.map sn).sum
 |[]=>by simp [j0,j1]
 |e::r=>by
  have h1:=Ac e.body;have h2:=Mq r;simp only[j0,j1,br,List.sum_cons,sn];omega
theorem Wa {d:Cd} (h:fG d<=1048576):CdB d:=by
 have h1:=Ac d.init;have h2:=Mq d.methods;simp only[fG] at h;exact⟨by simp only[aA];omega,by simp only[aA];omega,by simp only[aA];omega,by simp only[aA];omega⟩
theorem DF {α:Type} {f:α->Nat}:∀{l:List α},∀x∈l,f x<=(l.map f).sum
 |[],x,hx=>by cases hx
 |y::r,x,hx=>by
  simp only[br,List.sum_cons];rcases List.mem_cons.1 hx with rfl |hx
  ·omega
  ·have:=DF (f:=f) x hx;omega
theorem L4 {l:List Cd} (h:(l.map fG).sum<=1048576):∀d∈l,CdB d:=fun d hd=>Wa (cR (DF (f:=fG) d hd) h)
theorem ady:nE Tryz.prog 59=136:=by kernel_rfl
@[reducible] def IL (en:Int) (s:PSt):Bx:=⟨1,62,[.vec 0 0,.v (.int .i64 s.i),.v (.int .i64 en),.v (.bool s.fl),.v (.int .i64 s.off)]⟩
@[reducible] def Eo (ts:List Tk):Vc:=⟨0,0,50,4,ts.length,cG ts⟩
attribute [go_sem] ady IL Eo
noncomputable def lX (t:List UInt8):List Cd×Int×Int:=
 if(aP t).2.2=0 then(match lA [] (aP t).1 with
  | .error r=>([],pw t.length r,71)
  | .ok x=>if(gg [] x.1).2=0 then(x.1,0,0) else([],0,(gg [] x.1).2))
 else([],(aP t).2.1,(aP t).2.2)
abbrev PU (x:List Cd×Int×Int) (m:Mem):SV->Hp->Mem->Prop:=fun r H' m' =>an m m' /\∃(a:Option Addr) (n c:Nat),r= .tup [.v (.slice a n c),.v (.int .i64 x.2.1),.v (.int .i64 x.2.2)]/\qW m' x.1 a n c/\H' =⟨[],[]⟩
theorem GlobX.upM {m m' :Mem} (h:GlobX m) (hm:an m m'):GlobX m' :=by
 rcases hm with rfl |hm
 ·exact h
 ·exact h.up hm
theorem wH {R' :SV->Hp->Mem->Prop} {bx:List Bx} {vc:List Vc} {m' :Mem} {k u:Nat} {x y:Value} {b:Vc} (hb:cN vc k u=some b)
  (h:∀(a:Option Addr) (c:Nat) (m1:Mem),m'.le m1->b.n<=c->aK m1 a b.n b.sz b.xs->R' (.tup [.v (.slice a b.n c),.v x,.v y]) ⟨[],[]⟩ m1):zB R' (.tup [.vec k u,.v x,.v y]) ⟨bx,vc⟩ m' :=
 .inr ⟨fun z=> .tup [z,.v x,.v y],k,u,b,⟨[],[]⟩,hb,rfl,fun V v e=>by subst e;rfl,List.nil_sublist _,List.nil_sublist _,h⟩
theorem yv (m:Mem):qW m [] none 0 0:=⟨rfl,aq _,au _,[],cX m 7,trivial⟩
theorem Pj (l:List Tk):∀x r,wo l= .ok (x,r)->r.length<l.length:=fun x r h=>by
 have g:=(OI l).good;rw[jk (Qa l)] at g;exact(g.ok x r h).2 rfl
theorem MO {m:Mem} {x:Cc} {d:Cd} (h:jW m d x.cs):mZ (jW m) 7 [d] x.cs:=⟨h,trivial⟩
theorem K3 (t:List UInt8) (m:Mem) (hg:GlobX m) (ht:t.length<=4611686018427387904):FnH Tryz.prog 10 [.v (.string (bs t))] ⟨[],[]⟩ m (PU (lX t) m):=by
 have hk:=fun m' (h:an m m')=>Ft t m' (by rcases h with rfl |h;exact hg;exact hg.up h) ht
 have hT:=DE t;by_cases h0:(aP t).2.2=0
 ·have h1:=Hj ht (hk m (.inl rfl)) h0
  have e0:lX t=(match lA [] (aP t).1 with
   | .error r=>([],pw t.length r,71)
   | .ok x=>if(gg [] x.1).2=0 then(x.1,0,0) else([],0,(gg [] x.1).2)):=aj h0
  refine iA (aL ay Tryz.func10 ?_)
  ·simp only[go_sem];refine ab (h1.mono ?_);clear h1;rintro r H' m1 aN ⟨l1,rfl,rfl⟩;simp only[go_sem];refine⟨fun h=>absurd trivial h,?_⟩;refine pO 8 59 7 (by decide) rfl ?_;refine cO ay (fun y:PSt×List Cd×List Value×Nat×Mem=>⟨[⟨5,[],.box 1 0⟩,⟨8,[],.vec 2 y.2.2.2.1⟩],[],[IL t.length y.1],[⟨2,y.2.2.2.1,59,7,y.2.1.length,y.2.2.1⟩,Eo (aP t).1],40,y.2.2.2.2⟩)
    (fun y=>an m1 y.2.2.2.2/\Inv (aP t).1 y.1/\y.2.1.length<=y.1.i+(if y.1.fl=true then 1 else 0)/\y.2.2.1.length=y.2.1.length * 7/\mZ (jW y.2.2.2.2) 7 y.2.1 y.2.2.1/\∀a s',Res (aP t).1 t.length y.1 (lA y.2.1 ((aP t).1.drop y.1.i)) a s' ->Res (aP t).1 t.length ⟨0,false,0⟩ (lA [] (aP t).1) a s')
    (fun y=>if y.1.fl=true then 0 else(aP t).1.length - y.1.i+1) (⟨0,false,0⟩,[],[],0,m1) (fun _ _=>dL rfl) (fun y hy=>hy.1) ?_ ?_ ?_
   ·simp only[go_sem];exact rfl
   ·exact⟨.inl rfl,⟨au _,fun h=>(by cases h)⟩,au _,rfl,trivial,fun a s' h=>h⟩
   ·rintro⟨s4,ds,xs,u,m4⟩ ⟨q1,q2,q3,q4,q5,q6⟩;dsimp only at q1 q2 q3 q4 q5 q6;have hl:=hT.len;have dM:=q2.le;have hm:=Gn (en:=t.length) (s:=s4) hT m4;by_cases hi:s4.i<(aP t).1.length
    ·have hf:=q2.nfl hi;rw[bX hi] at hm;have hb:=fun m' =>T5 (en:=t.length) hT q2 m'
     rw[ae (by rw[hf];decide)] at q3;simp only[go_sem];refine ab (hm.mono ?_);clear hm;rintro r H' m5 cW ⟨rfl,rfl,rfl⟩;simp only[go_sem];refine ab ((hb m5).mono ?_);clear hb;rintro r H' m6 fb ⟨l6,x6,d6,s6,rfl,hd6,rfl,hR6⟩;have sL:=hR6.mono;have fI:=lW hR6 hf (Pj _);have xT:=hR6.inv.le;simp only[go_sem];refine⟨fK (by omega) (by decide),(s6,ds++[d6],xs++x6.cs,u+1,m6),⟨rfl,⟨rfl,rfl,rfl⟩,⟨rfl,by simp,rfl⟩,.inl rfl⟩,⟨aa q1 l6,hR6.inv,?_,by simp only[bM,fr,q4,Cc.cs,cv,eM];omega,DY (l2:=[d6]) (MO hd6) q4 (ra (fun _ _=>nM l6) q5),fun a s' h=>q6 a s' ?_⟩,?_⟩
     ·dsimp only;rw[bM,fr];rcases fI with h |h
      ·rw[aj h];omega
      ·omega
     ·rw[Aw,ae (fun h=>by have:=congrArg List.length h;rw[cH] at this;simp at this;omega)];exact aR hR6 h
     ·dsimp only;rw[ae (by rw[hf];decide:¬s4.fl=true)];rcases fI with h |h
      ·rw[aj h];omega
      ·split<;>omega
    ·rw[bo hi] at hm;have lP:(aP t).1.drop s4.i=[]:=List.drop_eq_nil_of_le (by omega);have b9:Res (aP t).1 t.length ⟨0,false,0⟩ (lA [] (aP t).1) ds s4:=by
      refine q6 _ _ ?_;by_cases hf:s4.fl=true
      ·exact AP ds q2 hf
      ·rw[Aw,aj lP,<- lP];exact bY _ q2
     simp only[go_sem];refine ab (hm.mono ?_);clear hm;rintro r H' m5 cW ⟨rfl,rfl,rfl⟩;simp only[go_sem];refine⟨fun hf=> ?_,fun hf=> ?_⟩
     ·refine cg (.hoist 0 (.hoist 1 (.hoist 2 (.hoist 3 (.hoist 4 (.hoist 5 (.hoist 6 .done))))))) ay (by kernel_rfl) (by kernel_rfl) ?_;simp only[go_sem];have e:lX t=([],s4.off,71):=by
       cases hK:lA [] (aP t).1 with
       |ok p=>
        obtain⟨x,r⟩:=p;have:=(b9.ok rfl x r hK).2.1;rw[hf] at this;cases this
       |error r=>
        rw[e0,hK,(b9.er rfl r hK).2]
      rw[e];exact .inl ⟨aa l1 q1,none,0,0,rfl,yv _,rfl⟩
     ·refine⟨by kernel_rfl,fun a c m6 w1 w2 w3=>dh ?_⟩;have hK:lA [] (aP t).1= .ok (ds,[]):=by
       cases hK:lA [] (aP t).1 with
       |error r=>
        have:=(b9.er rfl r hK).1;rw[hf] at this;cases this
       |ok p=>
        obtain⟨x,r⟩:=p;obtain⟨k1,k2,k3⟩:=b9.ok rfl x r hK;rw[k1,k3,lP]
      have j9:(ds.map fG).sum<=1048576:=by
       have:=L5 (aP t).1 ds [] hK;have:=uS t;dsimp only at *;omega
      rw[hK] at e0;have bh:qW m6 ds a ds.length c:=⟨rfl,w2,by unfold aA;have:=uS t;have hb:(if s4.fl=true then 1 else 0)<=1:=(by split<;>decide);omega,xs,w3,ra (fun _ _=>nM (.inr w1)) q5⟩;have hc:=KJ ds a ds.length c m6 (hg.upM (aa l1 (aa q1 (.inr w1)))).1 (L4 j9) bh;refine hc.mono ?_;clear hc;rintro r H' m7 gM ⟨l7,rfl,rfl⟩;simp only[go_sem];have sN:ds.length<=aA:=bh.2.2.1;refine⟨fun aV=> ?_,fun aV=> ?_⟩
      ·have e:lX t=([],0,(gg [] ds).2):=by rw[e0];exact ae aV
       rw[e];exact .inl ⟨aa l1 (aa q1 (aa (.inr w1) l7)),none,0,0,rfl,yv _,rfl⟩
      ·have e:lX t=(ds,0,0):=by rw[e0];exact aj aV
       rw[e];exact wH (b:=⟨2,u,59,7,ds.length,xs⟩) (by simp [cN]) fun a8 c8 m8 x1 x2 x3=>⟨aa l1 (aa q1 (aa (.inr w1) (aa l7 (.inr x1)))),a8,ds.length,c8,rfl,⟨rfl,x2,sN,xs,x3,ra (fun _ _=>nM (aa (.inr w1) (aa l7 (.inr x1)))) q5⟩,rfl⟩
 ·have h1:=Hk ht (hk m (.inl rfl)) h0;have e0:lX t=([],(aP t).2.1,(aP t).2.2):=ae h0;rw[e0];refine aL ay Tryz.func10 ?_
  ·simp only[go_sem];refine ab (h1.mono ?_);clear h1;rintro r H' m1 aN ⟨l1,rfl,rfl⟩;simp only[go_sem];refine⟨fun _=>⟨l1,none,0,0,rfl,yv m1,rfl⟩,fun h=>absurd h h0⟩
section
variable {ts:List Tk}
theorem Tr (hT:TsR ts) {i:Nat} (hi:i<=ts.length) (hE:∀j,i<j->j<=ts.length->sQ ts 0 j):lV 168 ts gf i:=fun a c m hr=>by
 rw[Gj];have hl:=hT.few;have ck:i<=100000:=by omega
 cases h1:ah ts i [40] with
 |false=>
  refine enter (cd ts) (bu hT) Tryz.func168 rfl rfl (by kernel_rfl) rfl ?_ ?_
  ·simp only[go_sem]
  ·simp only[go_sem,hr,h1];exact iL (.inl rfl) xw i hi (gJ h1)
 |true=>
  have ao:=aJ h1;have hb:FnH Tryz.prog 35 [.v (.slice a ts.length c),.v (.int .i64 ((i:Int)+1)),.v (.int .i64 1)] ⟨[],[]⟩ m (iK ts (cj 0 (ts.drop (i+1))) m):=hE (i+1) (by omega) ao a c m hr;rw[gI h1];refine enter (cd ts) (bu hT) Tryz.func168 rfl rfl (by kernel_rfl) rfl ?_ ?_
  ·simp only[go_sem]
  ·simp only[go_sem,hr,h1,ck];refine ab (hb.mono ?_);clear hb hE;rintro r H' m1 aN ⟨l1,rfl,x1,k1,b1,rfl,aV,⟨rfl,e1,hK1,hx1⟩ |⟨rfl,hK1⟩⟩
   ·have aS:=aD l1 hr;have bq:k1<=100000:=by omega
    by_cases h2:ah ts k1 [41]=true
    ·skip
     simp only[go_sem,aS,h2,bq];exact lj l1 x1 (k1+1) (aJ h2) (by rw[bz hK1,gI h2]) hx1
    ·have h2:=bK h2;simp only[go_sem,aS,h2,bq];exact iL l1 x1 k1 aV (by rw[bz hK1,gJ h2])
   ·simp only[go_sem,false_and];exact iL l1 x1 k1 aV (cV hK1)
theorem U3 (hT:TsR ts) {i:Nat} (hi:i<=ts.length) (hE:∀j,i<j->j<=ts.length->sQ ts 0 j):Bj ts i:=fun a c m hr=>by
 rw[G8];have hl:=hT.few;have ck:i<=100000:=by omega
 cases h1:ah ts i [40] with
 |false=>
  refine enter (cd ts) (bu hT) Tryz.func93 rfl rfl (by kernel_rfl) rfl ?_ ?_
  ·simp only[go_sem]
  ·simp only[go_sem,hr,h1];exact⟨.inl rfl,rfl,none,0,0,i,false,rfl,hi,.inr ⟨rfl,gJ h1⟩⟩
 |true=>
  have ao:=aJ h1;rw[gI h1];cases h2:ah ts (i+1) [41] with
  |true=>
   refine enter (cd ts) (bu hT) Tryz.func93 rfl rfl (by kernel_rfl) rfl ?_ ?_
   ·simp only[go_sem]
   ·simp only[go_sem,hr,h1,h2,ck];exact⟨.inl rfl,rfl,none,0,0,i+2,true,rfl,aJ h2,.inl ⟨rfl,[],[],by rw[eI h2,List.tail_drop],rfl,aq _,au _,cX _ _,by simp only[ea]⟩⟩
  |false=>
   rw[aT h2];refine iA (enter (cd ts) (bu hT) Tryz.func93 rfl rfl (by kernel_rfl) rfl ?_ ?_)
   ·simp only[go_sem]
   ·simp only[go_sem,hr,h1,h2,ck];refine pO 7 33 8 (by decide) rfl ?_;refine cO (bu hT) (fun y:Nat×List Ex×List Value×Nat×Mem=>⟨[⟨0,[],.v (.slice a ts.length c)⟩,⟨1,[],.v (.int .i64 y.1)⟩,⟨7,[],.vec 0 y.2.2.2.1⟩],[],[],[⟨0,y.2.2.2.1,33,8,y.2.1.length,y.2.2.1⟩],40,y.2.2.2.2⟩)
     (fun y=>an m y.2.2.2.2/\y.1<=ts.length/\i<y.1/\y.2.1.length<=y.1/\y.2.2.1.length=y.2.1.length * 8/\ea y.2.2.2.2 y.2.1 y.2.2.1/\(av (cj 0 (ts.drop (i+1))) fun e r2=>wV [e] r2)=av (cj 0 (ts.drop y.1)) fun e r2=>wV (y.2.1++[e]) r2)
     (fun y=>ts.length - y.1) (i+1,[],[],0,m) (fun _ _=>dL rfl) (fun y hy=>hy.1) ?_ ?_ ?_
    ·simp only[go_sem];exact rfl
    ·exact⟨.inl rfl,ao,Nat.lt_succ_self i,au _,rfl,by simp only[ea],rfl⟩
    ·rintro⟨k,es,xs,u,mm⟩ ⟨q1,q2,q2',q3,q4,q5,q6⟩;dsimp only at q1 q2 q2' q3 q4 q5 q6;rw[q6];have hb:FnH Tryz.prog 35 [.v (.slice a ts.length c),.v (.int .i64 (k:Int)),.v (.int .i64 1)] ⟨[],[]⟩ mm (iK ts (cj 0 (ts.drop k)) mm):=hE k q2' q2 a c mm (aD q1 hr);clear hE;simp only[go_sem];refine ab (hb.mono ?_);clear hb;rintro r H' m1 aN ⟨l1,rfl,x1,k1,b1,rfl,aV,⟨rfl,e1,hK1,hx1⟩ |⟨rfl,hK1⟩⟩
     ·have u1:=aa q1 l1;have aS:=aD u1 hr;have bq:k1<=100000:=by omega
      have ep:k<k1:=kX ((kH (ts.drop k)).expr 0 (by decide)).good hK1 aV;have ed:room (es.length+1) 104:=fK (by omega) (by decide);have j7:ea m1 (es++[e1]) (xs++x1.cs):=G2 hx1 q4 (uW l1 q5);by_cases h3:ah ts k1 [41]=true
      ·skip
       simp only[go_sem,aS,h3,bq,ed];refine wH (b:=⟨0,u+1,33,8,es.length+1,xs++x1.cs⟩) (by simp only[cN,if_true];rfl) fun a c m2 w1 w2 w3=>⟨aa u1 (.inr w1),rfl,a,es.length+1,c,k1+1,true,rfl,aJ h3,.inl ⟨rfl,es++[e1],_,?_,by simp,w2,by omega,w3,uW (.inr w1) j7⟩⟩
       rw[bz hK1,Ay,aT (be h3 (by decide)),gI h3]
      ·have h3:=bK h3;by_cases h4:ah ts k1 [44]=true
       ·have qi:=aJ h4;simp only[go_sem,aS,h3,h4,bq,ed];refine⟨(k1+1,es++[e1],xs++x1.cs,u+1,m1),⟨⟨rfl,rfl⟩,⟨rfl,by simp,rfl⟩,.inl rfl⟩,⟨u1,qi,by dsimp only;omega,by simp only[bM,fr];omega,by simp [q4,Nd.cs,Nat.add_mul],j7,?_⟩,by dsimp only;omega⟩;rw[bz hK1,Ay,eI h4,List.tail_drop]
       ·have h4:=bK h4;simp only[go_sem,aS,h3,h4,bq,ed];exact .inl ⟨u1,rfl,none,0,0,k1,false,rfl,aV,.inr ⟨rfl,by rw[bz hK1,Ay,aT h4,gJ h3]⟩⟩
     ·simp only[go_sem,false_and];exact .inl ⟨aa q1 l1,rfl,none,0,0,k1,false,rfl,aV,.inr ⟨rfl,cV hK1⟩⟩
end
theorem Ax {R' :SV->Hp->Mem->Prop} {bx:List Bx} {vc:List Vc} {m' :Mem} {cs:List SV} {k u:Nat} {x y:Value} {b:Vc} (i:Nat) (hi:cs[i]? =some (.vec k u)) (hb:cN vc k u=some b)
  (h:∀(a:Option Addr) (c:Nat) (m1:Mem),m'.le m1->b.n<=c->aK m1 a b.n b.sz b.xs->R' (.tup [.agg (cs.set i (.v (.slice a b.n c))),.v x,.v y]) ⟨[],[]⟩ m1):zB R' (.tup [.agg cs,.v x,.v y]) ⟨bx,vc⟩ m' :=by
 refine .inr ⟨fun z=> .tup [.agg (cs.set i z),.v x,.v y],k,u,b,⟨[],[]⟩,hb,?_,fun V v e=> ?_,List.nil_sublist _,List.nil_sublist _,h⟩
 ·obtain⟨hl,he⟩:=List.getElem?_eq_some_iff.1 hi;simp only[<- he,List.set_getElem_self]
 ·show Value.tuple ⟨[.agg ⟨(cs.set i (.vec k u)).map (bj V)⟩,x,y]⟩= .tuple ⟨[.agg ⟨(cs.set i (.v v)).map (bj V)⟩,x,y]⟩;rw[DG hi e]
noncomputable def wN (l:List Tk):PR Ex:=av (nI l) fun e r=>p9 e r
section
variable {ts:List Tk}
theorem Tn (hT:TsR ts) {i:Nat} (hi:i<=ts.length) (hP:lV 159 ts wN i) (hU:∀j,i<j->j<=ts.length->lV 67 ts nW j):lV 67 ts nW i:=fun a c m hr=>by
 have hl:=hT.few;have ck:i<=100000:=by omega
 by_cases hw:∃w,(w=[45]\/w=[33])/\ah ts i w=true
 ·obtain⟨w,hw,h1⟩:=hw;have ao:=aJ h1;have hsw:(aO ts i).s=w:=of_decide_eq_true (Bool.and_eq_true_iff.1 h1).2;have e0:nW (ts.drop i)=av (nW (ts.drop (i+1))) fun x r=> .ok (.mk 15 0 w [] ai [x],r):=by
   rw[Ad];rcases hw with rfl |rfl
   ·rw[eI h1,List.tail_drop]
   ·rw[aT (be h1 (by decide)),eI h1,List.tail_drop]
  have hg:((ah ts i [45]=false)/\(ah ts i [33]=false))=False:=eq_false fun h=>by
   rcases hw with rfl |rfl
   ·rw[h1] at h;exact absurd h.1 (by decide)
   ·rw[h1] at h;exact absurd h.2 (by decide)
  have s9:((ah ts i [45]=true)\/(ah ts i [33]=true))=True:=eq_true (by rcases hw with rfl |rfl;exact .inl h1;exact .inr h1);have hwl:w.length<=1000000:=by rcases hw with rfl |rfl<;>decide
  have hb:FnH Tryz.prog 67 [.v (.slice a ts.length c),.v (.int .i64 ((i:Int)+1))] ⟨[],[]⟩ m (iK ts (nW (ts.drop (i+1))) m):=hU (i+1) (by omega) ao a c m hr;rw[e0];clear hP hU hw;refine iA (enter (cd ts) (bu hT) Tryz.func67 rfl rfl (by kernel_rfl) rfl ?_ ?_)
  ·simp only[go_sem]
  ·simp only[go_sem,hr,ck,hg,s9];refine ab (hb.mono ?_);clear hb;rintro r H' m1 aN ⟨l1,rfl,x1,k1,b1,rfl,aV,hb⟩;have aS:=aD l1 hr;simp only[go_sem];refine cg (.hoist 0 (.hoist 1 (.hoist 2 (.hoist 3 (.hoist 4 (.hoist 5 (.hoist 8 (.hoist 9 (.alt 6 [9,8,4,3,2,1,0] (.hoist 7 (.alt 10 [9,8] (.hoist 11 (.hoist 12 .done)) .stop)) .stop))))))))) (bu hT) (by kernel_rfl) (by kernel_rfl) ?_;simp only[go_sem,lL aS ao,gh aS ao,eX aS ao,hsw];refine Ax (b:=⟨2,0,33,8,1,x1.cs⟩) 7 rfl (by simp only[cN,if_true];rfl) fun a2 c2 m2 w1 w2 w3=> ?_
   rcases hb with ⟨rfl,e1,hK,hx⟩ |⟨rfl,hK⟩
   ·exact lj (aa l1 (.inr w1)) ⟨15,0,w,[],ai,a2,1,c2⟩ k1 aV (by rw[bz hK]) (fC (es:=[e1]) ⟨by decide,by decide⟩ ⟨by decide,by decide⟩ hwl (au _) cI (by simp) w2 w3 (kq (aZ (.inr w1) hx)))
   ·exact iL (aa l1 (.inr w1)) ⟨15,0,w,[],ai,a2,1,c2⟩ k1 aV (cV hK)
 ·have h1:ah ts i [45]=false:=bK fun h=>hw ⟨_,.inl rfl,h⟩
  have h2:ah ts i [33]=false:=bK fun h=>hw ⟨_,.inr rfl,h⟩
  have hb:=hP a c m hr;have e0:nW (ts.drop i)=wN (ts.drop i):=by rw[Ad,aT h1,aT h2];rfl
  rw[e0];refine enter (cd ts) (bu hT) Tryz.func67 rfl rfl (by kernel_rfl) rfl ?_ ?_
  ·simp only[go_sem]
  ·simp only[go_sem,hr,h1,h2];refine ab (hb.mono ?_);clear hb hP hU;rintro r H' m1 aN ⟨l1,rfl,x1,k1,b1,rfl,aV,hb⟩;simp only[go_sem];exact⟨l1,rfl,x1,k1,b1,rfl,aV,hb⟩
end
section
variable {ts:List Tk}
theorem UT (hT:TsR ts) {i:Nat} (hi:i<=ts.length) (hO:lV 212 ts nI i) (hA:∀j,i<j->j<=ts.length->Bj ts j) (hE:∀j,i<j->j<=ts.length->sQ ts 0 j):lV 159 ts wN i:=fun a c m hr=>by
 have hl:=hT.few;have ck:i<=100000:=by omega
 have hb:=hO a c m hr;have gO:Good true (ts.drop i) (nI (ts.drop i)):=(kH _).operand.good;refine enter (cd ts) (bu hT) Tryz.func159 rfl rfl (by kernel_rfl) rfl ?_ ?_
 ·simp only[go_sem]
 ·simp only[go_sem];refine ab (hb.mono ?_);clear hb hO;rintro r H' m1 aN ⟨l1,rfl,x1,k1,b1,rfl,aV,hb⟩;simp only[go_sem];refine DA (bu hT) 1 (fun y:Nd×Nat×Bool×Mem=>⟨[⟨0,[],.v (.slice a ts.length c)⟩,⟨1,[],.v (.int .i64 y.2.1)⟩,⟨4,[],.box 0 0⟩,⟨7,[],.box 1 0⟩,⟨8,[],.v (.bool y.2.2.1)⟩],[],[⟨1,33,y.1.svs⟩,uq 0],[],40,y.2.2.2⟩)
   (fun y=>an m1 y.2.2.2/\y.2.1<=ts.length/\((y.2.2.1=true/\i<y.2.1/\∃e,wN (ts.drop i)=p9 e (ts.drop y.2.1)/\bk y.2.2.2 e y.1.cs)\/(y.2.2.1=false/\wN (ts.drop i)= .error (ts.drop y.2.1))))
   (fun y=>ts.length - y.2.1) (by kernel_rfl) (fun _ _=>dL rfl) (fun y hy=>hy.1) (fun _=> ?_) ?_ ?_
  ·simp only[go_sem]
  ·simp only[go_sem];refine⟨(x1,k1,b1,m1),⟨⟨rfl,rfl⟩,⟨rfl,rfl,rfl,rfl,rfl,rfl,rfl,rfl⟩,.inl rfl⟩,.inl rfl,aV,?_⟩;rcases hb with ⟨rfl,e,hK,hx⟩ |⟨rfl,hK⟩
   ·exact .inl ⟨rfl,kX gO hK aV,e,by rw[wN,bz hK],hx⟩
   ·exact .inr ⟨rfl,by rw[wN,cV hK]⟩
  ·rintro⟨x,k,b,mm⟩ ⟨q1,q2,⟨rfl,q3,e,q4,q5⟩ |⟨rfl,q4⟩⟩
   ·dsimp only at q1 q2 q3 q4 q5;have L0:=aa l1 q1;have ed:=aD L0 hr;have bq:k<=100000:=by omega
    rw[yB] at q4;by_cases iO:ah ts k [46]=true
    ·have ao:=aJ iO;rw[eI iO,List.tail_drop] at q4;by_cases hid:eY (ts.drop (k+1))=true
     ·have cA:=tG hid;rw[bz (rO hid)] at q4;have hs:=hT.toTsB.cs (k+1);by_cases db:ah ts (k+2) [40]=true
      ·rw[eI db] at q4;have hb:FnH Tryz.prog 93 [.v (.slice a ts.length c),.v (.int .i64 ((k:Int)+2))] ⟨[],[]⟩ mm (Bm ts (jw (ts.drop (k+2))) mm):=hA (k+2) (by omega) cA a c mm ed;clear hA hE;simp only[go_sem,ed,bq,iO,hid,db,qb ed cA,gh ed cA,eX ed cA];refine ab (hb.mono ?_);clear hb;rintro r H' m2 aH ⟨l2,rfl,a2,n2,c2,k2,b2,rfl,b8,⟨rfl,es,xs,hK,rfl,bl,hn,hxr,j7⟩ |⟨rfl,hK⟩⟩
       ·have ep:k+2<k2:=kX (kH _).args.good hK b8;simp only[go_sem];refine⟨xs,hxr,Dn hxr.1 j7,fK (by omega) (by decide),fun a9 c9 m9 w1 w2 w3=> ?_⟩;have qs:1+es.length=(e::es).length:=by rw[cv,Nat.add_comm]
        rw[qs] at w2 w3 ⊢;refine⟨(⟨10,0,(aO ts (k+1)).s,[],ai,a9,(e::es).length,c9⟩,k2,true,m9),⟨⟨rfl,rfl⟩,⟨rfl,rfl,rfl,rfl,rfl,rfl,rfl,rfl⟩,.inl rfl⟩,⟨aa q1 (aa l2 (.inr w1)),b8,.inl ⟨rfl,by dsimp only;omega,.mk 10 0 (aO ts (k+1)).s [] ai (e::es),by rw[q4,bz hK],?_⟩⟩,by dsimp only;omega⟩;exact fC ⟨by decide,by decide⟩ ⟨by decide,by decide⟩ hs (au _) cI (by rw[cv];omega) w2 w3 (Gu (x:=x) (aZ (aa l2 (.inr w1)) q5) (uW (.inr w1) j7))
       ·simp only[go_sem];exact iL (aa L0 l2) x k2 b8 (by rw[q4,cV hK])
      ·have db:=bK db;rw[aT db] at q4;clear hA hE;simp only[go_sem,ed,bq,iO,hid,db,qb ed cA,gh ed cA,eX ed cA];intro a9 c9 m9 w1 w2 w3;exact⟨(⟨7,0,(aO ts (k+1)).s,[],ai,a9,1,c9⟩,k+2,true,m9),⟨⟨rfl,rfl⟩,⟨rfl,rfl,rfl,rfl,rfl,rfl,rfl,rfl⟩,.inl rfl⟩,⟨aa q1 (.inr w1),cA,.inl ⟨rfl,by dsimp only;omega,.mk 7 0 (aO ts (k+1)).s [] ai [e],q4,fC (es:=[e]) ⟨by decide,by decide⟩ ⟨by decide,by decide⟩ hs (au _) cI (by simp) w2 w3 (kq (aZ (.inr w1) q5))⟩⟩,by dsimp only;omega⟩
     ·have hid:=bK hid;clear hA hE;simp only[go_sem,ed,bq,iO,hid];exact iL L0 x (k+1) ao (by rw[q4,cV (vU hid)])
    ·have iO:=bK iO;rw[aT iO] at q4;clear hA;by_cases pI:ah ts k [91]=true
     ·have ao:=aJ pI;rw[eI pI,List.tail_drop] at q4;have hb:FnH Tryz.prog 35 [.v (.slice a ts.length c),.v (.int .i64 ((k:Int)+1)),.v (.int .i64 1)] ⟨[],[]⟩ mm (iK ts (cj 0 (ts.drop (k+1))) mm):=hE (k+1) (by omega) ao a c mm ed;clear hE;simp only[go_sem,ed,bq,iO,pI];refine ab (hb.mono ?_);clear hb;rintro r H' m2 aH ⟨l2,rfl,x2,k2,b2,rfl,b8,⟨rfl,e2,hK,hx2⟩ |⟨rfl,hK⟩⟩
      ·have ep:k+1<k2:=kX ((kH _).expr 0 (by decide)).good hK b8;have bJ:=aD (aa L0 l2) hr;have EG:k2<=100000:=by omega
       rw[bz hK] at q4;by_cases iy:ah ts k2 [93]=true
       ·have lQ:=aJ iy;rw[gI iy] at q4;simp only[go_sem,bJ,iy,EG];intro a9 c9 m9 w1 w2 w3;exact⟨(⟨9,0,[],[],ai,a9,2,c9⟩,k2+1,true,m9),⟨⟨rfl,rfl⟩,⟨rfl,rfl,rfl,rfl,rfl,rfl,rfl,rfl⟩,.inl rfl⟩,⟨aa q1 (aa l2 (.inr w1)),lQ,.inl ⟨rfl,by dsimp only;omega,.mk 9 0 [] [] ai [e,e2],q4,fC (es:=[e,e2]) ⟨by decide,by decide⟩ ⟨by decide,by decide⟩ (au _) (au _) cI (by simp) w2 w3 (EP (x:=x) (y:=x2) (aZ (aa l2 (.inr w1)) q5) (aZ (.inr w1) hx2))⟩⟩,by dsimp only;omega⟩
       ·have iy:=bK iy;simp only[go_sem,bJ,iy,EG];exact iL (aa L0 l2) x k2 b8 (by rw[q4,gJ iy])
      ·simp only[go_sem,false_and];exact iL (aa L0 l2) x k2 b8 (by rw[q4,cV hK])
     ·have pI:=bK pI;clear hE;simp only[go_sem,ed,bq,iO,pI];exact lj L0 x k q2 (by rw[q4,aT pI]) q5
   ·simp only[go_sem];exact iL (aa l1 q1) x k q2 q4
end
section
variable {ts:List Tk}
theorem HB {n k:Nat} (hn:n<=9):(iF n (ts.drop k)=true)=((aO ts k).k=6/\sH (aO ts k).s=(n:Int)+1):=by
 rw[iF,nQ,kf,cY,gz,YL hn]
theorem Au (l:List Tk):Good true l (fN l):=by
 have h:=(uR l).good;rwa [jk (bG _)] at h
theorem Qc (hT:TsR ts) {k:Nat} {w:List UInt8} (hw:eU w=true) (h:ah ts k w=true):(aO ts k).k=2:=by
 rw[AV hT hw] at h;exact of_decide_eq_true (Bool.and_eq_true_iff.1 h).1
theorem U2 (hT:TsR ts) {i:Nat} (hU:lV 67 ts nW i):sQ ts 10 i:=fun a c m hr=>by
 rw[Lp];have hb:=hU a c m hr;refine enter (cd ts) (bu hT) Tryz.func35 rfl rfl (by kernel_rfl) rfl ?_ ?_
 ·simp only[go_sem]
 ·simp only[go_sem];refine⟨fun _=>ab (hb.mono ?_),fun h=>absurd h (by decide)⟩;clear hb hU;rintro r H' m1 aN ⟨l1,rfl,x1,k1,b1,rfl,aV,hb⟩;simp only[go_sem];exact⟨l1,rfl,x1,k1,b1,rfl,aV,hb⟩
theorem WQ (hT:TsR ts) {i n:Nat} (hi:i<=ts.length) (hn:n<=9) (hN:sQ ts (n+1) i) (hE:∀j,i<j->j<=ts.length->sQ ts (n+1) j):sQ ts n i:=fun a c m hr=>by
 have hl:=hT.few;have ck:i<=100000:=by omega
 have hn6:n<=100000:=by omega
 have hb:FnH Tryz.prog 35 [.v (.slice a ts.length c),.v (.int .i64 i),.v (.int .i64 ((n:Int)+1+1))] ⟨[],[]⟩ m (iK ts (cj (n+1) (ts.drop i)) m):=hN a c m hr;have gN:Good true (ts.drop i) (cj (n+1) (ts.drop i)):=((kH _).expr (n+1) (by omega)).good;have eK:=MI hn (ts.drop i);have wc:(10<(n:Int)+1)=False:=eq_false (by omega);refine enter (cd ts) (bu hT) Tryz.func35 rfl rfl (by kernel_rfl) rfl ?_ ?_
 ·simp only[go_sem]
 ·simp only[go_sem,wc,hn6,not_false_eq_true];refine ab (hb.mono ?_);clear hb hN;rintro r H' m1 aN ⟨l1,rfl,x1,k1,b1,rfl,aV,hb⟩;simp only[go_sem];refine DA (bu hT) 1 (fun y:Nd×Nat×Bool×Mem=>⟨[⟨0,[],.v (.slice a ts.length c)⟩,⟨1,[],.v (.int .i64 y.2.1)⟩,⟨2,[],.v (.int .i64 ((n:Int)+1))⟩,⟨6,[],.box 0 0⟩,⟨9,[],.box 1 0⟩,⟨10,[],.v (.bool y.2.2.1)⟩],[],[⟨1,33,y.1.svs⟩,uq 0],[],40,y.2.2.2⟩)
   (fun y=>an m1 y.2.2.2/\y.2.1<=ts.length/\((y.2.2.1=true/\i<y.2.1/\∃e,cj n (ts.drop i)=vm n e (ts.drop y.2.1)/\bk y.2.2.2 e y.1.cs)\/(y.2.2.1=false/\cj n (ts.drop i)= .error (ts.drop y.2.1))))
   (fun y=>ts.length - y.2.1) (by kernel_rfl) (fun _ _=>dL rfl) (fun y hy=>hy.1) (fun _=> ?_) ?_ ?_
  ·simp only[go_sem]
  ·simp only[go_sem];refine⟨(x1,k1,b1,m1),⟨⟨rfl,rfl⟩,⟨rfl,rfl,rfl,rfl,rfl,rfl,rfl,rfl⟩,.inl rfl⟩,.inl rfl,aV,?_⟩;rcases hb with ⟨rfl,e,hK,hx⟩ |⟨rfl,hK⟩
   ·exact .inl ⟨rfl,kX gN hK aV,e,by rw[eK,bz hK],hx⟩
   ·exact .inr ⟨rfl,by rw[eK,cV hK]⟩
  ·rintro⟨x,k,b,mm⟩ ⟨q1,q2,⟨rfl,q3,e,q4,q5⟩ |⟨rfl,q4⟩⟩
   ·dsimp only at q1 q2 q3 q4 q5;have L0:=aa l1 q1;have ed:=aD L0 hr;have bq:k<=100000:=by omega
    rw[wB hn] at q4;simp only[go_sem,ed,bq,dX];refine⟨fun hA=> ?_,fun hB=>⟨fun hC=> ?_,fun hD=> ?_⟩⟩
    ·have ao:k<ts.length:=by
      rcases hA.2 with h |h
      ·exact aJ h
      ·exact aJ h
     have b8:(aO ts k).k=2:=by
      rcases hA.2 with h |h
      ·exact Qc hT rfl h
      ·exact Qc hT rfl h
     have h6:n=6:=by have:=hA.1;omega
     have ac0:¬iF n (ts.drop k)=true:=by rw[HB hn,b8];exact fun h=>absurd h.1 (by decide)
     rw[ae ac0] at q4;have hb:FnH Tryz.prog 69 [.v (.slice a ts.length c),.v (.int .i64 ((k:Int)+1))] ⟨[],[]⟩ mm _:=Af a c (k+1) mm hT ao ed;refine ab (hb.mono ?_);clear hb hE;rintro r H' m2 aH ⟨l2,rfl,t,k2,b2,rfl,hk2',cZ,⟨rfl,hK⟩ |⟨rfl,hK⟩⟩
     ·have ep:k+1<k2:=kX (Au _) hK hk2';simp only[go_sem];refine⟨fun hc=> ?_,fun hc=> ?_⟩
      ·intro a9 c9 m9 w1 w2 w3;rw[ae (fun h=>by rw[<- ar,be hc (by decide)] at h;exact absurd h.2 (by decide)),aj ⟨h6,by rw[<- ar];exact hc⟩,List.tail_drop,bz hK] at q4;exact⟨(⟨17,0,[],[],t,a9,1,c9⟩,k2,true,m9),⟨⟨rfl,rfl⟩,⟨rfl,rfl,rfl,rfl,rfl,rfl,rfl,rfl⟩,.inl rfl⟩,⟨aa q1 (aa l2 (.inr w1)),hk2',.inl ⟨rfl,by dsimp only;omega,.mk 17 0 [] [] t [e],q4,fC (es:=[e]) ⟨by decide,by decide⟩ ⟨by decide,by decide⟩ (au _) (au _) (cZ.ok (by omega)) (by simp) w2 w3 (kq (aZ (aa l2 (.inr w1)) q5))⟩⟩,by dsimp only;omega⟩
      ·have oI:ah ts k [105,115]=true:=hA.2.resolve_left (by rw[hc];decide);intro a9 c9 m9 w1 w2 w3;rw[aj ⟨h6,by rw[<- ar];exact oI⟩,List.tail_drop,bz hK] at q4;exact⟨(⟨18,0,[],[],t,a9,1,c9⟩,k2,true,m9),⟨⟨rfl,rfl⟩,⟨rfl,rfl,rfl,rfl,rfl,rfl,rfl,rfl⟩,.inl rfl⟩,⟨aa q1 (aa l2 (.inr w1)),hk2',.inl ⟨rfl,by dsimp only;omega,.mk 18 0 [] [] t [e],q4,fC (es:=[e]) ⟨by decide,by decide⟩ ⟨by decide,by decide⟩ (au _) (au _) (cZ.ok (by omega)) (by simp) w2 w3 (kq (aZ (aa l2 (.inr w1)) q5))⟩⟩,by dsimp only;omega⟩
     ·have II:cj n (ts.drop i)= .error (ts.drop k2):=by
       rw[q4];by_cases oI:n=6/\aC [105,115] (ts.drop k)=true
       ·rw[aj oI,List.tail_drop,cV hK]
       ·rw[ae oI];have has:n=6/\aC [97,115] (ts.drop k)=true:=⟨h6,by rw[<- ar];exact hA.2.resolve_right fun h=>oI ⟨h6,by rw[<- ar];exact h⟩⟩;rw[aj has,List.tail_drop,cV hK]
      simp only[go_sem];exact iL (aa L0 l2) x k2 hk2' II
    ·refine lj L0 x k q2 ?_ q5;have h1:¬iF n (ts.drop k)=true:=by rw[HB hn];exact fun h=>hC.elim (fun g=>g h.1) fun g=>g h.2
     have h2:∀w,(w=[105,115]\/w=[97,115])->¬(n=6/\aC w (ts.drop k)=true):=fun w hw h=>by
      rw[<- ar] at h;rcases hB with g |g
      ·exact g (by have:=h.1;omega)
      ·rcases hw with rfl |rfl
       ·rw[g.2] at h;exact absurd h.2 (by decide)
       ·rw[g.1] at h;exact absurd h.2 (by decide)
     rw[q4,ae h1,ae (h2 _ (.inl rfl)),ae (h2 _ (.inr rfl))]
    ·have qp:iF n (ts.drop k)=true:=by rw[HB hn];exact hD
     have ao:=HA qp;rw[aj qp,List.tail_drop,kf] at q4;have hs:=hT.toTsB.cs k;have hb:FnH Tryz.prog 35 [.v (.slice a ts.length c),.v (.int .i64 ((k:Int)+1)),.v (.int .i64 ((n:Int)+1+1))] ⟨[],[]⟩ mm (iK ts (cj (n+1) (ts.drop (k+1))) mm):=hE (k+1) (by omega) ao a c mm ed;refine⟨by unfold az;omega,by kernel_rfl,dh (hb.mono ?_)⟩;clear hb hE;rintro r H' m2 aH ⟨l2,rfl,x2,k2,b2,rfl,b8,⟨rfl,e2,hK,hx2⟩ |⟨rfl,hK⟩⟩
     ·have ep:k+1<k2:=kX ((kH _).expr (n+1) (by omega)).good hK b8;rw[bz hK] at q4;simp only[go_sem];intro a9 c9 m9 w1 w2 w3;exact⟨(⟨16,0,(aO ts k).s,[],ai,a9,2,c9⟩,k2,true,m9),⟨⟨rfl,rfl⟩,⟨rfl,rfl,rfl,rfl,rfl,rfl,rfl,rfl⟩,.inl rfl⟩,⟨aa q1 (aa l2 (.inr w1)),b8,.inl ⟨rfl,by dsimp only;omega,.mk 16 0 (aO ts k).s [] ai [e,e2],q4,fC (es:=[e,e2]) ⟨by decide,by decide⟩ ⟨by decide,by decide⟩ hs (au _) cI (by simp) w2 w3 (EP (x:=x) (y:=x2) (aZ (aa l2 (.inr w1)) q5) (aZ (.inr w1) hx2))⟩⟩,by dsimp only;omega⟩
     ·simp only[go_sem];exact iL (aa L0 l2) x k2 b8 (by rw[q4,cV hK])
   ·simp only[go_sem];exact iL (aa l1 q1) x k q2 q4
end
noncomputable def xf (t:Ty) (l:List Tk):PR Ex:=aW [91] l fun r2=>av (ub t r2) fun t2 r3=>Ew t2 r3
noncomputable def A4 (l:List Tk):PR Ex:=av (jX l) fun t r=>if t.base=76/\aC [40] r=true then av (jw r) fun es r2=> .ok (.mk 13 0 [] t.name ai es,r2) else xf t r
noncomputable def vG (c:List UInt8) (l:List Tk):PR Ex:=
 if c=[] then aW [46] l fun r=>av (dr r) fun s r2=>av (jw r2) fun es r3=> .ok (.mk 12 0 s [] ai es,r3)
 else aW [46] l fun r2=>av (dr r2) fun s r3=>if aC [40] r3=true then av (jw r3) fun es r4=> .ok (.mk 11 0 s c ai es,r4) else .ok (.mk 8 0 s c ai [],r3)
def IC (ts:List Tk) (w:List UInt8) (i:Nat):Prop:=∀(a:Option Addr) (c:Nat) (m:Mem),aK m a ts.length 4 (cG ts)->FnH Tryz.prog 241 [.v (.slice a ts.length c),.v (.int .i64 i),.v (.string (bs w))] ⟨[],[]⟩ m (iK ts (vG w (ts.drop i)) m)
section
variable {ts:List Tk}
theorem M6 (hT:TsR ts) {w:List UInt8} (hw:w.length<=1000000) {i:Nat} (hi:i<=ts.length) (hA:∀j,i<=j->j<=ts.length->Bj ts j):IC ts w i:=fun a c m hr=>by
 have hl:=hT.few;have ck:i<=100000:=by omega
 have e0:vG w (ts.drop i)=aW [46] (ts.drop i) fun r2=>av (dr r2) fun s r3=>if w≠[]/\¬aC [40] r3=true then .ok (.mk 8 0 s w ai [],r3) else av (jw r3) fun es r4=> .ok (.mk (if w=[] then 12 else 11) 0 s w ai es,r4):=by
  unfold vG;by_cases h:w=[]
  ·subst h;simp
  ·simp only[ae h];congr 1
   funext r2
   congr 1
   funext s r3
   by_cases h2:aC [40] r3=true
   ·rw[aj h2,ae (fun h=>h.2 h2)]
   ·rw[ae h2,aj ⟨h,h2⟩]
 rw[e0];cases iO:ah ts i [46] with
 |false=>
  refine enter (cd ts) (bu hT) Tryz.func241 rfl rfl (by kernel_rfl) rfl ?_ ?_
  ·simp only[go_sem]
  ·simp only[go_sem,hr,iO];exact iL (.inl rfl) xw i hi (gJ iO)
 |true=>
  have ao:=aJ iO;rw[gI iO];cases hid:eY (ts.drop (i+1)) with
  |false=>
   refine enter (cd ts) (bu hT) Tryz.func241 rfl rfl (by kernel_rfl) rfl ?_ ?_
   ·simp only[go_sem]
   ·simp only[go_sem,hr,iO,ck,hid];exact iL (.inl rfl) xw (i+1) ao (cV (vU hid))
  |true=>
   have cA:=tG hid;have hs:=hT.toTsB.cs (i+1);rw[bz (rO hid)];have hb:FnH Tryz.prog 93 [.v (.slice a ts.length c),.v (.int .i64 ((i:Int)+2))] ⟨[],[]⟩ m (Bm ts (jw (ts.drop (i+2))) m):=hA (i+2) (by omega) cA a c m hr;refine enter (cd ts) (bu hT) Tryz.func241 rfl rfl (by kernel_rfl) rfl ?_ ?_
   ·simp only[go_sem]
   ·clear hA;simp only[go_sem,hr,iO,ck,hid,qb hr cA,gh hr cA,eX hr cA];refine⟨fun hc=> ?_,fun hc=>ab (hb.mono ?_)⟩
    ·exact lj (.inl rfl) ⟨8,0,(aO ts (i+1)).s,w,ai,none,0,0⟩ (i+2) (e:= .mk 8 0 (aO ts (i+1)).s w ai []) cA (aj ⟨hc.1,by rw[<- ar,hc.2];decide⟩) (lY ⟨by decide,by decide⟩ ⟨by decide,by decide⟩ hs hw cI)
    ·clear hb;have zO:¬(w≠[]/\¬aC [40] (ts.drop (i+2))=true):=fun h=>hc.elim (fun g=>h.1 g) fun g=>h.2 (by rw[<- ar];exact g)
     rintro r H' m2 aH ⟨l2,rfl,a2,n2,c2,k2,b2,rfl,b8,hb⟩;simp only[go_sem];refine⟨fun h0=> ?_,fun h0=> ?_⟩
     ·subst h0;rcases hb with ⟨rfl,es,xs,hK,rfl,bl,hn,hxr,j7⟩ |⟨rfl,hK⟩
      ·exact lj l2 ⟨12,0,(aO ts (i+1)).s,[],ai,a2,es.length,c2⟩ k2 (e:= .mk 12 0 (aO ts (i+1)).s [] ai es) b8 (by rw[ae zO,bz hK,aj rfl]) (fC ⟨by decide,by decide⟩ ⟨by decide,by decide⟩ hs (au _) cI (by omega) bl hxr j7)
      ·exact iL l2 ⟨12,0,(aO ts (i+1)).s,[],ai,a2,n2,c2⟩ k2 b8 (by rw[ae zO,cV hK])
     ·rcases hb with ⟨rfl,es,xs,hK,rfl,bl,hn,hxr,j7⟩ |⟨rfl,hK⟩
      ·exact lj l2 ⟨11,0,(aO ts (i+1)).s,w,ai,a2,es.length,c2⟩ k2 (e:= .mk 11 0 (aO ts (i+1)).s w ai es) b8 (by rw[ae zO,bz hK,ae h0]) (fC ⟨by decide,by decide⟩ ⟨by decide,by decide⟩ hs hw cI (by omega) bl hxr j7)
      ·exact iL l2 ⟨11,0,(aO ts (i+1)).s,w,ai,a2,n2,c2⟩ k2 b8 (by rw[ae zO,cV hK])
theorem UZ (hT:TsR ts) {i:Nat} (hi:i<=ts.length) (hA:∀j,i<=j->j<=ts.length->Bj ts j) (hE:∀j,i<j->j<=ts.length->sQ ts 0 j):lV 253 ts A4 i:=fun a c m hr=>by
 have hl:=hT.few;have ck:i<=100000:=by omega
 have hB:=OL (i:=i) hT;unfold A4;cases hb:(iZ ts i).2 with
 |false=>
  refine enter (cd ts) (bu hT) Tryz.func253 rfl rfl (by kernel_rfl) rfl ?_ ?_
  ·simp only[go_sem]
  ·simp only[go_sem,hr,baseV,zD,hb];exact iL (.inl rfl) xw i hi (cV (OK hb))
 |true=>
  obtain⟨e1,ao⟩:=OJ hb;rw[bz e1];by_cases h76:(iZ ts i).1.base=76/\ah ts (i+1) [40]=true
  ·have QA:FnH Tryz.prog 93 [.v (.slice a ts.length c),.v (.int .i64 ((i:Int)+1))] ⟨[],[]⟩ m (Bm ts (jw (ts.drop (i+1))) m):=hA (i+1) (by omega) ao a c m hr;rw[aj ⟨h76.1,by rw[<- ar];exact h76.2⟩];have agk:=bX h76.1;have ac9:=h76.2;refine enter (cd ts) (bu hT) Tryz.func253 rfl rfl (by kernel_rfl) rfl ?_ ?_
   ·simp only[go_sem]
   ·clear hA hE;simp only[go_sem,hr,baseV,zD,hb,ck,h76.1,ac9,not_true_eq_false];refine ab (QA.mono ?_);clear QA;rintro r H' m2 aH ⟨l2,rfl,a2,n2,c2,k2,b2,rfl,b8,hb⟩;simp only[go_sem];rcases hb with ⟨rfl,es,xs,hK,rfl,bl,hn,hxr,j7⟩ |⟨rfl,hK⟩
    ·exact lj l2 ⟨13,0,[],(iZ ts i).1.name,ai,a2,es.length,c2⟩ k2 (e:= .mk 13 0 [] (iZ ts i).1.name ai es) b8 (by rw[bz hK]) (fC ⟨by decide,by decide⟩ ⟨by decide,by decide⟩ (au _) hB.n cI (by omega) bl hxr j7)
    ·exact iL l2 ⟨13,0,[],(iZ ts i).1.name,ai,a2,n2,c2⟩ k2 b8 (cV hK)
  ·have adi:(¬(iZ ts i).1.base=76\/ah ts (i+1) [40]=false)=True:=eq_true (by
    by_cases h:(iZ ts i).1.base=76
    ·exact .inr (bK fun g=>h76 ⟨h,g⟩)
    ·exact .inl h)
   have aam:((iZ ts i).1.base=76/\ah ts (i+1) [40]=true)=False:=eq_false h76;rw[ae (fun h=>h76 ⟨h.1,by rw[ar];exact h.2⟩)];refine iA (enter (cd ts) (bu hT) Tryz.func253 rfl rfl (by kernel_rfl) rfl ?_ ?_)
   ·simp only[go_sem]
   ·clear hA;simp only[go_sem,hr,baseV,zD,hb,ck,adi,aam,not_true_eq_false];refine cO (bu hT) (fun y:Ty×Nat=>⟨[⟨0,[],.v (.slice a ts.length c)⟩,⟨1,[],.v (.int .i64 y.2)⟩,⟨4,[],.box 0 0⟩,⟨7,[],.box 1 0⟩],[],[⟨1,30,[.v (.int .i64 y.1.dim),.v (.int .u8 y.1.base),.v (.string (bs y.1.name))]⟩,uq 0],[],2,m⟩)
     (fun y=>i<y.2/\y.2<=ts.length/\TyB y.1 y.2/\xf (iZ ts i).1 (ts.drop (i+1))=xf y.1 (ts.drop y.2)) (fun y=>ts.length - y.2) ((iZ ts i).1,i+1) (fun _ _=>aq _) (fun _ _=> .inl rfl) ?_ ?_ ?_
    ·simp only[go_sem];exact rfl
    ·exact⟨Nat.lt_succ_self i,ao,⟨⟨hB.d.1,by have:=hB.d.2;dsimp only;omega⟩,hB.b,hB.n⟩,rfl⟩
    ·rintro⟨t,k⟩ ⟨q0,q1,q2,q3⟩;dsimp only at q0 q1 q2 q3;have bq:k<=100000:=by omega
     by_cases h1:ah ts k [91]=true
     ·have aV:=aJ h1;have lr:k+1<=100000:=by omega
      have e2:xf t (ts.drop k)=av (ub t (ts.drop (k+1))) fun t2 r3=>Ew t2 r3:=by unfold xf;rw[gI h1]
      rw[AF] at e2;by_cases h2:ah ts (k+1) [93]=true
      ·have b8:=aJ h2;clear hE;simp only[go_sem,hr,bq,h1,h2];refine⟨by have:=q2.d;unfold az;omega,(t.up,k+2),⟨rfl,rfl,rfl,rfl⟩,⟨by dsimp only;omega,b8,⟨⟨by have:=q2.d;simp only[Ty.up];omega,by have:=q2.d;simp only[Ty.up];omega⟩,q2.b,q2.n⟩,?_⟩,by dsimp only;omega⟩;rw[q3,e2,eI h2,List.tail_drop,Hx];rfl
      ·have h2:=bK h2;rw[aT h2] at e2;have e3:xf t (ts.drop k)=av (cj 0 (ts.drop (k+1))) fun e r4=>aW [93] r4 fun r5=> .ok (.mk 14 0 [] [] t [e],r5):=e2
       have Qz:FnH Tryz.prog 35 [.v (.slice a ts.length c),.v (.int .i64 ((k:Int)+1)),.v (.int .i64 1)] ⟨[],[]⟩ m (iK ts (cj 0 (ts.drop (k+1))) m):=hE (k+1) (by omega) aV a c m hr;clear hE;simp only[go_sem,hr,bq,h1,h2];refine ab (Qz.mono ?_);clear Qz;rintro r H' m2 aH ⟨l2,rfl,x2,k2,b2,rfl,b8,⟨rfl,e,hK,hx2⟩ |⟨rfl,hK⟩⟩
       ·have bJ:=aD l2 hr;have Qx:k2<=100000:=by omega
        by_cases iy:ah ts k2 [93]=true
        ·simp only[go_sem,bJ,Qx,iy];refine Ax (b:=⟨3,0,33,8,1,x2.cs⟩) 7 rfl (by simp only[cN,if_true];rfl) fun a2 c2 m3 w1 w2 w3=> ?_
         exact lj (aa l2 (.inr w1)) ⟨14,0,[],[],t,a2,1,c2⟩ (k2+1) (aJ iy) (by rw[q3,e3,bz hK,gI iy]) (fC (es:=[e]) ⟨by decide,by decide⟩ ⟨by decide,by decide⟩ (au _) (au _) (q2.ok (by omega)) (by simp) w2 w3 (kq (aZ (.inr w1) hx2)))
        ·have iy:=bK iy;simp only[go_sem,bJ,Qx,iy];exact .inl (iL l2 x2 k2 b8 (by rw[q3,e3,bz hK,gJ iy]))
       ·simp only[go_sem,false_and];exact .inl (iL l2 x2 k2 b8 (by rw[q3,e3,cV hK]))
     ·have h1:=bK h1;clear hE;simp only[go_sem,hr,bq,h1,false_and];exact .inl (iL (.inl rfl) xw k q1 (by rw[q3];unfold xf;exact gJ h1))
end
section
variable {ts:List Tk}
theorem mF (hT:TsR ts) {i:Nat} (hk:(aO ts i).k=2) {w:List UInt8} (hw:eU w=true):decide ((aO ts i).s=w)=ah ts i w:=by
 rw[AV hT hw,hk];rfl
theorem WL (hT:TsR ts) {i:Nat} (ao:i<ts.length) (hk:(aO ts i).k=2) (hM:lV 253 ts A4 (i+1)) (hD:IC ts [] (i+1)) (hR:lV 168 ts gf (i+1)):lV 240 ts lK i:=fun a c m hr=>by
 have hl:=hT.few;have ck:i<=100000:=by omega
 have v7:=lL hr ao;have vX:=gh hr ao;have d0:decide ((aO ts i).s=[110,117,108,108])=ah ts i [110,117,108,108]:=mF hT hk rfl;have d1:decide ((aO ts i).s=[116,104,105,115])=ah ts i [116,104,105,115]:=mF hT hk rfl;have d2:decide ((aO ts i).s=[110,101,119])=ah ts i [110,101,119]:=mF hT hk rfl;have d3:decide ((aO ts i).s=[115,117,112,101,114])=ah ts i [115,117,112,101,114]:=mF hT hk rfl;have d4:decide ((aO ts i).s=[108,101,110])=ah ts i [108,101,110]:=mF hT hk rfl;have d5:decide ((aO ts i).s=[105,110,116])=ah ts i [105,110,116]:=mF hT hk rfl;have d6:decide ((aO ts i).s=[108,111,110,103])=ah ts i [108,111,110,103]:=mF hT hk rfl;by_cases h0:ah ts i [110,117,108,108]=true
 ·have e0:lK (ts.drop i)= .ok (.mk 4 0 [] [] ai [],ts.drop (i+1)):=by rw[kV,eI (show ah ts i [110,117,108,108]=true from h0),List.tail_drop]
  refine(enter (cd ts) (bu hT) Tryz.func240 rfl rfl (by kernel_rfl) rfl ?_ ?_)
  ·simp only[go_sem]
  ·simp only[go_sem,v7,vX,eX hr ao,ck,d0,h0];exact lj (.inl rfl) ⟨4,0,[],[],ai,none,0,0⟩ (i+1) ao e0 (lY ⟨by decide,by decide⟩ ⟨by decide,by decide⟩ (au _) (au _) cI)
 have h0:=bK h0;by_cases h1:ah ts i [116,104,105,115]=true
 ·have e0:lK (ts.drop i)= .ok (.mk 5 0 [] [] ai [],ts.drop (i+1)):=by rw[kV,aT (be h1 (by decide)),eI (show ah ts i [116,104,105,115]=true from h1),List.tail_drop]
  refine(enter (cd ts) (bu hT) Tryz.func240 rfl rfl (by kernel_rfl) rfl ?_ ?_)
  ·simp only[go_sem]
  ·simp only[go_sem,v7,vX,eX hr ao,ck,d0,d1,h0,h1];exact lj (.inl rfl) ⟨5,0,[],[],ai,none,0,0⟩ (i+1) ao e0 (lY ⟨by decide,by decide⟩ ⟨by decide,by decide⟩ (au _) (au _) cI)
 have h1:=bK h1;by_cases h2:ah ts i [110,101,119]=true
 ·have e0:lK (ts.drop i)=A4 (ts.drop (i+1)):=by rw[kV,aT (be h2 (by decide)),aT (be h2 (by decide)),aT (be h2 (by decide)),eI (show ah ts i [110,101,119]=true from h2),List.tail_drop];rfl
  have hb:FnH Tryz.prog 253 [.v (.slice a ts.length c),.v (.int .i64 ((i:Int)+1))] ⟨[],[]⟩ m (iK ts (A4 (ts.drop (i+1))) m):=hM a c m hr;rw[e0];refine(enter (cd ts) (bu hT) Tryz.func240 rfl rfl (by kernel_rfl) rfl ?_ ?_)
  ·simp only[go_sem]
  ·clear hM hD hR;simp only[go_sem,v7,vX,eX hr ao,ck,d0,d1,d2,h0,h1,h2];refine ab (hb.mono ?_);clear hb;rintro r H' m1 aN ⟨l1,rfl,x1,k1,b1,rfl,aV,hb⟩;simp only[go_sem];exact⟨l1,rfl,x1,k1,b1,rfl,aV,hb⟩
 have h2:=bK h2;by_cases h3:ah ts i [115,117,112,101,114]=true
 ·have e0:lK (ts.drop i)=vG [] (ts.drop (i+1)):=by rw[kV,aT (be h3 (by decide)),aT (be h3 (by decide)),eI (show ah ts i [115,117,112,101,114]=true from h3),List.tail_drop];rfl
  have hb:FnH Tryz.prog 241 [.v (.slice a ts.length c),.v (.int .i64 ((i:Int)+1)),.v (.string (bs []))] ⟨[],[]⟩ m (iK ts (vG [] (ts.drop (i+1))) m):=hD a c m hr;rw[e0];refine(enter (cd ts) (bu hT) Tryz.func240 rfl rfl (by kernel_rfl) rfl ?_ ?_)
  ·simp only[go_sem]
  ·clear hM hD hR;simp only[go_sem,v7,vX,eX hr ao,ck,d0,d1,d2,d3,h0,h1,h2,h3];refine ab (hb.mono ?_);clear hb;rintro r H' m1 aN ⟨l1,rfl,x1,k1,b1,rfl,aV,hb⟩;simp only[go_sem];exact⟨l1,rfl,x1,k1,b1,rfl,aV,hb⟩
 have h3:=bK h3;by_cases h4:ah ts i [108,101,110]=true
 ·have e0:lK (ts.drop i)=av (gf (ts.drop (i+1))) fun e r=> .ok (.mk 19 0 [] [] ai [e],r):=by rw[kV,aT (be h4 (by decide)),aT (be h4 (by decide)),aT (be h4 (by decide)),aT (be h4 (by decide)),eI (show ah ts i [108,101,110]=true from h4),List.tail_drop]
  have hb:FnH Tryz.prog 168 [.v (.slice a ts.length c),.v (.int .i64 ((i:Int)+1))] ⟨[],[]⟩ m (iK ts (gf (ts.drop (i+1))) m):=hR a c m hr;rw[e0];refine iA (enter (cd ts) (bu hT) Tryz.func240 rfl rfl (by kernel_rfl) rfl ?_ ?_)
  ·simp only[go_sem]
  ·clear hM hD hR;simp only[go_sem,v7,vX,eX hr ao,ck,d0,d1,d2,d3,d4,h0,h1,h2,h3,h4];refine ab (hb.mono ?_);clear hb;rintro r H' m1 aN ⟨l1,rfl,x1,k1,b1,rfl,aV,hb⟩;simp only[go_sem];refine Ax (b:=⟨2,0,33,8,1,x1.cs⟩) 7 rfl (by simp only[cN,if_true];rfl) fun a2 c2 m2 w1 w2 w3=> ?_
   rcases hb with ⟨rfl,e1,hK,hx⟩ |⟨rfl,hK⟩
   ·exact lj (aa l1 (.inr w1)) ⟨19,0,[],[],ai,a2,1,c2⟩ k1 aV (by rw[bz hK]) (fC (es:=[e1]) ⟨by decide,by decide⟩ ⟨by decide,by decide⟩ (au _) (au _) cI (by simp) w2 w3 (kq (aZ (.inr w1) hx)))
   ·exact iL (aa l1 (.inr w1)) ⟨19,0,[],[],ai,a2,1,c2⟩ k1 aV (cV hK)
 have h4:=bK h4;by_cases h5:ah ts i [105,110,116]=true
 ·have e0:lK (ts.drop i)=av (gf (ts.drop (i+1))) fun e r=> .ok (.mk 20 0 [] [] ai [e],r):=by rw[kV,aT (be h5 (by decide)),aT (be h5 (by decide)),aT (be h5 (by decide)),aT (be h5 (by decide)),aT (be h5 (by decide)),eI (show ah ts i iI=true from h5),List.tail_drop]
  have hb:FnH Tryz.prog 168 [.v (.slice a ts.length c),.v (.int .i64 ((i:Int)+1))] ⟨[],[]⟩ m (iK ts (gf (ts.drop (i+1))) m):=hR a c m hr;rw[e0];refine iA (enter (cd ts) (bu hT) Tryz.func240 rfl rfl (by kernel_rfl) rfl ?_ ?_)
  ·simp only[go_sem]
  ·clear hM hD hR;simp only[go_sem,v7,vX,eX hr ao,ck,d0,d1,d2,d3,d4,d5,h0,h1,h2,h3,h4,h5];refine ab (hb.mono ?_);clear hb;rintro r H' m1 aN ⟨l1,rfl,x1,k1,b1,rfl,aV,hb⟩;simp only[go_sem];refine Ax (b:=⟨2,0,33,8,1,x1.cs⟩) 7 rfl (by simp only[cN,if_true];rfl) fun a2 c2 m2 w1 w2 w3=> ?_
   rcases hb with ⟨rfl,e1,hK,hx⟩ |⟨rfl,hK⟩
   ·exact lj (aa l1 (.inr w1)) ⟨20,0,[],[],ai,a2,1,c2⟩ k1 aV (by rw[bz hK]) (fC (es:=[e1]) ⟨by decide,by decide⟩ ⟨by decide,by decide⟩ (au _) (au _) cI (by simp) w2 w3 (kq (aZ (.inr w1) hx)))
   ·exact iL (aa l1 (.inr w1)) ⟨20,0,[],[],ai,a2,1,c2⟩ k1 aV (cV hK)
 have h5:=bK h5;by_cases h6:ah ts i [108,111,110,103]=true
 ·have e0:lK (ts.drop i)=av (gf (ts.drop (i+1))) fun e r=> .ok (.mk 21 0 [] [] ai [e],r):=by rw[kV,aT (be h6 (by decide)),aT (be h6 (by decide)),aT (be h6 (by decide)),aT (be h6 (by decide)),aT (be h6 (by decide)),aT (be h6 (by decide)),eI (show ah ts i iE=true from h6),List.tail_drop]
  have hb:FnH Tryz.prog 168 [.v (.slice a ts.length c),.v (.int .i64 ((i:Int)+1))] ⟨[],[]⟩ m (iK ts (gf (ts.drop (i+1))) m):=hR a c m hr;rw[e0];refine iA (enter (cd ts) (bu hT) Tryz.func240 rfl rfl (by kernel_rfl) rfl ?_ ?_)
  ·simp only[go_sem]
  ·clear hM hD hR;simp only[go_sem,v7,vX,eX hr ao,ck,d0,d1,d2,d3,d4,d5,d6,h0,h1,h2,h3,h4,h5,h6];refine ab (hb.mono ?_);clear hb;rintro r H' m1 aN ⟨l1,rfl,x1,k1,b1,rfl,aV,hb⟩;simp only[go_sem];refine Ax (b:=⟨2,0,33,8,1,x1.cs⟩) 7 rfl (by simp only[cN,if_true];rfl) fun a2 c2 m2 w1 w2 w3=> ?_
   rcases hb with ⟨rfl,e1,hK,hx⟩ |⟨rfl,hK⟩
   ·exact lj (aa l1 (.inr w1)) ⟨21,0,[],[],ai,a2,1,c2⟩ k1 aV (by rw[bz hK]) (fC (es:=[e1]) ⟨by decide,by decide⟩ ⟨by decide,by decide⟩ (au _) (au _) cI (by simp) w2 w3 (kq (aZ (.inr w1) hx)))
   ·exact iL (aa l1 (.inr w1)) ⟨21,0,[],[],ai,a2,1,c2⟩ k1 aV (cV hK)
 have h6:=bK h6;have e0:lK (ts.drop i)= .error (ts.drop i):=by rw[kV,aT (show ah ts i [110,117,108,108]=false from h0),aT (show ah ts i [116,104,105,115]=false from h1),aT (show ah ts i [115,117,112,101,114]=false from h3),aT (show ah ts i [110,101,119]=false from h2),aT (show ah ts i [108,101,110]=false from h4),aT (show ah ts i iI=false from h5),aT (show ah ts i iE=false from h6)]
 refine(enter (cd ts) (bu hT) Tryz.func240 rfl rfl (by kernel_rfl) rfl ?_ ?_)
 ·simp only[go_sem]
 ·simp only[go_sem,v7,vX,eX hr ao,ck,d0,h0,d1,h1,d2,h2,d3,h3,d4,h4,d5,h5,d6,h6];exact iL (.inl rfl) xw i (Nat.le_of_lt ao) e0
theorem UU (hT:TsR ts) {i:Nat} (hi:i<=ts.length) (hK:i<ts.length->(aO ts i).k=2->lV 240 ts lK i) (hD:∀w,w.length<=1000000->i<ts.length->IC ts w (i+1)) (hR:lV 168 ts gf i):lV 212 ts nI i:=fun a c m hr=>by
 have hl:=hT.few;have ck:i<=100000:=by omega
 have hs:=hT.toTsB.cs i;have hN:=hT.toTsB.cn i;have A5:(aO ts i).k≠0->i<ts.length:=fun h=>by
  rcases Nat.lt_or_ge i ts.length with g |g
  ·exact g
  ·rw[wI g] at h;exact absurd rfl h
 have P9:(aO ts i).k≠2->(aO ts i).k≠6->∀w,ah ts i w=false:=fun h1 h2 w=>by
  unfold ah;rw[bo h1,bo h2];rfl
 have eO:=FH (ts.drop i);rw[nQ,ND,kf,List.tail_drop] at eO;have EW:(aO ts i).k≠1->¬eY (ts.drop i)=true/\¬ee (ts.drop i)=true:=fun h=>by
  rw[eY,ee,nQ,bo h];simp
 by_cases h3:(aO ts i).k=3
 ·rw[aj h3] at eO;have ao:=A5 (by rw[h3];decide);refine(enter (cd ts) (bu hT) Tryz.func212 rfl rfl (by kernel_rfl) rfl ?_ ?_)
  ·simp only[go_sem]
  ·simp only[go_sem,hr,dX,ck,h3,Int.reduceEq,aF,aQ];exact lj (.inl rfl) ⟨1,(aO ts i).n,[],[],ai,none,0,0⟩ (i+1) ao eO (lY ⟨by decide,by decide⟩ hN (au _) (au _) cI)
 by_cases h4:(aO ts i).k=4
 ·rw[ae (by rw[h4];decide),aj h4] at eO;have ao:=A5 (by rw[h4];decide);refine(enter (cd ts) (bu hT) Tryz.func212 rfl rfl (by kernel_rfl) rfl ?_ ?_)
  ·simp only[go_sem]
  ·simp only[go_sem,hr,dX,ck,h4,Int.reduceEq,aF,aQ];exact lj (.inl rfl) ⟨2,(aO ts i).n,[],[],ai,none,0,0⟩ (i+1) ao eO (lY ⟨by decide,by decide⟩ hN (au _) (au _) cI)
 by_cases h5:(aO ts i).k=5
 ·rw[ae (by rw[h5];decide),ae (by rw[h5];decide),aj h5] at eO;have ao:=A5 (by rw[h5];decide);refine(enter (cd ts) (bu hT) Tryz.func212 rfl rfl (by kernel_rfl) rfl ?_ ?_)
  ·simp only[go_sem]
  ·simp only[go_sem,hr,dX,ck,h5,Int.reduceEq,aF,aQ];exact lj (.inl rfl) ⟨3,0,(aO ts i).s,[],ai,none,0,0⟩ (i+1) ao eO (lY ⟨by decide,by decide⟩ ⟨by decide,by decide⟩ hs (au _) cI)
 rw[ae h3,ae h4,ae h5] at eO;by_cases h2:(aO ts i).k=2
 ·have ao:=A5 (by rw[h2];decide);have e40:ah ts i [40]=false:=by rw[Om hT rfl,h2];rfl
  rw[ae (EW (by rw[h2];decide)).1,ae (EW (by rw[h2];decide)).2,aT e40] at eO;have hb:FnH Tryz.prog 240 [.v (.slice a ts.length c),.v (.int .i64 (i:Int))] ⟨[],[]⟩ m (iK ts (lK (ts.drop i)) m):=hK ao h2 a c m hr;rw[eO];clear hK hD hR;refine(enter (cd ts) (bu hT) Tryz.func212 rfl rfl (by kernel_rfl) rfl ?_ ?_)
  ·simp only[go_sem]
  ·simp only[go_sem,hr,dX,ck,h2,Int.reduceEq,aF,aQ];refine ab (hb.mono ?_);clear hb;rintro r H' m1 aN ⟨l1,rfl,x1,k1,b1,rfl,aV,hb⟩;simp only[go_sem];exact⟨l1,rfl,x1,k1,b1,rfl,aV,hb⟩
 by_cases h1:(aO ts i).k=1
 ·have ao:=A5 (by rw[h1];decide);by_cases hc:ee (ts.drop i)=true
  ·have bW:dT (aO ts i).s=true:=by rw[ee,kf] at hc;exact(Bool.and_eq_true_iff.1 hc).2
   have cP:(aO ts i).s≠[]:=fun e=>by rw[e] at bW;exact absurd bW (by decide)
   have ac1:¬eY (ts.drop i)=true:=by rw[eY,kf,bW];simp
   rw[ae ac1,aj hc,fw,aj hc,kf,List.tail_drop] at eO;have e0:nI (ts.drop i)=vG (aO ts i).s (ts.drop (i+1)):=by unfold vG;rw[ae cP];exact eO
   have hb:FnH Tryz.prog 241 [.v (.slice a ts.length c),.v (.int .i64 ((i:Int)+1)),.v (.string (bs (aO ts i).s))] ⟨[],[]⟩ m (iK ts (vG (aO ts i).s (ts.drop (i+1))) m):=hD _ hs ao a c m hr;rw[e0];clear hK hD hR;refine(enter (cd ts) (bu hT) Tryz.func212 rfl rfl (by kernel_rfl) rfl ?_ ?_)
   ·simp only[go_sem]
   ·simp only[go_sem,hr,dX,ck,h1,hc,Int.reduceEq,aF,aQ];refine ab (hb.mono ?_);clear hb;rintro r H' m1 aN ⟨l1,rfl,x1,k1,b1,rfl,aV,hb⟩;simp only[go_sem];exact⟨l1,rfl,x1,k1,b1,rfl,aV,hb⟩
  ·have hc:=bK hc;by_cases hd:eY (ts.drop i)=true
   ·rw[aj hd,bz (rO hd)] at eO;refine(enter (cd ts) (bu hT) Tryz.func212 rfl rfl (by kernel_rfl) rfl ?_ ?_)
    ·simp only[go_sem]
    ·simp only[go_sem,hr,dX,ck,h1,hc,hd,Int.reduceEq,aF,aQ];exact lj (.inl rfl) ⟨6,0,(aO ts i).s,[],ai,none,0,0⟩ (i+1) ao eO (lY ⟨by decide,by decide⟩ ⟨by decide,by decide⟩ hs (au _) cI)
   ·have rT:=bK hd;rw[ae hd,ae (by rw[hc];decide),aT (P9 (by rw[h1];decide) (by rw[h1];decide) _),kV] at eO;have no:=P9 (by rw[h1];decide) (by rw[h1];decide);rw[aT (no _),aT (no _),aT (no _),aT (no _),aT (no _),aT (no _),aT (no _)] at eO;refine(enter (cd ts) (bu hT) Tryz.func212 rfl rfl (by kernel_rfl) rfl ?_ ?_)
    ·simp only[go_sem]
    ·simp only[go_sem,hr,dX,ck,h1,hc,rT,Int.reduceEq,aF,aQ];exact iL (.inl rfl) xw i hi eO
 have nk:∀w,eU w=true->ah ts i w=false:=fun w hw=>by rw[AV hT hw,bo h2];rfl
 have e0:nI (ts.drop i)=gf (ts.drop i):=by
  rw[eO,ae (EW h1).1,ae (EW h1).2];cases db:ah ts i [40] with
  |true=>rw[eI db]
  |false=>
   rw[aT db,kV,aT (nk _ rfl),aT (nk _ rfl),aT (nk _ rfl),aT (nk _ rfl),aT (nk _ rfl),aT (nk _ rfl),aT (nk _ rfl),Gj,gJ db]
 have hb:FnH Tryz.prog 168 [.v (.slice a ts.length c),.v (.int .i64 (i:Int))] ⟨[],[]⟩ m (iK ts (gf (ts.drop i)) m):=hR a c m hr;rw[e0];clear hK hD hR;refine(enter (cd ts) (bu hT) Tryz.func212 rfl rfl (by kernel_rfl) rfl ?_ ?_)
 ·simp only[go_sem]
 ·simp only[go_sem,hr,dX,ck,h1,h2,h3,h4,h5];refine ab (hb.mono ?_);clear hb;rintro r H' m1 aN ⟨l1,rfl,x1,k1,b1,rfl,aV,hb⟩;simp only[go_sem];exact⟨l1,rfl,x1,k1,b1,rfl,aV,hb⟩
end
structure REX (ts:List Tk) (i:Nat):Prop where
 bin:∀n,n<=10->sQ ts n i
 un:lV 67 ts nW i
 args:Bj ts i
 round:lV 168 ts gf i
theorem Yv {ts:List Tk} (hT:TsR ts) {i:Nat} (hi:i<=ts.length) (ih:∀j,i<j->j<=ts.length->REX ts j):REX ts i:=by
 have hR:=Tr hT hi fun j h1 h2=>(ih j h1 h2).bin 0 (by decide)
 have hA:=U3 hT hi fun j h1 h2=>(ih j h1 h2).bin 0 (by decide)
 have hO:lV 212 ts nI i:=UU hT hi
  (fun ao hk=>WL hT ao hk (UZ hT ao (fun j h1 h2=>(ih j h1 h2).args) fun j h1 h2=>(ih j (by omega) h2).bin 0 (by decide)) (M6 hT (au _) ao fun j h1 h2=>(ih j h1 h2).args) (ih (i+1) (by omega) ao).round)
  (fun w hw ao=>M6 hT hw ao fun j h1 h2=>(ih j h1 h2).args) hR
 have hP:=UT hT hi hO (fun j h1 h2=>(ih j h1 h2).args) fun j h1 h2=>(ih j h1 h2).bin 0 (by decide)
 have hU:=Tn hT hi hP fun j h1 h2=>(ih j h1 h2).un
 have hN:∀k n,n+k=10->sQ ts n i:=fun k=>by
  induction k with
  |zero=>
   intro n hn;obtain rfl:n=10:=by omega
   exact U2 hT hU
  |succ k ihk=>
   intro n hn;exact WQ hT hi (by omega) (ihk (n+1) (by omega)) fun j h1 h2=>(ih j h1 h2).bin (n+1) (by omega)
 exact⟨fun n hn=>hN (10 - n) n (by omega),hU,hA,hR⟩
theorem M3 {ts:List Tk} (hT:TsR ts):∀(L i:Nat),i<=ts.length->ts.length - i<L->REX ts i
 |0,_,_,h=>absurd h (Nat.not_lt_zero _)
 |L+1,i,hi,h=>Yv hT hi fun j h1 h2=>M3 hT L j h2 (by omega)
theorem xy {ts:List Tk} (hT:TsR ts) {i:Nat} (hi:i<=ts.length):REX ts i:=M3 hT _ i hi (Nat.lt_succ_self _)
abbrev mw (ts:List Tk) (K:PR St) (m:Mem):SV->Hp->Mem->Prop:=fun r H' m' =>an m m' /\H' =⟨[],[]⟩/\∃(x:Sd) (k:Nat) (b:Bool),r= .tup [.agg x.svs,.v (.int .i64 k),.v (.bool b)]/\k<=ts.length/\
 ((b=true/\∃e,K= .ok (e,ts.drop k)/\fu m' e x.cs)\/(b=false/\K= .error (ts.drop k)))
abbrev H7 (ts:List Tk) (K:PR (List St)) (m:Mem):SV->Hp->Mem->Prop:=fun r H' m' =>an m m' /\H' =⟨[],[]⟩/\∃(a:Option Addr) (n c k:Nat) (b:Bool),r= .tup [.v (.slice a n c),.v (.int .i64 k),.v (.bool b)]/\k<=ts.length/\
 ((b=true/\∃es xs,K= .ok (es,ts.drop k)/\n=es.length/\n<=c/\n<=1000001/\aK m' a n 23 xs/\bF m' es xs)\/(b=false/\K= .error (ts.drop k)))
section
variable {ts:List Tk}
theorem qn {K:PR St} {m m' :Mem} (l:an m m') (x:Sd) (k:Nat) (e:St) (hk:k<=ts.length) (hK:K= .ok (e,ts.drop k)) (hx:fu m' e x.cs):mw ts K m (.tup [.agg x.svs,.v (.int .i64 k),.v (.bool true)]) ⟨[],[]⟩ m' :=
 ⟨l,rfl,x,k,true,rfl,hk,.inl ⟨rfl,e,hK,hx⟩⟩
theorem j5 {K:PR St} {m m' :Mem} (l:an m m') (x:Sd) (k:Nat) (hk:k<=ts.length) (hK:K= .error (ts.drop k)):mw ts K m (.tup [.agg x.svs,.v (.int .i64 k),.v (.bool false)]) ⟨[],[]⟩ m' :=
 ⟨l,rfl,x,k,false,rfl,hk,.inr ⟨rfl,hK⟩⟩
def rs:Sd:=⟨0,[],ai,aM,aM,none,0,0,none,0,0⟩
def yb (f:FuncId) (ts:List Tk) (K:List Tk->PR St) (i:Nat):Prop:=∀(a:Option Addr) (c:Nat) (m:Mem),aK m a ts.length 4 (cG ts)->FnH Tryz.prog f [.v (.slice a ts.length c),.v (.int .i64 i)] ⟨[],[]⟩ m (mw ts (K (ts.drop i)) m)
def xt (ts:List Tk) (i:Nat):Prop:=∀(a:Option Addr) (c:Nat) (m:Mem),aK m a ts.length 4 (cG ts)->FnH Tryz.prog 86 [.v (.slice a ts.length c),.v (.int .i64 i)] ⟨[],[]⟩ m (H7 ts (fE (ts.drop i)) m)
abbrev aa8 (ts:List Tk) (x:Sd) (k:Nat) (b:Bool) (m:Mem):SV->Hp->Mem->Prop:=fun r H' m' =>m' =m/\H' =⟨[],[]⟩/\((b=true/\ah ts k [59]=true/\r= .tup [.agg x.svs,.v (.int .i64 ((k:Int)+1)),.v (.bool true)])\/((b=true->ah ts k [59]=false)/\r= .tup [.agg x.svs,.v (.int .i64 k),.v (.bool false)]))
theorem yu (hT:TsR ts) (x:Sd) (k:Nat) (b:Bool) (a:Option Addr) (c:Nat) (m:Mem) (hk:k<=ts.length) (hr:aK m a ts.length 4 (cG ts)):
  FnH Tryz.prog 92 [.v (.slice a ts.length c),.agg x.svs,.v (.int .i64 k),.v (.bool b)] ⟨[],[]⟩ m (aa8 ts x k b m):=by
 have hl:=hT.few;have bq:k<=100000:=by omega
 cases b with
 |false=>
  refine enter (cd ts) (bu hT) Tryz.func92 rfl rfl (by kernel_rfl) rfl ?_ ?_
  ·simp only[go_sem]
  ·simp only[go_sem,false_and];exact⟨rfl,rfl,.inr ⟨fun h=>(by cases h),rfl⟩⟩
 |true=>
  cases h:ah ts k [59] with
  |true=>
   refine enter (cd ts) (bu hT) Tryz.func92 rfl rfl (by kernel_rfl) rfl ?_ ?_
   ·simp only[go_sem]
   ·simp only[go_sem,hr,h,bq];exact⟨rfl,rfl,.inl ⟨rfl,h,rfl⟩⟩
  |false=>
   refine enter (cd ts) (bu hT) Tryz.func92 rfl rfl (by kernel_rfl) rfl ?_ ?_
   ·simp only[go_sem]
   ·simp only[go_sem,hr,h];exact⟨rfl,rfl,.inr ⟨fun _=>h,rfl⟩⟩
theorem Ag (hT:TsR ts) {i:Nat} (hi:i<=ts.length):yb 89 ts vh i:=fun a c m hr=>by
 have hl:=hT.few;unfold vh;have hb:FnH Tryz.prog 35 [.v (.slice a ts.length c),.v (.int .i64 (i:Int)),.v (.int .i64 1)] ⟨[],[]⟩ m (iK ts (cj 0 (ts.drop i)) m):=(xy hT hi).bin 0 (by decide) a c m hr;refine enter (cd ts) (bu hT) Tryz.func89 rfl rfl (by kernel_rfl) rfl ?_ ?_
 ·simp only[go_sem]
 ·simp only[go_sem];refine ab (hb.mono ?_);clear hb;rintro r H' m1 aN ⟨l1,rfl,x1,k1,b1,rfl,aV,⟨rfl,e1,hK,hx1⟩ |⟨rfl,hK⟩⟩
  ·have aS:=aD l1 hr;have bq:k1<=100000:=by omega
   by_cases lu:ah ts k1 [61]=true
   ·have ao:=aJ lu;have hb:FnH Tryz.prog 35 [.v (.slice a ts.length c),.v (.int .i64 ((k1:Int)+1)),.v (.int .i64 1)] ⟨[],[]⟩ m1 (iK ts (cj 0 (ts.drop (k1+1))) m1):=(xy hT ao).bin 0 (by decide) a c m1 aS;simp only[go_sem,aS,bq,lu];refine ab (hb.mono ?_);clear hb;rintro r H' m2 aH ⟨l2,rfl,x2,k2,b2,rfl,b8,hb⟩;have bJ:=aD (aa l1 l2) hr;have j3:=yu hT ⟨2,[],ai,x1,x2,none,0,0,none,0,0⟩ k2 b2 a c m2 b8 bJ;simp only[go_sem];refine ab (j3.mono ?_);clear j3;rintro r H' m3 bN ⟨rfl,rfl,⟨rfl,da,rfl⟩ |⟨da,rfl⟩⟩
    ·simp only[go_sem];rcases hb with ⟨_,e2,hK2,hx2⟩ |⟨h,_⟩
     ·exact qn (aa l1 l2) ⟨2,[],ai,x1,x2,none,0,0,none,0,0⟩ (k2+1) (.mk 2 [] ai e1 e2 [] []) (aJ da) (by rw[bz hK,eI lu,List.tail_drop,bz hK2,gI da]) (iX (body:=[]) (alt:=[]) ⟨by decide,by decide⟩ (au _) cI (aZ l2 hx1) hx2 (au _) (aq _) (cX _ _) (dN _ _) (au _) (aq _) (cX _ _) (dN _ _))
     ·cases h
    ·simp only[go_sem];refine j5 (aa l1 l2) ⟨2,[],ai,x1,x2,none,0,0,none,0,0⟩ k2 b8 ?_;rw[bz hK,eI lu,List.tail_drop];rcases hb with ⟨rfl,e2,hK2,hx2⟩ |⟨_,hK2⟩
     ·rw[bz hK2,gJ (da rfl)]
     ·rw[cV hK2]
   ·have lu:=bK lu;have j3:=yu hT ⟨3,[],ai,aM,x1,none,0,0,none,0,0⟩ k1 true a c m1 aV aS;simp only[go_sem,aS,bq,lu];refine ab (j3.mono ?_);clear j3;rintro r H' m3 bN ⟨rfl,rfl,⟨_,da,rfl⟩ |⟨da,rfl⟩⟩
    ·simp only[go_sem];exact qn l1 ⟨3,[],ai,aM,x1,none,0,0,none,0,0⟩ (k1+1) (.mk 3 [] ai zE e1 [] []) (aJ da) (by rw[bz hK,aT lu,gI da]) (iX (body:=[]) (alt:=[]) ⟨by decide,by decide⟩ (au _) cI eA hx1 (au _) (aq _) (cX _ _) (dN _ _) (au _) (aq _) (cX _ _) (dN _ _))
    ·simp only[go_sem];exact j5 l1 ⟨3,[],ai,aM,x1,none,0,0,none,0,0⟩ k1 aV (by rw[bz hK,aT lu,gJ (da rfl)])
  ·simp only[go_sem];exact j5 l1 rs k1 aV (cV hK)
end
noncomputable def sj (kd:Int) (l:List Tk):PR St:=av (gf l) fun e r=>av (fE r) fun b r2=>if kd=4/\aC sq r2=true then av (fE r2.tail) fun a r3=> .ok (.mk kd [] ai zE e b a,r3) else .ok (.mk kd [] ai zE e b [],r2)
section
variable {ts:List Tk}
theorem Gb (hT:TsR ts) {i:Nat} (hi:i<=ts.length):yb 88 ts ze i:=fun a c m hr=>by
 have hl:=hT.few;unfold ze;have hb:=Af a c i m hT hi hr;refine enter (cd ts) (bu hT) Tryz.func88 rfl rfl (by kernel_rfl) rfl ?_ ?_
 ·simp only[go_sem]
 ·simp only[go_sem];refine ab (hb.mono ?_);clear hb;rintro r H' m1 aN ⟨l1,rfl,t,k1,b1,rfl,aV,cZ,⟨rfl,hK⟩ |⟨rfl,hK⟩⟩
  ·have aS:=aD l1 hr;have bq:k1<=100000:=by omega
   have hs:=hT.toTsB.cs k1;by_cases hid:eY (ts.drop k1)=true
   ·have ao:=tG hid;by_cases lu:ah ts (k1+1) [61]=true
    ·have cA:=aJ lu;have hb:FnH Tryz.prog 35 [.v (.slice a ts.length c),.v (.int .i64 ((k1:Int)+2)),.v (.int .i64 1)] ⟨[],[]⟩ m1 (iK ts (cj 0 (ts.drop (k1+2))) m1):=(xy hT cA).bin 0 (by decide) a c m1 aS;simp only[go_sem,aS,bq,hid,lu];refine ab (hb.mono ?_);clear hb;rintro r H' m2 aH ⟨l2,rfl,x2,k2,b2,rfl,b8,hb⟩;have bJ:=aD (aa l1 l2) hr;have j3:=fun m' (h:an m2 m')=>yu hT ⟨1,(aO ts k1).s,t,aM,x2,none,0,0,none,0,0⟩ k2 b2 a c m' b8 (aD h bJ)
     simp only[go_sem];refine cg (.hoist 0 (.hoist 1 (.hoist 2 (.hoist 3 (.hoist 4 (.hoist 5 (.hoist 6 (.hoist 7 (.hoist 8 (.hoist 9 (.hoist 10 (.alt 11 [] (.hoist 12 (.hoist 13 (.hoist 14 (.alt 15 [] (.hoist 16 (.hoist 17 .done)) .stop)))) .stop)))))))))))) (bu hT) (by kernel_rfl) (by kernel_rfl) ?_;simp only[go_sem,lL bJ ao,gh bJ ao,eX bJ ao];refine ab ((j3 m2 (.inl rfl)).mono ?_);clear j3;rintro r H' m3 bN ⟨rfl,rfl,⟨rfl,da,rfl⟩ |⟨da,rfl⟩⟩
     ·simp only[go_sem];rcases hb with ⟨_,e2,hK2,hx2⟩ |⟨h,_⟩
      ·exact qn (aa l1 l2) ⟨1,(aO ts k1).s,t,aM,x2,none,0,0,none,0,0⟩ (k2+1) (.mk 1 (aO ts k1).s t zE e2 [] []) (aJ da) (by rw[bz hK,bz (rO hid),gI lu,bz hK2,gI da]) (iX (body:=[]) (alt:=[]) ⟨by decide,by decide⟩ hs (cZ.ok (by omega)) eA hx2 (au _) (aq _) (cX _ _) (dN _ _) (au _) (aq _) (cX _ _) (dN _ _))
      ·cases h
     ·simp only[go_sem];refine j5 (aa l1 l2) ⟨1,(aO ts k1).s,t,aM,x2,none,0,0,none,0,0⟩ k2 b8 ?_;rw[bz hK,bz (rO hid),gI lu];rcases hb with ⟨rfl,e2,hK2,hx2⟩ |⟨_,hK2⟩
      ·rw[bz hK2,gJ (da rfl)]
      ·rw[cV hK2]
    ·have lu:=bK lu;simp only[go_sem,aS,bq,hid,lu];exact j5 l1 rs (k1+1) ao (by rw[bz hK,bz (rO hid),gJ lu])
   ·have hid:=bK hid;simp only[go_sem,aS,bq,hid];exact j5 l1 rs k1 aV (by rw[bz hK,cV (vU hid)])
  ·simp only[go_sem];exact j5 l1 rs k1 aV (cV hK)
theorem Gc (hT:TsR ts) {i:Nat} {kd:Int} (hkd:az kd) (hi:i<=ts.length) (hB:∀j,i<j->j<=ts.length->xt ts j) (a:Option Addr) (c:Nat) (m:Mem) (hr:aK m a ts.length 4 (cG ts)):
  FnH Tryz.prog 90 [.v (.slice a ts.length c),.v (.int .i64 i),.v (.int .i64 kd)] ⟨[],[]⟩ m (mw ts (sj kd (ts.drop i)) m):=by
 have hl:=hT.few;generalize hK0:sj kd (ts.drop i)=K0
 unfold sj at hK0;have gP:Good true (ts.drop i) (gf (ts.drop i)):=(kH _).paren.good;have hb:FnH Tryz.prog 168 [.v (.slice a ts.length c),.v (.int .i64 (i:Int))] ⟨[],[]⟩ m (iK ts (gf (ts.drop i)) m):=(xy hT hi).round a c m hr;refine enter (cd ts) (bu hT) Tryz.func90 rfl rfl (by kernel_rfl) rfl ?_ ?_
 ·simp only[go_sem]
 ·simp only[go_sem];refine ab (hb.mono ?_);clear hb;rintro r H' m1 aN ⟨l1,rfl,x1,k1,b1,rfl,aV,⟨rfl,e1,hK,hx1⟩ |⟨rfl,hK⟩⟩
  ·have aS:=aD l1 hr;have cA:i<k1:=kX gP hK aV;have hb:=hB k1 cA aV a c m1 aS;simp only[go_sem];refine ab (hb.mono ?_);clear hb;rintro r H' m2 aH ⟨l2,rfl,a2,n2,c2,k2,b2,rfl,b8,⟨rfl,es,xs,hK2,rfl,bl,hn,hxr,j7⟩ |⟨rfl,hK2⟩⟩
   ·have L2:=aa l1 l2;have bJ:=aD L2 hr;have bq:k2<=100000:=by omega
    have ep:k1<k2:=kX (pQ _).block.good hK2 b8;by_cases h4:kd=4
    ·by_cases uD:ah ts k2 [101,108,115,101]=true
     ·have ao:=aJ uD;have zr:kd=4/\aC sq (ts.drop k2)=true:=⟨h4,by rw[<- ar];exact uD⟩;rw[bz hK,bz hK2,aj zr,List.tail_drop] at hK0;have hb:FnH Tryz.prog 86 [.v (.slice a ts.length c),.v (.int .i64 ((k2:Int)+1))] ⟨[],[]⟩ m2 (H7 ts (fE (ts.drop (k2+1))) m2):=hB (k2+1) (by omega) ao a c m2 bJ;clear hB;subst h4;simp only[go_sem,bJ,bq,uD,not_true_eq_false];refine ab (hb.mono ?_);clear hb;rintro r H' m3 bN ⟨l3,rfl,a3,n3,c3,k3,b3,rfl,xO,hb⟩;simp only[go_sem];rcases hb with ⟨rfl,es3,xs3,hK3,rfl,hcp3,zN,hxr3,hxs3⟩ |⟨rfl,hK3⟩
      ·exact qn (aa L2 l3) ⟨4,[],ai,aM,x1,a2,es.length,c2,a3,es3.length,c3⟩ k3 (.mk 4 [] ai zE e1 es es3) xO (by rw[<- hK0,bz hK3]) (iX ⟨by decide,by decide⟩ (au _) cI eA (aZ (aa l2 l3) hx1) hn bl (aD l3 hxr) (nN l3 j7) zN hcp3 hxr3 hxs3)
      ·exact j5 (aa L2 l3) ⟨4,[],ai,aM,x1,a2,es.length,c2,a3,n3,c3⟩ k3 xO (by rw[<- hK0,cV hK3])
     ·have uD:=bK uD;have ac2:¬(kd=4/\aC sq (ts.drop k2)=true):=fun h=>by
       have h2:=h.2;rw[<- ar,show ah ts k2 sq=false from uD] at h2;cases h2
      rw[bz hK,bz hK2,ae ac2] at hK0;clear hB;subst h4;simp only[go_sem,bJ,bq,uD,not_true_eq_false];exact qn L2 ⟨4,[],ai,aM,x1,a2,es.length,c2,none,0,0⟩ k2 (.mk 4 [] ai zE e1 es []) b8 hK0.symm (iX (alt:=[]) ⟨by decide,by decide⟩ (au _) cI eA (aZ l2 hx1) hn bl hxr j7 (au _) (aq _) (cX _ _) (dN _ _))
    ·clear hB;have h4' :(kd=4)=False:=eq_false h4;simp only[go_sem,bJ,bq,h4',not_false_eq_true,false_and];exact qn L2 ⟨kd,[],ai,aM,x1,a2,es.length,c2,none,0,0⟩ k2 (.mk kd [] ai zE e1 es []) b8 (by rw[<- hK0,bz hK,bz hK2,ae (fun h=>h4 h.1)]) (iX (alt:=[]) hkd (au _) cI eA (aZ l2 hx1) hn bl hxr j7 (au _) (aq _) (cX _ _) (dN _ _))
   ·simp only[go_sem];exact j5 (aa l1 l2) rs k2 b8 (by rw[<- hK0,bz hK,cV hK2])
  ·simp only[go_sem];exact j5 l1 rs k1 aV (by rw[<- hK0,cV hK])
theorem Tq (hT:TsR ts) {i:Nat} (hi:i<=ts.length) (ew:xt ts i) (hB:∀j,i<j->j<=ts.length->xt ts j):yb 91 ts Bo i:=fun a c m hr=>by
 have hl:=hT.few;generalize hK0:Bo (ts.drop i)=K0
 unfold Bo at hK0;have gB:Good true (ts.drop i) (fE (ts.drop i)):=(pQ _).block.good;have hb:=ew a c m hr;refine enter (cd ts) (bu hT) Tryz.func91 rfl rfl (by kernel_rfl) rfl ?_ ?_
 ·simp only[go_sem]
 ·simp only[go_sem];refine ab (hb.mono ?_);clear hb;rintro r H' m1 aN ⟨l1,rfl,a1,n1,c1,k1,b1,rfl,aV,⟨rfl,es,xs,hK,rfl,bl,hn,hxr,j7⟩ |⟨rfl,hK⟩⟩
  ·have aS:=aD l1 hr;have bq:k1<=100000:=by omega
   have PB:i<k1:=kX gB hK aV;rw[bz hK] at hK0;by_cases kR:ah ts k1 [99,97,116,99,104]=true
   ·have ao:=aJ kR;rw[gI (show ah ts k1 oe=true from kR)] at hK0;by_cases db:ah ts (k1+1) [40]=true
    ·have cA:=aJ db;rw[gI db] at hK0;have hb:FnH Tryz.prog 69 [.v (.slice a ts.length c),.v (.int .i64 ((k1:Int)+2))] ⟨[],[]⟩ m1 _:=Af a c (k1+2) m1 hT cA aS;simp only[go_sem,aS,bq,kR,db];refine ab (hb.mono ?_);clear hb;rintro r H' m2 aH ⟨l2,rfl,t,k2,b2,rfl,b8,cZ,⟨rfl,hK2⟩ |⟨rfl,hK2⟩⟩
     ·have L2:=aa l1 l2;have bJ:=aD L2 hr;have lr:k2<=100000:=by omega
      have ep:k1+2<k2:=kX (Au _) hK2 b8;have hs:=hT.toTsB.cs k2;rw[bz hK2] at hK0;by_cases hid:eY (ts.drop k2)=true
      ·have lQ:=tG hid;rw[bz (rO hid)] at hK0;by_cases uJ:ah ts (k2+1) [41]=true
       ·have Ik:=aJ uJ;rw[gI uJ] at hK0;have hb:FnH Tryz.prog 86 [.v (.slice a ts.length c),.v (.int .i64 ((k2:Int)+2))] ⟨[],[]⟩ m2 (H7 ts (fE (ts.drop (k2+2))) m2):=hB (k2+2) (by omega) Ik a c m2 bJ;clear hB ew;simp only[go_sem,bJ,lr,hid];refine cg (.hoist 0 (.hoist 1 (.hoist 2 (.hoist 3 (.hoist 4 (.hoist 5 (.hoist 6 (.hoist 7 (.alt 8 [7,6,5,4,3,2,1,0] (.alt 9 [] .done .stop) .stop))))))))) (bu hT) (by kernel_rfl) (by kernel_rfl) ?_;simp only[go_sem,bJ,lr,uJ,lL bJ lQ,gh bJ lQ,eX bJ lQ];refine ab (hb.mono ?_);clear hb;rintro r H' m3 bN ⟨l3,rfl,a3,n3,c3,k3,b3,rfl,xO,hb⟩;simp only[go_sem];rcases hb with ⟨rfl,es3,xs3,hK3,rfl,hcp3,zN,hxr3,hxs3⟩ |⟨rfl,hK3⟩
        ·exact qn (aa L2 l3) ⟨8,(aO ts k2).s,t,aM,aM,a1,es.length,c1,a3,es3.length,c3⟩ k3 (.mk 8 (aO ts k2).s t zE zE es es3) xO (by rw[<- hK0,bz hK3]) (iX ⟨by decide,by decide⟩ hs (cZ.ok (by omega)) eA eA hn bl (aD (aa l2 l3) hxr) (nN (aa l2 l3) j7) zN hcp3 hxr3 hxs3)
        ·exact j5 (aa L2 l3) ⟨8,(aO ts k2).s,t,aM,aM,a1,es.length,c1,a3,n3,c3⟩ k3 xO (by rw[<- hK0,cV hK3])
       ·have uJ:=bK uJ;clear hB ew;simp only[go_sem,bJ,lr,hid];refine cg (.hoist 0 (.hoist 1 (.hoist 2 (.hoist 3 (.hoist 4 (.hoist 5 (.hoist 6 (.hoist 7 (.alt 8 [7,6,5,4,3,2,1,0] (.alt 9 [] .done .stop) .stop))))))))) (bu hT) (by kernel_rfl) (by kernel_rfl) ?_;simp only[go_sem,bJ,lr,uJ,lL bJ lQ,gh bJ lQ,eX bJ lQ];exact j5 L2 ⟨8,(aO ts k2).s,t,aM,aM,a1,es.length,c1,none,0,0⟩ (k2+1) lQ (by rw[<- hK0,gJ uJ])
      ·have hid:=bK hid;simp only[go_sem,bJ,lr,hid];exact j5 L2 rs k2 b8 (by rw[<- hK0,cV (vU hid)])
     ·simp only[go_sem,false_and];exact j5 (aa l1 l2) rs k2 b8 (by rw[<- hK0,cV hK2])
    ·have db:=bK db;simp only[go_sem,aS,bq,kR,db];exact j5 l1 rs (k1+1) ao (by rw[<- hK0,gJ db])
   ·have kR:=bK kR;simp only[go_sem,aS,bq,kR];exact j5 l1 rs k1 aV (by rw[<- hK0,gJ (show ah ts k1 oe=false from kR)])
  ·simp only[go_sem,false_and];exact j5 l1 rs k1 aV (by rw[<- hK0,cV hK])
end
section
variable {ts:List Tk}
abbrev adU (ts:List Tk) (i:Nat) (K:PR (List St)) (m:Mem):SV->Hp->Mem->Prop:=fun r H' m' =>an m m' /\H' =⟨[],[]⟩/\∃(a:Option Addr) (n c k:Nat) (b:Bool),r= .tup [.v (.slice a n c),.v (.int .i64 k),.v (.bool b)]/\k<=ts.length/\
 ((b=true/\∃es xs,K= .ok (es,ts.drop k)/\n=es.length/\n<=c/\n<=1000001/\aK m' a n 23 xs/\bF m' es xs/\i+es.length<=k)\/(b=false/\K= .error (ts.drop k)/\n=0))
def Pm (ts:List Tk) (i:Nat):Prop:=∀(a:Option Addr) (c:Nat) (m:Mem),aK m a ts.length 4 (cG ts)->FnH Tryz.prog 86 [.v (.slice a ts.length c),.v (.int .i64 i)] ⟨[],[]⟩ m (adU ts i (fE (ts.drop i)) m)
theorem LY (hT:TsR ts) {i:Nat} (hi:i<=ts.length) (hS:∀j,i<j->j<=ts.length->yb 39 ts pY j):Pm ts i:=fun a c m hr=>by
 have hl:=hT.few;have ck:i<=100000:=by omega
 generalize hK0:fE (ts.drop i)=K0
 rw[LB] at hK0;cases h1:ah ts i [123] with
 |false=>
  refine enter (cd ts) (bu hT) Tryz.func86 rfl rfl (by kernel_rfl) rfl ?_ ?_
  ·simp only[go_sem]
  ·simp only[go_sem,hr,h1];exact⟨.inl rfl,rfl,none,0,0,i,false,rfl,hi,.inr ⟨rfl,by rw[<- hK0,gJ h1],rfl⟩⟩
 |true=>
  have ao:=aJ h1;rw[gI h1] at hK0;refine iA (enter (cd ts) (bu hT) Tryz.func86 rfl rfl (by kernel_rfl) rfl ?_ ?_)
  ·simp only[go_sem]
  ·simp only[go_sem,hr,h1,ck];refine pO 7 73 23 (by decide) rfl ?_;refine cO (bu hT) (fun y:Nat×List St×List Value×Nat×Mem=>⟨[⟨0,[],.v (.slice a ts.length c)⟩,⟨1,[],.v (.int .i64 y.1)⟩,⟨7,[],.vec 0 y.2.2.2.1⟩],[],[],[⟨0,y.2.2.2.1,73,23,y.2.1.length,y.2.2.1⟩],40,y.2.2.2.2⟩)
    (fun y=>an m y.2.2.2.2/\y.1<=ts.length/\i<y.1/\i+1+y.2.1.length<=y.1/\y.2.2.1.length=y.2.1.length * 23/\bF y.2.2.2.2 y.2.1 y.2.2.1/\yO y.2.1 (ts.drop y.1)=K0)
    (fun y=>ts.length - y.1) (i+1,[],[],0,m) (fun _ _=>dL rfl) (fun y hy=>hy.1) ?_ ?_ ?_
   ·simp only[go_sem];exact rfl
   ·exact⟨.inl rfl,ao,Nat.lt_succ_self i,aq _,rfl,dN _ _,hK0⟩
   ·rintro⟨k,es,xs,u,mm⟩ ⟨q1,q2,q2',q3,q4,q5,q6⟩;dsimp only at q1 q2 q2' q3 q4 q5 q6;have ed:=aD q1 hr;have bq:k<=100000:=by omega
    rw[F7] at q6;by_cases h2:ah ts k [125]=true
    ·rw[eI h2,List.tail_drop] at q6;simp only[go_sem,ed,h2,bq];exact wH (b:=⟨0,u,73,23,es.length,xs⟩) (by simp only[cN,if_true]) fun a c m2 w1 w2 w3=>⟨aa q1 (.inr w1),rfl,a,es.length,c,k+1,true,rfl,aJ h2,.inl ⟨rfl,es,xs,q6.symm,rfl,w2,by omega,w3,nN (.inr w1) q5,by omega⟩⟩
    ·have h2:=bK h2;rw[aT h2] at q6;have hb:=hS k q2' q2 a c mm ed;have gS:Good true (ts.drop k) (pY (ts.drop k)):=(pQ _).stmt.good;clear hS;simp only[go_sem,ed,h2,bq];refine ab (hb.mono ?_);clear hb;rintro r H' m1 aN ⟨l1,rfl,x1,k1,b1,rfl,aV,⟨rfl,e1,hK1,hx1⟩ |⟨rfl,hK1⟩⟩
     ·have ep:k<k1:=kX gS hK1 aV;rw[bz hK1] at q6;have hrr:room (es.length+1) 312:=fK (by omega) (by decide);simp only[go_sem,hrr];refine⟨(k1,es++[e1],xs++x1.cs,u+1,m1),⟨⟨rfl,rfl⟩,⟨rfl,by simp,rfl⟩,.inl rfl⟩,⟨aa q1 l1,aV,by dsimp only;omega,by simp only[bM,fr];omega,by simp [q4,Sd.cs,Nat.add_mul],De hx1 q4 (nN l1 q5),q6⟩,by dsimp only;omega⟩
     ·simp only[go_sem];exact .inl ⟨aa q1 l1,rfl,none,0,0,k1,false,rfl,aV,.inr ⟨rfl,by rw[<- q6,cV hK1],rfl⟩⟩
theorem Tx (hT:TsR ts) {i:Nat} (hi:i<=ts.length) (hS:∀j,i<j->j<=ts.length->yb 39 ts pY j):xt ts i:=fun a c m hr=>by
 refine(LY hT hi hS a c m hr).mono ?_;rintro r H' m1 _ ⟨l1,h1,a1,n1,c1,k1,b1,h2,h3,⟨h4,es,xs,h5,h6,h7,h8,h9,wc,_⟩ |⟨h4,h5,_⟩⟩
 ·exact⟨l1,h1,a1,n1,c1,k1,b1,h2,h3,.inl ⟨h4,es,xs,h5,h6,h7,h8,h9,wc⟩⟩
 ·exact⟨l1,h1,a1,n1,c1,k1,b1,h2,h3,.inr ⟨h4,h5⟩⟩
end
end Go.Proofs.YtimddhkipjedcaaGreatDoor.E

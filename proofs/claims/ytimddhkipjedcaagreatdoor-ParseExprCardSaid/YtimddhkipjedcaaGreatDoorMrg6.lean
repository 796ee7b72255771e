/- Several texts in one. -/
import Derived.Test.YtimddhkipjedcaaGreatDoorMrg5
set_option linter.unusedSimpArgs false
set_option linter.unusedVariables false
set_option maxHeartbeats 4000000
set_option maxRecDepth 20000
namespace Go.Proofs.YtimddhkipjedcaaGreatDoor.E
open Go
@[reducible] def wx (k:Nat):Bx:=⟨k,59,[.v (.int .i64 0),.v (.string (bs [])),.v (.string (bs [])),.v (.slice none 0 0),.v (.slice none 0 0),.v (.slice none 0 0),.v (.slice none 0 0)]⟩
@[reducible] def Py (v:Int):Bx:=⟨10,59,[.v (.int .i64 v),.v (.string (bs [])),.v (.string (bs [])),.v (.slice none 0 0),.v (.slice none 0 0),.v (.slice none 0 0),.v (.slice none 0 0)]⟩
@[reducible] def Po (v:Int) (n sp:List UInt8) (is:Value):Bx:=⟨10,59,[.v (.int .i64 v),.v (.string (bs n)),.v (.string (bs sp)),.v is,.v (.slice none 0 0),.v (.slice none 0 0),.v (.slice none 0 0)]⟩
@[reducible] def dB (y:DSt):Bx:=⟨10,59,[.v (.int .i64 y.d.fl),.v (.string (bs y.d.name)),.v (.string (bs y.d.super)),.v (.slice y.ia y.d.ifs.length y.ic),.vec 102 y.uf,.vec 103 y.um,.vec 104 y.ui]⟩
@[reducible] def fV (y:DSt):Vc:=⟨102,y.uf,94,5,y.d.fields.length,flat Fc.cs y.d.fields⟩
@[reducible] def mV (y:DSt):Vc:=⟨103,y.um,98,8,y.d.methods.length,y.ms⟩
@[reducible] def iV (y:DSt):Vc:=⟨104,y.ui,73,23,y.d.init.length,y.is⟩
attribute [go_sem] wx Py Po dB fV mV iV
theorem LY:∀fl:Int,0<=fl->fl<2->bits .or .i64 fl 1536=fl+1536:=fun fl h0 h1=>by
 have h:(List.range 2).all (fun n=>decide (bits .or .i64 (n:Int) 1536=(n:Int)+1536))=true:=by kernel_rfl
 obtain⟨k,rfl⟩:=Int.eq_ofNat_of_zero_le h0;exact of_decide_eq_true (List.all_eq_true.1 h k (List.mem_range.2 (by omega)))
abbrev Cc.svs (x:Cc):List SV:=[.v (.int .i64 x.fl),.v (.string (bs x.name)),.v (.string (bs x.super)),.v (.slice x.ia x.il x.ic),.v (.slice x.fa x.fn x.fc),.v (.slice x.ma x.ml x.mc),.v (.slice x.sa x.sl x.sc)]
attribute [go_sem] Cc.svs
abbrev acg (ts:List Tk) (en:Int) (s:PSt) (K:PR Cd) (m:Mem):SV->Hp->Mem->Prop:=fun r H' m' =>ak m m' /\∃(x:Cc) (d:Cd) (s' :PSt),r= .agg x.svs/\lK m' d x.cs/\H' =pH ts en s' /\Res ts en s K d s'
structure HdR (ts:List Tk) (en:Int) (s:PSt) (m:Mem) (s1:PSt) (v:Int) (nm sp:List UInt8) (is:List (List UInt8)) (ia:Option Addr) (ic:Nat):Prop where
 inv:Inv ts s1
 fl:0<=v/\v<4096
 hn:nm.length<=1000000
 hs:sp.length<=1000000
 il:is.length<=1000001
 ic:is.length<=ic
 ir:aM m ia is.length 1 (strs is)
 iw:∀w∈is,w.length<=1000000
 res:∀(a:Cd) (s' :PSt),Res ts en s1 (aR [123] (ts.drop s1.i) fun r=> .ok (⟨v,nm,sp,is,[],[],[]⟩,r)) a s' ->Res ts en s (mA (ts.drop s.i)) a s'
section
variable {ts:List Tk} {en:Int} {s:PSt}
theorem SH (hT:TsB ts) (hI:Inv ts s) (m:Mem):FnH Tryz.prog 26 [.box 0 0] (pH ts en s) m (acg ts en s (BA (ts.drop s.i)) m):=by
 have hl:=hT.len;refine jv (jv (jv (Nr Tryz.func26 rfl rfl (dO rfl) ?_ ?_)))
 ·simp only[go_sem]
 ·refine CT (fun _:Unit=>⟨[⟨0,[],.box 0 0⟩,⟨2,[],.box 2 0⟩],[],[wx 2,lu en s],[jJ ts],10,m⟩) (fun _=>True) (fun _ _=>dO rfl) (fun _ _=> .inl rfl) (fun _=> ?_) (pQ aw (by kernel_rfl) ?_) fun _ _=> ?_
  ·simp only[go_sem]
  ·simp only[go_sem];exact⟨(),trivial⟩
  ·refine CT (fun _:Unit=>⟨[⟨0,[],.box 0 0⟩,⟨2,[],.box 2 0⟩,⟨3,[],.box 10 0⟩],[],[wx 10,wx 2,lu en s],[jJ ts],20,m⟩) (fun _=>True) (fun _ _=>dO rfl) (fun _ _=> .inl rfl) (fun _=> ?_) (pQ aw (by kernel_rfl) ?_) fun _ _=> ?_
   ·simp only[go_sem]
   ·simp only[go_sem];exact⟨(),trivial⟩
   ·refine CT (fun y:PSt×Int×Mem=>⟨[⟨0,[],.box 0 0⟩,⟨2,[],.box 2 0⟩,⟨3,[],.box 10 0⟩],[],[Py y.2.1,wx 2,lu en y.1],[jJ ts],40,y.2.2⟩) (fun y=>ak m y.2.2/\(0<=y.2.1/\y.2.1<2)/\ModR ts iY 0 s y.2.1 y.1) (fun _ _=>dO rfl) (fun y hy=>hy.1) (fun _=> ?_) (pQ aw (by kernel_rfl) ?_) ?_
    ·simp only[go_sem]
    ·by_cases hc:ai ts s.i N4=true
     ·have ha:=cZ (en:=en) hT hc;have hi:=aN hc;simp only[go_sem];refine ab ((ha m).mono ?_);clear ha;rintro r H' m1 aJ ⟨l1,rfl,rfl⟩;simp only[go_sem];exact⟨(s.next,1,m1),⟨⟨rfl,⟨rfl,rfl,rfl⟩⟩,.inl rfl⟩,l1,⟨(by decide:(0:Int)<=1),(by decide:(1:Int)<2)⟩,⟨hI.next hi,Nat.le_succ _,rfl,fun h=>(by rw[hI.nfl hi] at h;cases h),by rw[iY,fp,ah (by rw[<- an];exact hc),<- bk];rfl⟩⟩
     ·have ha:=da (en:=en) hT hc;simp only[go_sem];refine ab ((ha m).mono ?_);clear ha;rintro r H' m1 aJ ⟨l1,rfl,rfl⟩;simp only[go_sem];exact⟨(s,0,m1),⟨⟨rfl,⟨rfl,rfl,rfl⟩⟩,.inl rfl⟩,l1,⟨(by decide:(0:Int)<=0),(by decide:(0:Int)<2)⟩,⟨hI,aq _,rfl,fun _=>rfl,by rw[iY,fp,ae (by rw[<- an];exact hc)];rfl⟩⟩
    ·rintro⟨s1,v,m1⟩ ⟨q1,⟨q2,q3⟩,hM⟩;dsimp only at q1 q2 q3 hM;refine CT (fun y:PSt×Int×List UInt8×List UInt8×List (List UInt8)×Option Addr×Nat×Mem=>⟨[⟨0,[],.box 0 0⟩,⟨2,[],.box 2 0⟩,⟨3,[],.box 10 0⟩],[],[Po y.2.1 y.2.2.1 y.2.2.2.1 (.slice y.2.2.2.2.2.1 y.2.2.2.2.1.length y.2.2.2.2.2.2.1),wx 2,lu en y.1],[jJ ts],100,y.2.2.2.2.2.2.2⟩)
      (fun y=>ak m1 y.2.2.2.2.2.2.2/\HdR ts en s y.2.2.2.2.2.2.2 y.1 y.2.1 y.2.2.1 y.2.2.2.1 y.2.2.2.2.1 y.2.2.2.2.2.1 y.2.2.2.2.2.2.1) (fun _ _=>dO rfl) (fun y hy=>hy.1) (fun _=> ?_) (pQ aw (by kernel_rfl) ?_) ?_
     ·simp only[go_sem]
     ·simp only[go_sem];have dW:=NH v q2 (by omega);have o1:=F7 v q2 (by omega);have o2:=F7 (v+16) (by omega) (by omega);have o3:=LY v q2 q3;by_cases hc10:ai ts (s1).i G6=true
      ·have A3:=fun m' =>cZ (en:=en) hT hc10 m'
       refine ab ((A3 m1).mono ?_);clear A3;rintro r H' m2 aG ⟨l2,rfl,rfl⟩;simp only[go_sem,dW,o1,o2,o3];have abD:=hM.inv.next (aN hc10);have aeD:(s1).next.i=(s1).i+1:=rfl;try rw[LY v q2 q3]
       have OF:=fun m' =>n9 ts en (s1).next m' hT abD
       refine ab ((OF m2).mono ?_);clear OF;rintro r H' m3 bu ⟨l3,w12,rH,rfl,hw12,rfl,hR12⟩;simp only[go_sem,dW,o1,o2,o3];have aeC:=hR12.mono;by_cases hc13:ai ts (rH).i iG=true
       ·have A1:=fun m' =>cZ (en:=en) hT hc13 m'
        refine ab ((A1 m3).mono ?_);clear A1;rintro r H' m4 dc ⟨l4,rfl,rfl⟩;simp only[go_sem,dW,o1,o2,o3];have abC:=hR12.inv.next (aN hc13);have aeA:(rH).next.i=(rH).i+1:=rfl;have nS:=fun m' =>yU (s:=(rH).next) (en:=en) hT abC m'
        refine ab ((nS m4).mono ?_);clear nS;rintro r H' m5 b9 ⟨l5,l1015,a15,BD,s15,rfl,ha15,hb15,hc15,hd15,rfl,hR15⟩;simp only[go_sem,dW,o1,o2,o3];have NU:=hR15.mono;exact⟨(s15,v+1536,w12,jX,l1015,a15,BD,m5),⟨⟨⟨rfl,rfl,rfl,rfl⟩,⟨rfl,rfl,rfl⟩⟩,.inl rfl⟩,(aa l2 (aa l3 (aa l4 l5))),⟨hR15.inv,(by constructor<;>omega:(0:Int)<=v+1536/\v+1536<4096),hw12,(by decide:jX.length<=1000000),hb15,ha15,hc15,hd15,fun a s' h=>(by unfold mA;rw[hM.val];exact iK hM (by dsimp only;rw[ah (by rw[<- an];exact hc10),<- bk];exact bt hM.inv (aN hc10) (aO hR12 (aO (show Res ts en (rH) (iF iG (ts.drop (rH).i)) l1015 s15 from by unfold iF;rw[ah (by rw[<- an];exact hc13),<- bk];exact bt hR12.inv (aN hc13) hR15) h))))⟩⟩
       ·have A1:=fun m' =>da (en:=en) hT hc13 m'
        refine ab ((A1 m3).mono ?_);clear A1;rintro r H' m4 dc ⟨l4,rfl,rfl⟩;simp only[go_sem,dW,o1,o2,o3];exact⟨(rH,v+1536,w12,jX,[],none,0,m4),⟨⟨⟨rfl,rfl,rfl,rfl⟩,⟨rfl,rfl,rfl⟩⟩,.inl rfl⟩,(aa l2 (aa l3 l4)),⟨hR12.inv,(by constructor<;>omega:(0:Int)<=v+1536/\v+1536<4096),hw12,(by decide:jX.length<=1000000),au _,aq _,cv _ _,fun w hw=>(by cases hw),fun a s' h=>(by unfold mA;rw[hM.val];exact iK hM (by dsimp only;rw[ah (by rw[<- an];exact hc10),<- bk];exact bt hM.inv (aN hc10) (aO hR12 (aO (show Res ts en (rH) (iF iG (ts.drop (rH).i)) [] (rH) from by unfold iF;rw[ae (by rw[<- an];exact hc13)];exact bI _ hR12.inv) h))))⟩⟩
      ·have A3:=fun m' =>da (en:=en) hT hc10 m'
       refine ab ((A3 m1).mono ?_);clear A3;rintro r H' m2 aG ⟨l2,rfl,rfl⟩;simp only[go_sem,dW,o1,o2,o3];by_cases hc12:ai ts (s1).i On=true
       ·have A2:=fun m' =>cZ (en:=en) hT hc12 m'
        refine ab ((A2 m2).mono ?_);clear A2;rintro r H' m3 bu ⟨l3,rfl,rfl⟩;simp only[go_sem,dW,o1,o2,o3];have wm:=hM.inv.next (aN hc12);have aeB:(s1).next.i=(s1).i+1:=rfl;by_cases hc14:ai ts ((s1).next).i Hr=true
        ·have nS:=fun m' =>cZ (en:=en) hT hc14 m'
         refine ab ((nS m3).mono ?_);clear nS;rintro r H' m4 dc ⟨l4,rfl,rfl⟩;simp only[go_sem,dW,o1,o2,o3];have sX:=wm.next (aN hc14);have NU:((s1).next).next.i=((s1).next).i+1:=rfl;have qC:=fun m' =>ee ts en ((s1).next).next kM m' hT.l8
         have wk:Inv ts (aQ ts en ((s1).next).next kM):=eo sX;have GR:(((s1).next).next).i<=(aQ ts en ((s1).next).next kM).i:=fR sX;refine ab ((qC m4).mono ?_);clear qC;rintro r H' m5 b9 ⟨l5,rfl,rfl⟩;simp only[go_sem,dW,o1,o2,o3];have qB:=fun m' =>n9 ts en (aQ ts en ((s1).next).next kM) m' hT wk
         refine ab ((qB m5).mono ?_);clear qB;rintro r H' m6 ej ⟨l6,w17,iU,rfl,hw17,rfl,hR17⟩;simp only[go_sem,dW,o1,o2,o3];have GQ:=hR17.mono;have qA:=fun m' =>ee ts en iU iG m' hT.l8
         have wj:Inv ts (aQ ts en iU iG):=eo hR17.inv;have GP:(iU).i<=(aQ ts en iU iG).i:=fR hR17.inv;refine ab ((qA m6).mono ?_);clear qA;rintro r H' m7 gb ⟨l7,rfl,rfl⟩;simp only[go_sem,dW,o1,o2,o3];have qz:=fun m' =>n9 ts en (aQ ts en iU iG) m' hT wj
         refine ab ((qz m7).mono ?_);clear qz;rintro r H' m8 jP ⟨l8,w19,dK,rfl,hw19,rfl,hR19⟩;simp only[go_sem,dW,o1,o2,o3];have GO:=hR19.mono;by_cases hc20:ai ts (dK).i mI=true
         ·have gR:=fun m' =>cZ (en:=en) hT hc20 m'
          refine ab ((gR m8).mono ?_);clear gR;rintro r H' m9 mT ⟨l9,rfl,rfl⟩;simp only[go_sem,dW,o1,o2,o3];have wi:=hR19.inv.next (aN hc20);have Dk:(dK).next.i=(dK).i+1:=rfl;have iX:=fun m' =>yU (s:=(dK).next) (en:=en) hT wi m'
          refine ab ((iX m9).mono ?_);clear iX;rintro r H' m10 uB ⟨l10,l1022,a22,qT,s22,rfl,ha22,hb22,hc22,hd22,rfl,hR22⟩;simp only[go_sem,dW,o1,o2,o3];have Ar:=hR22.mono;exact⟨(s22,v+16+1024,w17,w19,l1022,a22,qT,m10),⟨⟨⟨rfl,rfl,rfl,rfl⟩,⟨rfl,rfl,rfl⟩⟩,.inl rfl⟩,(aa l2 (aa l3 (aa l4 (aa l5 (aa l6 (aa l7 (aa l8 (aa l9 l10)))))))),⟨hR22.inv,(by constructor<;>omega:(0:Int)<=v+16+1024/\v+16+1024<4096),hw17,hw19,hb22,ha22,hc22,hd22,fun a s' h=>(by unfold mA;rw[hM.val];exact iK hM (by dsimp only;rw[ae (by rw[<- an];exact hc10),show bl jm v (ts.drop s1.i)=(v+16+1024,ts.drop (((s1).next).next).i) from by rw[jm,fp,ah (by rw[<- an];exact hc12),<- bk,fp,ah (by rw[<- an];exact hc14),<- bk];rfl];exact(bt hM.inv (aN hc12) (bt wm (aN hc14) (dn sX (aO hR17 (dn hR17.inv (aO hR19 (aO (show Res ts en (dK) (iF mI (ts.drop (dK).i)) l1022 s22 from by unfold iF;rw[ah (by rw[<- an];exact hc20),<- bk];exact bt hR19.inv (aN hc20) hR22) h)))))))))⟩⟩
         ·have gR:=fun m' =>da (en:=en) hT hc20 m'
          refine ab ((gR m8).mono ?_);clear gR;rintro r H' m9 mT ⟨l9,rfl,rfl⟩;simp only[go_sem,dW,o1,o2,o3];exact⟨(dK,v+16+1024,w17,w19,[],none,0,m9),⟨⟨⟨rfl,rfl,rfl,rfl⟩,⟨rfl,rfl,rfl⟩⟩,.inl rfl⟩,(aa l2 (aa l3 (aa l4 (aa l5 (aa l6 (aa l7 (aa l8 l9))))))),⟨hR19.inv,(by constructor<;>omega:(0:Int)<=v+16+1024/\v+16+1024<4096),hw17,hw19,au _,aq _,cv _ _,fun w hw=>(by cases hw),fun a s' h=>(by unfold mA;rw[hM.val];exact iK hM (by dsimp only;rw[ae (by rw[<- an];exact hc10),show bl jm v (ts.drop s1.i)=(v+16+1024,ts.drop (((s1).next).next).i) from by rw[jm,fp,ah (by rw[<- an];exact hc12),<- bk,fp,ah (by rw[<- an];exact hc14),<- bk];rfl];exact(bt hM.inv (aN hc12) (bt wm (aN hc14) (dn sX (aO hR17 (dn hR17.inv (aO hR19 (aO (show Res ts en (dK) (iF mI (ts.drop (dK).i)) [] (dK) from by unfold iF;rw[ae (by rw[<- an];exact hc20)];exact bI _ hR19.inv) h)))))))))⟩⟩
        ·have nS:=fun m' =>da (en:=en) hT hc14 m'
         refine ab ((nS m3).mono ?_);clear nS;rintro r H' m4 dc ⟨l4,rfl,rfl⟩;simp only[go_sem,dW,o1,o2,o3];have qC:=fun m' =>ee ts en (s1).next kM m' hT.l8
         have wk:Inv ts (aQ ts en (s1).next kM):=eo wm;have GR:((s1).next).i<=(aQ ts en (s1).next kM).i:=fR wm;refine ab ((qC m4).mono ?_);clear qC;rintro r H' m5 b9 ⟨l5,rfl,rfl⟩;simp only[go_sem,dW,o1,o2,o3];have qB:=fun m' =>n9 ts en (aQ ts en (s1).next kM) m' hT wk
         refine ab ((qB m5).mono ?_);clear qB;rintro r H' m6 ej ⟨l6,w17,iU,rfl,hw17,rfl,hR17⟩;simp only[go_sem,dW,o1,o2,o3];have GQ:=hR17.mono;have qA:=fun m' =>ee ts en iU iG m' hT.l8
         have wj:Inv ts (aQ ts en iU iG):=eo hR17.inv;have GP:(iU).i<=(aQ ts en iU iG).i:=fR hR17.inv;refine ab ((qA m6).mono ?_);clear qA;rintro r H' m7 gb ⟨l7,rfl,rfl⟩;simp only[go_sem,dW,o1,o2,o3];have qz:=fun m' =>n9 ts en (aQ ts en iU iG) m' hT wj
         refine ab ((qz m7).mono ?_);clear qz;rintro r H' m8 jP ⟨l8,w19,dK,rfl,hw19,rfl,hR19⟩;simp only[go_sem,dW,o1,o2,o3];have GO:=hR19.mono;by_cases hc20:ai ts (dK).i mI=true
         ·have gR:=fun m' =>cZ (en:=en) hT hc20 m'
          refine ab ((gR m8).mono ?_);clear gR;rintro r H' m9 mT ⟨l9,rfl,rfl⟩;simp only[go_sem,dW,o1,o2,o3];have wi:=hR19.inv.next (aN hc20);have Dk:(dK).next.i=(dK).i+1:=rfl;have iX:=fun m' =>yU (s:=(dK).next) (en:=en) hT wi m'
          refine ab ((iX m9).mono ?_);clear iX;rintro r H' m10 uB ⟨l10,l1022,a22,qT,s22,rfl,ha22,hb22,hc22,hd22,rfl,hR22⟩;simp only[go_sem,dW,o1,o2,o3];have Ar:=hR22.mono;exact⟨(s22,v+16,w17,w19,l1022,a22,qT,m10),⟨⟨⟨rfl,rfl,rfl,rfl⟩,⟨rfl,rfl,rfl⟩⟩,.inl rfl⟩,(aa l2 (aa l3 (aa l4 (aa l5 (aa l6 (aa l7 (aa l8 (aa l9 l10)))))))),⟨hR22.inv,(by constructor<;>omega:(0:Int)<=v+16/\v+16<4096),hw17,hw19,hb22,ha22,hc22,hd22,fun a s' h=>(by unfold mA;rw[hM.val];exact iK hM (by dsimp only;rw[ae (by rw[<- an];exact hc10),show bl jm v (ts.drop s1.i)=(v+16,ts.drop ((s1).next).i) from by rw[jm,fp,ah (by rw[<- an];exact hc12),<- bk,fp,ae (by rw[<- an];exact hc14)];rfl];exact(bt hM.inv (aN hc12) (dn wm (aO hR17 (dn hR17.inv (aO hR19 (aO (show Res ts en (dK) (iF mI (ts.drop (dK).i)) l1022 s22 from by unfold iF;rw[ah (by rw[<- an];exact hc20),<- bk];exact bt hR19.inv (aN hc20) hR22) h))))))))⟩⟩
         ·have gR:=fun m' =>da (en:=en) hT hc20 m'
          refine ab ((gR m8).mono ?_);clear gR;rintro r H' m9 mT ⟨l9,rfl,rfl⟩;simp only[go_sem,dW,o1,o2,o3];exact⟨(dK,v+16,w17,w19,[],none,0,m9),⟨⟨⟨rfl,rfl,rfl,rfl⟩,⟨rfl,rfl,rfl⟩⟩,.inl rfl⟩,(aa l2 (aa l3 (aa l4 (aa l5 (aa l6 (aa l7 (aa l8 l9))))))),⟨hR19.inv,(by constructor<;>omega:(0:Int)<=v+16/\v+16<4096),hw17,hw19,au _,aq _,cv _ _,fun w hw=>(by cases hw),fun a s' h=>(by unfold mA;rw[hM.val];exact iK hM (by dsimp only;rw[ae (by rw[<- an];exact hc10),show bl jm v (ts.drop s1.i)=(v+16,ts.drop ((s1).next).i) from by rw[jm,fp,ah (by rw[<- an];exact hc12),<- bk,fp,ae (by rw[<- an];exact hc14)];rfl];exact(bt hM.inv (aN hc12) (dn wm (aO hR17 (dn hR17.inv (aO hR19 (aO (show Res ts en (dK) (iF mI (ts.drop (dK).i)) [] (dK) from by unfold iF;rw[ae (by rw[<- an];exact hc20)];exact bI _ hR19.inv) h))))))))⟩⟩
       ·have A2:=fun m' =>da (en:=en) hT hc12 m'
        refine ab ((A2 m2).mono ?_);clear A2;rintro r H' m3 bu ⟨l3,rfl,rfl⟩;simp only[go_sem,dW,o1,o2,o3];by_cases hc14:ai ts (s1).i Hr=true
        ·have nS:=fun m' =>cZ (en:=en) hT hc14 m'
         refine ab ((nS m3).mono ?_);clear nS;rintro r H' m4 dc ⟨l4,rfl,rfl⟩;simp only[go_sem,dW,o1,o2,o3];have sX:=hM.inv.next (aN hc14);have NU:(s1).next.i=(s1).i+1:=rfl;have qC:=fun m' =>ee ts en (s1).next kM m' hT.l8
         have wk:Inv ts (aQ ts en (s1).next kM):=eo sX;have GR:((s1).next).i<=(aQ ts en (s1).next kM).i:=fR sX;refine ab ((qC m4).mono ?_);clear qC;rintro r H' m5 b9 ⟨l5,rfl,rfl⟩;simp only[go_sem,dW,o1,o2,o3];have qB:=fun m' =>n9 ts en (aQ ts en (s1).next kM) m' hT wk
         refine ab ((qB m5).mono ?_);clear qB;rintro r H' m6 ej ⟨l6,w17,iU,rfl,hw17,rfl,hR17⟩;simp only[go_sem,dW,o1,o2,o3];have GQ:=hR17.mono;have qA:=fun m' =>ee ts en iU iG m' hT.l8
         have wj:Inv ts (aQ ts en iU iG):=eo hR17.inv;have GP:(iU).i<=(aQ ts en iU iG).i:=fR hR17.inv;refine ab ((qA m6).mono ?_);clear qA;rintro r H' m7 gb ⟨l7,rfl,rfl⟩;simp only[go_sem,dW,o1,o2,o3];have qz:=fun m' =>n9 ts en (aQ ts en iU iG) m' hT wj
         refine ab ((qz m7).mono ?_);clear qz;rintro r H' m8 jP ⟨l8,w19,dK,rfl,hw19,rfl,hR19⟩;simp only[go_sem,dW,o1,o2,o3];have GO:=hR19.mono;by_cases hc20:ai ts (dK).i mI=true
         ·have gR:=fun m' =>cZ (en:=en) hT hc20 m'
          refine ab ((gR m8).mono ?_);clear gR;rintro r H' m9 mT ⟨l9,rfl,rfl⟩;simp only[go_sem,dW,o1,o2,o3];have wi:=hR19.inv.next (aN hc20);have Dk:(dK).next.i=(dK).i+1:=rfl;have iX:=fun m' =>yU (s:=(dK).next) (en:=en) hT wi m'
          refine ab ((iX m9).mono ?_);clear iX;rintro r H' m10 uB ⟨l10,l1022,a22,qT,s22,rfl,ha22,hb22,hc22,hd22,rfl,hR22⟩;simp only[go_sem,dW,o1,o2,o3];have Ar:=hR22.mono;exact⟨(s22,v+1024,w17,w19,l1022,a22,qT,m10),⟨⟨⟨rfl,rfl,rfl,rfl⟩,⟨rfl,rfl,rfl⟩⟩,.inl rfl⟩,(aa l2 (aa l3 (aa l4 (aa l5 (aa l6 (aa l7 (aa l8 (aa l9 l10)))))))),⟨hR22.inv,(by constructor<;>omega:(0:Int)<=v+1024/\v+1024<4096),hw17,hw19,hb22,ha22,hc22,hd22,fun a s' h=>(by unfold mA;rw[hM.val];exact iK hM (by dsimp only;rw[ae (by rw[<- an];exact hc10),show bl jm v (ts.drop s1.i)=(v+1024,ts.drop ((s1).next).i) from by rw[jm,fp,ae (by rw[<- an];exact hc12),fp,ah (by rw[<- an];exact hc14),<- bk];rfl];exact(bt hM.inv (aN hc14) (dn sX (aO hR17 (dn hR17.inv (aO hR19 (aO (show Res ts en (dK) (iF mI (ts.drop (dK).i)) l1022 s22 from by unfold iF;rw[ah (by rw[<- an];exact hc20),<- bk];exact bt hR19.inv (aN hc20) hR22) h))))))))⟩⟩
         ·have gR:=fun m' =>da (en:=en) hT hc20 m'
          refine ab ((gR m8).mono ?_);clear gR;rintro r H' m9 mT ⟨l9,rfl,rfl⟩;simp only[go_sem,dW,o1,o2,o3];exact⟨(dK,v+1024,w17,w19,[],none,0,m9),⟨⟨⟨rfl,rfl,rfl,rfl⟩,⟨rfl,rfl,rfl⟩⟩,.inl rfl⟩,(aa l2 (aa l3 (aa l4 (aa l5 (aa l6 (aa l7 (aa l8 l9))))))),⟨hR19.inv,(by constructor<;>omega:(0:Int)<=v+1024/\v+1024<4096),hw17,hw19,au _,aq _,cv _ _,fun w hw=>(by cases hw),fun a s' h=>(by unfold mA;rw[hM.val];exact iK hM (by dsimp only;rw[ae (by rw[<- an];exact hc10),show bl jm v (ts.drop s1.i)=(v+1024,ts.drop ((s1).next).i) from by rw[jm,fp,ae (by rw[<- an];exact hc12),fp,ah (by rw[<- an];exact hc14),<- bk];rfl];exact(bt hM.inv (aN hc14) (dn sX (aO hR17 (dn hR17.inv (aO hR19 (aO (show Res ts en (dK) (iF mI (ts.drop (dK).i)) [] (dK) from by unfold iF;rw[ae (by rw[<- an];exact hc20)];exact bI _ hR19.inv) h))))))))⟩⟩
        ·have nS:=fun m' =>da (en:=en) hT hc14 m'
         refine ab ((nS m3).mono ?_);clear nS;rintro r H' m4 dc ⟨l4,rfl,rfl⟩;simp only[go_sem,dW,o1,o2,o3];have qC:=fun m' =>ee ts en s1 kM m' hT.l8
         have wk:Inv ts (aQ ts en s1 kM):=eo hM.inv;have GR:(s1).i<=(aQ ts en s1 kM).i:=fR hM.inv;refine ab ((qC m4).mono ?_);clear qC;rintro r H' m5 b9 ⟨l5,rfl,rfl⟩;simp only[go_sem,dW,o1,o2,o3];have qB:=fun m' =>n9 ts en (aQ ts en s1 kM) m' hT wk
         refine ab ((qB m5).mono ?_);clear qB;rintro r H' m6 ej ⟨l6,w17,iU,rfl,hw17,rfl,hR17⟩;simp only[go_sem,dW,o1,o2,o3];have GQ:=hR17.mono;have qA:=fun m' =>ee ts en iU iG m' hT.l8
         have wj:Inv ts (aQ ts en iU iG):=eo hR17.inv;have GP:(iU).i<=(aQ ts en iU iG).i:=fR hR17.inv;refine ab ((qA m6).mono ?_);clear qA;rintro r H' m7 gb ⟨l7,rfl,rfl⟩;simp only[go_sem,dW,o1,o2,o3];have qz:=fun m' =>n9 ts en (aQ ts en iU iG) m' hT wj
         refine ab ((qz m7).mono ?_);clear qz;rintro r H' m8 jP ⟨l8,w19,dK,rfl,hw19,rfl,hR19⟩;simp only[go_sem,dW,o1,o2,o3];have GO:=hR19.mono;by_cases hc20:ai ts (dK).i mI=true
         ·have gR:=fun m' =>cZ (en:=en) hT hc20 m'
          refine ab ((gR m8).mono ?_);clear gR;rintro r H' m9 mT ⟨l9,rfl,rfl⟩;simp only[go_sem,dW,o1,o2,o3];have wi:=hR19.inv.next (aN hc20);have Dk:(dK).next.i=(dK).i+1:=rfl;have iX:=fun m' =>yU (s:=(dK).next) (en:=en) hT wi m'
          refine ab ((iX m9).mono ?_);clear iX;rintro r H' m10 uB ⟨l10,l1022,a22,qT,s22,rfl,ha22,hb22,hc22,hd22,rfl,hR22⟩;simp only[go_sem,dW,o1,o2,o3];have Ar:=hR22.mono;exact⟨(s22,v,w17,w19,l1022,a22,qT,m10),⟨⟨⟨rfl,rfl,rfl,rfl⟩,⟨rfl,rfl,rfl⟩⟩,.inl rfl⟩,(aa l2 (aa l3 (aa l4 (aa l5 (aa l6 (aa l7 (aa l8 (aa l9 l10)))))))),⟨hR22.inv,(by constructor<;>omega:(0:Int)<=v/\v<4096),hw17,hw19,hb22,ha22,hc22,hd22,fun a s' h=>(by unfold mA;rw[hM.val];exact iK hM (by dsimp only;rw[ae (by rw[<- an];exact hc10),show bl jm v (ts.drop s1.i)=(v,ts.drop (s1).i) from by rw[jm,fp,ae (by rw[<- an];exact hc12),fp,ae (by rw[<- an];exact hc14)];rfl];exact(dn hM.inv (aO hR17 (dn hR17.inv (aO hR19 (aO (show Res ts en (dK) (iF mI (ts.drop (dK).i)) l1022 s22 from by unfold iF;rw[ah (by rw[<- an];exact hc20),<- bk];exact bt hR19.inv (aN hc20) hR22) h)))))))⟩⟩
         ·have gR:=fun m' =>da (en:=en) hT hc20 m'
          refine ab ((gR m8).mono ?_);clear gR;rintro r H' m9 mT ⟨l9,rfl,rfl⟩;simp only[go_sem,dW,o1,o2,o3];exact⟨(dK,v,w17,w19,[],none,0,m9),⟨⟨⟨rfl,rfl,rfl,rfl⟩,⟨rfl,rfl,rfl⟩⟩,.inl rfl⟩,(aa l2 (aa l3 (aa l4 (aa l5 (aa l6 (aa l7 (aa l8 l9))))))),⟨hR19.inv,(by constructor<;>omega:(0:Int)<=v/\v<4096),hw17,hw19,au _,aq _,cv _ _,fun w hw=>(by cases hw),fun a s' h=>(by unfold mA;rw[hM.val];exact iK hM (by dsimp only;rw[ae (by rw[<- an];exact hc10),show bl jm v (ts.drop s1.i)=(v,ts.drop (s1).i) from by rw[jm,fp,ae (by rw[<- an];exact hc12),fp,ae (by rw[<- an];exact hc14)];rfl];exact(dn hM.inv (aO hR17 (dn hR17.inv (aO hR19 (aO (show Res ts en (dK) (iF mI (ts.drop (dK).i)) [] (dK) from by unfold iF;rw[ae (by rw[<- an];exact hc20)];exact bI _ hR19.inv) h)))))))⟩⟩
     ·rintro⟨s2,v2,nm,sp,is,ia,ic,m2⟩ ⟨g1,hH⟩;dsimp only at g1 hH;have hE:=fun m' =>ee ts en s2 [123] m' hT.l8
      have Pl:Inv ts (aQ ts en s2 [123]):=eo hH.inv;have hRH:Res ts en s (mA (ts.drop s.i)) ⟨v2,nm,sp,is,[],[],[]⟩ (aQ ts en s2 [123]):=hH.res _ _ (dn hH.inv (bI _ Pl));refine pQ aw (by kernel_rfl) ?_;simp only[go_sem];refine ab ((hE m2).mono ?_);clear hE;rintro r H' m3 bu ⟨l3,rfl,rfl⟩;simp only[go_sem];refine Fw 10 4 _ 94 5 (by decide) rfl rfl ?_;refine Fw 10 5 _ 98 8 (by decide) rfl rfl ?_;refine Fw 10 6 _ 73 23 (by decide) rfl rfl ?_;refine cK aw (fun y:PSt×DSt×Mem=>⟨[⟨0,[],.box 0 0⟩,⟨2,[],.box 2 0⟩,⟨3,[],.box 10 0⟩],[],[dB y.2.1,lu en y.1,wx 2],[fV y.2.1,mV y.2.1,iV y.2.1,jJ ts],200,y.2.2⟩)
       (fun y=>ak m3 y.2.2/\Inv ts y.1/\Same ⟨⟨v2,nm,sp,is,[],[],[]⟩,ia,ic,0,0,0,[],[]⟩ y.2.1/\DOk y.2.2 y.2.1 (y.1.i+(if y.1.fl=true then 1 else 0))/\∀a s',Res ts en y.1 (Ah y.2.1.d (ts.drop y.1.i)) a s' ->Res ts en s (BA (ts.drop s.i)) a s')
       (fun y=>if y.1.fl=true then 0 else ts.length - y.1.i+1) (aQ ts en s2 [123],⟨⟨v2,nm,sp,is,[],[],[]⟩,ia,ic,0,0,0,[],[]⟩,m3) (fun _ _=>dO rfl) (fun y hy=>hy.1) ?_ ?_ ?_
      ·simp only[go_sem];exact rfl
      ·exact⟨.inl rfl,Pl,⟨rfl,rfl,rfl,rfl,rfl,rfl,aq _,aq _,aq _⟩,⟨rfl,trivial,rfl,dy _ _,fun f hf=>(by cases hf),au _,au _,au _⟩,fun a s' h=>aO hRH h⟩
      ·rintro⟨s4,y,m4⟩ ⟨p1,p2,p3,p4,p5⟩;dsimp only at p1 p2 p3 p4 p5;have dJ:=p2.le;have gm:=p4.fn;have hmn:=p4.mn;have fG:=p4.inn;have yM:(if s4.fl=true then 1 else 0)<=1:=by split<;>decide
       by_cases hf:s4.fl=true
       ·simp only[go_sem];refine⟨fun h=>(by rw[hf] at h;cases h),fun _=> ?_⟩;refine pX 4 rfl (b:=fV y) (by simp [cS]) ⟨(pH ts en s4).bx,[mV y,iV y,jJ ts]⟩ (List.Sublist.refl _) (.cons _ (List.Sublist.refl _)) fun a1 c1 w1 x1 x2 x3=> ?_
        refine pX 5 rfl (b:=mV y) (by simp [cS]) ⟨(pH ts en s4).bx,[iV y,jJ ts]⟩ (List.Sublist.refl _) (.cons _ (List.Sublist.refl _)) fun a2 c2 w2 x4 x5 x6=> ?_
        refine pX 6 rfl (b:=iV y) (by simp [cS]) (pH ts en s4) (List.Sublist.refl _) (.cons _ (List.Sublist.refl _)) fun a3 c3 w3 x7 x8 x9=> ?_
        have hw:ak m4 w3:=aa (.inl rfl:ak m4 m4) (aa (.inr x1) (aa (.inr x4) (.inr x7)));have hy:=p4.up hw (aq _);have lq:ak m2 w3:=aa l3 (aa p1 hw);have wM:CdOk y.d:=⟨by rw[p3.fl];have:=hH.fl;unfold ax;dsimp only;omega,by rw[p3.name];have:=hH.hn;unfold az;dsimp only;omega,by rw[p3.super];have:=hH.hs;unfold az;dsimp only;omega,by rw[p3.ifs];have:=hH.il;unfold az;dsimp only;omega,by rw[p3.ifs];intro w hw;have:=hH.iw w hw;unfold az;omega,by unfold az;omega,hy.fs,by unfold az;omega,by unfold az;omega⟩;exact⟨aa q1 (aa g1 lq),⟨y.d.fl,y.d.name,y.d.super,y.ia,y.d.ifs.length,y.ic,a1,y.d.fields.length,c1,a2,y.d.methods.length,c2,a3,y.d.init.length,c3⟩,y.d,s4,rfl,⟨_,⟨rfl,rfl,rfl,rfl⟩,⟨rfl,by rw[p3.ifs,p3.ic];exact hH.ic,rfl,x2,rfl,x5,rfl,x8⟩,wM,by rw[p3.ia,p3.ifs];exact aK lq hH.ir,aK (aa (.inr x4) (.inr x7)) x3,_,_,aK (.inr x7) x6,hy.msr,x9,hy.isr⟩,rfl,p5 _ _ (zR y.d p2 hf)⟩
       ·have qN:s4.fl=false:=by simpa using hf
        by_cases h1:ai ts s4.i [125]=true
        ·have ha:=cZ (en:=en) hT h1;have hi:=aN h1;have fk:=p2.next hi;simp only[go_sem];refine⟨fun _=>ab ((ha m4).mono ?_),fun h=>by rw[qN] at h;cases h⟩;clear ha;rintro r H' m5 b9 ⟨l5,rfl,rfl⟩;simp only[go_sem];refine pX 4 rfl (b:=fV y) (by simp [cS]) ⟨(pH ts en s4.next).bx,[jJ ts,mV y,iV y]⟩ (List.Sublist.refl _) (.cons_cons _ (.cons _ (List.Sublist.refl _))) fun a1 c1 w1 x1 x2 x3=> ?_
         refine pX 5 rfl (b:=mV y) (by simp [cS]) ⟨(pH ts en s4.next).bx,[jJ ts,iV y]⟩ (List.Sublist.refl _) (.cons_cons _ (.cons _ (List.Sublist.refl _))) fun a2 c2 w2 x4 x5 x6=> ?_
         refine pX 6 rfl (b:=iV y) (by simp [cS]) (pH ts en s4.next) (List.Sublist.refl _) (.cons_cons _ (.cons _ (List.Sublist.refl _))) fun a3 c3 w3 x7 x8 x9=> ?_
         have hw:ak m4 w3:=aa l5 (aa (.inr x1) (aa (.inr x4) (.inr x7)));have hy:=p4.up hw (aq _);have lq:ak m2 w3:=aa l3 (aa p1 hw);have wM:CdOk y.d:=⟨by rw[p3.fl];have:=hH.fl;unfold ax;dsimp only;omega,by rw[p3.name];have:=hH.hn;unfold az;dsimp only;omega,by rw[p3.super];have:=hH.hs;unfold az;dsimp only;omega,by rw[p3.ifs];have:=hH.il;unfold az;dsimp only;omega,by rw[p3.ifs];intro w hw;have:=hH.iw w hw;unfold az;omega,by unfold az;omega,hy.fs,by unfold az;omega,by unfold az;omega⟩;exact⟨aa q1 (aa g1 lq),⟨y.d.fl,y.d.name,y.d.super,y.ia,y.d.ifs.length,y.ic,a1,y.d.fields.length,c1,a2,y.d.methods.length,c2,a3,y.d.init.length,c3⟩,y.d,s4.next,rfl,⟨_,⟨rfl,rfl,rfl,rfl⟩,⟨rfl,by rw[p3.ifs,p3.ic];exact hH.ic,rfl,x2,rfl,x5,rfl,x8⟩,wM,by rw[p3.ia,p3.ifs];exact aK lq hH.ir,aK (aa (.inr x4) (.inr x7)) x3,_,_,aK (.inr x7) x6,hy.msr,x9,hy.isr⟩,rfl,p5 _ _ (by rw[La,ah (by rw[<- an];exact h1),<- bk];exact bt p2 hi (bI _ fk))⟩
        ·have ha:=da (en:=en) hT h1;rw[ae hf] at p4;have hb:=fun m' h=>Qv (en:=en) hT p2 qN y m' h
         simp only[go_sem];refine⟨fun _=>ab ((ha m4).mono ?_),fun h=>by rw[qN] at h;cases h⟩;clear ha;rintro r H' m5 b9 ⟨l5,rfl,rfl⟩;simp only[go_sem];refine ab ((hb m5 (p4.up l5 (aq _))).mono ?_);clear hb;rintro r H' m6 ej ⟨l6,y6,s6,rfl,rfl,nU,av,hR6⟩;have eY:=lz hR6 qN (oa _ _);have wP:=hR6.inv.le;simp only[go_sem];refine⟨⟨nU.uf,nU.um,nU.ui⟩,(s6,y6,m6),⟨⟨⟨rfl,rfl,rfl,rfl,rfl,rfl,rfl⟩,⟨rfl,rfl,rfl⟩⟩,⟨⟨rfl,rfl,rfl⟩,⟨rfl,rfl,rfl⟩,rfl,rfl,rfl⟩,.inl rfl⟩,⟨aa p1 (aa l5 l6),hR6.inv,⟨nU.ia.trans p3.ia,nU.ic.trans p3.ic,nU.fl.trans p3.fl,nU.name.trans p3.name,nU.super.trans p3.super,nU.ifs.trans p3.ifs,au _,au _,au _⟩,av,fun a s' h=>p5 a s' ?_⟩,?_⟩
         ·rw[La,ae (by rw[<- an];exact h1)];exact aO hR6 h
         ·dsimp only;rw[ae hf];rcases eY with h |h
          ·rw[ah h];omega
          ·split<;>omega
end
end Go.Proofs.YtimddhkipjedcaaGreatDoor.E
namespace Go.Proofs.YtimddhkipjedcaaGreatDoor.E
open Go Go.RowKit
theorem Lg (s:List UInt8):∀(f p:Nat) (acc:List Tk),acc.length<=5000->(mG s f p acc).1.length<=5000
 |0,p,acc,h=>h
 |f+1,p,acc,h=>by
  simp only[mG];split
  ·exact h
  ·split
   ·exact au _
   ·split
    ·exact au _
    ·exact Lg s f _ _ (by rw[bY,fI];omega)
theorem qW (s:List UInt8):(aD s).1.length<=5000:=by
 unfold aD;split
 ·exact au _
 ·exact Lg s _ _ _ (au _)
theorem FK (s:List UInt8):∀(f qS pos:Nat),∀t∈(pz f qS pos (s.drop pos)).1,∃q:Nat,t.at_=q/\pos<=q/\q<s.length/\∃len,gJ (s.drop q)=some (t.k,t.s,t.n,len)
 |0,_,_,t,h=>by cases h
 |f+1,qS,pos,t,h=>by
  simp only[pz] at h;split at h
  ·cases h
  ·rename_i cY;split at h
   ·cases h
   ·split at h
    ·cases h
    ·rename_i k tt n len ht;have hl:=FA ht;rw[List.drop_drop] at ht;rw[cj,cj] at hl;unfold sH at h;split at h
     ·rcases List.mem_cons.1 h with rfl |h
      ·exact⟨pos+cP false (s.drop pos),rfl,by omega,by omega,len,ht⟩
      ·rw[List.drop_drop,<- Nat.add_assoc] at h;obtain⟨q,e1,e2,e3,e4⟩:=FK s f _ _ t h;exact⟨q,e1,by omega,e3,e4⟩
     ·cases h
def grow:Int->List Tk->Prop
 |_,[]=>True
 |b,t::r=>b<=t.at_/\grow (t.at_+1) r
theorem Xg {l:List UInt8} (cY:l.take (cJ l)≠[]) (h:(fg l).2.2.2=true):∃v:Nat,(fg l).2.1=v/\v<=9223372036854775807/\((fg l).1=false->v<=2147483647):=by
 have hp:=Jo cY (Gj l);simp only[fg,cO,gA,decide_eq_false_iff_not] at h ⊢;cases hr:nq 0 (l.take (cJ l)) with
 |none=>rw[hr] at hp;rw[hp] at h;exact absurd h.1.1 Bool.false_ne_true
 |some v=>
  rw[hr] at hp;obtain⟨hp,hv⟩:=hp;rw[hp] at h ⊢;refine⟨v,rfl,hv,fun hb=> ?_⟩;have:=h.1.2;rw[ae hb] at this;have this:(v:Int)<=2147483647:=this;omega
theorem JH {l:List UInt8} {k:Int} {s:List UInt8} {n:Int} {len:Nat} (h:gJ l=some (k,s,n,len)) (q:Int):oO ⟨k,s,n,q⟩≠none/\s.length<=1024/\ax n:=by
 cases l with
 |nil=>cases h
 |cons c r=>
  simp only[gJ] at h;split at h
  ·split at h
   ·rename_i hn;simp only[de,Prod.mk.injEq] at h;obtain⟨rfl,rfl,rfl,_⟩:=h;have hl:(fu (c::r)).length<=64:=by unfold dX at hn;exact of_decide_eq_true (Bool.and_eq_true_iff.1 hn).1
    refine⟨?_,by omega,by unfold ax;omega⟩;cases hk:fb.contains (fu (c::r)) with
    |true=>have hm:=List.contains_iff_mem.1 hk;simp [oO,hm]
    |false=>
     have hm:¬fu (c::r)∈fb:=fun h=>by rw[List.contains_iff_mem.2 h] at hk;cases hk
     simp [oO,hm,hn]
   ·cases h
  ·split at h
   ·rename_i hd;split at h
    ·rename_i hn;simp only[de,Prod.mk.injEq] at h;obtain⟨rfl,rfl,rfl,_⟩:=h;have cY:(c::r).take (cJ (c::r))≠[]:=by
      simp only[cJ];rw[ah hd,Nat.add_comm,List.take_succ_cons];exact List.cons_ne_nil _ _
     obtain⟨v,e1,e2,e3⟩:=Xg cY hn;rw[e1];refine⟨?_,au _,by unfold ax;omega⟩;cases hB:(fg (c::r)).1 with
     |true=>simp [oO]
     |false=>have:=e3 hB;simp [oO];omega
    ·cases h
   ·split at h
    ·split at h
     ·split at h
      ·rename_i hb;simp only[de,Prod.mk.injEq] at h;obtain⟨rfl,rfl,rfl,_⟩:=h;exact⟨by simp [oO,hb],hb,by unfold ax;omega⟩
      ·cases h
     ·cases h
    ·obtain⟨o,ho,e⟩:=Option.map_eq_some_iff.1 h;simp only[Prod.mk.injEq] at e;obtain⟨rfl,rfl,rfl,_⟩:=e;have hm:=List.mem_of_find?_eq_some ho;have h1:∀o∈eQ,o.length<=3:=by decide
     have:=h1 _ hm;exact⟨by simp [oO,hm],by omega,by unfold ax;omega⟩
theorem VH:∀s∈fb,∀c∈s,c≠47:=by decide
theorem Tq {l:List UInt8} {k:Int} {s:List UInt8} {n:Int} {len:Nat} (h:gJ l=some (k,s,n,len)) (hk:k=6\/k=2):∃r,l=s++r:=by
 cases l with
 |nil=>cases h
 |cons c r=>
  simp only[gJ] at h;split at h
  ·split at h
   ·simp only[de,Prod.mk.injEq] at h;obtain⟨rfl,rfl,rfl,_⟩:=h;cases hkw:fb.contains (fu (c::r)) with
    |false=>rw[hkw] at hk;simp at hk
    |true=>
     have hm:=VH _ (List.contains_iff_mem.1 hkw);have he:=Nc (c::r);have ht:rA ((c::r).length+1) ((c::r).drop (bS true (c::r)))=[]:=by
      simp only[rA];split
      ·rename_i hc;exfalso;refine hm 47 ?_ rfl;rw[he];simp only[rA];rw[ah hc];exact List.mem_append_right _ (df ..)
      ·rfl
     rw[ht,List.append_nil] at he;exact⟨(c::r).drop (bS true (c::r)),by rw[he,List.take_append_drop]⟩
   ·cases h
  ·split at h
   ·split at h
    ·simp only[de,Prod.mk.injEq] at h;obtain⟨rfl,_⟩:=h;split at hk<;>omega
    ·cases h
   ·split at h
    ·split at h
     ·split at h
      ·simp only[de,Prod.mk.injEq] at h;omega
      ·cases h
     ·cases h
    ·obtain⟨o,ho,e⟩:=Option.map_eq_some_iff.1 h;simp only[Prod.mk.injEq] at e;obtain⟨rfl,rfl,rfl,_⟩:=e;exact BW.1 (List.find?_some ho)
structure TkIn (s:List UInt8) (t:Tk):Prop where
 lo:0<=t.at_
 hi:t.at_<s.length
 fmt:oO t≠none
 ok:aca t
 text:t.k=6\/t.k=2->∃r,s.drop t.at_.toNat=t.s++r
theorem WY {s:List UInt8}:∀t∈(aD s).1,TkIn s t:=by
 intro t ht;by_cases hs:s.length<=20000
 ·rw[IT hs] at ht;obtain⟨q,e,h1,h2,len,h3⟩:=FK s (s.length+1) 0 0 t ht;obtain⟨v1,v2,v3⟩:=JH h3 t.at_;refine⟨by omega,by omega,v1,⟨by omega,v3⟩,fun hk=> ?_⟩;rw[e,Int.toNat_natCast];exact Tq h3 hk
 ·have e:aD s=([],0,8):=ah (by omega);rw[e] at ht;cases ht
theorem ML (s:List UInt8):∀t∈(aD s).1,t.s.length<=1024/\ax t.n:=by
 intro t ht;by_cases hs:s.length<=20000
 ·rw[IT hs] at ht;obtain⟨q,e,h1,h2,len,h3⟩:=FK s (s.length+1) 0 0 t ht;exact(JH h3 t.at_).2
 ·have e:aD s=([],0,8):=ah (by omega);rw[e] at ht;cases ht
theorem UX {P:Program} {f:FuncId} {args:List SV} {m:Mem} {R R' :SV->Hp->Mem->Prop} (h:FnH P f args ⟨[],[]⟩ m R)
  (hR:∀r H' m',m.le m' ->R r H' m' ->R' r H' m' \/∃(g:SV->SV) (k u:Nat) (el:TypeId) (sz n:Nat) (xs:List Value),H' =⟨[],[⟨k,u,el,sz,n,xs⟩]⟩/\r=g (.vec k u)/\
   (∀V V2:Vl,V.γ k u=V2.γ 0 0->den V (g (.vec k u))=den V2 (g (.vec 0 0)))/\R' (g (.vec 0 0)) ⟨[],[⟨0,0,el,sz,n,xs⟩]⟩ m'):FnH P f args ⟨[],[]⟩ m R' :=by
 intro V w D jN hle hH;refine(h V w D jN hle hH).mono ?_;rintro e w' ⟨r,V',D',H',m',e1,e2,e3,e4,e5,e6,e7,e8,e9,gf,jQ⟩;rcases hR r H' m' e9 jQ with hr |⟨g,k,u,el,sz,n,xs,rfl,rfl,hg,hr⟩
 ·exact⟨r,V',D',H',m',e1,e2,e3,e4,e5,e6,e7,e8,e9,gf,hr⟩
 ·let V2:Vl:=⟨V'.β,fun a b=>if a=0 then V'.γ k u else V'.γ a b⟩
  have hV:V'.γ k u=V2.γ 0 0:=rfl;have hb:aW V2 ⟨[],[⟨0,0,el,sz,n,xs⟩]⟩=aW V' ⟨[],[⟨k,u,el,sz,n,xs⟩]⟩:=rfl;refine⟨g (.vec 0 0),V2,D',⟨[],[⟨0,0,el,sz,n,xs⟩]⟩,m',by rw[e1,hg V' V2 hV],e2,⟨fun b hb=>(by cases hb),fun b hb=> ?_,by rw[hb];exact e3.apart,by simp⟩,fun b hb=>(by cases hb),fun b hb=>(by cases hb),e6,by rw[hb];exact e7,e8,e9,gf,hr⟩;rw[List.mem_singleton.1 hb];exact e3.vc _ (List.mem_singleton.2 rfl)
theorem G0 {f:FuncId} {s:List UInt8} {m:Mem} {x:List Tk×Int×Int} (h:FnH Tryz.prog f [.v (.string (bs s))] ⟨[],[]⟩ m fun r H' m' =>ak m m' /\uH x r H'):
  FnH Tryz.prog f [.v (.string (bs s))] ⟨[],[]⟩ m fun r H' m' =>ak m m' /\((x.2.2=0/\r= .tup [.vec 0 0,.v (.int .i64 x.2.1),.v (.int .i64 x.2.2)]/\H' =⟨[],[⟨0,0,50,4,x.1.length,cG x.1⟩]⟩)\/
   (x.2.2≠0/\x.1=[]/\r= .tup [.v (.slice none 0 0),.v (.int .i64 x.2.1),.v (.int .i64 x.2.2)]/\H' =⟨[],[]⟩)):=by
 refine UX h ?_;rintro r H' m' hm ⟨l1,⟨h0,k,u,rfl,rfl⟩ |⟨h0,h1,rfl,rfl⟩⟩
 ·refine .inr ⟨fun z=> .tup [z,.v (.int .i64 x.2.1),.v (.int .i64 x.2.2)],k,u,_,_,_,_,rfl,rfl,fun V V2 e=> ?_,l1,.inl ⟨h0,rfl,rfl⟩⟩;show Value.tuple ⟨[(V.γ k u).val,_,_]⟩=Value.tuple ⟨[(V2.γ 0 0).val,_,_]⟩;rw[e];rfl
 ·exact .inl ⟨l1,.inr ⟨h0,h1,rfl,rfl⟩⟩
theorem CL (t:List UInt8):TsB (aD t).1:=⟨cg (qW t) (by decide),fun x hx=>cg (ML t x hx).1 (by decide),fun x hx=>(ML t x hx).2⟩
section
variable {ts:List Tk} {en:Int} {s:PSt}
theorem Ff (hT:TsB ts) (m:Mem):FnH Tryz.prog 25 [.box 0 0] (pH ts en s) m fun r H' m' =>m' =m/\r= .v (.bool (decide (s.i<ts.length)))/\H' =pH ts en s:=by
 refine aH aw Tryz.func25 ?_
 ·simp only[go_sem];refine cw (.hoist 0 (.hoist 1 (.hoist 2 (.hoist 3 (.hoist 4 (.hoist 5 (.hoist 6 (.hoist 7 (.hoist 8 (.hoist 9 (.hoist 10 .done))))))))))) aw (by kernel_rfl) (by kernel_rfl) ?_;simp only[go_sem];rw[decide_eq_decide];omega
end
theorem JV (t:List UInt8) (m:Mem) (ht:t.length<=4611686018427387904) (hk:FnH Tryz.prog 48 [.v (.string (bs t))] ⟨[],[]⟩ m fun r H' m' =>ak m m' /\uH (aD t) r H'):
  FnH Tryz.prog 24 [.v (.string (bs t))] ⟨[],[]⟩ m fun r H' m' =>ak m m' /\(((aD t).2.2≠0/\r= .tup [.v (.pointer none),.v (.int .i64 (aD t).2.1),.v (.int .i64 (aD t).2.2)]/\H' =⟨[],[]⟩)\/
   ((aD t).2.2=0/\r= .tup [.box 1 0,.v (.int .i64 0),.v (.int .i64 0)]/\H' =⟨[⟨1,62,[.vec 0 0,.v (.int .i64 0),.v (.int .i64 t.length),.v (.bool false),.v (.int .i64 0)]⟩],[⟨0,0,50,4,(aD t).1.length,cG (aD t).1⟩]⟩)):=by
 have h1:=G0 hk;by_cases h0:(aD t).2.2=0
 ·have h2:=h1.mono (R' :=fun r H' m' =>ak m m' /\r= .tup [.vec 0 0,.v (.int .i64 (aD t).2.1),.v (.int .i64 0)]/\H' =⟨[],[⟨0,0,50,4,(aD t).1.length,cG (aD t).1⟩]⟩) fun r H' m' _ h=>by
   rcases h with ⟨l1,⟨_,h3,h4⟩ |⟨h3,_⟩⟩
   ·rw[h0] at h3;exact⟨l1,h3,h4⟩
   ·exact absurd h0 h3
  clear h1;refine aH aw Tryz.func24 ?_
  ·simp only[go_sem];refine ab (h2.mono ?_);clear h2;rintro r H' m1 aJ ⟨l1,rfl,rfl⟩;simp only[go_sem];exact⟨fun h=>absurd trivial h,l1,.inr h0⟩
 ·have h2:=h1.mono (R' :=fun r H' m' =>ak m m' /\r= .tup [.v (.slice none 0 0),.v (.int .i64 (aD t).2.1),.v (.int .i64 (aD t).2.2)]/\H' =⟨[],[]⟩) fun r H' m' _ h=>by
   rcases h with ⟨l1,⟨h3,_⟩ |⟨_,_,h3,h4⟩⟩
   ·exact absurd h3 h0
   ·exact⟨l1,h3,h4⟩
  clear h1;refine aH aw Tryz.func24 ?_
  ·simp only[go_sem];refine ab (h2.mono ?_);clear h2;rintro r H' m1 aJ ⟨l1,rfl,rfl⟩;simp only[go_sem];exact⟨fun _=>⟨l1,.inl h0⟩,fun h=>absurd h h0⟩
theorem F8 {t:List UInt8} {m:Mem} (ht:t.length<=4611686018427387904) (hk:FnH Tryz.prog 48 [.v (.string (bs t))] ⟨[],[]⟩ m fun r H' m' =>ak m m' /\uH (aD t) r H') (h0:(aD t).2.2=0):
  FnH Tryz.prog 24 [.v (.string (bs t))] ⟨[],[]⟩ m fun r H' m' =>ak m m' /\r= .tup [.box 1 0,.v (.int .i64 0),.v (.int .i64 0)]/\H' =⟨[⟨1,62,[.vec 0 0,.v (.int .i64 0),.v (.int .i64 t.length),.v (.bool false),.v (.int .i64 0)]⟩],[⟨0,0,50,4,(aD t).1.length,cG (aD t).1⟩]⟩:=
 (JV t m ht hk).mono fun r H' m' _ h=>by
  rcases h with ⟨l1,⟨h1,_⟩ |⟨_,h2,h3⟩⟩
  ·exact absurd h0 h1
  ·exact⟨l1,h2,h3⟩
theorem F9 {t:List UInt8} {m:Mem} (ht:t.length<=4611686018427387904) (hk:FnH Tryz.prog 48 [.v (.string (bs t))] ⟨[],[]⟩ m fun r H' m' =>ak m m' /\uH (aD t) r H') (h0:¬(aD t).2.2=0):
  FnH Tryz.prog 24 [.v (.string (bs t))] ⟨[],[]⟩ m fun r H' m' =>ak m m' /\r= .tup [.v (.pointer none),.v (.int .i64 (aD t).2.1),.v (.int .i64 (aD t).2.2)]/\H' =⟨[],[]⟩:=
 (JV t m ht hk).mono fun r H' m' _ h=>by
  rcases h with ⟨l1,⟨_,h2,h3⟩ |⟨h1,_⟩⟩
  ·exact⟨l1,h2,h3⟩
  ·exact absurd h1 h0
theorem M5:∀(s:List UInt8),(∀c∈s,c.toNat≠47)->Lib.indexByte s 47= -1
 |[],_=>rfl
 |b::l,h=>by
  have hb:(b==47)=false:=by
   rw[beq_eq_false_iff_ne];intro e;exact h b (df ..) (by rw[e];rfl)
  have ih:=M5 l fun c hc=>h c (cu _ hc)
  simp [Lib.indexByte,hb,ih]
theorem M6:∀(s:List UInt8),(∃c∈s,c.toNat=47)->0<=Lib.indexByte s 47
 |[],h=>by obtain⟨c,hc,_⟩:=h;cases hc
 |b::l,h=>by
  unfold Lib.indexByte;split
  ·exact Int.le_refl _
  ·rename_i hb;have:∃c∈l,c.toNat=47:=by
    obtain⟨c,hc,he⟩:=h;rcases List.mem_cons.1 hc with rfl |hc
    ·exact absurd (beq_iff_eq.2 (UInt8.toNat_inj.1 (he.trans rfl))) hb
    ·exact⟨c,hc,he⟩
   have ih:=M6 l this;split
   ·rename_i h1;have:=eq_of_beq h1;omega
   ·omega
theorem Vu {s:List UInt8} (h:∃c∈s,c.toNat=47):nr s=false:=by
 obtain⟨c,hc,he⟩:=h;cases s with
 |nil=>cases hc
 |cons b r=>
  rcases List.mem_cons.1 hc with rfl |hc
  ·simp [nr,cM,he]
  ·have:r.all qf=false:=by
    rw[List.all_eq_false];exact⟨c,hc,by simp [qf,cM,dk,he]⟩
   rw[nr,this,Bool.and_false]
theorem Rp (s:List UInt8):oH s=(decide (s=ei)||decide (s=vD)||(decide (s.length<=64)&&nr s)):=by
 rw[oH,dX];by_cases h:∃c∈s,c.toNat=47
 ·have h1:=M6 s h;have h2:decide (Lib.indexByte s 47<0)=false:=bg (by omega);rw[Vu h,h2,Bool.and_false,Bool.and_false]
 ·have h2:∀c∈s,c.toNat≠47:=fun c hc he=>h ⟨c,hc,he⟩
  rw[M5 s h2,L6 s h2];simp
theorem R3 (s:List UInt8) (m:Mem) (hs:BL s):FnH Tryz.prog 213 [.v (.string (bs s))] ⟨[],[]⟩ m fun r H' _=>r= .v (.bool (oH s))/\H' =⟨[],[]⟩:=by
 refine aH Hx Tryz.func213 ?_
 ·simp only[go_sem];rw[Rp];have e:decide ((s.length:Int)<=64)=decide (s.length<=64):=by rw[decide_eq_decide];omega
  rw[e];exact⟨fun _=>hs,rfl⟩
abbrev cfR:Cfg:=fh (fun _=>false) [(213,eB BL fun s=> .bool (oH s)),(107,eB BL fun s=> .bool (dz s))]
theorem puR:cd cfR Tryz.prog:=pure_cons (by kernel_rfl) (ff R3) (pure_cons (by kernel_rfl) (ff xd) pure_nil)
theorem BO (s:List UInt8) (m:Mem) (hs:BL s):FnH Tryz.prog 163 [.v (.string (bs s))] ⟨[],[]⟩ m fun r H' _=>r= .v (.bool (dZ s))/\H' =⟨[],[]⟩:=by
 refine aH puR Tryz.func163 ?_
 ·simp only[go_sem];have e:∀u:UInt8,((u.toNat:Int)=60)=(u=60):=fun u=>propext ⟨fun h=>UInt8.toNat_inj.1 (by have:(60:UInt8).toNat=60:=rfl;omega),fun h=>by rw[h];rfl⟩
  simp only[e];refine⟨hs,fun h=>⟨by omega,by have:=Li h;omega⟩,fun _=>hs,fun h=>ab ((Iz m).mono ?_),fun h=> ?_⟩
  ·rintro r H' m' hm ⟨rfl,rfl,rfl⟩;simp only[go_sem];refine⟨by kernel_rfl,fun a c m1 aJ hc bP=>cE ((FM fb s a 28 c m1 bP (by omega)).mono ?_)⟩;rintro r H' m' aG ⟨rfl,rfl⟩;have h1:=h.1.1;have h2:=h.1.2;have h3:=h.2;generalize hb:fb.contains s=kb
   simp only[go_sem];rw[dZ,h1,h3,hb,bO h2];rfl
  ·rw[dZ];rcases h with (h |h) |h
   ·simp [h]
   ·have:decide (s.getD 0 0≠60)=false:=by rw[h];rfl
    rw[this];simp
   ·simp [h]
abbrev abR:Cfg:=fh (fun _=>false) [(170,eB BL fun s=> .bool (dX s))]
theorem aaI:cd abR Tryz.prog:=pure_cons (by kernel_rfl) (ff Em) pure_nil
theorem Qb (d b:Int) (s:List UInt8) (m:Mem) (hs:BL s):FnH Tryz.prog 214 [.v (.agg ⟨[.int .i64 d,.int .u8 b,.string (bs s)]⟩)] ⟨[],[]⟩ m fun r H' _=>r= .v (.bool (r8 d b s))/\H' =⟨[],[]⟩:=by
 refine aH aaI Tryz.func214 ?_
 ·simp only[go_sem];refine⟨fun h=>by simp only[r8,ah h],fun h=> ?_⟩;have h0:¬(d<0\/8<d):=fun h' =>h'.elim h.1 h.2
  simp only[r8,ae h0];refine⟨fun h1=>⟨fun _=>by simp [h1],fun n=>absurd h1 n⟩,fun h1=>⟨fun h2=>by simp [h2],fun h2=>⟨fun h3=>by simp [h3,Bool.and_comm],fun h3=>⟨fun h4=>⟨hs,by simp [h4]⟩,fun h4=>by simp [h1,h2,h3,h4]⟩⟩⟩⟩
abbrev abQ:Cfg:=fh (fun _=>false) [(214,qD r8),(107,eB BL fun s=> .bool (dz s))]
theorem aaH:cd abQ Tryz.prog:=pure_cons (by kernel_rfl) (tS Qb) (pure_cons (by kernel_rfl) (ff xd) pure_nil)
theorem Es (d b:Int) (s:List UInt8) (m:Mem) (hs:BL s):FnH Tryz.prog 164 [.v (.agg ⟨[.int .i64 d,.int .u8 b,.string (bs s)]⟩)] ⟨[],[]⟩ m fun r H' _=>r= .v (.bool (gg d b s))/\H' =⟨[],[]⟩:=by
 refine aH aaH Tryz.func164 ?_
 ·simp only[go_sem];refine⟨hs,fun _=>hs,?_⟩;simp [gg]
theorem QS (s:List UInt8) (m:Mem) (_:BL s):FnH Tryz.prog 165 [.v (.string (bs s))] ⟨[],[]⟩ m fun r H' _=>r= .v (.bool (opsL.contains s))/\H' =⟨[],[]⟩:=by
 refine aH aw Tryz.func165 ?_
 ·simp only[go_sem];refine⟨by kernel_rfl,fun a c m1 hm hc hr=>cE ((FM opsL s a 19 c m1 hr (by omega)).mono ?_)⟩;rintro r H' m' aG ⟨rfl,rfl⟩;generalize opsL.contains s=kb
  simp only[go_sem]
theorem Qg (s:List UInt8) (m:Mem) (hs:BL s):FnH Tryz.prog 162 [.v (.string (bs s))] ⟨[],[]⟩ m fun r H' _=>r= .v (.bool (p8 s))/\H' =⟨[],[]⟩:=by
 refine aH mQ Tryz.func162 ?_
 ·simp only[go_sem];refine cK mQ (fun k:Nat=>⟨[⟨0,[],.v (.string (bs s))⟩,⟨3,[],.v (.int .i64 k)⟩],[],[],[],0,m⟩)
   (fun k=>k<=s.length/\(s.take k).all ov=true) (fun k=>s.length - k) 0 (fun _ _=>aq _) (fun _ _=> .inl rfl) ?_ ?_ ?_
  ·simp only[go_sem];rfl
  ·simp
  ·rintro k ⟨hk,hp⟩;simp only[go_sem];refine⟨fun ao=> ?_,fun cA=> ?_⟩
   ·have bV:k<s.length:=by omega
    have hd:=drop_at bV;refine⟨⟨by omega,ao⟩,fun _=>⟨by omega,ao⟩,fun _=>⟨by omega,ao⟩,fun h=> ?_,fun h=>⟨by unfold ax;have:s.length<=4611686018427387904:=hs;omega,k+1,by omega,⟨by omega,?_⟩,by omega⟩⟩
    ·have hb:ov (s.getD k 0)=false:=by
      simp only[ov,Bool.or_eq_false_iff,Bool.and_eq_false_iff,decide_eq_false_iff_not];exact⟨by omega,by omega⟩
     have:s.all ov=false:=by
      rw[<- List.take_append_drop k s,List.all_append,hd,List.all_cons,hb];simp
     rw[p8,this,Bool.false_and]
    ·have hb:ov (s.getD k 0)=true:=by
      simp only[ov,Bool.or_eq_true,cO,gA];omega
     rw[List.take_succ_eq_append_getElem bV,List.all_append,hp,List.all_cons];have e:s.getD k 0=s[k]:=by rw[List.getD_eq_getElem?_getD,List.getElem?_eq_getElem bV];rfl
     rw[e] at hb;simp [hb]
   ·rw[fH (by omega)] at hp;rw[p8,hp,Bool.true_and,decide_eq_decide];omega
theorem Ty.eq_s (x:Ty):Ty.eq x x=true:=by simp [Ty.eq]
mutual
theorem nG:∀(e:Ex),gU e e=true
 | .mk k n s c ty args=>by rw[gU,Ty.eq_s,Nq args];simp
theorem Nq:∀(l:List Ex),mK l l=true
 |[]=>by simp only[mK]
 |e::r=>by rw[mK,nG e,Nq r];rfl
end
mutual
theorem YV:∀(e:St),cF e e=true
 | .mk k nm ty tg ex body alt=>by rw[cF,Ty.eq_s,nG,nG,nv body,nv alt];simp
theorem nv:∀(l:List St),iS l l=true
 |[]=>by simp only[iS]
 |e::r=>by rw[iS,YV e,nv r];rfl
end
theorem qj (e:Ex):gU e zE=mi e:=by
 cases e with
 |mk k n s c ty args=>
  have:mK args []=decide (args.length=0):=by cases args<;>simp [mK]
  simp only[zE,gU,mi,jS,this];grind
theorem pU (l:List St):iS l []=decide (l.length=0):=by cases l<;>simp [iS]
def j5 (nm:List UInt8) (ty:Ty) (t:Bool):Bool:=if t=true then gg ty.dim ty.base ty.name&&dZ nm else Ty.eq ty af&&decide (nm=[])
def gW (nm:List UInt8) (ty:Ty) (tg:Ex) (body alt:List St) (t t2 a b:Bool):Bool:=
 j5 nm ty t&&(t2||mi tg)&&(a||decide (body.length=0))&&(b||decide (alt.length=0))&&eU false body&&eU false alt
def gk (k:Int) (nm:List UInt8) (ty:Ty) (tg ex:Ex) (body alt:List St):Bool:=
 if k=1 then gW nm ty tg body alt true false false false&&dm ex
 else if k=2 then gW nm ty tg body alt false true false false&&dm ex&&dm tg&&(decide (tg.k=6)||decide (tg.k=7)||decide (tg.k=8)||decide (tg.k=9))
 else if k=3 then gW nm ty tg body alt false false false false&&dm ex&&(decide (ex.k=10)||decide (ex.k=11)||decide (ex.k=12)||decide (ex.k=13))
 else if k=4 then gW nm ty tg body alt false false true true&&dm ex
 else if k=5\/k=9 then gW nm ty tg body alt false false true false&&dm ex
 else if k=6 then gW nm ty tg body alt false false false false&&(mi ex||dm ex)
 else if k=7 then gW nm ty tg body alt false false false false&&dm ex
 else if k=8 then gW nm ty tg body alt true false true true&&mi ex
 else if k=10 then gW nm ty tg body alt false false true false&&mi ex
 else if k=11 then gW nm ty tg body alt false false false false&&tR ex
 else false
theorem JC (l:List St) (h:decide (l.length=0)=true) (b:Bool):eU b l=true:=by
 cases l with
 |nil=>simp [eU,iB]
 |cons a r=>simp at h
theorem MO (k:Int) (nm:List UInt8) (ty:Ty) (tg ex:Ex) (body alt:List St):gE (.mk k nm ty tg ex body alt)=gk k nm ty tg ex body alt:=by
 have h1:=JC body;have h2:=JC alt;rw[gE];change (gG k nm ty tg ex (eU false body&&eU false alt)&&_)=_
 generalize hb:eU false body=b1
 generalize ha:eU false alt=b2
 by_cases k1:k=1
 ·subst k1;simp only[gk,gG,iN,gW,j5,if_true,cF,nG,qj,pU,nv,Ty.eq_s,hb,ha,aC];grind
 by_cases k2:k=2
 ·subst k2;simp only[gk,gG,iN,gW,j5,if_true,if_false,Int.reduceEq,cF,nG,qj,pU,nv,Ty.eq_s,hb,ha,aC,r9];grind
 by_cases k3:k=3
 ·subst k3;simp only[gk,gG,iN,gW,j5,if_true,if_false,or_false,Int.reduceEq,cF,nG,qj,pU,nv,Ty.eq_s,hb,ha,aC,sI];grind
 by_cases k4:k=4
 ·subst k4;simp only[gk,gG,iN,gW,j5,if_true,if_false,or_false,true_or,Int.reduceEq,cF,nG,qj,pU,nv,Ty.eq_s,hb,ha,aC];grind
 by_cases k5:k=5
 ·subst k5;simp only[gk,gG,iN,gW,j5,if_true,if_false,or_false,true_or,or_true,Int.reduceEq,cF,nG,qj,pU,nv,Ty.eq_s,hb,ha,aC];grind
 by_cases k6:k=6
 ·subst k6;simp only[gk,gG,iN,gW,j5,if_true,if_false,or_false,true_or,or_true,Int.reduceEq,cF,nG,qj,pU,nv,Ty.eq_s,hb,ha,aC];grind
 by_cases k7:k=7
 ·subst k7;simp only[gk,gG,iN,gW,j5,if_true,if_false,or_false,true_or,or_true,Int.reduceEq,cF,nG,qj,pU,nv,Ty.eq_s,hb,ha,aC];grind
 by_cases k8:k=8
 ·subst k8;simp only[gk,gG,iN,gW,j5,if_true,if_false,or_false,true_or,or_true,Int.reduceEq,cF,nG,qj,pU,nv,Ty.eq_s,hb,ha,aC];grind
 by_cases k9:k=9
 ·subst k9;simp only[gk,gG,iN,gW,j5,if_true,if_false,or_false,true_or,or_true,Int.reduceEq,cF,nG,qj,pU,nv,Ty.eq_s,hb,ha,aC];grind
 by_cases k10:k=10
 ·subst k10;simp only[gk,gG,iN,gW,j5,if_true,if_false,or_false,true_or,or_true,Int.reduceEq,cF,nG,qj,pU,nv,Ty.eq_s,hb,ha,aC];grind
 by_cases k11:k=11
 ·subst k11;simp only[gk,gG,iN,gW,j5,if_true,if_false,or_false,true_or,or_true,Int.reduceEq,cF,nG,qj,pU,nv,Ty.eq_s,hb,ha,aC];grind
 simp only[gk,gG,k1,k2,k3,k4,k5,k6,k7,k8,k9,k10,k11,if_false,or_false,Bool.false_and]
def eJ (u:List UInt8) (n:Int) (s c:List UInt8) (ty:Ty):Bool:=(u.contains 78||decide (n=0))&&(u.contains 83||decide (s=[]))&&(u.contains 67||decide (c=[]))&&(u.contains 84||Ty.eq ty af)
def De (k n:Int) (s c:List UInt8) (ty:Ty) (l:Nat):Bool:=
 if k=1 then eJ [78] n s c ty&&decide ((l:Int)=0)&&decide (0<=n)&&decide (n<2147483648)
 else if k=2 then eJ [78] n s c ty&&decide ((l:Int)=0)&&decide (0<=n)
 else if k=3 then eJ [83] n s c ty&&decide ((l:Int)=0)&&p8 s
 else if k=4\/k=5 then eJ [] n s c ty&&decide ((l:Int)=0)
 else if k=6 then eJ [83] n s c ty&&decide ((l:Int)=0)&&dZ s
 else if k=7 then eJ [83] n s c ty&&decide ((l:Int)=1)&&dZ s
 else if k=8 then eJ [83,67] n s c ty&&decide ((l:Int)=0)&&dZ s&&dz c
 else if k=9 then eJ [] n s c ty&&decide ((l:Int)=2)
 else if k=10 then eJ [83] n s c ty&&decide (1<=(l:Int))&&decide ((l:Int)<=17)&&dZ s
 else if k=11 then eJ [83,67] n s c ty&&decide ((l:Int)<=16)&&dZ s&&dz c
 else if k=12 then eJ [83] n s c ty&&decide ((l:Int)<=16)&&dZ s
 else if k=13 then eJ [67] n s c ty&&decide ((l:Int)<=16)&&dz c
 else if k=14 then eJ [84] n s c ty&&decide ((l:Int)=1)&&gg ty.dim ty.base ty.name&&decide (ty.dim<8)
 else if k=15 then eJ [83] n s c ty&&decide ((l:Int)=1)&&(decide (s=[45])||decide (s=[33]))
 else if k=16 then eJ [83] n s c ty&&decide ((l:Int)=2)&&opsL.contains s
 else if k=17\/k=18 then eJ [84] n s c ty&&decide ((l:Int)=1)&&gg ty.dim ty.base ty.name
 else if k=19\/k=20\/k=21 then eJ [] n s c ty&&decide ((l:Int)=1)
 else false
theorem Vy (k n:Int) (s c:List UInt8) (ty:Ty) (l:Nat):De k n s c ty l=qd k n s c ty.dim ty.base ty.name l:=by
 have h1:eJ [78] n s c ty=(decide (s=[])&&decide (c=[])&&Ty.eq ty af):=by simp [eJ]
 have h2:eJ [83] n s c ty=(decide (n=0)&&decide (c=[])&&Ty.eq ty af):=by simp [eJ]
 have h3:eJ [] n s c ty=(decide (n=0)&&decide (s=[])&&decide (c=[])&&Ty.eq ty af):=by simp [eJ]
 have h4:eJ [83,67] n s c ty=(decide (n=0)&&Ty.eq ty af):=by simp [eJ]
 have h5:eJ [67] n s c ty=(decide (n=0)&&decide (s=[])&&Ty.eq ty af):=by simp [eJ]
 have h6:eJ [84] n s c ty=(decide (n=0)&&decide (s=[])&&decide (c=[])):=by simp [eJ]
 have ht:Ty.eq ty af=(decide (ty.dim=0)&&(decide (ty.base=0)&&decide (ty.name=[]))):=rfl;by_cases hk:isKind k=true
 ·have tr:=kinds hk;rw[qd,hk];generalize hg1:p8 s=g1
  generalize rP:opsL.contains s=g2
  generalize hg3:dZ s=g3
  generalize hg4:dz c=g4
  generalize hg5:gg ty.dim ty.base ty.name=g5
  rcases tr with rfl |rfl |rfl |rfl |rfl |rfl |rfl |rfl |rfl |rfl |rfl |rfl |rfl |rfl |rfl |rfl |rfl |rfl |rfl |rfl |rfl<;>
   simp only[De,np,py,Int.reduceEq,if_true,if_false,or_true,or_false,true_or,false_or,h1,h2,h3,h4,h5,h6,hg1,rP,hg3,hg4,hg5,ht,Bool.false_eq_true,Bool.true_and]<;>grind
 ·rw[Bool.not_eq_true] at hk;rw[qd,hk];have:∀j:Int,1<=j->j<=21->¬k=j:=fun j h1 h2 h=>by rw[h] at hk;simp [isKind,h1,h2] at hk
  simp only[De,this 1 (by decide) (by decide),this 2 (by decide) (by decide),this 3 (by decide) (by decide),this 4 (by decide) (by decide),this 5 (by decide) (by decide),this 6 (by decide) (by decide),this 7 (by decide) (by decide),this 8 (by decide) (by decide),this 9 (by decide) (by decide),this 10 (by decide) (by decide),this 11 (by decide) (by decide),this 12 (by decide) (by decide),this 13 (by decide) (by decide),this 14 (by decide) (by decide),this 15 (by decide) (by decide),this 16 (by decide) (by decide),this 17 (by decide) (by decide),this 18 (by decide) (by decide),this 19 (by decide) (by decide),this 20 (by decide) (by decide),this 21 (by decide) (by decide),or_false,if_false,Bool.false_and]
theorem Tu {u:List UInt8} {c:UInt8} {k:Nat} (h:k<u.length):(u.take (k+1)).contains c=((u.take k).contains c||decide (u.getD k 0=c)):=by
 have e:u.getD k 0=u[k]:=by rw[List.getD_eq_getElem?_getD,List.getElem?_eq_getElem h];rfl
 rw[List.take_succ_eq_append_getElem h,e];simp only[List.contains_eq_mem,List.mem_append,List.mem_singleton,Bool.decide_or,eq_comm]
theorem CV (d c:UInt8):decide (d=c)=decide ((d.toNat:Int)=(c.toNat:Int)):=by
 rw[decide_eq_decide];exact⟨fun e=>by rw[e],fun e=>UInt8.toNat_inj.1 (by omega)⟩
theorem SP (k n:Int) (s c:List UInt8) (ty:Ty) (sl:Value) (u:List UInt8) (m:Mem) (ga:sl.oneCell' =true) (hu:u.length<=4):
  FnH Tryz.prog 161 [.v (.agg ⟨cT k n s c ty sl⟩),.v (.string (bs u))] ⟨[],[]⟩ m fun r H' _=>r= .v (.bool (eJ u n s c ty))/\H' =⟨[],[]⟩:=by
 refine enter gp aw Tryz.func161 rfl rfl (by kernel_rfl) rfl ?_ ?_
 ·simp only[go_sem,cT]
 ·simp only[go_sem,cT];refine fy aw (fun k' :Nat=>⟨[⟨1,[],.v (.string (bs u))⟩,⟨2,[],.box 0 0⟩,⟨5,[],.v (.bool ((u.take k').contains 78))⟩,⟨6,[],.v (.bool ((u.take k').contains 83))⟩,⟨7,[],.v (.bool ((u.take k').contains 67))⟩,⟨8,[],.v (.bool ((u.take k').contains 84))⟩,⟨9,[],.v (.int .i64 k')⟩],[],[⟨0,33,(cT k n s c ty sl).map .v⟩],[],1,m⟩)
   (fun k' =>k' <=u.length) (fun k' =>u.length - k') 0 (by kernel_rfl) (fun _ _=>aq _) (fun _ _=> .inl rfl) (fun _=> ?_) ?_ ?_ ?_
  ·simp only[go_sem,cT]
  ·simp only[go_sem,cT];simp
  ·exact au _
  ·intro k' hk;simp only[go_sem,cT,qi];have hc:k' <u.length->∀c,(u.take (k' +1)).contains c=((u.take k').contains c||decide (u.getD k' 0=c)):=fun h c=>Tu h
   generalize u.getD k' 0=d at hc ⊢
   have AX:decide (d=78)=decide ((d.toNat:Int)=78):=CV d 78;have AW:decide (d=83)=decide ((d.toNat:Int)=83):=CV d 83;have AY:decide (d=67)=decide ((d.toNat:Int)=67):=CV d 67;have AV:decide (d=84)=decide ((d.toNat:Int)=84):=CV d 84;refine⟨fun ao=> ?_,fun cA=> ?_⟩
   ·have hc:=hc (by omega);exact⟨by omega,fun h1=>⟨by unfold ax;omega,k' +1,⟨by rw[hc,AX];simp [h1],by rw[hc,AW];simp [h1],by rw[hc,AY];simp [h1],by rw[hc,AV];simp [h1],by simp⟩,by omega,by omega⟩,fun n1=>⟨fun h2=>⟨by unfold ax;omega,k' +1,⟨by rw[hc,AX];simp [n1,h2],by rw[hc,AW];simp [n1,h2],by rw[hc,AY];simp [n1,h2],by rw[hc,AV];simp [n1,h2],by simp⟩,by omega,by omega⟩,fun n2=>⟨fun h3=>⟨by unfold ax;omega,k' +1,⟨by rw[hc,AX];simp [n1,n2,h3],by rw[hc,AW];simp [n1,n2,h3],by rw[hc,AY];simp [n1,n2,h3],by rw[hc,AV];simp [n1,n2,h3],by simp⟩,by omega,by omega⟩,fun n3=>⟨fun h4=>⟨by unfold ax;omega,k' +1,⟨by rw[hc,AX];simp [n1,n2,n3,h4],by rw[hc,AW];simp [n1,n2,n3,h4],by rw[hc,AY];simp [n1,n2,n3,h4],by rw[hc,AV];simp [n1,n2,n3,h4],by simp⟩,by omega,by omega⟩,fun n4=>⟨by unfold ax;omega,k' +1,⟨by rw[hc,AX];simp [n1,n2,n3,n4],by rw[hc,AW];simp [n1,n2,n3,n4],by rw[hc,AY];simp [n1,n2,n3,n4],by rw[hc,AV];simp [n1,n2,n3,n4],by simp⟩,by omega,by omega⟩⟩⟩⟩⟩
   ·rw[fH (by omega)];rfl
def Dd:List Value->Option (Prop×Value)
 |[.agg ⟨[.int .i64 _,.int .i64 n,.string s,.string c,.int .i64 d,.int .u8 b,.string nm,sl]⟩,.string u]=>some (sl.oneCell' =true/\(tl u).length<=4,.bool (eJ (tl u) n (tl s) (tl c) ⟨d,b,tl nm⟩))
 |_=>none
attribute [go_sem] Dd.eq_1
theorem TV:nJ Tryz.prog 161 Dd:=fun b5 y hy hB m=>by
 unfold Dd at hy;split at hy
 ·rename_i k n s c d b nm sl u;cases hy;have:=SP k n (tl s) (tl c) ⟨d,b,tl nm⟩ sl (tl u) m hB.1 hB.2;simp only[cT,la] at this;exact this
 ·cases hy
abbrev BB:Cfg:=fh (fun _=>false) [(161,Dd),(162,eB BL fun s=> .bool (p8 s)),(163,eB BL fun s=> .bool (dZ s)),(107,eB BL fun s=> .bool (dz s)),(164,qD gg),(165,eB BL fun s=> .bool (opsL.contains s))]
theorem yA:cd BB Tryz.prog:=pure_cons (by kernel_rfl) TV (pure_cons (by kernel_rfl) (ff Qg) (pure_cons (by kernel_rfl) (ff BO) (pure_cons (by kernel_rfl) (ff xd) (pure_cons (by kernel_rfl) (tS Es) (pure_cons (by kernel_rfl) (ff QS) pure_nil)))))
theorem Vd (k n:Int) (s c:List UInt8) (ty:Ty) (a:Option Addr) (l cp:Nat) (m:Mem) (hs:BL s) (hc:BL c) (hn:BL ty.name) (hk:isKind k=true):
  FnH Tryz.prog 72 [.v (.agg ⟨cT k n s c ty (.slice a l cp)⟩)] ⟨[],[]⟩ m fun r H' _=>r= .v (.bool (De k n s c ty l))/\H' =⟨[],[]⟩:=by
 rcases kinds hk with h |h |h |h |h |h |h |h |h |h |h |h |h |h |h |h |h |h |h |h |h<;>subst h<;>refine enter BB yA Tryz.func72 rfl rfl (by kernel_rfl) rfl (by simp only[go_sem,cT]) ?_<;>
  simp only[go_sem,cT,Int.reduceEq,aC,aL]
 all_goals first |rfl |exact⟨fun _=>hs,rfl⟩ |exact⟨fun _=>hc,rfl⟩ |exact⟨fun _=>hn,rfl⟩ |exact⟨fun _=>hs,fun _=>hc,rfl⟩
theorem TE (k n:Int) (s c:List UInt8) (ty:Ty) (a:Option Addr) (l cp:Nat) (m:Mem) (e:∀j:Int,1<=j->j<=21->(k=j)=False):
  FnH Tryz.prog 72 [.v (.agg ⟨cT k n s c ty (.slice a l cp)⟩)] ⟨[],[]⟩ m fun r H' _=>r= .v (.bool false)/\H' =⟨[],[]⟩:=by
 have e1:=e 1 (by decide) (by decide);have e2:=e 2 (by decide) (by decide);have e3:=e 3 (by decide) (by decide);have e4:=e 4 (by decide) (by decide);have e5:=e 5 (by decide) (by decide);have e6:=e 6 (by decide) (by decide);have e7:=e 7 (by decide) (by decide);have e8:=e 8 (by decide) (by decide);have e9:=e 9 (by decide) (by decide);have gf:=e 10 (by decide) (by decide);have jQ:=e 11 (by decide) (by decide);have vk:=e 12 (by decide) (by decide);have vj:=e 13 (by decide) (by decide);have vi:=e 14 (by decide) (by decide);have vh:=e 15 (by decide) (by decide);have vg:=e 16 (by decide) (by decide);have vf:=e 17 (by decide) (by decide);have vd:=e 18 (by decide) (by decide);have Io:=e 19 (by decide) (by decide);have Im:=e 20 (by decide) (by decide);have Il:=e 21 (by decide) (by decide);refine enter BB yA Tryz.func72 rfl rfl (by kernel_rfl) rfl ?_ ?_
 ·simp only[go_sem,cT]
 ·simp only[go_sem,cT,e1,e2,e3,e4,e5,e6,e7,e8,e9,gf,jQ,vk,vj,vi,vh,vg,vf,vd,Io,Im,Il,aL]
theorem QT (k n:Int) (s c:List UInt8) (ty:Ty) (a:Option Addr) (l cp:Nat) (m:Mem) (hs:BL s) (hc:BL c) (hn:BL ty.name):
  FnH Tryz.prog 72 [.v (.agg ⟨cT k n s c ty (.slice a l cp)⟩)] ⟨[],[]⟩ m fun r H' _=>r= .v (.bool (qd k n s c ty.dim ty.base ty.name l))/\H' =⟨[],[]⟩:=by
 by_cases hk:isKind k=true
 ·rw[<- Vy];exact Vd k n s c ty a l cp m hs hc hn hk
 ·rw[Bool.not_eq_true] at hk;have e0:qd k n s c ty.dim ty.base ty.name l=false:=by rw[qd,hk];rfl
  rw[e0];exact TE k n s c ty a l cp m fun j h1 h2=>eq_false fun h=>by rw[h] at hk;simp [isKind,h1,h2] at hk
theorem El:∀{l:List Ex} {i:Nat} (hi:i<l.length),kv (l.take (i+1))=(kv (l.take i)&&dm l[i])
 |[],_,hi=>absurd hi (Nat.not_lt_zero _)
 |e::r,0,_=>by simp [kv]
 |e::r,i+1,hi=>by
  have:=El (l:=r) (i:=i) (by simpa using hi);simp only[List.take_succ_cons,kv,this,List.getElem_cons_succ,Bool.and_assoc]
theorem Jc {l:List Ex} {i:Nat} (hi:i<l.length) (h:dm l[i]=false):kv l=false:=by
 cases hv:kv l with
 |false=>rfl
 |true=>rw[IS hv _ (List.getElem_mem hi)] at h;cases h
theorem yZ:∀(h:Nat) (e:Ex) (cs:List Value) (m:Mem),bq e<=h->ba m e cs->ay 36 [.v (.agg ⟨cs⟩)] m (.bool (dm e))
 |0,.mk k n s c ty args,cs,m,hd,_=>by simp [bq] at hd
 |h+1,.mk k n s c ty args,cs,m,hd,he=>by
  simp only[ba] at he;obtain⟨a,cp,xs,rfl,bb,hr,av,eE⟩:=he;have hn:=av.2.2.2.2.2;simp only[bq] at hd;have hN:=fun m' =>QT k n s c ty a args.length cp m' (cg av.2.2.1 (by decide)) (cg av.2.2.2.1 (by decide)) (cg av.2.2.2.2.1.2.2 (by decide))
  refine enter gp aw Tryz.func36 rfl rfl (by kernel_rfl) rfl ?_ ?_
  ·simp only[go_sem,cT]
  ·simp only[go_sem,cT];refine fy aw (fun x:Nat×Mem=>⟨[⟨1,[],.box 0 0⟩,⟨3,[],.v (.int .i64 x.1)⟩],[],[⟨0,33,(cT k n s c ty (.slice a args.length cp)).map .v⟩],[],1,x.2⟩)
    (fun x=>ak m x.2/\x.1<=args.length/\kv (args.take x.1)=true) (fun x=>args.length - x.1) (0,m) (by kernel_rfl) (fun _ _=>aq _) (fun x hx=>hx.1) (fun _=> ?_) ?_ ?_ ?_
   ·simp only[go_sem,cT]
   ·simp only[go_sem,cT];rfl
   ·exact⟨.inl rfl,au _,by simp [kv]⟩
   ·rintro⟨i,mm⟩ ⟨h1,h2,h3⟩;simp only at h1 h2 h3;have hx:∀(hi:i<args.length),∃x:Nd,Rd mm (cI a (i * 8)) x.cs/\a≠none/\ay 36 [.v (.agg ⟨x.cs⟩)] mm (.bool (dm args[i])):=fun hi=>by
     have aY:=aU h1 (sw eE hi);obtain⟨x,hx⟩:=pT aY;have bP:=ed (aK h1 hr) hi;rw[hx] at aY bP;exact⟨x,bP.1,bP.2,yZ h args[i] x.cs mm (by have:=xu hi;omega) aY⟩
    simp only[go_sem,cT];refine⟨fun ao=> ?_,fun cA=> ?_⟩
    ·clear hN;refine Exists.elim (hx (by clear hx;omega)) fun x bR=>⟨⟨by clear hx bR;omega,ao,bR.2.1⟩,x.cs,⟨bR.1,rfl⟩,?_⟩
     clear hx;have ha:=bR.2.2;simp only[go_sem,Nd.cs,cT];refine ab ((aS ha (fun V=>rfl)).mono ?_);clear bR ha;rintro r H' m2 aG ⟨aX,rfl,rfl⟩;simp only[go_sem,cT];have hi:i<args.length:=by omega
     refine⟨fun hv=>⟨aa h1 aX,?_⟩,fun hv=>⟨by unfold ax;simp only[az] at hn;omega,(i+1,m2),⟨by simp,.inl rfl⟩,⟨aa h1 aX,by simp only;omega,?_⟩,by simp only;omega⟩⟩
     ·rw[dm,Jc hi hv,Bool.and_false]
     ·simp only;rw[El hi,h3,hv];rfl
    ·clear hx;refine ab ((aS (hN mm) (fun V=>rfl)).mono ?_);clear hN;rintro r H' m2 aG ⟨rfl,rfl⟩;simp only[go_sem];refine⟨aa h1 (.inr aG),?_⟩;rw[fH (by omega)] at h3;rw[dm,h3,Bool.and_true]
theorem BU:∀(h:Nat) (e:Ex) (cs:List Value) (m:Mem),bq e<=h->h<=az->ba m e cs->ay 37 [.v (.agg ⟨cs⟩)] m (.int .i64 (bq e))
 |0,.mk k n s c ty args,cs,m,hd,_,_=>by simp [bq] at hd
 |h+1,.mk k n s c ty args,cs,m,hd,hb,he=>by
  simp only[ba] at he;obtain⟨a,cp,xs,rfl,bb,hr,av,eE⟩:=he;have hn:=av.2.2.2.2.2;simp only[bq] at hd;refine enter gp aw Tryz.func37 rfl rfl (by kernel_rfl) rfl ?_ ?_
  ·simp only[go_sem,cT]
  ·simp only[go_sem,cT];refine fy aw (fun x:Nat×Mem=>⟨[⟨1,[],.box 0 0⟩,⟨3,[],.v (.int .i64 (jT (args.take x.1)))⟩,⟨4,[],.v (.int .i64 x.1)⟩],[],[⟨0,33,(cT k n s c ty (.slice a args.length cp)).map .v⟩],[],1,x.2⟩)
    (fun x=>ak m x.2/\x.1<=args.length) (fun x=>args.length - x.1) (0,m) (by kernel_rfl) (fun _ _=>aq _) (fun x hx=>hx.1) (fun _=> ?_) ?_ ?_ ?_
   ·simp only[go_sem,cT]
   ·simp only[go_sem,cT];exact⟨rfl,rfl⟩
   ·exact⟨.inl rfl,au _⟩
   ·rintro⟨i,mm⟩ ⟨h1,h2⟩;simp only at h1 h2;have hx:∀(hi:i<args.length),∃x:Nd,Rd mm (cI a (i * 8)) x.cs/\a≠none/\ay 37 [.v (.agg ⟨x.cs⟩)] mm (.int .i64 (bq args[i])):=fun hi=>by
     have aY:=aU h1 (sw eE hi);obtain⟨x,hx⟩:=pT aY;have bP:=ed (aK h1 hr) hi;rw[hx] at aY bP;exact⟨x,bP.1,bP.2,BU h args[i] x.cs mm (by have:=xu hi;omega) (by omega) aY⟩
    simp only[go_sem,cT];refine⟨fun ao=> ?_,fun cA=> ?_⟩
    ·refine Exists.elim (hx (by clear hx;omega)) fun x bR=>⟨⟨by clear hx bR;omega,ao,bR.2.1⟩,x.cs,⟨bR.1,rfl⟩,?_⟩
     clear hx;have ha:=bR.2.2;simp only[go_sem,Nd.cs,cT];refine ab ((aS ha (fun V=>rfl)).mono ?_);clear bR ha;rintro r H' m2 aG ⟨aX,rfl,rfl⟩;simp only[go_sem,cT];have hi:i<args.length:=by omega
     have iZ:=BZ hi;refine⟨by unfold ax;simp only[az] at hn;omega,(i+1,m2),⟨⟨?_,by simp⟩,.inl rfl⟩,⟨aa h1 aX,by simp only;omega⟩,by simp only;omega⟩;simp only;rw[iZ];split<;>omega
    ·clear hx;have:args.take i=args:=fH (by omega);rw[this];simp only[bq];exact⟨by unfold ax;simp only[az] at hb;omega,h1,by omega⟩
theorem ME {P:Program} {f:FuncId} {args:List SV} {H:Hp} {m:Mem} {R R' :SV->Hp->Mem->Prop} (h:FnH P f args H m R) (e:∀r H' m',m.le m' ->R r H' m' ->∃r',(∀V,den V r' =den V r)/\R' r' H' m'):FnH P f args H m R' :=
 fun V w D h1 h2 h3=>(h V w D h1 h2 h3).mono fun x w2 ⟨r,V',D',H',m',e1,e2,e3,e4,e5,e6,e7,e8,e9,gf,jQ⟩=>(e r H' m' e9 jQ).elim fun r' hr=>⟨r',V',D',H',m',by rw[hr.1 V'];exact e1,e2,e3,e4,e5,e6,e7,e8,e9,gf,hr.2⟩
def acb (f:FuncId) (args:List SV) (m:Mem) (T:List Tk):Prop:=FnH Tryz.prog f args ⟨[],[]⟩ m fun r H' m' =>ak m m' /\r= .vec 0 0/\H' =⟨[],[⟨0,0,50,4,T.length,cG T⟩]⟩
theorem Zo:dY Tryz.prog 174=some none:=by kernel_rfl
theorem abK:gV Tryz.prog 174=some 45:=by kernel_rfl
theorem WM:eV Tryz.prog 45=some [.v (.slice none 0 0)]:=by kernel_rfl
theorem abU:mY Tryz.prog 45=24:=by kernel_rfl
attribute [go_sem] Zo abK WM abU dG
def RefE (e:Ex) (m:Mem):Prop:=∀(cs:List Value) (m' :Mem),ak m m' ->ba m' e cs->acb 41 [.v (.agg ⟨cs⟩)] m' (GU e)
theorem RefE.up {e:Ex} {m m' :Mem} (h:RefE e m) (hm:ak m m'):RefE e m' :=fun cs m2 hle=>h cs m2 (aa hm hle)
structure TsR (ts:List Tk):Prop extends TsB ts where
 few:ts.length<=5000
 k1:∀t∈ts,t.k=1->dX t.s=true/\fb.contains t.s=false
 k2:∀t∈ts,t.k=2->fb.contains t.s=true
 k6:∀t∈ts,t.k=6->eQ.contains t.s=true
theorem LF (s:List UInt8):TsR (aD s).1:=by
 have h:∀t∈(aD s).1,oO t≠none:=fun t ht=>(WY t ht).fmt
 refine{CL s with few:=qW s,k1:=fun t ht e=> ?_,k2:=fun t ht e=> ?_,k6:=fun t ht e=> ?_}
 ·have:=h t ht;unfold oO at this;rw[ah e] at this;split at this
  ·rename_i h1;exact h1.2
  ·exact absurd rfl this
 ·have:=h t ht;unfold oO at this;rw[ae (by omega),ah e] at this;split at this
  ·rename_i h1;exact h1.2
  ·exact absurd rfl this
 ·have:=h t ht;unfold oO at this;rw[ae (by omega),ae (by omega),ae (by omega),ae (by omega),ae (by omega),ah e] at this;split at this
  ·rename_i h1;exact h1.2
  ·exact absurd rfl this
def eZ (w:List UInt8):Bool:=eQ.contains w
def eC (w:List UInt8):Bool:=fb.contains w
theorem Yu:∀w∈fb,eQ.contains w=false:=by decide
theorem Yg:∀w∈eQ,fb.contains w=false:=by decide
section
variable {ts:List Tk} {i:Nat}
theorem TsR.curk (h:TsR ts) (p:Tk->Prop) (hz:p zT) (hp:∀t∈ts,p t) (i:Nat):p (aP ts i):=by
 by_cases hi:i<ts.length
 ·rw[zL hi];exact hp _ (List.getElem_mem hi)
 ·rw[vC (by omega)];exact hz
theorem M9 (h:TsR ts) {w:List UInt8} (hw:eZ w=true):ai ts i w=(decide ((aP ts i).k=6)&&decide ((aP ts i).s=w)):=by
 have h2:=h.curk (fun t=>t.k=2->fb.contains t.s=true) (by decide) h.k2 i;unfold ai;by_cases e:(aP ts i).k=2
 ·have h3:¬(aP ts i).s=w:=fun e2=>by
   have:=h2 e;rw[e2,Yg w (List.contains_iff_mem.1 hw)] at this;cases this
  rw[bg h3,Bool.and_false,Bool.and_false]
 ·rw[bg e,Bool.false_or]
theorem zZ (h:TsR ts) {w:List UInt8} (hw:eC w=true):ai ts i w=(decide ((aP ts i).k=2)&&decide ((aP ts i).s=w)):=by
 have h2:=h.curk (fun t=>t.k=6->eQ.contains t.s=true) (by decide) h.k6 i;unfold ai;by_cases e:(aP ts i).k=6
 ·have h3:¬(aP ts i).s=w:=fun e2=>by
   have:=h2 e;rw[e2,Yu w (List.contains_iff_mem.1 hw)] at this;cases this
  rw[bg h3,Bool.and_false,Bool.and_false]
 ·rw[bg e,Bool.or_false]
theorem sg0:(eZ [62,62,62]=true)=True:=by decide
theorem sg1:(eZ [60,60]=true)=True:=by decide
theorem sg2:(eZ [62,62]=true)=True:=by decide
theorem sg3:(eZ [61,61]=true)=True:=by decide
theorem sg4:(eZ [33,61]=true)=True:=by decide
theorem sg5:(eZ [60,61]=true)=True:=by decide
theorem sg6:(eZ [62,61]=true)=True:=by decide
theorem sg7:(eZ [38,38]=true)=True:=by decide
theorem sg8:(eZ [124,124]=true)=True:=by decide
theorem sg9:(eZ [123]=true)=True:=by decide
theorem aap:(eZ [125]=true)=True:=by decide
theorem aao:(eZ [40]=true)=True:=by decide
theorem aan:(eZ [41]=true)=True:=by decide
theorem aam:(eZ [91]=true)=True:=by decide
theorem aal:(eZ [93]=true)=True:=by decide
theorem aak:(eZ [59]=true)=True:=by decide
theorem aaj:(eZ [44]=true)=True:=by decide
theorem aai:(eZ [46]=true)=True:=by decide
theorem aah:(eZ [61]=true)=True:=by decide
theorem aag:(eZ [43]=true)=True:=by decide
theorem aaf:(eZ [45]=true)=True:=by decide
theorem aae:(eZ [42]=true)=True:=by decide
theorem aad:(eZ [47]=true)=True:=by decide
theorem aac:(eZ [37]=true)=True:=by decide
theorem aab:(eZ [60]=true)=True:=by decide
theorem aaa:(eZ [62]=true)=True:=by decide
theorem Z9:(eZ [38]=true)=True:=by decide
theorem Z8:(eZ [124]=true)=True:=by decide
theorem Z7:(eZ [94]=true)=True:=by decide
theorem Z6:(eZ [33]=true)=True:=by decide
theorem kw0:(eC [97,98,115,116,114,97,99,116]=true)=True:=by decide
theorem kw1:(eC [97,115]=true)=True:=by decide
theorem kw2:(eC [99,97,116,99,104]=true)=True:=by decide
theorem kw3:(eC [99,108,97,115,115]=true)=True:=by decide
theorem kw4:(eC [101,108,115,101]=true)=True:=by decide
theorem kw5:(eC [101,120,116,101,110,100,115]=true)=True:=by decide
theorem kw6:(eC [102,105,110,97,108]=true)=True:=by decide
theorem kw7:(eC [105,102]=true)=True:=by decide
theorem kw8:(eC [105,109,112,108,101,109,101,110,116,115]=true)=True:=by decide
theorem kw9:(eC [105,110,116]=true)=True:=by decide
theorem abb:(eC [105,110,116,101,114,102,97,99,101]=true)=True:=by decide
theorem aba:(eC [105,115]=true)=True:=by decide
theorem aa9:(eC [108,101,110]=true)=True:=by decide
theorem aa8:(eC [108,111,110,103]=true)=True:=by decide
theorem aa7:(eC [110,101,119]=true)=True:=by decide
theorem aa6:(eC [110,117,108,108]=true)=True:=by decide
theorem aa5:(eC [112,114,105,118,97,116,101]=true)=True:=by decide
theorem aa4:(eC [112,114,111,116,101,99,116,101,100]=true)=True:=by decide
theorem aa3:(eC [112,117,98,108,105,99]=true)=True:=by decide
theorem aa2:(eC [114,101,116,117,114,110]=true)=True:=by decide
theorem aa1:(eC [115,116,97,116,105,99]=true)=True:=by decide
theorem aa0:(eC [115,117,112,101,114]=true)=True:=by decide
theorem aaZ:(eC [115,121,110,99]=true)=True:=by decide
theorem aaY:(eC [116,104,105,115]=true)=True:=by decide
theorem aaX:(eC [116,104,114,111,119]=true)=True:=by decide
theorem aaW:(eC [116,114,121]=true)=True:=by decide
theorem aaV:(eC [118,111,105,100]=true)=True:=by decide
theorem aaU:(eC [119,104,105,108,101]=true)=True:=by decide
theorem nn0 (i:Nat):(0<=(i:Int))=True:=eq_true (by omega)
theorem nn1 (i:Nat):(0<=(i:Int)+1)=True:=eq_true (by omega)
theorem nn2 (i:Nat):(0<=(i:Int)+2)=True:=eq_true (by omega)
theorem nn3 (i:Nat):(0<=(i:Int)+1+1)=True:=eq_true (by omega)
theorem tn1 (i:Nat):((i:Int)+1).toNat=i+1:=by omega
theorem tn2 (i:Nat):((i:Int)+2).toNat=i+2:=by omega
theorem tn3 (i:Nat):((i:Int)+1+1).toNat=i+2:=by omega
theorem YD {i:Nat} (h:i<=100000):ax ((i:Int)+1)=True:=eq_true (by unfold ax;omega)
theorem YC {i:Nat} (h:i<=100000):ax ((i:Int)+2)=True:=eq_true (by unfold ax;omega)
theorem YB {i:Nat} (h:i<=100000):ax ((i:Int)+1+1)=True:=eq_true (by unfold ax;omega)
attribute [go_sem] nn0 nn1 nn2 nn3 tn1 tn2 tn3 YD YC YB sg0 sg1 sg2 sg3 sg4 sg5 sg6 sg7 sg8 sg9 aap aao aan aam aal aak aaj aai aah aag aaf aae aad aac aab aaa Z9 Z8 Z7 Z6 kw0 kw1 kw2 kw3 kw4 kw5 kw6 kw7 kw8 kw9 abb aba aa9 aa8 aa7 aa6 aa5 aa4 aa3 aa2 aa1 aa0 aaZ aaY aaX aaW aaV aaU
def rv (ts:List Tk) (F:Nat->Value):Mem->List Value->Option (Prop×Value)
 |m,[.slice a n _,.int .i64 i]=>some ((n=ts.length/\aM m a n 4 (cG ts))/\0<=i,F i.toNat)
 |_,_=>none
def vX (ts:List Tk) (B:List UInt8->Bool) (F:Nat->List UInt8->Value):Mem->List Value->Option (Prop×Value)
 |m,[.slice a n _,.int .i64 i,.string w]=>some ((n=ts.length/\aM m a n 4 (cG ts))/\0<=i/\B (tl w)=true,F i.toNat (tl w))
 |_,_=>none
attribute [go_sem] rv.eq_1 vX.eq_1
theorem vA {P:Program} {f:FuncId} {F:Nat->Value} (h:∀(a:Option Addr) (c i:Nat) (m:Mem),aM m a ts.length 4 (cG ts)->FnH P f [.v (.slice a ts.length c),.v (.int .i64 i)] ⟨[],[]⟩ m fun r H' _=>r= .v (F i)/\H' =⟨[],[]⟩):
  ∀m b5 y,rv ts F m b5=some y->y.1->FnH P f (b5.map SV.v) ⟨[],[]⟩ m fun r H' _=>r= .v y.2/\H' =⟨[],[]⟩:=fun m b5 y hy hB=>by
 unfold rv at hy;split at hy
 ·rename_i a n c i;cases hy;obtain⟨⟨rfl,hr⟩,hi⟩:=hB;have:=h a c i.toNat m hr;rwa [Int.toNat_of_nonneg hi] at this
 ·cases hy
theorem CO {P:Program} {f:FuncId} {B:List UInt8->Bool} {F:Nat->List UInt8->Value} (h:∀(a:Option Addr) (c i:Nat) (w:List UInt8) (m:Mem),B w=true->aM m a ts.length 4 (cG ts)->FnH P f [.v (.slice a ts.length c),.v (.int .i64 i),.v (.string (bs w))] ⟨[],[]⟩ m fun r H' _=>r= .v (F i w)/\H' =⟨[],[]⟩):
  ∀m b5 y,vX ts B F m b5=some y->y.1->FnH P f (b5.map SV.v) ⟨[],[]⟩ m fun r H' _=>r= .v y.2/\H' =⟨[],[]⟩:=fun m b5 y hy hB=>by
 unfold vX at hy;split at hy
 ·rename_i a n c i w;cases hy;obtain⟨⟨rfl,hr⟩,hi,hw⟩:=hB;have:=h a c i.toNat (tl w) m hw hr;rwa [Int.toNat_of_nonneg hi,la] at this
 ·cases hy
section
variable (a:Option Addr) (c i:Nat) (m:Mem)
theorem E0 (hT:TsR ts) (hr:aM m a ts.length 4 (cG ts)):FnH Tryz.prog 70 [.v (.slice a ts.length c),.v (.int .i64 i)] ⟨[],[]⟩ m fun r H' _=>r= .v (.agg ⟨dG (aP ts i)⟩)/\H' =⟨[],[]⟩:=by
 refine ME (R:=fun r H' _=>r=OC (aP ts i)/\H' =⟨[],[]⟩) ?_ fun r H' m' _ hr=>⟨_,fun V=>by rw[hr.1];rfl,rfl,hr.2⟩
 refine aH aw Tryz.func70 ?_
 ·simp only[go_sem];refine⟨fun h=> ?_,fun h=> ?_⟩
  ·rw[vC (by omega)];rfl
  ·have hi:i<ts.length:=by omega
   have hc:=ed hr hi;rw[zn hi] at hc;refine⟨⟨by omega,by omega,hc.2⟩,dG (aP ts i),⟨hc.1,rfl⟩,?_⟩;simp only[go_sem,dG]
abbrev Ho (ts:List Tk):Cfg:=ri (fun _=>false) [(70,rv ts fun i=> .agg ⟨dG (aP ts i)⟩)]
theorem N6 (hT:TsR ts):cd (Ho ts) Tryz.prog:=na (by kernel_rfl) (vA fun a c i m hr=>E0 a c i m hT hr) B5
theorem KF (w:List UInt8) (hT:TsR ts) (hw:eZ w=true) (hr:aM m a ts.length 4 (cG ts)):FnH Tryz.prog 58 [.v (.slice a ts.length c),.v (.int .i64 i),.v (.string (bs w))] ⟨[],[]⟩ m fun r H' _=>r= .v (.bool (ai ts i w))/\H' =⟨[],[]⟩:=by
 rw[M9 hT hw];refine enter (Ho ts) (N6 hT) Tryz.func58 rfl rfl (by kernel_rfl) rfl ?_ ?_
 ·simp only[go_sem]
 ·simp only[go_sem,hr,dG]
theorem KC (w:List UInt8) (hT:TsR ts) (hw:eC w=true) (hr:aM m a ts.length 4 (cG ts)):FnH Tryz.prog 68 [.v (.slice a ts.length c),.v (.int .i64 i),.v (.string (bs w))] ⟨[],[]⟩ m fun r H' _=>r= .v (.bool (ai ts i w))/\H' =⟨[],[]⟩:=by
 rw[zZ hT hw];refine enter (Ho ts) (N6 hT) Tryz.func68 rfl rfl (by kernel_rfl) rfl ?_ ?_
 ·simp only[go_sem]
 ·simp only[go_sem,hr,dG]
abbrev Hn (ts:List Tk):Cfg:=ri (fun _=>false) [(70,rv ts fun i=> .agg ⟨dG (aP ts i)⟩),(107,fun _=>eB BL fun s=> .bool (dz s)),(163,fun _=>eB BL fun s=> .bool (dZ s))]
theorem N5 (hT:TsR ts):cd (Hn ts) Tryz.prog:=na (by kernel_rfl) (vA fun a c i m hr=>E0 a c i m hT hr) (na (by kernel_rfl) (fun m b5 y hy hB=>ff xd b5 y hy hB m) (na (by kernel_rfl) (fun m b5 y hy hB=>ff BO b5 y hy hB m) B5))
theorem KJ (hT:TsR ts) (hr:aM m a ts.length 4 (cG ts)):FnH Tryz.prog 87 [.v (.slice a ts.length c),.v (.int .i64 i)] ⟨[],[]⟩ m fun r H' _=>r= .v (.bool (eG (ts.drop i)))/\H' =⟨[],[]⟩:=by
 rw[eG,om,j4];have hb:=hT.toTsB.cs i;have hB:BL (aP ts i).s:=by unfold BL;omega
 refine enter (Hn ts) (N5 hT) Tryz.func87 rfl rfl (by kernel_rfl) rfl ?_ ?_
 ·simp only[go_sem]
 ·simp only[go_sem,hr,dG,hB]
theorem Yq {s:List UInt8} (h:dX s=true):s.getD 0 0≠60:=by
 intro e;unfold dX at h;have h2:=(Bool.and_eq_true_iff.1 h).2;cases s with
 |nil=>cases e
 |cons c r=>
  obtain rfl:c=60:=e;simp [fS,cM,dk] at h2
theorem Xr {s:List UInt8} (h1:dX s=true) (h2:fb.contains s=false) (h3:dz s=false):dZ s= !s.contains 47:=by
 have Bv:=Yq h1;have e1:¬s=ei:=fun e=>by rw[e] at Bv;exact Bv rfl
 have e2:¬s=vD:=fun e=>by rw[e] at Bv;exact Bv rfl
 unfold dZ oH;rw[h1,h2,h3,bg e1,bg e2,bO Bv,Lib.contains_iff_indexByte];simp only[Bool.false_or,Bool.true_and,Bool.and_true,Bool.not_false];by_cases h:0<=Lib.indexByte s 47
 ·rw[bg (by omega)];simp [h]
 ·rw[bO (by omega)];simp [h]
theorem R5 (hT:TsR ts) (hr:aM m a ts.length 4 (cG ts)):FnH Tryz.prog 148 [.v (.slice a ts.length c),.v (.int .i64 i)] ⟨[],[]⟩ m fun r H' _=>r= .v (.bool (fL (ts.drop i)))/\H' =⟨[],[]⟩:=by
 have hb:=hT.toTsB.cs i;have hB:BL (aP ts i).s:=by unfold BL;omega
 have hk:=hT.curk (fun t=>t.k=1->dX t.s=true/\fb.contains t.s=false) (by decide) hT.k1 i;have e:fL (ts.drop i)=(decide ((aP ts i).k=1)&& !dz (aP ts i).s&&dZ (aP ts i).s):=by
  rw[fL,om,j4];by_cases h:(aP ts i).k=1
  ·cases h3:dz (aP ts i).s with
   |true=>simp
   |false=>rw[Xr (hk h).1 (hk h).2 h3]
  ·rw[bg h];simp
 rw[e];refine enter (Hn ts) (N5 hT) Tryz.func148 rfl rfl (by kernel_rfl) rfl ?_ ?_
 ·simp only[go_sem]
 ·simp only[go_sem,hr,dG,hB]
end
def sS (s:List UInt8):Int:=
 if(eX 0).contains s=true then 1 else if(eX 1).contains s=true then 2 else if(eX 2).contains s=true then 3 else if(eX 3).contains s=true then 4 else if(eX 4).contains s=true then 5 else if(eX 5).contains s=true then 6
 else if(eX 6).contains s=true then 7 else if(eX 7).contains s=true then 8 else if(eX 8).contains s=true then 9 else if(eX 9).contains s=true then 10 else 0
theorem Xk:∀n:Fin 10,∀s∈eX n.val,sS s=(n.val:Int)+1:=by decide
theorem Sy (s:List UInt8):sS s=0\/∃m:Nat,m<=9/\sS s=(m:Int)+1/\(eX m).contains s=true:=by
 unfold sS;by_cases h0:(eX 0).contains s=true
 ·exact .inr ⟨0,by decide,ah h0,h0⟩
 rw[ae h0];by_cases h1:(eX 1).contains s=true
 ·exact .inr ⟨1,by decide,ah h1,h1⟩
 rw[ae h1];by_cases h2:(eX 2).contains s=true
 ·exact .inr ⟨2,by decide,ah h2,h2⟩
 rw[ae h2];by_cases h3:(eX 3).contains s=true
 ·exact .inr ⟨3,by decide,ah h3,h3⟩
 rw[ae h3];by_cases h4:(eX 4).contains s=true
 ·exact .inr ⟨4,by decide,ah h4,h4⟩
 rw[ae h4];by_cases h5:(eX 5).contains s=true
 ·exact .inr ⟨5,by decide,ah h5,h5⟩
 rw[ae h5];by_cases h6:(eX 6).contains s=true
 ·exact .inr ⟨6,by decide,ah h6,h6⟩
 rw[ae h6];by_cases h7:(eX 7).contains s=true
 ·exact .inr ⟨7,by decide,ah h7,h7⟩
 rw[ae h7];by_cases h8:(eX 8).contains s=true
 ·exact .inr ⟨8,by decide,ah h8,h8⟩
 rw[ae h8];by_cases h9:(eX 9).contains s=true
 ·exact .inr ⟨9,by decide,ah h9,h9⟩
 rw[ae h9];exact .inl rfl
theorem Xj {n:Nat} (hn:n<=9) (s:List UInt8):(sS s=(n:Int)+1)=((eX n).contains s=true):=by
 refine eq_iff_iff.2 ⟨fun h=> ?_,fun h=>Xk ⟨n,by omega⟩ s (List.contains_iff_mem.1 h)⟩;rcases Sy s with h1 |⟨m,h1,h2,h3⟩
 ·omega
 ·obtain rfl:n=m:=by omega
  exact h3
theorem R4 (s:List UInt8) (m:Mem):FnH Tryz.prog 71 [.v (.string (bs s))] ⟨[],[]⟩ m fun r H' _=>r= .v (.int .i64 (sS s))/\H' =⟨[],[]⟩:=by
 refine aH aw Tryz.func71 ?_
 ·by_cases e0:s=[124,124]
  ·have d0:=bO e0;simp only[go_sem,d0];rw[e0];rfl
  have d0:=bg e0;by_cases e1:s=[38,38]
  ·have d1:=bO e1;simp only[go_sem,d0,d1];rw[e1];rfl
  have d1:=bg e1;by_cases e2:s=[124]
  ·have d2:=bO e2;simp only[go_sem,d0,d1,d2];rw[e2];rfl
  have d2:=bg e2;by_cases e3:s=[94]
  ·have d3:=bO e3;simp only[go_sem,d0,d1,d2,d3];rw[e3];rfl
  have d3:=bg e3;by_cases e4:s=[38]
  ·have d4:=bO e4;simp only[go_sem,d0,d1,d2,d3,d4];rw[e4];rfl
  have d4:=bg e4;by_cases e5:s=[61,61]
  ·have d5:=bO e5;simp only[go_sem,d0,d1,d2,d3,d4,d5];rw[e5];rfl
  have d5:=bg e5;by_cases e6:s=[33,61]
  ·have d6:=bO e6;simp only[go_sem,d0,d1,d2,d3,d4,d5,d6];rw[e6];rfl
  have d6:=bg e6;by_cases e7:s=[60]
  ·have d7:=bO e7;simp only[go_sem,d0,d1,d2,d3,d4,d5,d6,d7];rw[e7];rfl
  have d7:=bg e7;by_cases e8:s=[60,61]
  ·have d8:=bO e8;simp only[go_sem,d0,d1,d2,d3,d4,d5,d6,d7,d8];rw[e8];rfl
  have d8:=bg e8;by_cases e9:s=[62]
  ·have d9:=bO e9;simp only[go_sem,d0,d1,d2,d3,d4,d5,d6,d7,d8,d9];rw[e9];rfl
  have d9:=bg e9;by_cases gf:s=[62,61]
  ·have d10:=bO gf;simp only[go_sem,d0,d1,d2,d3,d4,d5,d6,d7,d8,d9,d10];rw[gf];rfl
  have d10:=bg gf;by_cases jQ:s=[60,60]
  ·have d11:=bO jQ;simp only[go_sem,d0,d1,d2,d3,d4,d5,d6,d7,d8,d9,d10,d11];rw[jQ];rfl
  have d11:=bg jQ;by_cases vk:s=[62,62]
  ·have d12:=bO vk;simp only[go_sem,d0,d1,d2,d3,d4,d5,d6,d7,d8,d9,d10,d11,d12];rw[vk];rfl
  have d12:=bg vk;by_cases vj:s=[62,62,62]
  ·have d13:=bO vj;simp only[go_sem,d0,d1,d2,d3,d4,d5,d6,d7,d8,d9,d10,d11,d12,d13];rw[vj];rfl
  have d13:=bg vj;by_cases vi:s=[43]
  ·have d14:=bO vi;simp only[go_sem,d0,d1,d2,d3,d4,d5,d6,d7,d8,d9,d10,d11,d12,d13,d14];rw[vi];rfl
  have d14:=bg vi;by_cases vh:s=[45]
  ·have d15:=bO vh;simp only[go_sem,d0,d1,d2,d3,d4,d5,d6,d7,d8,d9,d10,d11,d12,d13,d14,d15];rw[vh];rfl
  have d15:=bg vh;by_cases vg:s=[42]
  ·have d16:=bO vg;simp only[go_sem,d0,d1,d2,d3,d4,d5,d6,d7,d8,d9,d10,d11,d12,d13,d14,d15,d16];rw[vg];rfl
  have d16:=bg vg;by_cases vf:s=[47]
  ·have d17:=bO vf;simp only[go_sem,d0,d1,d2,d3,d4,d5,d6,d7,d8,d9,d10,d11,d12,d13,d14,d15,d16,d17];rw[vf];rfl
  have d17:=bg vf;by_cases vd:s=[37]
  ·have d18:=bO vd;simp only[go_sem,d0,d1,d2,d3,d4,d5,d6,d7,d8,d9,d10,d11,d12,d13,d14,d15,d16,d17,d18];rw[vd];rfl
  have d18:=bg vd;simp only[go_sem,d0,d1,d2,d3,d4,d5,d6,d7,d8,d9,d10,d11,d12,d13,d14,d15,d16,d17,d18];unfold sS;simp [eX,e0,e1,e2,e3,e4,e5,e6,e7,e8,e9,gf,jQ,vk,vj,vi,vh,vg,vf,vd]
end
section
variable {ts:List Tk} {i:Nat} {m:Mem} {a:Option Addr} {α β:Type}
/-! Reading a token in memory. -/
theorem zQ (hr:aM m a ts.length 4 (cG ts)) (hi:i<ts.length):a≠none/\Rd m (cI a (i * 4)) (dG (aP ts i)):=by
 have hc:=ed hr hi;rw[zn hi] at hc;exact⟨hc.2,hc.1⟩
theorem wa (hr:aM m a ts.length 4 (cG ts)) (hi:i<ts.length):GX a ts.length (i:Int)=True:=eq_true ⟨by omega,by omega,(zQ hr hi).1⟩
theorem GG (hr:aM m a ts.length 4 (cG ts)) (hi:i+1<ts.length):GX a ts.length ((i:Int)+1)=True:=eq_true ⟨by omega,by omega,(zQ hr hi).1⟩
theorem ru (hr:aM m a ts.length 4 (cG ts)) (hi:i<ts.length):Di (cI a (i * 4))=True:=eq_true (kS (zQ hr hi).2)
theorem lH (hr:aM m a ts.length 4 (cG ts)) (hi:i<ts.length) {K:Value->Prop}:(∃c,Rd m (o9 (cI a (i * 4)) 1) [c]/\K c)=K (.string (bs (aP ts i).s)):=by
 have h0:Rd m (o9 (cI a (i * 4)) 1) [.string (bs (aP ts i).s)]:=je (zQ hr hi).2 1 1 (by simp [dG]);refine eq_iff_iff.2 ⟨fun h=> ?_,fun h=>⟨_,h0,h⟩⟩;obtain⟨c,⟨ad,e1,_,h1⟩,hk⟩:=h;obtain⟨ad',e2,_,h2⟩:=h0;rw[e1] at e2;cases e2;have h3:=(h1 0 (by simp)).1;have h4:=(h2 0 (by simp)).1;rw[h3] at h4;simp only[List.getElem?_cons_zero,de] at h4;rw[<- h4];exact hk
/-! The plain parser at an index. -/
theorem jG {w:List UInt8} {k:List Tk->PR α} (h:ai ts i w=true):aR w (ts.drop i) k=k (ts.drop (i+1)):=by rw[aR,<- an,ah h,List.tail_drop]
theorem jH {w:List UInt8} {k:List Tk->PR α} (h:ai ts i w=false):aR w (ts.drop i) k= .error (ts.drop i):=by rw[aR,<- an,ae (by rw[h];decide)]
theorem fM {w:List UInt8} {x y:PR α} (h:ai ts i w=true):(if aA w (ts.drop i)=true then x else y)=x:=by rw[<- an,ah h]
theorem aT {w:List UInt8} {x y:PR α} (h:ai ts i w=false):(if aA w (ts.drop i)=true then x else y)=y:=by rw[<- an,ae (by rw[h];decide)]
theorem bQ {K:PR α} {f:α->List Tk->PR β} {x:α} {r:List Tk} (h:K= .ok (x,r)):ar K f=f x r:=by rw[h];rfl
theorem dU {K:PR α} {f:α->List Tk->PR β} {r:List Tk} (h:K= .error r):ar K f= .error r:=by rw[h];rfl
theorem aZ {w w' :List UInt8} (h:ai ts i w=true) (hw:w≠w'):ai ts i w' =false:=by
 unfold ai at h ⊢;have e:=of_decide_eq_true (Bool.and_eq_true_iff.1 h).2;rw[e,bg hw,Bool.and_false]
theorem du {b:Bool} (h:¬b=true):b=false:=by
 cases b
 ·rfl
 ·exact absurd rfl h
theorem wC (h:fL (ts.drop i)=true):cW (ts.drop i)= .ok ((aP ts i).s,ts.drop (i+1)):=by rw[cW,ah h,j4,List.tail_drop]
theorem D4 (h:fL (ts.drop i)=false):cW (ts.drop i)= .error (ts.drop i):=by rw[cW,ae (by rw[h];decide)]
theorem pt {K:PR α} {x:α} {k:Nat} (g:Good true (ts.drop i) K) (h:K= .ok (x,ts.drop k)) (hk:k<=ts.length):i<k:=by
 have:=(g.ok _ _ h).2 rfl;rw[cj,cj] at this;omega
/-! What a parsing function answers: a node, the index behind it, whether it is one. -/
abbrev gr (ts:List Tk) (K:PR Ex) (m:Mem):SV->Hp->Mem->Prop:=fun r H' m' =>ak m m' /\H' =⟨[],[]⟩/\∃(x:Nd) (k:Nat) (b:Bool),r= .tup [.agg x.svs,.v (.int .i64 k),.v (.bool b)]/\k<=ts.length/\
 ((b=true/\∃e,K= .ok (e,ts.drop k)/\ba m' e x.cs)\/(b=false/\K= .error (ts.drop k)))
abbrev Az (ts:List Tk) (K:PR (List Ex)) (m:Mem):SV->Hp->Mem->Prop:=fun r H' m' =>ak m m' /\H' =⟨[],[]⟩/\∃(a:Option Addr) (n c k:Nat) (b:Bool),r= .tup [.v (.slice a n c),.v (.int .i64 k),.v (.bool b)]/\k<=ts.length/\
 ((b=true/\∃es xs,K= .ok (es,ts.drop k)/\n=es.length/\n<=c/\n<=1000001/\aM m' a n 8 xs/\dF m' es xs)\/(b=false/\K= .error (ts.drop k)))
theorem kI {K:PR Ex} {m m' :Mem} (l:ak m m') (x:Nd) (k:Nat) {e:Ex} (hk:k<=ts.length) (hK:K= .ok (e,ts.drop k)) (hx:ba m' e x.cs):gr ts K m (.tup [.agg x.svs,.v (.int .i64 k),.v (.bool true)]) ⟨[],[]⟩ m' :=
 ⟨l,rfl,x,k,true,rfl,hk,.inl ⟨rfl,e,hK,hx⟩⟩
theorem gQ {K:PR Ex} {m m' :Mem} (l:ak m m') (x:Nd) (k:Nat) (hk:k<=ts.length) (hK:K= .error (ts.drop k)):gr ts K m (.tup [.agg x.svs,.v (.int .i64 k),.v (.bool false)]) ⟨[],[]⟩ m' :=
 ⟨l,rfl,x,k,false,rfl,hk,.inr ⟨rfl,hK⟩⟩
def wv:Nd:=⟨0,0,[],[],af,none,0,0⟩
/-! The contracts. -/
def rG (ts:List Tk) (n i:Nat):Prop:=∀(a:Option Addr) (c:Nat) (m:Mem),aM m a ts.length 4 (cG ts)->FnH Tryz.prog 35 [.v (.slice a ts.length c),.v (.int .i64 i),.v (.int .i64 ((n:Int)+1))] ⟨[],[]⟩ m (gr ts (bL n (ts.drop i)) m)
def lx (f:FuncId) (ts:List Tk) (K:List Tk->PR Ex) (i:Nat):Prop:=∀(a:Option Addr) (c:Nat) (m:Mem),aM m a ts.length 4 (cG ts)->FnH Tryz.prog f [.v (.slice a ts.length c),.v (.int .i64 i)] ⟨[],[]⟩ m (gr ts (K (ts.drop i)) m)
def Ay (ts:List Tk) (i:Nat):Prop:=∀(a:Option Addr) (c:Nat) (m:Mem),aM m a ts.length 4 (cG ts)->FnH Tryz.prog 93 [.v (.slice a ts.length c),.v (.int .i64 i)] ⟨[],[]⟩ m (Az ts (iQ (ts.drop i)) m)
/-! Types. -/
def ij (ts:List Tk) (i:Nat):Ty×Bool:=
 if ai ts i gL=true then(⟨0,73,[]⟩,true) else if ai ts i gH=true then(⟨0,74,[]⟩,true) else if eG (ts.drop i)=true then(⟨0,76,(aP ts i).s⟩,true) else(⟨0,0,[]⟩,false)
def yz (t:Ty):List Value:=[.int .i64 t.dim,.int .u8 t.base,.string (bs t.name)]
def baseV (ts:List Tk) (i:Nat):Value:= .tuple ⟨[.agg ⟨yz (ij ts i).1⟩,.bool (ij ts i).2]⟩
structure TyB (t:Ty) (d:Nat):Prop where
 d:0<=t.dim/\t.dim<=d
 b:0<=t.base/\t.base<256
 n:t.name.length<=1000000
theorem TyB.ok {t:Ty} {d:Nat} (h:TyB t d) (hd:d<=100000):nR t:=⟨by have:=h.d;unfold ax;omega,h.b,by have:=h.n;unfold az;omega⟩
theorem Nx (hT:TsR ts):TyB (ij ts i).1 0:=by
 have:=hT.toTsB.cs i;unfold ij;split
 ·exact⟨by decide,by decide,by decide⟩
 ·split
  ·exact⟨by decide,by decide,by decide⟩
  ·split
   ·exact⟨⟨Int.le_refl _,Int.le_refl _⟩,⟨(by decide:(0:Int)<=76),(by decide:(76:Int)<256)⟩,this⟩
   ·exact⟨by decide,by decide,by decide⟩
theorem Nv (h:(ij ts i).2=true):jz (ts.drop i)= .ok ((ij ts i).1,ts.drop (i+1))/\i<ts.length:=by
 unfold jz;unfold ij at h ⊢;by_cases h1:ai ts i gL=true
 ·rw[fM h1,List.tail_drop,ah h1];exact⟨rfl,aN h1⟩
 ·rw[aT (by simpa using h1)];rw[ae h1] at h ⊢;by_cases h2:ai ts i gH=true
  ·rw[fM h2,List.tail_drop,ah h2];exact⟨rfl,aN h2⟩
  ·rw[aT (by simpa using h2)];rw[ae h2] at h ⊢;by_cases h3:eG (ts.drop i)=true
   ·rw[fO,ah h3,List.tail_drop,j4,ah h3];exact⟨rfl,CS h3⟩
   ·rw[ae h3] at h;cases h
theorem Nw (h:(ij ts i).2=false):jz (ts.drop i)= .error (ts.drop i):=by
 unfold jz;unfold ij at h;by_cases h1:ai ts i gL=true
 ·rw[ah h1] at h;cases h
 ·rw[aT (by simpa using h1)];rw[ae h1] at h;by_cases h2:ai ts i gH=true
  ·rw[ah h2] at h;cases h
  ·rw[aT (by simpa using h2)];rw[ae h2] at h;by_cases h3:eG (ts.drop i)=true
   ·rw[ah h3] at h;cases h
   ·rw[fO,ae h3];rfl
end
section
variable {ts:List Tk}
abbrev Oq (ts:List Tk):Cfg:=ri (fun _=>false) [(58,vX ts eZ fun i w=> .bool (ai ts i w)),(68,vX ts eC fun i w=> .bool (ai ts i w)),(87,rv ts fun i=> .bool (eG (ts.drop i)))]
theorem aaG (hT:TsR ts):cd (Oq ts) Tryz.prog:=na (by kernel_rfl) (CO fun a c i w m hw hr=>KF a c i m w hT hw hr) (na (by kernel_rfl) (CO fun a c i w m hw hr=>KC a c i m w hT hw hr) (na (by kernel_rfl) (vA fun a c i m hr=>KJ a c i m hT hr) B5))
theorem QX (a:Option Addr) (c i:Nat) (m:Mem) (hT:TsR ts) (hr:aM m a ts.length 4 (cG ts)):FnH Tryz.prog 160 [.v (.slice a ts.length c),.v (.int .i64 i)] ⟨[],[]⟩ m fun r H' _=>r= .v (baseV ts i)/\H' =⟨[],[]⟩:=by
 refine ME (R:=fun r H' _=>r= .tup [DO (ij ts i).1,.v (.bool (ij ts i).2)]/\H' =⟨[],[]⟩) ?_ fun r H' m' _ hr=>⟨_,fun V=>by rw[hr.1];rfl,rfl,hr.2⟩
 unfold ij;refine enter (Oq ts) (aaG hT) Tryz.func160 rfl rfl (by kernel_rfl) rfl ?_ ?_
 ·simp only[go_sem]
 ·simp only[go_sem,hr];refine⟨fun h1=>by rw[ah (show ai ts i gL=true from h1)],fun h1=> ?_⟩;rw[ae (by rw[show ai ts i gL=false from h1];decide)];refine⟨fun h2=>by rw[ah (show ai ts i gH=true from h2)],fun h2=> ?_⟩;rw[ae (by rw[show ai ts i gH=false from h2];decide)];refine⟨fun h3=> ?_,fun h3=>by rw[ae (by rw[h3];decide)]⟩;have hi:=CS h3;rw[ah h3];simp only[go_sem,wa hr hi,ru hr hi,lH hr hi]
abbrev b8 (ts:List Tk):Cfg:=ri (fun _=>false) [(58,vX ts eZ fun i w=> .bool (ai ts i w)),(68,vX ts eC fun i w=> .bool (ai ts i w)),(87,rv ts fun i=> .bool (eG (ts.drop i))),
 (148,rv ts fun i=> .bool (fL (ts.drop i))),(70,rv ts fun i=> .agg ⟨dG (aP ts i)⟩),(160,rv ts (baseV ts)),(71,fun _=>eB (fun _=>True) fun s=> .int .i64 (sS s))]
theorem bH (hT:TsR ts):cd (b8 ts) Tryz.prog:=na (by kernel_rfl) (CO fun a c i w m hw hr=>KF a c i m w hT hw hr) (na (by kernel_rfl) (CO fun a c i w m hw hr=>KC a c i m w hT hw hr) (na (by kernel_rfl) (vA fun a c i m hr=>KJ a c i m hT hr)
 (na (by kernel_rfl) (vA fun a c i m hr=>R5 a c i m hT hr) (na (by kernel_rfl) (vA fun a c i m hr=>E0 a c i m hT hr) (na (by kernel_rfl) (vA fun a c i m hr=>QX a c i m hT hr) (na (by kernel_rfl) (fun m b5 y hy hB=>ff (fun s m _=>R4 s m) b5 y hy hB m) B5))))))
theorem EY (a:Option Addr) (c i:Nat) (m:Mem) (hT:TsR ts) (hi:i<=ts.length) (hr:aM m a ts.length 4 (cG ts)):FnH Tryz.prog 69 [.v (.slice a ts.length c),.v (.int .i64 i)] ⟨[],[]⟩ m fun r H' m' =>ak m m' /\H' =⟨[],[]⟩/\∃(t:Ty) (k:Nat) (b:Bool),r= .tup [DO t,.v (.int .i64 k),.v (.bool b)]/\k<=ts.length/\TyB t k/\
  ((b=true/\fr (ts.drop i)= .ok (t,ts.drop k))\/(b=false/\fr (ts.drop i)= .error (ts.drop k))):=by
 rw[MI];have hl:=hT.few;have cN:i<=100000:=by omega
 have hB:=Nx (i:=i) hT;cases hb:(ij ts i).2 with
 |false=>
  refine enter (b8 ts) (bH hT) Tryz.func69 rfl rfl (by kernel_rfl) rfl ?_ ?_
  ·simp only[go_sem]
  ·simp only[go_sem,hr,baseV,yz,hb];exact⟨_,i,false,rfl,hi,⟨⟨hB.d.1,by have:=hB.d.2;omega⟩,hB.b,hB.n⟩,.inr ⟨rfl,dU (Nw hb)⟩⟩
 |true=>
  obtain⟨e1,ao⟩:=Nv hb;rw[bQ e1];refine enter (b8 ts) (bH hT) Tryz.func69 rfl rfl (by kernel_rfl) rfl ?_ ?_
  ·simp only[go_sem]
  ·simp only[go_sem,hr,baseV,yz,hb,cN];refine cK (bH hT) (fun y:Ty×Nat=>⟨[⟨0,[],.v (.slice a ts.length c)⟩,⟨1,[],.v (.int .i64 y.2)⟩,⟨4,[],.box 0 0⟩,⟨7,[],.box 1 0⟩],[],[⟨1,30,[.v (.int .i64 y.1.dim),.v (.int .u8 y.1.base),.v (.string (bs y.1.name))]⟩,⟨0,30,[.v (.int .i64 0),.v (.int .u8 0),.v (.string (bs []))]⟩],[],2,m⟩)
    (fun y=>y.2<=ts.length/\TyB y.1 y.2/\uj (ij ts i).1 (ts.drop (i+1))=uj y.1 (ts.drop y.2)) (fun y=>ts.length - y.2) ((ij ts i).1,i+1) (fun _ _=>aq _) (fun _ _=> .inl rfl) ?_ ?_ ?_
   ·simp only[go_sem];exact rfl
   ·exact⟨ao,⟨⟨hB.d.1,by have:=hB.d.2;dsimp only;omega⟩,hB.b,hB.n⟩,rfl⟩
   ·rintro⟨t,k⟩ ⟨q1,q2,q3⟩;dsimp only at q1 q2 q3;have dD:k<=100000:=by omega
    rw[q3,FU];cases h1:ai ts k [91] with
    |true=>
     have aV:=aN h1;rw[fM h1,List.tail_drop];cases h2:ai ts (k+1) [93] with
     |true=>
      have dd:=aN h2;simp only[go_sem,hr,dD,h1,h2];refine⟨by have:=q2.d;unfold ax;omega,(t.up,k+2),⟨rfl,rfl,rfl,rfl⟩,⟨dd,⟨⟨by have:=q2.d;simp only[Ty.up];omega,by have:=q2.d;simp only[Ty.up];omega⟩,q2.b,q2.n⟩,?_⟩,by dsimp only;omega⟩;exact jG h2
     |false=>
      simp only[go_sem,hr,dD,h1,h2];exact⟨t,k+1,false,rfl,aV,⟨⟨q2.d.1,by have:=q2.d.2;omega⟩,q2.b,q2.n⟩,.inr ⟨rfl,jH h2⟩⟩
    |false=>
     simp only[go_sem,hr,dD,h1];exact⟨t,k,true,rfl,q1,q2,.inl ⟨rfl,aT h1⟩⟩
end
def SZ {α:Type} (c b:Nat) (g:α->Nat) (K:PR α):Prop:=∀x r,K= .ok (x,r)->g x+c * r.length<=b
section
variable {α β:Type} {c b b1:Nat} {g:α->Nat} {g2:β->Nat} {l:List Tk}
theorem ck {x:α} {r:List Tk} (h:g x+c * r.length<=b):SZ c b g (.ok (x,r)):=fun y q e=>by cases e;exact h
theorem jg {r:List Tk}:SZ c b g (.error r):=fun y q e=>by cases e
theorem bK {c1:Nat} {K:PR α} {k:α->List Tk->PR β} (h:SZ c1 b1 g K) (hk:∀x r,g x+c1 * r.length<=b1->SZ c b g2 (k x r)):SZ c b g2 (ar K k):=by
 cases K with
 |error r=>exact jg
 |ok p=>exact hk p.1 p.2 (h p.1 p.2 rfl)
theorem gh {s:List UInt8} {k:List Tk->PR α} (h:l.tail.length+1=l.length->SZ c b g (k l.tail)):SZ c b g (aR s l k):=by
 unfold aR;split
 ·rename_i h1;have:=bo h1;exact h (by cases l with |nil=>exact absurd rfl this |cons a r=>rfl)
 ·exact jg
theorem ct {p:Prop} [Decidable p] {a a' :PR α} (h1:p->SZ c b g a) (h2:¬p->SZ c b g a'):SZ c b g (if p then a else a'):=by
 split
 ·rename_i h;exact h1 h
 ·rename_i h;exact h2 h
theorem iC {K:PR α} (h:SZ c b1 g K) (hb:b1<=b):SZ c b g K:=fun x r e=>cg (h x r e) hb
end
theorem dr {l:List Tk} (h:l≠[]):l.tail.length+1=l.length:=by
 cases l with
 |nil=>exact absurd rfl h
 |cons a r=>rfl
theorem vK (l:List Tk):SZ 1 l.length (fun _=>1) (fO l):=by
 unfold fO;refine ct (fun h=>ck ?_) fun _=>jg
 have:=dr (l:=l) (fun e=>by rw[e] at h;cases h);omega
theorem rk (l:List Tk):SZ 1 l.length (fun _=>1) (cW l):=by
 unfold cW;refine ct (fun h=>ck ?_) fun _=>jg
 have:=dr (l:=l) (fun e=>by rw[e] at h;cases h);omega
theorem MC (l:List Tk):SZ 1 l.length (fun _=>1) (jz l):=by
 unfold jz;refine ct (fun h=>ck ?_) fun _=>ct (fun h=>ck ?_) fun _=>bK (vK l) fun x r h=>ck h
 ·have:=dr (bo h);omega
 ·have:=dr (bo h);omega
theorem Mx:∀(f:Nat) (t:Ty) (l:List Tk),SZ 1 l.length (fun _=>0) (lJ f t l)
 |0,t,l=>ck (by omega)
 |f+1,t,l=>by
  rw[lJ];refine ct (fun h=>gh fun h1=>iC (Mx f _ _) ?_) fun _=>ck (by omega)
  have:=dr (bo h);have:=bW l.tail;have:=this.length_le;omega
theorem MV:∀(f:Nat) (t:Ty) (l:List Tk),SZ 1 l.length (fun _=>0) (kE f t l)
 |0,t,l=>ck (by omega)
 |f+1,t,l=>by
  rw[kE];refine ct (fun h=>gh fun h1=>iC (MV f _ _) ?_) fun _=>ck (by omega)
  have:=dr (bo h);have:=bW l.tail;have:=this.length_le;omega
theorem vG (l:List Tk):SZ 1 l.length (fun _=>1) (fr l):=by
 unfold fr;refine bK (MC l) fun t r h=> ?_
 intro x q e;have:=Mx _ _ _ x q e;dsimp only at this h ⊢;omega
theorem JL:∀(a b:List Ex),eW (a++b)=eW a+eW b
 |[],b=>by simp [eW]
 |e::r,b=>by simp only[jt,eW,JL r b];omega
structure EZ (f:Nat):Prop where
 expr:∀n l,SZ 1 l.length dT (ea f n l)
 loop:∀n e l,SZ 1 (dT e+l.length) dT (kC f n e l)
 unary:∀l,SZ 1 l.length dT (lB f l)
 post:∀e l,SZ 1 (dT e+l.length) dT (kT f e l)
 args:∀l,SZ 1 l.length (fun es=>eW es+1) (j9 f l)
 more:∀acc l,SZ 1 (eW acc+l.length) eW (oE f acc l)
 paren:∀l,SZ 1 l.length (fun e=>dT e+1) (gY f l)
 operand:∀l,SZ 1 l.length dT (pS f l)
 key:∀l,SZ 1 l.length dT (qk f l)
theorem Gx:∀f,EZ f
 |0=>⟨fun n l=>by rw[ea];exact jg,fun n e l=>by rw[kC];exact jg,fun l=>by rw[lB];exact jg,fun e l=>by rw[kT];exact jg,fun l=>by rw[j9];exact jg,fun a l=>by rw[oE];exact jg,fun l=>by rw[gY];exact jg,fun l=>by rw[pS];exact jg,fun l=>by rw[qk];exact jg⟩
 |f+1=>by
  have ih:=Gx f;refine⟨fun n l=> ?_,fun n e l=> ?_,fun l=> ?_,fun e l=> ?_,fun l=> ?_,fun acc l=> ?_,fun l=> ?_,fun l=> ?_,fun l=> ?_⟩
  ·rw[ea];exact ct (fun _=>ih.unary l) fun _=>bK (ih.expr (n+1) l) fun e r h=>iC (ih.loop n e r) (by omega)
  ·rw[kC];refine ct (fun h=> ?_) fun _=>ct (fun h=> ?_) fun _=>ct (fun h=> ?_) fun _=>ck (by omega)
   ·have h1:=dr (l:=l) (fun e=>by rw[e,gI] at h;cases h);refine bK (ih.expr (n+1) l.tail) fun x r h2=>iC (ih.loop n _ r) ?_
    simp only[dT,eW];omega
   ·have h1:=dr (bo h.2);refine bK (vG l.tail) fun t r h2=>iC (ih.loop n _ r) ?_
    simp only[dT,eW];omega
   ·have h1:=dr (bo h.2);refine bK (vG l.tail) fun t r h2=>iC (ih.loop n _ r) ?_
    simp only[dT,eW];omega
  ·rw[lB];refine ct (fun h=> ?_) fun _=>ct (fun h=> ?_) fun _=>bK (ih.operand l) fun e r h=>iC (ih.post e r) (by omega)
   ·have h1:=dr (bo h);exact bK (ih.unary l.tail) fun x r h2=>ck (by simp only[dT,eW];omega)
   ·have h1:=dr (bo h);exact bK (ih.unary l.tail) fun x r h2=>ck (by simp only[dT,eW];omega)
  ·rw[kT];refine ct (fun h=> ?_) fun _=>ct (fun h=> ?_) fun _=>ck (by omega)
   ·have h1:=dr (bo h);refine bK (rk l.tail) fun s r h2=>ct (fun _=> ?_) fun _=> ?_
    ·refine bK (ih.args r) fun es r2 h3=>iC (ih.post _ r2) ?_
     simp only[dT,eW];omega
    ·refine iC (ih.post _ r) ?_;simp only[dT,eW];omega
   ·have h1:=dr (bo h);refine bK (ih.expr 0 l.tail) fun i r h2=>gh fun h3=>iC (ih.post _ _) ?_
    simp only[dT,eW];omega
  ·rw[j9];refine gh fun h1=>ct (fun h=>ck ?_) fun _=>bK (ih.expr 0 l.tail) fun e r h2=> ?_
   ·have h2:=dr (bo h);simp only[eW];omega
   ·intro x q e2;have:=ih.more [e] r x q e2;simp only[eW] at this ⊢;omega
  ·rw[oE];refine ct (fun h=> ?_) fun _=>gh fun h1=>ck (by omega)
   have h1:=dr (bo h);refine bK (ih.expr 0 l.tail) fun e r h2=>iC (ih.more _ r) ?_
   simp only[JL,eW];omega
  ·rw[gY];exact gh fun h1=>bK (ih.expr 0 l.tail) fun e r h2=>gh fun h3=>ck (by omega)
  ·rw[pS];refine ct (fun h=> ?_) fun _=>ct (fun h=> ?_) fun _=>ct (fun h=> ?_) fun _=>ct (fun h=> ?_) fun _=>ct (fun h=> ?_) fun _=>ct (fun h=> ?_) fun _=>ih.key l
   ·have h1:=dr (so h (by decide));exact ck (by simp only[dT,eW];omega)
   ·have h1:=dr (so h (by decide));exact ck (by simp only[dT,eW];omega)
   ·have h1:=dr (so h (by decide));exact ck (by simp only[dT,eW];omega)
   ·exact bK (rk l) fun s r h2=>ck (by simp only[dT,eW];omega)
   ·refine bK (vK l) fun c r h2=>gh fun h3=>bK (rk r.tail) fun s r3 h4=>ct (fun _=> ?_) fun _=>ck (by simp only[dT,eW];omega)
    exact bK (ih.args r3) fun es r4 h5=>ck (by simp only[dT];omega)
   ·intro x q e2;have:=ih.paren l x q e2;dsimp only at this;omega
  ·rw[qk];refine ct (fun h=> ?_) fun _=>ct (fun h=> ?_) fun _=>ct (fun h=> ?_) fun _=>ct (fun h=> ?_) fun _=>ct (fun h=> ?_) fun _=>ct (fun h=> ?_) fun _=>ct (fun h=> ?_) fun _=>jg
   ·have h1:=dr (bo h);exact ck (by simp only[dT,eW];omega)
   ·have h1:=dr (bo h);exact ck (by simp only[dT,eW];omega)
   ·have h1:=dr (bo h);exact gh fun h2=>bK (rk _) fun s r2 h3=>bK (ih.args r2) fun es r3 h4=>ck (by simp only[dT];omega)
   ·have h1:=dr (bo h);refine bK (MC _) fun t r h2=>ct (fun _=>bK (ih.args r) fun es r2 h3=>ck (by simp only[dT];omega)) fun _=> ?_
    refine gh fun h3=>bK (MV _ t _) fun t2 r3 h4=>bK (ih.expr 0 r3) fun e r4 h5=>gh fun h6=>ck (by simp only[dT,eW];omega)
   ·have h1:=dr (bo h);exact bK (ih.paren _) fun e r h2=>ck (by simp only[dT,eW];omega)
   ·have h1:=dr (bo h);exact bK (ih.paren _) fun e r h2=>ck (by simp only[dT,eW];omega)
   ·have h1:=dr (bo h);exact bK (ih.paren _) fun e r h2=>ck (by simp only[dT,eW];omega)
theorem Gp {α:Type} {c b:Nat} {g:α->Nat} {h:Nat->PR α} {K:PR α} (hl:dh h K) (hs:∀f,SZ c b g (h f)):SZ c b g K:=by
 obtain⟨F,hF⟩:=hl;rw[<- hF F (aq _)];exact hs F
theorem Ls (l:List Tk):SZ 1 l.length dT (bL 0 l):=Gp (sE (by decide) l) fun f=>(Gx f).expr 0 l
theorem BT:∀(a b:List St),dN (a++b)=dN a+dN b
 |[],b=>by simp [dN]
 |e::r,b=>by simp only[jt,dN,BT r b];omega
theorem og:dT zE=1:=rfl
structure TZ (f:Nat):Prop where
 block:∀l,SZ 3 (3 * l.length) (fun b=>dN b+6) (gj f l)
 stmts:∀acc l,SZ 3 (dN acc+3 * l.length) (fun b=>dN b+3) (ou f acc l)
 stmt:∀l,SZ 3 (3 * l.length) iO (oA f l)
theorem zN:∀f,TZ f
 |0=>⟨fun l=>by rw[gj];exact jg,fun a l=>by rw[ou];exact jg,fun l=>by rw[oA];exact jg⟩
 |f+1=>by
  have ih:=zN f;have ez:=Gx f;refine⟨fun l=> ?_,fun acc l=> ?_,fun l=> ?_⟩
  ·rw[gj];refine gh fun h1=> ?_
   intro x q e;have:=ih.stmts [] l.tail x q e;simp only[dN] at this ⊢;omega
  ·rw[ou];refine ct (fun h=>ck ?_) fun _=>bK (ih.stmt l) fun x r h=>iC (ih.stmts _ r) ?_
   ·have:=dr (bo h);omega
   ·simp only[BT,dN];omega
  ·have pb:∀(l2:List Tk) (b:Nat) (k:Ex->List St->List Tk->PR St),(∀e bd r,dT e+dN bd+7+3 * r.length<=3 * l2.length->SZ 3 b iO (k e bd r))->SZ 3 b iO (ar (gY f l2) fun e r=>ar (gj f r) fun bd r2=>k e bd r2):=fun l2 b k hk=>
    bK (ez.paren l2) fun e r h=>bK (ih.block r) fun bd r2 h2=>hk e bd r2 (by first |omega |(dsimp only at h2;omega))
   rw[oA];refine ct (fun h=> ?_) fun _=>ct (fun h=> ?_) fun _=>ct (fun h=> ?_) fun _=>ct (fun h=> ?_) fun _=>ct (fun h=> ?_) fun _=>ct (fun h=> ?_) fun _=>
    ct (fun h=> ?_) fun _=>ct (fun h=> ?_) fun _=>ct (fun h=> ?_) fun _=> ?_
   ·have h1:=dr (bo h);refine pb _ _ _ fun e bd r h2=>ct (fun h3=>bK (ih.block r.tail) fun a r3 h4=>ck ?_) fun _=>ck ?_
    ·have h5:=dr (bo h3);simp only[iO,og] at h4 ⊢;omega
    ·simp only[iO,og,dN];omega
   ·have h1:=dr (bo h);exact pb _ _ _ fun e bd r h2=>ck (by simp only[iO,og,dN];omega)
   ·have h1:=dr (bo h);refine ct (fun h2=>ck ?_) fun _=>bK (ez.expr 0 l.tail) fun e r h2=>gh fun h3=>ck ?_
    ·have h3:=dr (bo h2);simp only[iO,og,dN];omega
    ·simp only[iO,og,dN];omega
   ·have h1:=dr (bo h);exact bK (ez.expr 0 l.tail) fun e r h2=>gh fun h3=>ck (by simp only[iO,og,dN];omega)
   ·have h1:=dr (bo h);refine bK (ih.block l.tail) fun b r h2=>gh fun h3=>gh fun h4=>bK (vG _) fun t r4 h5=>bK (rk r4) fun s r5 h6=>gh fun h7=>bK (ih.block _) fun a r7 h8=>ck ?_
    simp only[iO,og] at h2 h8 ⊢;omega
   ·have h1:=dr (bo h);exact pb _ _ _ fun e bd r h2=>ck (by simp only[iO,og,dN];omega)
   ·exact bK (ih.block l) fun b r h2=>ck (by simp only[iO,og,dN] at h2 ⊢;omega)
   ·have h1:=dr (bo h.1);exact bK (ez.args l.tail) fun es r h2=>gh fun h3=>ck (by simp only[iO,og,dN,dT] at h2 ⊢;omega)
   ·exact bK (vG l) fun t r h2=>bK (rk r) fun s r2 h3=>gh fun h4=>bK (ez.expr 0 _) fun e r4 h5=>gh fun h6=>ck (by simp only[iO,og,dN];omega)
   ·refine bK (ez.expr 0 l) fun e r h2=>ct (fun h3=> ?_) fun _=>gh fun h4=>ck (by simp only[iO,og,dN];omega)
    have h4:=dr (bo h3);exact bK (ez.expr 0 r.tail) fun x r2 h5=>gh fun h6=>ck (by simp only[iO,og,dN];omega)
theorem KP:∀(f:Nat) (acc:List Pc) (l:List Tk),SZ 1 (acc.length+l.length) List.length (pd f acc l)
 |0,acc,l=>by rw[pd];exact jg
 |f+1,acc,l=>by
  rw[pd];refine ct (fun h=> ?_) fun _=>gh fun h1=>ck (by omega)
  have h1:=dr (bo h);refine bK (vG l.tail) fun t r h2=>bK (rk r) fun s r2 h3=>iC (KP f _ r2) ?_
  rw[bY,fI];omega
theorem JU (f:Nat) (l:List Tk):SZ 1 l.length (fun ps=>List.length ps) (tM f l):=by
 unfold tM;refine gh fun h1=>ct (fun h=>ck ?_) fun _=>bK (vG _) fun t r h2=>bK (rk r) fun s r3 h3=>iC (KP f _ r3) ?_
 ·have:=dr (bo h);simp only[fm];omega
 ·simp only[cC,fm];omega
theorem F2 (d:Cd) (x:Md):eI (d.addM x)=eI d+rh x:=by simp only[eI,Cd.addM,List.map_append,List.sum_append,bh,List.map_nil,List.sum_cons,List.sum_nil];omega
theorem Va (d:Cd) (x:Fc):eI (d.addF x)=eI d+1:=by simp only[eI,Cd.addF,bY,fI];omega
theorem U9 (d:Cd) (x:List St):eI (d.addI x)=eI d+dN x:=by simp only[eI,Cd.addI,BT];omega
theorem LO (f:Nat) (d:Cd) (fl:Int) (t:Ty) (s:List UInt8) (l:List Tk):SZ 3 (eI d+3 * l.length) eI (ub f d fl t s l):=by
 unfold ub;refine bK (JU f l) fun ps r h1=>ct (fun h=>ck ?_) fun _=>bK ((zN f).block r) fun b r2 h2=>ck ?_
 ·have:=dr (bo h);simp only[F2,rh,dN];omega
 ·simp only[F2,rh];omega
theorem Sr (f:Nat) (d:Cd) (fl:Int) (l:List Tk):SZ 3 (eI d+3 * l.length) eI (tO f d fl l):=by
 unfold tO;refine ct (fun h=> ?_) fun _=>ct (fun h=> ?_) fun _=>ct (fun h=> ?_) fun _=> ?_
 ·exact bK ((zN f).block l) fun b r h1=>ck (by simp only[U9];omega)
 ·have h1:=dr (bo h);exact bK (JU f l.tail) fun ps r h2=>bK ((zN f).block r) fun b r2 h3=>ck (by simp only[F2,rh];omega)
 ·have h1:=dr (bo h);exact bK (rk l.tail) fun s r h2=>iC (LO f d fl eA s r) (by omega)
 ·refine bK (vG l) fun t r h1=>bK (rk r) fun s r2 h2=>ct (fun h=>ck ?_) fun _=>iC (LO f d fl t s r2) (by omega)
  have:=dr (bo h);simp only[Va];omega
theorem L7:∀(f:Nat) (d:Cd) (l:List Tk),SZ 3 (eI d+3 * l.length) eI (oF f d l)
 |0,d,l=>by rw[oF];exact jg
 |f+1,d,l=>by
  rw[oF];refine ct (fun h=>ck ?_) fun _=>bK (Sr f d _ _) fun e r h=>iC (L7 f e r) ?_
  ·have:=dr (bo h);omega
  ·have:=(rX br 0 l).length_le;omega
theorem Lx:∀(f:Nat) (acc:List (List UInt8)) (l:List Tk),SZ 1 (acc.length+l.length) List.length (oz f acc l)
 |0,acc,l=>by rw[oz];exact jg
 |f+1,acc,l=>by
  rw[oz];refine ct (fun h=> ?_) fun _=>ck (by omega)
  have h1:=dr (bo h);refine bK (vK l.tail) fun s r h2=>iC (Lx f _ r) ?_
  rw[bY,fI];omega
theorem Na (f:Nat) (w:List UInt8) (l:List Tk):SZ 1 l.length List.length (uz f w l):=by
 unfold uz;refine ct (fun h=> ?_) fun _=>ck (by simp)
 have h1:=dr (bo h);refine bK (vK l.tail) fun s r h2=>iC (Lx f _ r) ?_
 simp only[cC,fm];omega
theorem VK (f:Nat) (l:List Tk):SZ 3 (3 * l.length) eI (vQ f l):=by
 have hs1:=(rX iY 0 l).length_le;have tq:=(rX jm (bl iY 0 l).1 (bl iY 0 l).2).length_le;unfold vQ;refine ct (fun h=> ?_) fun _=> ?_
 ·have h1:=dr (bo h);refine bK (vK _) fun n r h2=>bK (Na f iG r) fun is r2 h3=>gh fun h4=>ck ?_
  simp only[eI,dN,fm,List.map_nil,List.sum_nil];omega
 ·refine gh fun h1=>bK (vK _) fun n r2 h2=>gh fun h3=>bK (vK _) fun sp r4 h4=>bK (Na f mI r4) fun is r5 h5=>gh fun h6=>ck ?_
  simp only[eI,dN,fm,List.map_nil,List.sum_nil];omega
theorem Zb (f:Nat) (l:List Tk):SZ 3 (3 * l.length) eI (Bz f l):=bK (VK f l) fun d r h=>iC (L7 f d r) (by omega)
theorem LW:∀(f:Nat) (acc:List Cd) (l:List Tk),SZ 3 ((acc.map eI).sum+3 * l.length) (fun p=>(List.map eI p).sum) (pq f acc l)
 |0,acc,l=>by rw[pq];exact jg
 |f+1,acc,l=>by
  rw[pq];refine ct (fun h=>ck ?_) fun _=>bK (Zb f l) fun d r h=>iC (LW f _ r) ?_
  ·rw[fm];omega
  ·rw[List.map_append,List.sum_append,bh,List.map_nil,List.sum_cons,List.sum_nil];omega
theorem T5 (l:List Tk):SZ 3 (3 * l.length) (fun p=>(List.map eI p).sum) (oD [] l):=iC (Gp (NM [] l) fun f=>LW f [] l) (by simp)
/-! A sequence of statements, to the end of the text. -/
def px:Nat->List St->List Tk->PR (List St)
 |0,_,l=> .error l
 |f+1,acc,l=>if l=[] then .ok (acc,[]) else ar (oA f l) fun s r=>px f (acc++[s]) r
theorem Vb:∀(N:Nat) (acc:List St) (l:List Tk),l.length<=N->Tot false (fun f=>px f acc l) l:=fun N=>by
 induction N with
 |zero=>
  intro acc l hl;have:l=[]:=List.eq_nil_of_length_eq_zero (by omega);subst this;refine ju (h:=fun _=> .ok (acc,[])) (fun f=>by rw[px,ah rfl]) ja
 |succ N ih=>
  intro acc l hl;by_cases h:l=[]
  ·subst h;exact ju (h:=fun _=> .ok (acc,[])) (fun f=>by rw[px,ah rfl]) ja
  ·refine ju (h:=fun f=>ar (oA f l) fun s r=>px f (acc++[s]) r) (fun f=>by rw[px,ae h]) ?_;exact kP false (bJ (b:=false) (p6 l).stmt fun s r h1 h2=>ih _ r (by have:=h2 rfl;omega)) fun h=>by cases h
noncomputable def ld (acc:List St) (l:List Tk):PR (List St):=iR fun f=>px f acc l
theorem N8 (acc:List St) (l:List Tk):dh (fun f=>px f acc l) (ld acc l):=(Vb _ acc l (aq _)).lim
theorem zC (acc:List St) (l:List Tk):ld acc l=(if l=[] then .ok (acc,[]) else ar (pj l) fun s r=>ld (acc++[s]) r):=
 iL (j3 (fun f=>by rw[px]) (cQ (bm _) (bG (NK l) fun s r=>N8 _ r)))
theorem MP:∀(f:Nat) (acc:List St) (l:List Tk),SZ 3 (dN acc+3 * l.length) dN (px f acc l)
 |0,acc,l=>by rw[px];exact jg
 |f+1,acc,l=>by
  rw[px];refine ct (fun h=>ck ?_) fun _=>bK ((zN f).stmt l) fun d r h=>iC (MP f _ r) ?_
  ·rw[fm];omega
  ·simp only[BT,dN];omega
theorem LJ (l:List Tk):SZ 3 (3 * l.length) dN (ld [] l):=iC (Gp (N8 [] l) fun f=>MP f [] l) (by simp [dN])
noncomputable def lg (l:List Tk):PR Ex:=ar (bL 0 l) fun e r=>if r=[] then .ok (e,[]) else .error r
/-! Depths against sizes. -/
mutual
theorem Ki:∀(s:St),ep s<=iO s/\oJ s<=iO s
 | .mk k nm ty tg ex body alt=>by
  have h1:=zc body;have h2:=zc alt;have h3:=vm tg;have h4:=vm ex;have h5:vS ex<=bq ex:=by cases ex;simp [vS,bq]
  simp only[ep,oJ,iO];constructor
  ·omega
  ·split<;>omega
theorem zc:∀(l:List St),cH l<=dN l/\dt l<=dN l
 |[]=>by simp [cH,dt]
 |e::r=>by
  have h1:=Ki e;have h2:=zc r;simp only[cH,dt,dN];omega
end
theorem Lb:∀(l:List Md),jB l<=(l.map rh).sum/\jC l<=(l.map rh).sum
 |[]=>by simp [jB,jC]
 |e::r=>by
  have h1:=zc e.body;have h2:=Lb r;simp only[jB,jC,bh,List.sum_cons,rh];omega
theorem UH {d:Cd} (h:eI d<=1048576):CdB d:=by
 have h1:=zc d.init;have h2:=Lb d.methods;simp only[eI] at h;exact⟨by simp only[az];omega,by simp only[az];omega,by simp only[az];omega,by simp only[az];omega⟩
theorem CM {α:Type} {f:α->Nat}:∀{l:List α},∀x∈l,f x<=(l.map f).sum
 |[],x,hx=>by cases hx
 |y::r,x,hx=>by
  simp only[bh,List.sum_cons];rcases List.mem_cons.1 hx with rfl |hx
  ·omega
  ·have:=CM (f:=f) x hx;omega
theorem KN {l:List Cd} (h:(l.map eI).sum<=1048576):∀d∈l,CdB d:=fun d hd=>UH (cg (CM (f:=eI) d hd) h)
theorem abW:mY Tryz.prog 59=136:=by kernel_rfl
@[reducible] def Hy (en:Int) (s:PSt):Bx:=⟨1,62,[.vec 0 0,.v (.int .i64 s.i),.v (.int .i64 en),.v (.bool s.fl),.v (.int .i64 s.off)]⟩
@[reducible] def Dp (ts:List Tk):Vc:=⟨0,0,50,4,ts.length,cG ts⟩
attribute [go_sem] abW Hy Dp
noncomputable def tL (t:List UInt8):List Cd×Int×Int:=
 if(aD t).2.2=0 then(match oD [] (aD t).1 with
  | .error r=>([],lQ t.length r,71)
  | .ok x=>if(fB [] x.1).2=0 then(x.1,0,0) else([],0,(fB [] x.1).2))
 else([],(aD t).2.1,(aD t).2.2)
abbrev ace (x:List Cd×Int×Int) (m:Mem):SV->Hp->Mem->Prop:=fun r H' m' =>ak m m' /\∃(a:Option Addr) (n c:Nat),r= .tup [.v (.slice a n c),.v (.int .i64 x.2.1),.v (.int .i64 x.2.2)]/\vN m' x.1 a n c/\H' =⟨[],[]⟩
theorem GlobX.upM {m m' :Mem} (h:GlobX m) (hm:ak m m'):GlobX m' :=by
 rcases hm with rfl |hm
 ·exact h
 ·exact h.up hm
theorem zG {R' :SV->Hp->Mem->Prop} {bx:List Bx} {vc:List Vc} {m' :Mem} {k u:Nat} {x y:Value} {b:Vc} (hb:cS vc k u=some b)
  (h:∀(a:Option Addr) (c:Nat) (m1:Mem),m'.le m1->b.n<=c->aM m1 a b.n b.sz b.xs->R' (.tup [.v (.slice a b.n c),.v x,.v y]) ⟨[],[]⟩ m1):AQ R' (.tup [.vec k u,.v x,.v y]) ⟨bx,vc⟩ m' :=
 .inr ⟨fun z=> .tup [z,.v x,.v y],k,u,b,⟨[],[]⟩,hb,rfl,fun V v e=>by subst e;rfl,List.nil_sublist _,List.nil_sublist _,h⟩
theorem E5 (m:Mem):vN m [] none 0 0:=⟨rfl,aq _,au _,[],cv m 7,trivial⟩
theorem Zc (l:List Tk):∀x r,BA l= .ok (x,r)->r.length<l.length:=fun x r h=>by
 have g:=(Nu l).good;rw[iL (OO l)] at g;exact(g.ok x r h).2 rfl
theorem UG {m:Mem} {x:Cc} {d:Cd} (h:lK m d x.cs):nF (lK m) 7 [d] x.cs:=⟨h,trivial⟩
theorem Sk (t:List UInt8) (m:Mem) (hg:GlobX m) (ht:t.length<=4611686018427387904):FnH Tryz.prog 10 [.v (.string (bs t))] ⟨[],[]⟩ m (ace (tL t) m):=by
 have hk:=fun m' (h:ak m m')=>Ei t m' (by rcases h with rfl |h;exact hg;exact hg.up h) ht
 have hT:=CL t;by_cases h0:(aD t).2.2=0
 ·have h1:=F8 ht (hk m (.inl rfl)) h0
  have e0:tL t=(match oD [] (aD t).1 with
   | .error r=>([],lQ t.length r,71)
   | .ok x=>if(fB [] x.1).2=0 then(x.1,0,0) else([],0,(fB [] x.1).2)):=ah h0
  refine jv (aH aw Tryz.func10 ?_)
  ·simp only[go_sem];refine ab (h1.mono ?_);clear h1;rintro r H' m1 aJ ⟨l1,rfl,rfl⟩;simp only[go_sem];refine⟨fun h=>absurd trivial h,?_⟩;refine qV 8 59 7 (by decide) rfl ?_;refine cK aw (fun y:PSt×List Cd×List Value×Nat×Mem=>⟨[⟨5,[],.box 1 0⟩,⟨8,[],.vec 2 y.2.2.2.1⟩],[],[Hy t.length y.1],[⟨2,y.2.2.2.1,59,7,y.2.1.length,y.2.2.1⟩,Dp (aD t).1],40,y.2.2.2.2⟩)
    (fun y=>ak m1 y.2.2.2.2/\Inv (aD t).1 y.1/\y.2.1.length<=y.1.i+(if y.1.fl=true then 1 else 0)/\y.2.2.1.length=y.2.1.length * 7/\nF (lK y.2.2.2.2) 7 y.2.1 y.2.2.1/\∀a s',Res (aD t).1 t.length y.1 (oD y.2.1 ((aD t).1.drop y.1.i)) a s' ->Res (aD t).1 t.length ⟨0,false,0⟩ (oD [] (aD t).1) a s')
    (fun y=>if y.1.fl=true then 0 else(aD t).1.length - y.1.i+1) (⟨0,false,0⟩,[],[],0,m1) (fun _ _=>dO rfl) (fun y hy=>hy.1) ?_ ?_ ?_
   ·simp only[go_sem];exact rfl
   ·exact⟨.inl rfl,⟨au _,fun h=>(by cases h)⟩,au _,rfl,trivial,fun a s' h=>h⟩
   ·rintro⟨s4,ds,xs,u,m4⟩ ⟨q1,q2,q3,q4,q5,q6⟩;dsimp only at q1 q2 q3 q4 q5 q6;have hl:=hT.len;have dJ:=q2.le;have hm:=Ff (en:=t.length) (s:=s4) hT m4;by_cases hi:s4.i<(aD t).1.length
    ·have hf:=q2.nfl hi;rw[bO hi] at hm;have hb:=fun m' =>SH (en:=t.length) hT q2 m'
     rw[ae (by rw[hf];decide)] at q3;simp only[go_sem];refine ab (hm.mono ?_);clear hm;rintro r H' m5 b9 ⟨rfl,rfl,rfl⟩;simp only[go_sem];refine ab ((hb m5).mono ?_);clear hb;rintro r H' m6 ej ⟨l6,x6,d6,s6,rfl,hd6,rfl,hR6⟩;have rC:=hR6.mono;have eY:=lz hR6 hf (Zc _);have wP:=hR6.inv.le;simp only[go_sem];refine⟨gD (by omega) (by decide),(s6,ds++[d6],xs++x6.cs,u+1,m6),⟨rfl,⟨rfl,rfl,rfl⟩,⟨rfl,by simp,rfl⟩,.inl rfl⟩,⟨aa q1 l6,hR6.inv,?_,by simp only[bY,fI,q4,Cc.cs,cC,fm];omega,Gw (l2:=[d6]) (UG hd6) q4 (vP (fun _ _=>vv l6) q5),fun a s' h=>q6 a s' ?_⟩,?_⟩
     ·dsimp only;rw[bY,fI];rcases eY with h |h
      ·rw[ah h];omega
      ·omega
     ·rw[KO,ae (fun h=>by have:=congrArg List.length h;rw[cj] at this;simp at this;omega)];exact aO hR6 h
     ·dsimp only;rw[ae (by rw[hf];decide:¬s4.fl=true)];rcases eY with h |h
      ·rw[ah h];omega
      ·split<;>omega
    ·rw[bg hi] at hm;have kf:(aD t).1.drop s4.i=[]:=List.drop_eq_nil_of_le (by omega);have bM:Res (aD t).1 t.length ⟨0,false,0⟩ (oD [] (aD t).1) ds s4:=by
      refine q6 _ _ ?_;by_cases hf:s4.fl=true
      ·exact zR ds q2 hf
      ·rw[KO,ah kf,<- kf];exact bI _ q2
     simp only[go_sem];refine ab (hm.mono ?_);clear hm;rintro r H' m5 b9 ⟨rfl,rfl,rfl⟩;simp only[go_sem];refine⟨fun hf=> ?_,fun hf=> ?_⟩
     ·refine cw (.hoist 0 (.hoist 1 (.hoist 2 (.hoist 3 (.hoist 4 (.hoist 5 (.hoist 6 .done))))))) aw (by kernel_rfl) (by kernel_rfl) ?_;simp only[go_sem];have e:tL t=([],s4.off,71):=by
       cases hK:oD [] (aD t).1 with
       |ok p=>
        obtain⟨x,r⟩:=p;have:=(bM.ok rfl x r hK).2.1;rw[hf] at this;cases this
       |error r=>
        rw[e0,hK,(bM.er rfl r hK).2]
      rw[e];exact .inl ⟨aa l1 q1,none,0,0,rfl,E5 _,rfl⟩
     ·refine⟨by kernel_rfl,fun a c m6 w1 w2 w3=>cE ?_⟩;have hK:oD [] (aD t).1= .ok (ds,[]):=by
       cases hK:oD [] (aD t).1 with
       |error r=>
        have:=(bM.er rfl r hK).1;rw[hf] at this;cases this
       |ok p=>
        obtain⟨x,r⟩:=p;obtain⟨k1,k2,k3⟩:=bM.ok rfl x r hK;rw[k1,k3,kf]
      have jO:(ds.map eI).sum<=1048576:=by
       have:=T5 (aD t).1 ds [] hK;have:=qW t;dsimp only at *;omega
      rw[hK] at e0;have aY:vN m6 ds a ds.length c:=⟨rfl,w2,by unfold az;have:=qW t;have hb:(if s4.fl=true then 1 else 0)<=1:=(by split<;>decide);omega,xs,w3,vP (fun _ _=>vv (.inr w1)) q5⟩;have hc:=JB ds a ds.length c m6 (hg.upM (aa l1 (aa q1 (.inr w1)))).1 (KN jO) aY;refine hc.mono ?_;clear hc;rintro r H' m7 gb ⟨l7,rfl,rfl⟩;simp only[go_sem];have rE:ds.length<=az:=aY.2.2.1;refine⟨fun aV=> ?_,fun aV=> ?_⟩
      ·have e:tL t=([],0,(fB [] ds).2):=by rw[e0];exact ae aV
       rw[e];exact .inl ⟨aa l1 (aa q1 (aa (.inr w1) l7)),none,0,0,rfl,E5 _,rfl⟩
      ·have e:tL t=(ds,0,0):=by rw[e0];exact ah aV
       rw[e];exact zG (b:=⟨2,u,59,7,ds.length,xs⟩) (by simp [cS]) fun a8 c8 m8 x1 x2 x3=>⟨aa l1 (aa q1 (aa (.inr w1) (aa l7 (.inr x1)))),a8,ds.length,c8,rfl,⟨rfl,x2,rE,xs,x3,vP (fun _ _=>vv (aa (.inr w1) (aa l7 (.inr x1)))) q5⟩,rfl⟩
 ·have h1:=F9 ht (hk m (.inl rfl)) h0;have e0:tL t=([],(aD t).2.1,(aD t).2.2):=ae h0;rw[e0];refine aH aw Tryz.func10 ?_
  ·simp only[go_sem];refine ab (h1.mono ?_);clear h1;rintro r H' m1 aJ ⟨l1,rfl,rfl⟩;simp only[go_sem];refine⟨fun _=>⟨l1,none,0,0,rfl,E5 m1,rfl⟩,fun h=>absurd h h0⟩
section
variable {ts:List Tk}
theorem R2 (hT:TsR ts) {i:Nat} (hi:i<=ts.length) (hE:∀j,i<j->j<=ts.length->rG ts 0 j):lx 168 ts fA i:=fun a c m hr=>by
 rw[E9];have hl:=hT.few;have cN:i<=100000:=by omega
 cases h1:ai ts i [40] with
 |false=>
  refine enter (b8 ts) (bH hT) Tryz.func168 rfl rfl (by kernel_rfl) rfl ?_ ?_
  ·simp only[go_sem]
  ·simp only[go_sem,hr,h1];exact gQ (.inl rfl) wv i hi (jH h1)
 |true=>
  have ao:=aN h1;have hb:FnH Tryz.prog 35 [.v (.slice a ts.length c),.v (.int .i64 ((i:Int)+1)),.v (.int .i64 1)] ⟨[],[]⟩ m (gr ts (bL 0 (ts.drop (i+1))) m):=hE (i+1) (by omega) ao a c m hr;rw[jG h1];refine enter (b8 ts) (bH hT) Tryz.func168 rfl rfl (by kernel_rfl) rfl ?_ ?_
  ·simp only[go_sem]
  ·simp only[go_sem,hr,h1,cN];refine ab (hb.mono ?_);clear hb hE;rintro r H' m1 aJ ⟨l1,rfl,x1,k1,b1,rfl,aV,⟨rfl,e1,hK1,hx1⟩ |⟨rfl,hK1⟩⟩
   ·have eM:=aK l1 hr;have dD:k1<=100000:=by omega
    by_cases h2:ai ts k1 [41]=true
    ·skip
     simp only[go_sem,eM,h2,dD];exact kI l1 x1 (k1+1) (aN h2) (by rw[bQ hK1,jG h2]) hx1
    ·have h2:=du h2;simp only[go_sem,eM,h2,dD];exact gQ l1 x1 k1 aV (by rw[bQ hK1,jH h2])
   ·simp only[go_sem,false_and];exact gQ l1 x1 k1 aV (dU hK1)
theorem TI (hT:TsR ts) {i:Nat} (hi:i<=ts.length) (hE:∀j,i<j->j<=ts.length->rG ts 0 j):Ay ts i:=fun a c m hr=>by
 rw[FW];have hl:=hT.few;have cN:i<=100000:=by omega
 cases h1:ai ts i [40] with
 |false=>
  refine enter (b8 ts) (bH hT) Tryz.func93 rfl rfl (by kernel_rfl) rfl ?_ ?_
  ·simp only[go_sem]
  ·simp only[go_sem,hr,h1];exact⟨.inl rfl,rfl,none,0,0,i,false,rfl,hi,.inr ⟨rfl,jH h1⟩⟩
 |true=>
  have ao:=aN h1;rw[jG h1];cases h2:ai ts (i+1) [41] with
  |true=>
   refine enter (b8 ts) (bH hT) Tryz.func93 rfl rfl (by kernel_rfl) rfl ?_ ?_
   ·simp only[go_sem]
   ·simp only[go_sem,hr,h1,h2,cN];exact⟨.inl rfl,rfl,none,0,0,i+2,true,rfl,aN h2,.inl ⟨rfl,[],[],by rw[fM h2,List.tail_drop],rfl,aq _,au _,cv _ _,by simp only[dF]⟩⟩
  |false=>
   rw[aT h2];refine jv (enter (b8 ts) (bH hT) Tryz.func93 rfl rfl (by kernel_rfl) rfl ?_ ?_)
   ·simp only[go_sem]
   ·simp only[go_sem,hr,h1,h2,cN];refine qV 7 33 8 (by decide) rfl ?_;refine cK (bH hT) (fun y:Nat×List Ex×List Value×Nat×Mem=>⟨[⟨0,[],.v (.slice a ts.length c)⟩,⟨1,[],.v (.int .i64 y.1)⟩,⟨7,[],.vec 0 y.2.2.2.1⟩],[],[],[⟨0,y.2.2.2.1,33,8,y.2.1.length,y.2.2.1⟩],40,y.2.2.2.2⟩)
     (fun y=>ak m y.2.2.2.2/\y.1<=ts.length/\i<y.1/\y.2.1.length<=y.1/\y.2.2.1.length=y.2.1.length * 8/\dF y.2.2.2.2 y.2.1 y.2.2.1/\(ar (bL 0 (ts.drop (i+1))) fun e r2=>vO [e] r2)=ar (bL 0 (ts.drop y.1)) fun e r2=>vO (y.2.1++[e]) r2)
     (fun y=>ts.length - y.1) (i+1,[],[],0,m) (fun _ _=>dO rfl) (fun y hy=>hy.1) ?_ ?_ ?_
    ·simp only[go_sem];exact rfl
    ·exact⟨.inl rfl,ao,Nat.lt_succ_self i,au _,rfl,by simp only[dF],rfl⟩
    ·rintro⟨k,es,xs,u,mm⟩ ⟨q1,q2,q2',q3,q4,q5,q6⟩;dsimp only at q1 q2 q2' q3 q4 q5 q6;rw[q6];have hb:FnH Tryz.prog 35 [.v (.slice a ts.length c),.v (.int .i64 (k:Int)),.v (.int .i64 1)] ⟨[],[]⟩ mm (gr ts (bL 0 (ts.drop k)) mm):=hE k q2' q2 a c mm (aK q1 hr);clear hE;simp only[go_sem];refine ab (hb.mono ?_);clear hb;rintro r H' m1 aJ ⟨l1,rfl,x1,k1,b1,rfl,aV,⟨rfl,e1,hK1,hx1⟩ |⟨rfl,hK1⟩⟩
     ·have u1:=aa q1 l1;have eM:=aK u1 hr;have dD:k1<=100000:=by omega
      have eP:k<k1:=pt ((j8 (ts.drop k)).expr 0 (by decide)).good hK1 aV;have iy:room (es.length+1) 104:=gD (by omega) (by decide);have jM:dF m1 (es++[e1]) (xs++x1.cs):=FR hx1 q4 (tP l1 q5);by_cases h3:ai ts k1 [41]=true
      ·skip
       simp only[go_sem,eM,h3,dD,iy];refine zG (b:=⟨0,u+1,33,8,es.length+1,xs++x1.cs⟩) (by simp only[cS,if_true];rfl) fun a c m2 w1 w2 w3=>⟨aa u1 (.inr w1),rfl,a,es.length+1,c,k1+1,true,rfl,aN h3,.inl ⟨rfl,es++[e1],_,?_,by simp,w2,by omega,w3,tP (.inr w1) jM⟩⟩
       rw[bQ hK1,zz,aT (aZ h3 (by decide)),jG h3]
      ·have h3:=du h3;by_cases h4:ai ts k1 [44]=true
       ·have abv:=aN h4;simp only[go_sem,eM,h3,h4,dD,iy];refine⟨(k1+1,es++[e1],xs++x1.cs,u+1,m1),⟨⟨rfl,rfl⟩,⟨rfl,by simp,rfl⟩,.inl rfl⟩,⟨u1,abv,by dsimp only;omega,by simp only[bY,fI];omega,by simp [q4,Nd.cs,Nat.add_mul],jM,?_⟩,by dsimp only;omega⟩;rw[bQ hK1,zz,fM h4,List.tail_drop]
       ·have h4:=du h4;simp only[go_sem,eM,h3,h4,dD,iy];exact .inl ⟨u1,rfl,none,0,0,k1,false,rfl,aV,.inr ⟨rfl,by rw[bQ hK1,zz,aT h4,jH h3]⟩⟩
     ·simp only[go_sem,false_and];exact .inl ⟨aa q1 l1,rfl,none,0,0,k1,false,rfl,aV,.inr ⟨rfl,dU hK1⟩⟩
end
theorem zy {R' :SV->Hp->Mem->Prop} {bx:List Bx} {vc:List Vc} {m' :Mem} {cs:List SV} {k u:Nat} {x y:Value} {b:Vc} (i:Nat) (hi:cs[i]? =some (.vec k u)) (hb:cS vc k u=some b)
  (h:∀(a:Option Addr) (c:Nat) (m1:Mem),m'.le m1->b.n<=c->aM m1 a b.n b.sz b.xs->R' (.tup [.agg (cs.set i (.v (.slice a b.n c))),.v x,.v y]) ⟨[],[]⟩ m1):AQ R' (.tup [.agg cs,.v x,.v y]) ⟨bx,vc⟩ m' :=by
 refine .inr ⟨fun z=> .tup [.agg (cs.set i z),.v x,.v y],k,u,b,⟨[],[]⟩,hb,?_,fun V v e=> ?_,List.nil_sublist _,List.nil_sublist _,h⟩
 ·obtain⟨hl,he⟩:=List.getElem?_eq_some_iff.1 hi;simp only[<- he,List.set_getElem_self]
 ·show Value.tuple ⟨[.agg ⟨(cs.set i (.vec k u)).map (a7 V)⟩,x,y]⟩= .tuple ⟨[.agg ⟨(cs.set i (.v v)).map (a7 V)⟩,x,y]⟩;rw[F3 hi e]
noncomputable def vH (l:List Tk):PR Ex:=ar (nb l) fun e r=>pr e r
section
variable {ts:List Tk}
theorem RY (hT:TsR ts) {i:Nat} (hi:i<=ts.length) (hP:lx 159 ts vH i) (hU:∀j,i<j->j<=ts.length->lx 67 ts nl j):lx 67 ts nl i:=fun a c m hr=>by
 have hl:=hT.few;have cN:i<=100000:=by omega
 by_cases hw:∃w,(w=[45]\/w=[33])/\ai ts i w=true
 ·obtain⟨w,hw,h1⟩:=hw;have ao:=aN h1;have hsw:(aP ts i).s=w:=of_decide_eq_true (Bool.and_eq_true_iff.1 h1).2;have e0:nl (ts.drop i)=ar (nl (ts.drop (i+1))) fun x r=> .ok (.mk 15 0 w [] af [x],r):=by
   rw[zd];rcases hw with rfl |rfl
   ·rw[fM h1,List.tail_drop]
   ·rw[aT (aZ h1 (by decide)),fM h1,List.tail_drop]
  have hg:((ai ts i [45]=false)/\(ai ts i [33]=false))=False:=eq_false fun h=>by
   rcases hw with rfl |rfl
   ·rw[h1] at h;exact absurd h.1 (by decide)
   ·rw[h1] at h;exact absurd h.2 (by decide)
  have rP:((ai ts i [45]=true)\/(ai ts i [33]=true))=True:=eq_true (by rcases hw with rfl |rfl;exact .inl h1;exact .inr h1);have hwl:w.length<=1000000:=by rcases hw with rfl |rfl<;>decide
  have hb:FnH Tryz.prog 67 [.v (.slice a ts.length c),.v (.int .i64 ((i:Int)+1))] ⟨[],[]⟩ m (gr ts (nl (ts.drop (i+1))) m):=hU (i+1) (by omega) ao a c m hr;rw[e0];clear hP hU hw;refine jv (enter (b8 ts) (bH hT) Tryz.func67 rfl rfl (by kernel_rfl) rfl ?_ ?_)
  ·simp only[go_sem]
  ·simp only[go_sem,hr,cN,hg,rP];refine ab (hb.mono ?_);clear hb;rintro r H' m1 aJ ⟨l1,rfl,x1,k1,b1,rfl,aV,hb⟩;have eM:=aK l1 hr;simp only[go_sem];refine cw (.hoist 0 (.hoist 1 (.hoist 2 (.hoist 3 (.hoist 4 (.hoist 5 (.hoist 8 (.hoist 9 (.alt 6 [9,8,4,3,2,1,0] (.hoist 7 (.alt 10 [9,8] (.hoist 11 (.hoist 12 .done)) .stop)) .stop))))))))) (bH hT) (by kernel_rfl) (by kernel_rfl) ?_;simp only[go_sem,wa eM ao,ru eM ao,lH eM ao,hsw];refine zy (b:=⟨2,0,33,8,1,x1.cs⟩) 7 rfl (by simp only[cS,if_true];rfl) fun a2 c2 m2 w1 w2 w3=> ?_
   rcases hb with ⟨rfl,e1,hK,hx⟩ |⟨rfl,hK⟩
   ·exact kI (aa l1 (.inr w1)) ⟨15,0,w,[],af,a2,1,c2⟩ k1 aV (by rw[bQ hK]) (eT (es:=[e1]) ⟨by decide,by decide⟩ ⟨by decide,by decide⟩ hwl (au _) bX (by simp) w2 w3 (jZ (aU (.inr w1) hx)))
   ·exact gQ (aa l1 (.inr w1)) ⟨15,0,w,[],af,a2,1,c2⟩ k1 aV (dU hK)
 ·have h1:ai ts i [45]=false:=du fun h=>hw ⟨_,.inl rfl,h⟩
  have h2:ai ts i [33]=false:=du fun h=>hw ⟨_,.inr rfl,h⟩
  have hb:=hP a c m hr;have e0:nl (ts.drop i)=vH (ts.drop i):=by rw[zd,aT h1,aT h2];rfl
  rw[e0];refine enter (b8 ts) (bH hT) Tryz.func67 rfl rfl (by kernel_rfl) rfl ?_ ?_
  ·simp only[go_sem]
  ·simp only[go_sem,hr,h1,h2];refine ab (hb.mono ?_);clear hb hP hU;rintro r H' m1 aJ ⟨l1,rfl,x1,k1,b1,rfl,aV,hb⟩;simp only[go_sem];exact⟨l1,rfl,x1,k1,b1,rfl,aV,hb⟩
end
section
variable {ts:List Tk}
theorem TC (hT:TsR ts) {i:Nat} (hi:i<=ts.length) (hO:lx 212 ts nb i) (hA:∀j,i<j->j<=ts.length->Ay ts j) (hE:∀j,i<j->j<=ts.length->rG ts 0 j):lx 159 ts vH i:=fun a c m hr=>by
 have hl:=hT.few;have cN:i<=100000:=by omega
 have hb:=hO a c m hr;have gO:Good true (ts.drop i) (nb (ts.drop i)):=(j8 _).operand.good;refine enter (b8 ts) (bH hT) Tryz.func159 rfl rfl (by kernel_rfl) rfl ?_ ?_
 ·simp only[go_sem]
 ·simp only[go_sem];refine ab (hb.mono ?_);clear hb hO;rintro r H' m1 aJ ⟨l1,rfl,x1,k1,b1,rfl,aV,hb⟩;simp only[go_sem];refine CH (bH hT) 1 (fun y:Nd×Nat×Bool×Mem=>⟨[⟨0,[],.v (.slice a ts.length c)⟩,⟨1,[],.v (.int .i64 y.2.1)⟩,⟨4,[],.box 0 0⟩,⟨7,[],.box 1 0⟩,⟨8,[],.v (.bool y.2.2.1)⟩],[],[⟨1,33,y.1.svs⟩,tb 0],[],40,y.2.2.2⟩)
   (fun y=>ak m1 y.2.2.2/\y.2.1<=ts.length/\((y.2.2.1=true/\i<y.2.1/\∃e,vH (ts.drop i)=pr e (ts.drop y.2.1)/\ba y.2.2.2 e y.1.cs)\/(y.2.2.1=false/\vH (ts.drop i)= .error (ts.drop y.2.1))))
   (fun y=>ts.length - y.2.1) (by kernel_rfl) (fun _ _=>dO rfl) (fun y hy=>hy.1) (fun _=> ?_) ?_ ?_
  ·simp only[go_sem]
  ·simp only[go_sem];refine⟨(x1,k1,b1,m1),⟨⟨rfl,rfl⟩,⟨rfl,rfl,rfl,rfl,rfl,rfl,rfl,rfl⟩,.inl rfl⟩,.inl rfl,aV,?_⟩;rcases hb with ⟨rfl,e,hK,hx⟩ |⟨rfl,hK⟩
   ·exact .inl ⟨rfl,pt gO hK aV,e,by rw[vH,bQ hK],hx⟩
   ·exact .inr ⟨rfl,by rw[vH,dU hK]⟩
  ·rintro⟨x,k,b,mm⟩ ⟨q1,q2,⟨rfl,q3,e,q4,q5⟩ |⟨rfl,q4⟩⟩
   ·dsimp only at q1 q2 q3 q4 q5;have L0:=aa l1 q1;have iy:=aK L0 hr;have dD:k<=100000:=by omega
    rw[xA] at q4;by_cases gT:ai ts k [46]=true
    ·have ao:=aN gT;rw[fM gT,List.tail_drop] at q4;by_cases hid:fL (ts.drop (k+1))=true
     ·have jD:=z7 hid;rw[bQ (wC hid)] at q4;have hs:=hT.toTsB.cs (k+1);by_cases cB:ai ts (k+2) [40]=true
      ·rw[fM cB] at q4;have hb:FnH Tryz.prog 93 [.v (.slice a ts.length c),.v (.int .i64 ((k:Int)+2))] ⟨[],[]⟩ mm (Az ts (iQ (ts.drop (k+2))) mm):=hA (k+2) (by omega) jD a c mm iy;clear hA hE;simp only[go_sem,iy,dD,gT,hid,cB,GG iy jD,ru iy jD,lH iy jD];refine ab (hb.mono ?_);clear hb;rintro r H' m2 aG ⟨l2,rfl,a2,n2,c2,k2,b2,rfl,dd,⟨rfl,es,xs,hK,rfl,bb,hn,hxr,jM⟩ |⟨rfl,hK⟩⟩
       ·have eP:k+2<k2:=pt (j8 _).args.good hK dd;simp only[go_sem];refine⟨xs,hxr,Ct hxr.1 jM,gD (by omega) (by decide),fun a9 c9 m9 w1 w2 w3=> ?_⟩;have pJ:1+es.length=(e::es).length:=by rw[cC,Nat.add_comm]
        rw[pJ] at w2 w3 ⊢;refine⟨(⟨10,0,(aP ts (k+1)).s,[],af,a9,(e::es).length,c9⟩,k2,true,m9),⟨⟨rfl,rfl⟩,⟨rfl,rfl,rfl,rfl,rfl,rfl,rfl,rfl⟩,.inl rfl⟩,⟨aa q1 (aa l2 (.inr w1)),dd,.inl ⟨rfl,by dsimp only;omega,.mk 10 0 (aP ts (k+1)).s [] af (e::es),by rw[q4,bQ hK],?_⟩⟩,by dsimp only;omega⟩;exact eT ⟨by decide,by decide⟩ ⟨by decide,by decide⟩ hs (au _) bX (by rw[cC];omega) w2 w3 (Fm (x:=x) (aU (aa l2 (.inr w1)) q5) (tP (.inr w1) jM))
       ·simp only[go_sem];exact gQ (aa L0 l2) x k2 dd (by rw[q4,dU hK])
      ·have cB:=du cB;rw[aT cB] at q4;clear hA hE;simp only[go_sem,iy,dD,gT,hid,cB,GG iy jD,ru iy jD,lH iy jD];intro a9 c9 m9 w1 w2 w3;exact⟨(⟨7,0,(aP ts (k+1)).s,[],af,a9,1,c9⟩,k+2,true,m9),⟨⟨rfl,rfl⟩,⟨rfl,rfl,rfl,rfl,rfl,rfl,rfl,rfl⟩,.inl rfl⟩,⟨aa q1 (.inr w1),jD,.inl ⟨rfl,by dsimp only;omega,.mk 7 0 (aP ts (k+1)).s [] af [e],q4,eT (es:=[e]) ⟨by decide,by decide⟩ ⟨by decide,by decide⟩ hs (au _) bX (by simp) w2 w3 (jZ (aU (.inr w1) q5))⟩⟩,by dsimp only;omega⟩
     ·have hid:=du hid;clear hA hE;simp only[go_sem,iy,dD,gT,hid];exact gQ L0 x (k+1) ao (by rw[q4,dU (D4 hid)])
    ·have gT:=du gT;rw[aT gT] at q4;clear hA;by_cases oW:ai ts k [91]=true
     ·have ao:=aN oW;rw[fM oW,List.tail_drop] at q4;have hb:FnH Tryz.prog 35 [.v (.slice a ts.length c),.v (.int .i64 ((k:Int)+1)),.v (.int .i64 1)] ⟨[],[]⟩ mm (gr ts (bL 0 (ts.drop (k+1))) mm):=hE (k+1) (by omega) ao a c mm iy;clear hE;simp only[go_sem,iy,dD,gT,oW];refine ab (hb.mono ?_);clear hb;rintro r H' m2 aG ⟨l2,rfl,x2,k2,b2,rfl,dd,⟨rfl,e2,hK,hx2⟩ |⟨rfl,hK⟩⟩
      ·have eP:k+1<k2:=pt ((j8 _).expr 0 (by decide)).good hK dd;have cX:=aK (aa L0 l2) hr;have Og:k2<=100000:=by omega
       rw[bQ hK] at q4;by_cases gz:ai ts k2 [93]=true
       ·have ql:=aN gz;rw[jG gz] at q4;simp only[go_sem,cX,gz,Og];intro a9 c9 m9 w1 w2 w3;exact⟨(⟨9,0,[],[],af,a9,2,c9⟩,k2+1,true,m9),⟨⟨rfl,rfl⟩,⟨rfl,rfl,rfl,rfl,rfl,rfl,rfl,rfl⟩,.inl rfl⟩,⟨aa q1 (aa l2 (.inr w1)),ql,.inl ⟨rfl,by dsimp only;omega,.mk 9 0 [] [] af [e,e2],q4,eT (es:=[e,e2]) ⟨by decide,by decide⟩ ⟨by decide,by decide⟩ (au _) (au _) bX (by simp) w2 w3 (DM (x:=x) (y:=x2) (aU (aa l2 (.inr w1)) q5) (aU (.inr w1) hx2))⟩⟩,by dsimp only;omega⟩
       ·have gz:=du gz;simp only[go_sem,cX,gz,Og];exact gQ (aa L0 l2) x k2 dd (by rw[q4,jH gz])
      ·simp only[go_sem,false_and];exact gQ (aa L0 l2) x k2 dd (by rw[q4,dU hK])
     ·have oW:=du oW;clear hE;simp only[go_sem,iy,dD,gT,oW];exact kI L0 x k q2 (by rw[q4,aT oW]) q5
   ·simp only[go_sem];exact gQ (aa l1 q1) x k q2 q4
end
section
variable {ts:List Tk}
theorem Gr {n k:Nat} (hn:n<=9):(gI n (ts.drop k)=true)=((aP ts k).k=6/\sS (aP ts k).s=(n:Int)+1):=by
 rw[gI,om,j4,cO,gA,Xj hn]
theorem Kt (l:List Tk):Good true l (fr l):=by
 have h:=(tJ l).good;rwa [iL (bm _)] at h
theorem OQ (hT:TsR ts) {k:Nat} {w:List UInt8} (hw:eC w=true) (h:ai ts k w=true):(aP ts k).k=2:=by
 rw[zZ hT hw] at h;exact of_decide_eq_true (Bool.and_eq_true_iff.1 h).1
theorem TH (hT:TsR ts) {i:Nat} (hU:lx 67 ts nl i):rG ts 10 i:=fun a c m hr=>by
 rw[Kc];have hb:=hU a c m hr;refine enter (b8 ts) (bH hT) Tryz.func35 rfl rfl (by kernel_rfl) rfl ?_ ?_
 ·simp only[go_sem]
 ·simp only[go_sem];refine⟨fun _=>ab (hb.mono ?_),fun h=>absurd h (by decide)⟩;clear hb hU;rintro r H' m1 aJ ⟨l1,rfl,x1,k1,b1,rfl,aV,hb⟩;simp only[go_sem];exact⟨l1,rfl,x1,k1,b1,rfl,aV,hb⟩
theorem Vi (hT:TsR ts) {i n:Nat} (hi:i<=ts.length) (hn:n<=9) (hN:rG ts (n+1) i) (hE:∀j,i<j->j<=ts.length->rG ts (n+1) j):rG ts n i:=fun a c m hr=>by
 have hl:=hT.few;have cN:i<=100000:=by omega
 have hn6:n<=100000:=by omega
 have hb:FnH Tryz.prog 35 [.v (.slice a ts.length c),.v (.int .i64 i),.v (.int .i64 ((n:Int)+1+1))] ⟨[],[]⟩ m (gr ts (bL (n+1) (ts.drop i)) m):=hN a c m hr;have gN:Good true (ts.drop i) (bL (n+1) (ts.drop i)):=((j8 _).expr (n+1) (by omega)).good;have eK:=Lt hn (ts.drop i);have vb:(10<(n:Int)+1)=False:=eq_false (by omega);refine enter (b8 ts) (bH hT) Tryz.func35 rfl rfl (by kernel_rfl) rfl ?_ ?_
 ·simp only[go_sem]
 ·simp only[go_sem,vb,hn6,not_false_eq_true];refine ab (hb.mono ?_);clear hb hN;rintro r H' m1 aJ ⟨l1,rfl,x1,k1,b1,rfl,aV,hb⟩;simp only[go_sem];refine CH (bH hT) 1 (fun y:Nd×Nat×Bool×Mem=>⟨[⟨0,[],.v (.slice a ts.length c)⟩,⟨1,[],.v (.int .i64 y.2.1)⟩,⟨2,[],.v (.int .i64 ((n:Int)+1))⟩,⟨6,[],.box 0 0⟩,⟨9,[],.box 1 0⟩,⟨10,[],.v (.bool y.2.2.1)⟩],[],[⟨1,33,y.1.svs⟩,tb 0],[],40,y.2.2.2⟩)
   (fun y=>ak m1 y.2.2.2/\y.2.1<=ts.length/\((y.2.2.1=true/\i<y.2.1/\∃e,bL n (ts.drop i)=ue n e (ts.drop y.2.1)/\ba y.2.2.2 e y.1.cs)\/(y.2.2.1=false/\bL n (ts.drop i)= .error (ts.drop y.2.1))))
   (fun y=>ts.length - y.2.1) (by kernel_rfl) (fun _ _=>dO rfl) (fun y hy=>hy.1) (fun _=> ?_) ?_ ?_
  ·simp only[go_sem]
  ·simp only[go_sem];refine⟨(x1,k1,b1,m1),⟨⟨rfl,rfl⟩,⟨rfl,rfl,rfl,rfl,rfl,rfl,rfl,rfl⟩,.inl rfl⟩,.inl rfl,aV,?_⟩;rcases hb with ⟨rfl,e,hK,hx⟩ |⟨rfl,hK⟩
   ·exact .inl ⟨rfl,pt gN hK aV,e,by rw[eK,bQ hK],hx⟩
   ·exact .inr ⟨rfl,by rw[eK,dU hK]⟩
  ·rintro⟨x,k,b,mm⟩ ⟨q1,q2,⟨rfl,q3,e,q4,q5⟩ |⟨rfl,q4⟩⟩
   ·dsimp only at q1 q2 q3 q4 q5;have L0:=aa l1 q1;have iy:=aK L0 hr;have dD:k<=100000:=by omega
    rw[vu hn] at q4;simp only[go_sem,iy,dD,dG];refine⟨fun hA=> ?_,fun hB=>⟨fun hC=> ?_,fun hD=> ?_⟩⟩
    ·have ao:k<ts.length:=by
      rcases hA.2 with h |h
      ·exact aN h
      ·exact aN h
     have dd:(aP ts k).k=2:=by
      rcases hA.2 with h |h
      ·exact OQ hT rfl h
      ·exact OQ hT rfl h
     have h6:n=6:=by have:=hA.1;omega
     have abp:¬gI n (ts.drop k)=true:=by rw[Gr hn,dd];exact fun h=>absurd h.1 (by decide)
     rw[ae abp] at q4;have hb:FnH Tryz.prog 69 [.v (.slice a ts.length c),.v (.int .i64 ((k:Int)+1))] ⟨[],[]⟩ mm _:=EY a c (k+1) mm hT ao iy;refine ab (hb.mono ?_);clear hb hE;rintro r H' m2 aG ⟨l2,rfl,t,k2,b2,rfl,hk2',dI,⟨rfl,hK⟩ |⟨rfl,hK⟩⟩
     ·have eP:k+1<k2:=pt (Kt _) hK hk2';simp only[go_sem];refine⟨fun hc=> ?_,fun hc=> ?_⟩
      ·intro a9 c9 m9 w1 w2 w3;rw[ae (fun h=>by rw[<- an,aZ hc (by decide)] at h;exact absurd h.2 (by decide)),ah ⟨h6,by rw[<- an];exact hc⟩,List.tail_drop,bQ hK] at q4;exact⟨(⟨17,0,[],[],t,a9,1,c9⟩,k2,true,m9),⟨⟨rfl,rfl⟩,⟨rfl,rfl,rfl,rfl,rfl,rfl,rfl,rfl⟩,.inl rfl⟩,⟨aa q1 (aa l2 (.inr w1)),hk2',.inl ⟨rfl,by dsimp only;omega,.mk 17 0 [] [] t [e],q4,eT (es:=[e]) ⟨by decide,by decide⟩ ⟨by decide,by decide⟩ (au _) (au _) (dI.ok (by omega)) (by simp) w2 w3 (jZ (aU (aa l2 (.inr w1)) q5))⟩⟩,by dsimp only;omega⟩
      ·have nX:ai ts k [105,115]=true:=hA.2.resolve_left (by rw[hc];decide);intro a9 c9 m9 w1 w2 w3;rw[ah ⟨h6,by rw[<- an];exact nX⟩,List.tail_drop,bQ hK] at q4;exact⟨(⟨18,0,[],[],t,a9,1,c9⟩,k2,true,m9),⟨⟨rfl,rfl⟩,⟨rfl,rfl,rfl,rfl,rfl,rfl,rfl,rfl⟩,.inl rfl⟩,⟨aa q1 (aa l2 (.inr w1)),hk2',.inl ⟨rfl,by dsimp only;omega,.mk 18 0 [] [] t [e],q4,eT (es:=[e]) ⟨by decide,by decide⟩ ⟨by decide,by decide⟩ (au _) (au _) (dI.ok (by omega)) (by simp) w2 w3 (jZ (aU (aa l2 (.inr w1)) q5))⟩⟩,by dsimp only;omega⟩
     ·have Hv:bL n (ts.drop i)= .error (ts.drop k2):=by
       rw[q4];by_cases nX:n=6/\aA [105,115] (ts.drop k)=true
       ·rw[ah nX,List.tail_drop,dU hK]
       ·rw[ae nX];have has:n=6/\aA [97,115] (ts.drop k)=true:=⟨h6,by rw[<- an];exact hA.2.resolve_right fun h=>nX ⟨h6,by rw[<- an];exact h⟩⟩;rw[ah has,List.tail_drop,dU hK]
      simp only[go_sem];exact gQ (aa L0 l2) x k2 hk2' Hv
    ·refine kI L0 x k q2 ?_ q5;have h1:¬gI n (ts.drop k)=true:=by rw[Gr hn];exact fun h=>hC.elim (fun g=>g h.1) fun g=>g h.2
     have h2:∀w,(w=[105,115]\/w=[97,115])->¬(n=6/\aA w (ts.drop k)=true):=fun w hw h=>by
      rw[<- an] at h;rcases hB with g |g
      ·exact g (by have:=h.1;omega)
      ·rcases hw with rfl |rfl
       ·rw[g.2] at h;exact absurd h.2 (by decide)
       ·rw[g.1] at h;exact absurd h.2 (by decide)
     rw[q4,ae h1,ae (h2 _ (.inl rfl)),ae (h2 _ (.inr rfl))]
    ·have pI:gI n (ts.drop k)=true:=by rw[Gr hn];exact hD
     have ao:=Gq pI;rw[ah pI,List.tail_drop,j4] at q4;have hs:=hT.toTsB.cs k;have hb:FnH Tryz.prog 35 [.v (.slice a ts.length c),.v (.int .i64 ((k:Int)+1)),.v (.int .i64 ((n:Int)+1+1))] ⟨[],[]⟩ mm (gr ts (bL (n+1) (ts.drop (k+1))) mm):=hE (k+1) (by omega) ao a c mm iy;refine⟨by unfold ax;omega,by kernel_rfl,cE (hb.mono ?_)⟩;clear hb hE;rintro r H' m2 aG ⟨l2,rfl,x2,k2,b2,rfl,dd,⟨rfl,e2,hK,hx2⟩ |⟨rfl,hK⟩⟩
     ·have eP:k+1<k2:=pt ((j8 _).expr (n+1) (by omega)).good hK dd;rw[bQ hK] at q4;simp only[go_sem];intro a9 c9 m9 w1 w2 w3;exact⟨(⟨16,0,(aP ts k).s,[],af,a9,2,c9⟩,k2,true,m9),⟨⟨rfl,rfl⟩,⟨rfl,rfl,rfl,rfl,rfl,rfl,rfl,rfl⟩,.inl rfl⟩,⟨aa q1 (aa l2 (.inr w1)),dd,.inl ⟨rfl,by dsimp only;omega,.mk 16 0 (aP ts k).s [] af [e,e2],q4,eT (es:=[e,e2]) ⟨by decide,by decide⟩ ⟨by decide,by decide⟩ hs (au _) bX (by simp) w2 w3 (DM (x:=x) (y:=x2) (aU (aa l2 (.inr w1)) q5) (aU (.inr w1) hx2))⟩⟩,by dsimp only;omega⟩
     ·simp only[go_sem];exact gQ (aa L0 l2) x k2 dd (by rw[q4,dU hK])
   ·simp only[go_sem];exact gQ (aa l1 q1) x k q2 q4
end
noncomputable def v7 (t:Ty) (l:List Tk):PR Ex:=aR [91] l fun r2=>ar (sR t r2) fun t2 r3=>Dw t2 r3
noncomputable def Ai (l:List Tk):PR Ex:=ar (jz l) fun t r=>if t.base=76/\aA [40] r=true then ar (iQ r) fun es r2=> .ok (.mk 13 0 [] t.name af es,r2) else v7 t r
noncomputable def uF (c:List UInt8) (l:List Tk):PR Ex:=
 if c=[] then aR [46] l fun r=>ar (cW r) fun s r2=>ar (iQ r2) fun es r3=> .ok (.mk 12 0 s [] af es,r3)
 else aR [46] l fun r2=>ar (cW r2) fun s r3=>if aA [40] r3=true then ar (iQ r3) fun es r4=> .ok (.mk 11 0 s c af es,r4) else .ok (.mk 8 0 s c af [],r3)
def Hs (ts:List Tk) (w:List UInt8) (i:Nat):Prop:=∀(a:Option Addr) (c:Nat) (m:Mem),aM m a ts.length 4 (cG ts)->FnH Tryz.prog 241 [.v (.slice a ts.length c),.v (.int .i64 i),.v (.string (bs w))] ⟨[],[]⟩ m (gr ts (uF w (ts.drop i)) m)
section
variable {ts:List Tk}
theorem LQ (hT:TsR ts) {w:List UInt8} (hw:w.length<=1000000) {i:Nat} (hi:i<=ts.length) (hA:∀j,i<=j->j<=ts.length->Ay ts j):Hs ts w i:=fun a c m hr=>by
 have hl:=hT.few;have cN:i<=100000:=by omega
 have e0:uF w (ts.drop i)=aR [46] (ts.drop i) fun r2=>ar (cW r2) fun s r3=>if w≠[]/\¬aA [40] r3=true then .ok (.mk 8 0 s w af [],r3) else ar (iQ r3) fun es r4=> .ok (.mk (if w=[] then 12 else 11) 0 s w af es,r4):=by
  unfold uF;by_cases h:w=[]
  ·subst h;simp
  ·simp only[ae h];congr 1
   funext r2
   congr 1
   funext s r3
   by_cases h2:aA [40] r3=true
   ·rw[ah h2,ae (fun h=>h.2 h2)]
   ·rw[ae h2,ah ⟨h,h2⟩]
 rw[e0];cases gT:ai ts i [46] with
 |false=>
  refine enter (b8 ts) (bH hT) Tryz.func241 rfl rfl (by kernel_rfl) rfl ?_ ?_
  ·simp only[go_sem]
  ·simp only[go_sem,hr,gT];exact gQ (.inl rfl) wv i hi (jH gT)
 |true=>
  have ao:=aN gT;rw[jG gT];cases hid:fL (ts.drop (i+1)) with
  |false=>
   refine enter (b8 ts) (bH hT) Tryz.func241 rfl rfl (by kernel_rfl) rfl ?_ ?_
   ·simp only[go_sem]
   ·simp only[go_sem,hr,gT,cN,hid];exact gQ (.inl rfl) wv (i+1) ao (dU (D4 hid))
  |true=>
   have jD:=z7 hid;have hs:=hT.toTsB.cs (i+1);rw[bQ (wC hid)];have hb:FnH Tryz.prog 93 [.v (.slice a ts.length c),.v (.int .i64 ((i:Int)+2))] ⟨[],[]⟩ m (Az ts (iQ (ts.drop (i+2))) m):=hA (i+2) (by omega) jD a c m hr;refine enter (b8 ts) (bH hT) Tryz.func241 rfl rfl (by kernel_rfl) rfl ?_ ?_
   ·simp only[go_sem]
   ·clear hA;simp only[go_sem,hr,gT,cN,hid,GG hr jD,ru hr jD,lH hr jD];refine⟨fun hc=> ?_,fun hc=>ab (hb.mono ?_)⟩
    ·exact kI (.inl rfl) ⟨8,0,(aP ts (i+1)).s,w,af,none,0,0⟩ (i+2) (e:= .mk 8 0 (aP ts (i+1)).s w af []) jD (ah ⟨hc.1,by rw[<- an,hc.2];decide⟩) (kR ⟨by decide,by decide⟩ ⟨by decide,by decide⟩ hs hw bX)
    ·clear hb;have yL:¬(w≠[]/\¬aA [40] (ts.drop (i+2))=true):=fun h=>hc.elim (fun g=>h.1 g) fun g=>h.2 (by rw[<- an];exact g)
     rintro r H' m2 aG ⟨l2,rfl,a2,n2,c2,k2,b2,rfl,dd,hb⟩;simp only[go_sem];refine⟨fun h0=> ?_,fun h0=> ?_⟩
     ·subst h0;rcases hb with ⟨rfl,es,xs,hK,rfl,bb,hn,hxr,jM⟩ |⟨rfl,hK⟩
      ·exact kI l2 ⟨12,0,(aP ts (i+1)).s,[],af,a2,es.length,c2⟩ k2 (e:= .mk 12 0 (aP ts (i+1)).s [] af es) dd (by rw[ae yL,bQ hK,ah rfl]) (eT ⟨by decide,by decide⟩ ⟨by decide,by decide⟩ hs (au _) bX (by omega) bb hxr jM)
      ·exact gQ l2 ⟨12,0,(aP ts (i+1)).s,[],af,a2,n2,c2⟩ k2 dd (by rw[ae yL,dU hK])
     ·rcases hb with ⟨rfl,es,xs,hK,rfl,bb,hn,hxr,jM⟩ |⟨rfl,hK⟩
      ·exact kI l2 ⟨11,0,(aP ts (i+1)).s,w,af,a2,es.length,c2⟩ k2 (e:= .mk 11 0 (aP ts (i+1)).s w af es) dd (by rw[ae yL,bQ hK,ae h0]) (eT ⟨by decide,by decide⟩ ⟨by decide,by decide⟩ hs hw bX (by omega) bb hxr jM)
      ·exact gQ l2 ⟨11,0,(aP ts (i+1)).s,w,af,a2,n2,c2⟩ k2 dd (by rw[ae yL,dU hK])
theorem TF (hT:TsR ts) {i:Nat} (hi:i<=ts.length) (hA:∀j,i<=j->j<=ts.length->Ay ts j) (hE:∀j,i<j->j<=ts.length->rG ts 0 j):lx 253 ts Ai i:=fun a c m hr=>by
 have hl:=hT.few;have cN:i<=100000:=by omega
 have hB:=Nx (i:=i) hT;unfold Ai;cases hb:(ij ts i).2 with
 |false=>
  refine enter (b8 ts) (bH hT) Tryz.func253 rfl rfl (by kernel_rfl) rfl ?_ ?_
  ·simp only[go_sem]
  ·simp only[go_sem,hr,baseV,yz,hb];exact gQ (.inl rfl) wv i hi (dU (Nw hb))
 |true=>
  obtain⟨e1,ao⟩:=Nv hb;rw[bQ e1];by_cases h76:(ij ts i).1.base=76/\ai ts (i+1) [40]=true
  ·have Pf:FnH Tryz.prog 93 [.v (.slice a ts.length c),.v (.int .i64 ((i:Int)+1))] ⟨[],[]⟩ m (Az ts (iQ (ts.drop (i+1))) m):=hA (i+1) (by omega) ao a c m hr;rw[ah ⟨h76.1,by rw[<- an];exact h76.2⟩];have aeJ:=bO h76.1;have abz:=h76.2;refine enter (b8 ts) (bH hT) Tryz.func253 rfl rfl (by kernel_rfl) rfl ?_ ?_
   ·simp only[go_sem]
   ·clear hA hE;simp only[go_sem,hr,baseV,yz,hb,cN,h76.1,abz,not_true_eq_false];refine ab (Pf.mono ?_);clear Pf;rintro r H' m2 aG ⟨l2,rfl,a2,n2,c2,k2,b2,rfl,dd,hb⟩;simp only[go_sem];rcases hb with ⟨rfl,es,xs,hK,rfl,bb,hn,hxr,jM⟩ |⟨rfl,hK⟩
    ·exact kI l2 ⟨13,0,[],(ij ts i).1.name,af,a2,es.length,c2⟩ k2 (e:= .mk 13 0 [] (ij ts i).1.name af es) dd (by rw[bQ hK]) (eT ⟨by decide,by decide⟩ ⟨by decide,by decide⟩ (au _) hB.n bX (by omega) bb hxr jM)
    ·exact gQ l2 ⟨13,0,[],(ij ts i).1.name,af,a2,n2,c2⟩ k2 dd (dU hK)
  ·have abG:(¬(ij ts i).1.base=76\/ai ts (i+1) [40]=false)=True:=eq_true (by
    by_cases h:(ij ts i).1.base=76
    ·exact .inr (du fun g=>h76 ⟨h,g⟩)
    ·exact .inl h)
   have YS:((ij ts i).1.base=76/\ai ts (i+1) [40]=true)=False:=eq_false h76;rw[ae (fun h=>h76 ⟨h.1,by rw[an];exact h.2⟩)];refine jv (enter (b8 ts) (bH hT) Tryz.func253 rfl rfl (by kernel_rfl) rfl ?_ ?_)
   ·simp only[go_sem]
   ·clear hA;simp only[go_sem,hr,baseV,yz,hb,cN,abG,YS,not_true_eq_false];refine cK (bH hT) (fun y:Ty×Nat=>⟨[⟨0,[],.v (.slice a ts.length c)⟩,⟨1,[],.v (.int .i64 y.2)⟩,⟨4,[],.box 0 0⟩,⟨7,[],.box 1 0⟩],[],[⟨1,30,[.v (.int .i64 y.1.dim),.v (.int .u8 y.1.base),.v (.string (bs y.1.name))]⟩,tb 0],[],2,m⟩)
     (fun y=>i<y.2/\y.2<=ts.length/\TyB y.1 y.2/\v7 (ij ts i).1 (ts.drop (i+1))=v7 y.1 (ts.drop y.2)) (fun y=>ts.length - y.2) ((ij ts i).1,i+1) (fun _ _=>aq _) (fun _ _=> .inl rfl) ?_ ?_ ?_
    ·simp only[go_sem];exact rfl
    ·exact⟨Nat.lt_succ_self i,ao,⟨⟨hB.d.1,by have:=hB.d.2;dsimp only;omega⟩,hB.b,hB.n⟩,rfl⟩
    ·rintro⟨t,k⟩ ⟨q0,q1,q2,q3⟩;dsimp only at q0 q1 q2 q3;have dD:k<=100000:=by omega
     by_cases h1:ai ts k [91]=true
     ·have aV:=aN h1;have yK:k+1<=100000:=by omega
      have e2:v7 t (ts.drop k)=ar (sR t (ts.drop (k+1))) fun t2 r3=>Dw t2 r3:=by unfold v7;rw[jG h1]
      rw[zH] at e2;by_cases h2:ai ts (k+1) [93]=true
      ·have dd:=aN h2;clear hE;simp only[go_sem,hr,dD,h1,h2];refine⟨by have:=q2.d;unfold ax;omega,(t.up,k+2),⟨rfl,rfl,rfl,rfl⟩,⟨by dsimp only;omega,dd,⟨⟨by have:=q2.d;simp only[Ty.up];omega,by have:=q2.d;simp only[Ty.up];omega⟩,q2.b,q2.n⟩,?_⟩,by dsimp only;omega⟩;rw[q3,e2,fM h2,List.tail_drop,Gm];rfl
      ·have h2:=du h2;rw[aT h2] at e2;have e3:v7 t (ts.drop k)=ar (bL 0 (ts.drop (k+1))) fun e r4=>aR [93] r4 fun r5=> .ok (.mk 14 0 [] [] t [e],r5):=e2
       have Pe:FnH Tryz.prog 35 [.v (.slice a ts.length c),.v (.int .i64 ((k:Int)+1)),.v (.int .i64 1)] ⟨[],[]⟩ m (gr ts (bL 0 (ts.drop (k+1))) m):=hE (k+1) (by omega) aV a c m hr;clear hE;simp only[go_sem,hr,dD,h1,h2];refine ab (Pe.mono ?_);clear Pe;rintro r H' m2 aG ⟨l2,rfl,x2,k2,b2,rfl,dd,⟨rfl,e,hK,hx2⟩ |⟨rfl,hK⟩⟩
       ·have cX:=aK l2 hr;have Pb:k2<=100000:=by omega
        by_cases gz:ai ts k2 [93]=true
        ·simp only[go_sem,cX,Pb,gz];refine zy (b:=⟨3,0,33,8,1,x2.cs⟩) 7 rfl (by simp only[cS,if_true];rfl) fun a2 c2 m3 w1 w2 w3=> ?_
         exact kI (aa l2 (.inr w1)) ⟨14,0,[],[],t,a2,1,c2⟩ (k2+1) (aN gz) (by rw[q3,e3,bQ hK,jG gz]) (eT (es:=[e]) ⟨by decide,by decide⟩ ⟨by decide,by decide⟩ (au _) (au _) (q2.ok (by omega)) (by simp) w2 w3 (jZ (aU (.inr w1) hx2)))
        ·have gz:=du gz;simp only[go_sem,cX,Pb,gz];exact .inl (gQ l2 x2 k2 dd (by rw[q3,e3,bQ hK,jH gz]))
       ·simp only[go_sem,false_and];exact .inl (gQ l2 x2 k2 dd (by rw[q3,e3,dU hK]))
     ·have h1:=du h1;clear hE;simp only[go_sem,hr,dD,h1,false_and];exact .inl (gQ (.inl rfl) wv k q1 (by rw[q3];unfold v7;exact jH h1))
end
section
variable {ts:List Tk}
theorem lU (hT:TsR ts) {i:Nat} (hk:(aP ts i).k=2) {w:List UInt8} (hw:eC w=true):decide ((aP ts i).s=w)=ai ts i w:=by
 rw[zZ hT hw,hk];rfl
theorem Ve (hT:TsR ts) {i:Nat} (ao:i<ts.length) (hk:(aP ts i).k=2) (hM:lx 253 ts Ai (i+1)) (hD:Hs ts [] (i+1)) (hR:lx 168 ts fA (i+1)):lx 240 ts lj i:=fun a c m hr=>by
 have hl:=hT.few;have cN:i<=100000:=by omega
 have u0:=wa hr ao;have uV:=ru hr ao;have d0:decide ((aP ts i).s=[110,117,108,108])=ai ts i [110,117,108,108]:=lU hT hk rfl;have d1:decide ((aP ts i).s=[116,104,105,115])=ai ts i [116,104,105,115]:=lU hT hk rfl;have d2:decide ((aP ts i).s=[110,101,119])=ai ts i [110,101,119]:=lU hT hk rfl;have d3:decide ((aP ts i).s=[115,117,112,101,114])=ai ts i [115,117,112,101,114]:=lU hT hk rfl;have d4:decide ((aP ts i).s=[108,101,110])=ai ts i [108,101,110]:=lU hT hk rfl;have d5:decide ((aP ts i).s=[105,110,116])=ai ts i [105,110,116]:=lU hT hk rfl;have d6:decide ((aP ts i).s=[108,111,110,103])=ai ts i [108,111,110,103]:=lU hT hk rfl;by_cases h0:ai ts i [110,117,108,108]=true
 ·have e0:lj (ts.drop i)= .ok (.mk 4 0 [] [] af [],ts.drop (i+1)):=by rw[kA,fM (show ai ts i [110,117,108,108]=true from h0),List.tail_drop]
  refine(enter (b8 ts) (bH hT) Tryz.func240 rfl rfl (by kernel_rfl) rfl ?_ ?_)
  ·simp only[go_sem]
  ·simp only[go_sem,u0,uV,lH hr ao,cN,d0,h0];exact kI (.inl rfl) ⟨4,0,[],[],af,none,0,0⟩ (i+1) ao e0 (kR ⟨by decide,by decide⟩ ⟨by decide,by decide⟩ (au _) (au _) bX)
 have h0:=du h0;by_cases h1:ai ts i [116,104,105,115]=true
 ·have e0:lj (ts.drop i)= .ok (.mk 5 0 [] [] af [],ts.drop (i+1)):=by rw[kA,aT (aZ h1 (by decide)),fM (show ai ts i [116,104,105,115]=true from h1),List.tail_drop]
  refine(enter (b8 ts) (bH hT) Tryz.func240 rfl rfl (by kernel_rfl) rfl ?_ ?_)
  ·simp only[go_sem]
  ·simp only[go_sem,u0,uV,lH hr ao,cN,d0,d1,h0,h1];exact kI (.inl rfl) ⟨5,0,[],[],af,none,0,0⟩ (i+1) ao e0 (kR ⟨by decide,by decide⟩ ⟨by decide,by decide⟩ (au _) (au _) bX)
 have h1:=du h1;by_cases h2:ai ts i [110,101,119]=true
 ·have e0:lj (ts.drop i)=Ai (ts.drop (i+1)):=by rw[kA,aT (aZ h2 (by decide)),aT (aZ h2 (by decide)),aT (aZ h2 (by decide)),fM (show ai ts i [110,101,119]=true from h2),List.tail_drop];rfl
  have hb:FnH Tryz.prog 253 [.v (.slice a ts.length c),.v (.int .i64 ((i:Int)+1))] ⟨[],[]⟩ m (gr ts (Ai (ts.drop (i+1))) m):=hM a c m hr;rw[e0];refine(enter (b8 ts) (bH hT) Tryz.func240 rfl rfl (by kernel_rfl) rfl ?_ ?_)
  ·simp only[go_sem]
  ·clear hM hD hR;simp only[go_sem,u0,uV,lH hr ao,cN,d0,d1,d2,h0,h1,h2];refine ab (hb.mono ?_);clear hb;rintro r H' m1 aJ ⟨l1,rfl,x1,k1,b1,rfl,aV,hb⟩;simp only[go_sem];exact⟨l1,rfl,x1,k1,b1,rfl,aV,hb⟩
 have h2:=du h2;by_cases h3:ai ts i [115,117,112,101,114]=true
 ·have e0:lj (ts.drop i)=uF [] (ts.drop (i+1)):=by rw[kA,aT (aZ h3 (by decide)),aT (aZ h3 (by decide)),fM (show ai ts i [115,117,112,101,114]=true from h3),List.tail_drop];rfl
  have hb:FnH Tryz.prog 241 [.v (.slice a ts.length c),.v (.int .i64 ((i:Int)+1)),.v (.string (bs []))] ⟨[],[]⟩ m (gr ts (uF [] (ts.drop (i+1))) m):=hD a c m hr;rw[e0];refine(enter (b8 ts) (bH hT) Tryz.func240 rfl rfl (by kernel_rfl) rfl ?_ ?_)
  ·simp only[go_sem]
  ·clear hM hD hR;simp only[go_sem,u0,uV,lH hr ao,cN,d0,d1,d2,d3,h0,h1,h2,h3];refine ab (hb.mono ?_);clear hb;rintro r H' m1 aJ ⟨l1,rfl,x1,k1,b1,rfl,aV,hb⟩;simp only[go_sem];exact⟨l1,rfl,x1,k1,b1,rfl,aV,hb⟩
 have h3:=du h3;by_cases h4:ai ts i [108,101,110]=true
 ·have e0:lj (ts.drop i)=ar (fA (ts.drop (i+1))) fun e r=> .ok (.mk 19 0 [] [] af [e],r):=by rw[kA,aT (aZ h4 (by decide)),aT (aZ h4 (by decide)),aT (aZ h4 (by decide)),aT (aZ h4 (by decide)),fM (show ai ts i [108,101,110]=true from h4),List.tail_drop]
  have hb:FnH Tryz.prog 168 [.v (.slice a ts.length c),.v (.int .i64 ((i:Int)+1))] ⟨[],[]⟩ m (gr ts (fA (ts.drop (i+1))) m):=hR a c m hr;rw[e0];refine jv (enter (b8 ts) (bH hT) Tryz.func240 rfl rfl (by kernel_rfl) rfl ?_ ?_)
  ·simp only[go_sem]
  ·clear hM hD hR;simp only[go_sem,u0,uV,lH hr ao,cN,d0,d1,d2,d3,d4,h0,h1,h2,h3,h4];refine ab (hb.mono ?_);clear hb;rintro r H' m1 aJ ⟨l1,rfl,x1,k1,b1,rfl,aV,hb⟩;simp only[go_sem];refine zy (b:=⟨2,0,33,8,1,x1.cs⟩) 7 rfl (by simp only[cS,if_true];rfl) fun a2 c2 m2 w1 w2 w3=> ?_
   rcases hb with ⟨rfl,e1,hK,hx⟩ |⟨rfl,hK⟩
   ·exact kI (aa l1 (.inr w1)) ⟨19,0,[],[],af,a2,1,c2⟩ k1 aV (by rw[bQ hK]) (eT (es:=[e1]) ⟨by decide,by decide⟩ ⟨by decide,by decide⟩ (au _) (au _) bX (by simp) w2 w3 (jZ (aU (.inr w1) hx)))
   ·exact gQ (aa l1 (.inr w1)) ⟨19,0,[],[],af,a2,1,c2⟩ k1 aV (dU hK)
 have h4:=du h4;by_cases h5:ai ts i [105,110,116]=true
 ·have e0:lj (ts.drop i)=ar (fA (ts.drop (i+1))) fun e r=> .ok (.mk 20 0 [] [] af [e],r):=by rw[kA,aT (aZ h5 (by decide)),aT (aZ h5 (by decide)),aT (aZ h5 (by decide)),aT (aZ h5 (by decide)),aT (aZ h5 (by decide)),fM (show ai ts i gL=true from h5),List.tail_drop]
  have hb:FnH Tryz.prog 168 [.v (.slice a ts.length c),.v (.int .i64 ((i:Int)+1))] ⟨[],[]⟩ m (gr ts (fA (ts.drop (i+1))) m):=hR a c m hr;rw[e0];refine jv (enter (b8 ts) (bH hT) Tryz.func240 rfl rfl (by kernel_rfl) rfl ?_ ?_)
  ·simp only[go_sem]
  ·clear hM hD hR;simp only[go_sem,u0,uV,lH hr ao,cN,d0,d1,d2,d3,d4,d5,h0,h1,h2,h3,h4,h5];refine ab (hb.mono ?_);clear hb;rintro r H' m1 aJ ⟨l1,rfl,x1,k1,b1,rfl,aV,hb⟩;simp only[go_sem];refine zy (b:=⟨2,0,33,8,1,x1.cs⟩) 7 rfl (by simp only[cS,if_true];rfl) fun a2 c2 m2 w1 w2 w3=> ?_
   rcases hb with ⟨rfl,e1,hK,hx⟩ |⟨rfl,hK⟩
   ·exact kI (aa l1 (.inr w1)) ⟨20,0,[],[],af,a2,1,c2⟩ k1 aV (by rw[bQ hK]) (eT (es:=[e1]) ⟨by decide,by decide⟩ ⟨by decide,by decide⟩ (au _) (au _) bX (by simp) w2 w3 (jZ (aU (.inr w1) hx)))
   ·exact gQ (aa l1 (.inr w1)) ⟨20,0,[],[],af,a2,1,c2⟩ k1 aV (dU hK)
 have h5:=du h5;by_cases h6:ai ts i [108,111,110,103]=true
 ·have e0:lj (ts.drop i)=ar (fA (ts.drop (i+1))) fun e r=> .ok (.mk 21 0 [] [] af [e],r):=by rw[kA,aT (aZ h6 (by decide)),aT (aZ h6 (by decide)),aT (aZ h6 (by decide)),aT (aZ h6 (by decide)),aT (aZ h6 (by decide)),aT (aZ h6 (by decide)),fM (show ai ts i gH=true from h6),List.tail_drop]
  have hb:FnH Tryz.prog 168 [.v (.slice a ts.length c),.v (.int .i64 ((i:Int)+1))] ⟨[],[]⟩ m (gr ts (fA (ts.drop (i+1))) m):=hR a c m hr;rw[e0];refine jv (enter (b8 ts) (bH hT) Tryz.func240 rfl rfl (by kernel_rfl) rfl ?_ ?_)
  ·simp only[go_sem]
  ·clear hM hD hR;simp only[go_sem,u0,uV,lH hr ao,cN,d0,d1,d2,d3,d4,d5,d6,h0,h1,h2,h3,h4,h5,h6];refine ab (hb.mono ?_);clear hb;rintro r H' m1 aJ ⟨l1,rfl,x1,k1,b1,rfl,aV,hb⟩;simp only[go_sem];refine zy (b:=⟨2,0,33,8,1,x1.cs⟩) 7 rfl (by simp only[cS,if_true];rfl) fun a2 c2 m2 w1 w2 w3=> ?_
   rcases hb with ⟨rfl,e1,hK,hx⟩ |⟨rfl,hK⟩
   ·exact kI (aa l1 (.inr w1)) ⟨21,0,[],[],af,a2,1,c2⟩ k1 aV (by rw[bQ hK]) (eT (es:=[e1]) ⟨by decide,by decide⟩ ⟨by decide,by decide⟩ (au _) (au _) bX (by simp) w2 w3 (jZ (aU (.inr w1) hx)))
   ·exact gQ (aa l1 (.inr w1)) ⟨21,0,[],[],af,a2,1,c2⟩ k1 aV (dU hK)
 have h6:=du h6;have e0:lj (ts.drop i)= .error (ts.drop i):=by rw[kA,aT (show ai ts i [110,117,108,108]=false from h0),aT (show ai ts i [116,104,105,115]=false from h1),aT (show ai ts i [115,117,112,101,114]=false from h3),aT (show ai ts i [110,101,119]=false from h2),aT (show ai ts i [108,101,110]=false from h4),aT (show ai ts i gL=false from h5),aT (show ai ts i gH=false from h6)]
 refine(enter (b8 ts) (bH hT) Tryz.func240 rfl rfl (by kernel_rfl) rfl ?_ ?_)
 ·simp only[go_sem]
 ·simp only[go_sem,u0,uV,lH hr ao,cN,d0,h0,d1,h1,d2,h2,d3,h3,d4,h4,d5,h5,d6,h6];exact gQ (.inl rfl) wv i (Nat.le_of_lt ao) e0
theorem TD (hT:TsR ts) {i:Nat} (hi:i<=ts.length) (hK:i<ts.length->(aP ts i).k=2->lx 240 ts lj i) (hD:∀w,w.length<=1000000->i<ts.length->Hs ts w (i+1)) (hR:lx 168 ts fA i):lx 212 ts nb i:=fun a c m hr=>by
 have hl:=hT.few;have cN:i<=100000:=by omega
 have hs:=hT.toTsB.cs i;have hN:=hT.toTsB.cn i;have Aj:(aP ts i).k≠0->i<ts.length:=fun h=>by
  rcases Nat.lt_or_ge i ts.length with g |g
  ·exact g
  ·rw[vC g] at h;exact absurd rfl h
 have ON:(aP ts i).k≠2->(aP ts i).k≠6->∀w,ai ts i w=false:=fun h1 h2 w=>by
  unfold ai;rw[bg h1,bg h2];rfl
 have eO:=Ez (ts.drop i);rw[om,Mp,j4,List.tail_drop] at eO;have DT:(aP ts i).k≠1->¬fL (ts.drop i)=true/\¬eG (ts.drop i)=true:=fun h=>by
  rw[fL,eG,om,bg h];simp
 by_cases h3:(aP ts i).k=3
 ·rw[ah h3] at eO;have ao:=Aj (by rw[h3];decide);refine(enter (b8 ts) (bH hT) Tryz.func212 rfl rfl (by kernel_rfl) rfl ?_ ?_)
  ·simp only[go_sem]
  ·simp only[go_sem,hr,dG,cN,h3,Int.reduceEq,aC,aL];exact kI (.inl rfl) ⟨1,(aP ts i).n,[],[],af,none,0,0⟩ (i+1) ao eO (kR ⟨by decide,by decide⟩ hN (au _) (au _) bX)
 by_cases h4:(aP ts i).k=4
 ·rw[ae (by rw[h4];decide),ah h4] at eO;have ao:=Aj (by rw[h4];decide);refine(enter (b8 ts) (bH hT) Tryz.func212 rfl rfl (by kernel_rfl) rfl ?_ ?_)
  ·simp only[go_sem]
  ·simp only[go_sem,hr,dG,cN,h4,Int.reduceEq,aC,aL];exact kI (.inl rfl) ⟨2,(aP ts i).n,[],[],af,none,0,0⟩ (i+1) ao eO (kR ⟨by decide,by decide⟩ hN (au _) (au _) bX)
 by_cases h5:(aP ts i).k=5
 ·rw[ae (by rw[h5];decide),ae (by rw[h5];decide),ah h5] at eO;have ao:=Aj (by rw[h5];decide);refine(enter (b8 ts) (bH hT) Tryz.func212 rfl rfl (by kernel_rfl) rfl ?_ ?_)
  ·simp only[go_sem]
  ·simp only[go_sem,hr,dG,cN,h5,Int.reduceEq,aC,aL];exact kI (.inl rfl) ⟨3,0,(aP ts i).s,[],af,none,0,0⟩ (i+1) ao eO (kR ⟨by decide,by decide⟩ ⟨by decide,by decide⟩ hs (au _) bX)
 rw[ae h3,ae h4,ae h5] at eO;by_cases h2:(aP ts i).k=2
 ·have ao:=Aj (by rw[h2];decide);have e40:ai ts i [40]=false:=by rw[M9 hT rfl,h2];rfl
  rw[ae (DT (by rw[h2];decide)).1,ae (DT (by rw[h2];decide)).2,aT e40] at eO;have hb:FnH Tryz.prog 240 [.v (.slice a ts.length c),.v (.int .i64 (i:Int))] ⟨[],[]⟩ m (gr ts (lj (ts.drop i)) m):=hK ao h2 a c m hr;rw[eO];clear hK hD hR;refine(enter (b8 ts) (bH hT) Tryz.func212 rfl rfl (by kernel_rfl) rfl ?_ ?_)
  ·simp only[go_sem]
  ·simp only[go_sem,hr,dG,cN,h2,Int.reduceEq,aC,aL];refine ab (hb.mono ?_);clear hb;rintro r H' m1 aJ ⟨l1,rfl,x1,k1,b1,rfl,aV,hb⟩;simp only[go_sem];exact⟨l1,rfl,x1,k1,b1,rfl,aV,hb⟩
 by_cases h1:(aP ts i).k=1
 ·have ao:=Aj (by rw[h1];decide);by_cases hc:eG (ts.drop i)=true
  ·have bN:dz (aP ts i).s=true:=by rw[eG,j4] at hc;exact(Bool.and_eq_true_iff.1 hc).2
   have cY:(aP ts i).s≠[]:=fun e=>by rw[e] at bN;exact absurd bN (by decide)
   have abq:¬fL (ts.drop i)=true:=by rw[fL,j4,bN];simp
   rw[ae abq,ah hc,fO,ah hc,j4,List.tail_drop] at eO;have e0:nb (ts.drop i)=uF (aP ts i).s (ts.drop (i+1)):=by unfold uF;rw[ae cY];exact eO
   have hb:FnH Tryz.prog 241 [.v (.slice a ts.length c),.v (.int .i64 ((i:Int)+1)),.v (.string (bs (aP ts i).s))] ⟨[],[]⟩ m (gr ts (uF (aP ts i).s (ts.drop (i+1))) m):=hD _ hs ao a c m hr;rw[e0];clear hK hD hR;refine(enter (b8 ts) (bH hT) Tryz.func212 rfl rfl (by kernel_rfl) rfl ?_ ?_)
   ·simp only[go_sem]
   ·simp only[go_sem,hr,dG,cN,h1,hc,Int.reduceEq,aC,aL];refine ab (hb.mono ?_);clear hb;rintro r H' m1 aJ ⟨l1,rfl,x1,k1,b1,rfl,aV,hb⟩;simp only[go_sem];exact⟨l1,rfl,x1,k1,b1,rfl,aV,hb⟩
  ·have hc:=du hc;by_cases hd:fL (ts.drop i)=true
   ·rw[ah hd,bQ (wC hd)] at eO;refine(enter (b8 ts) (bH hT) Tryz.func212 rfl rfl (by kernel_rfl) rfl ?_ ?_)
    ·simp only[go_sem]
    ·simp only[go_sem,hr,dG,cN,h1,hc,hd,Int.reduceEq,aC,aL];exact kI (.inl rfl) ⟨6,0,(aP ts i).s,[],af,none,0,0⟩ (i+1) ao eO (kR ⟨by decide,by decide⟩ ⟨by decide,by decide⟩ hs (au _) bX)
   ·have qP:=du hd;rw[ae hd,ae (by rw[hc];decide),aT (ON (by rw[h1];decide) (by rw[h1];decide) _),kA] at eO;have no:=ON (by rw[h1];decide) (by rw[h1];decide);rw[aT (no _),aT (no _),aT (no _),aT (no _),aT (no _),aT (no _),aT (no _)] at eO;refine(enter (b8 ts) (bH hT) Tryz.func212 rfl rfl (by kernel_rfl) rfl ?_ ?_)
    ·simp only[go_sem]
    ·simp only[go_sem,hr,dG,cN,h1,hc,qP,Int.reduceEq,aC,aL];exact gQ (.inl rfl) wv i hi eO
 have nk:∀w,eC w=true->ai ts i w=false:=fun w hw=>by rw[zZ hT hw,bg h2];rfl
 have e0:nb (ts.drop i)=fA (ts.drop i):=by
  rw[eO,ae (DT h1).1,ae (DT h1).2];cases cB:ai ts i [40] with
  |true=>rw[fM cB]
  |false=>
   rw[aT cB,kA,aT (nk _ rfl),aT (nk _ rfl),aT (nk _ rfl),aT (nk _ rfl),aT (nk _ rfl),aT (nk _ rfl),aT (nk _ rfl),E9,jH cB]
 have hb:FnH Tryz.prog 168 [.v (.slice a ts.length c),.v (.int .i64 (i:Int))] ⟨[],[]⟩ m (gr ts (fA (ts.drop i)) m):=hR a c m hr;rw[e0];clear hK hD hR;refine(enter (b8 ts) (bH hT) Tryz.func212 rfl rfl (by kernel_rfl) rfl ?_ ?_)
 ·simp only[go_sem]
 ·simp only[go_sem,hr,dG,cN,h1,h2,h3,h4,h5];refine ab (hb.mono ?_);clear hb;rintro r H' m1 aJ ⟨l1,rfl,x1,k1,b1,rfl,aV,hb⟩;simp only[go_sem];exact⟨l1,rfl,x1,k1,b1,rfl,aV,hb⟩
end
structure REX (ts:List Tk) (i:Nat):Prop where
 bin:∀n,n<=10->rG ts n i
 un:lx 67 ts nl i
 args:Ay ts i
 round:lx 168 ts fA i
theorem W3 {ts:List Tk} (hT:TsR ts) {i:Nat} (hi:i<=ts.length) (ih:∀j,i<j->j<=ts.length->REX ts j):REX ts i:=by
 have hR:=R2 hT hi fun j h1 h2=>(ih j h1 h2).bin 0 (by decide)
 have hA:=TI hT hi fun j h1 h2=>(ih j h1 h2).bin 0 (by decide)
 have hO:lx 212 ts nb i:=TD hT hi
  (fun ao hk=>Ve hT ao hk (TF hT ao (fun j h1 h2=>(ih j h1 h2).args) fun j h1 h2=>(ih j (by omega) h2).bin 0 (by decide)) (LQ hT (au _) ao fun j h1 h2=>(ih j h1 h2).args) (ih (i+1) (by omega) ao).round)
  (fun w hw ao=>LQ hT hw ao fun j h1 h2=>(ih j h1 h2).args) hR
 have hP:=TC hT hi hO (fun j h1 h2=>(ih j h1 h2).args) fun j h1 h2=>(ih j h1 h2).bin 0 (by decide)
 have hU:=RY hT hi hP fun j h1 h2=>(ih j h1 h2).un
 have hN:∀k n,n+k=10->rG ts n i:=fun k=>by
  induction k with
  |zero=>
   intro n hn;obtain rfl:n=10:=by omega
   exact TH hT hU
  |succ k ihk=>
   intro n hn;exact Vi hT hi (by omega) (ihk (n+1) (by omega)) fun j h1 h2=>(ih j h1 h2).bin (n+1) (by omega)
 exact⟨fun n hn=>hN (10 - n) n (by omega),hU,hA,hR⟩
theorem LN {ts:List Tk} (hT:TsR ts):∀(L i:Nat),i<=ts.length->ts.length - i<L->REX ts i
 |0,_,_,h=>absurd h (Nat.not_lt_zero _)
 |L+1,i,hi,h=>W3 hT hi fun j h1 h2=>LN hT L j h2 (by omega)
theorem uL {ts:List Tk} (hT:TsR ts) {i:Nat} (hi:i<=ts.length):REX ts i:=LN hT _ i hi (Nat.lt_succ_self _)
abbrev lM (ts:List Tk) (K:PR St) (m:Mem):SV->Hp->Mem->Prop:=fun r H' m' =>ak m m' /\H' =⟨[],[]⟩/\∃(x:Sd) (k:Nat) (b:Bool),r= .tup [.agg x.svs,.v (.int .i64 k),.v (.bool b)]/\k<=ts.length/\
 ((b=true/\∃e,K= .ok (e,ts.drop k)/\eH m' e x.cs)\/(b=false/\K= .error (ts.drop k)))
abbrev GY (ts:List Tk) (K:PR (List St)) (m:Mem):SV->Hp->Mem->Prop:=fun r H' m' =>ak m m' /\H' =⟨[],[]⟩/\∃(a:Option Addr) (n c k:Nat) (b:Bool),r= .tup [.v (.slice a n c),.v (.int .i64 k),.v (.bool b)]/\k<=ts.length/\
 ((b=true/\∃es xs,K= .ok (es,ts.drop k)/\n=es.length/\n<=c/\n<=1000001/\aM m' a n 23 xs/\bj m' es xs)\/(b=false/\K= .error (ts.drop k)))
section
variable {ts:List Tk}
theorem pE {K:PR St} {m m' :Mem} (l:ak m m') (x:Sd) (k:Nat) (e:St) (hk:k<=ts.length) (hK:K= .ok (e,ts.drop k)) (hx:eH m' e x.cs):lM ts K m (.tup [.agg x.svs,.v (.int .i64 k),.v (.bool true)]) ⟨[],[]⟩ m' :=
 ⟨l,rfl,x,k,true,rfl,hk,.inl ⟨rfl,e,hK,hx⟩⟩
theorem jK {K:PR St} {m m' :Mem} (l:ak m m') (x:Sd) (k:Nat) (hk:k<=ts.length) (hK:K= .error (ts.drop k)):lM ts K m (.tup [.agg x.svs,.v (.int .i64 k),.v (.bool false)]) ⟨[],[]⟩ m' :=
 ⟨l,rfl,x,k,false,rfl,hk,.inr ⟨rfl,hK⟩⟩
def qu:Sd:=⟨0,[],af,aI,aI,none,0,0,none,0,0⟩
def wY (f:FuncId) (ts:List Tk) (K:List Tk->PR St) (i:Nat):Prop:=∀(a:Option Addr) (c:Nat) (m:Mem),aM m a ts.length 4 (cG ts)->FnH Tryz.prog f [.v (.slice a ts.length c),.v (.int .i64 i)] ⟨[],[]⟩ m (lM ts (K (ts.drop i)) m)
def wq (ts:List Tk) (i:Nat):Prop:=∀(a:Option Addr) (c:Nat) (m:Mem),aM m a ts.length 4 (cG ts)->FnH Tryz.prog 86 [.v (.slice a ts.length c),.v (.int .i64 i)] ⟨[],[]⟩ m (GY ts (fC (ts.drop i)) m)
abbrev ZD (ts:List Tk) (x:Sd) (k:Nat) (b:Bool) (m:Mem):SV->Hp->Mem->Prop:=fun r H' m' =>m' =m/\H' =⟨[],[]⟩/\((b=true/\ai ts k [59]=true/\r= .tup [.agg x.svs,.v (.int .i64 ((k:Int)+1)),.v (.bool true)])\/((b=true->ai ts k [59]=false)/\r= .tup [.agg x.svs,.v (.int .i64 k),.v (.bool false)]))
theorem xr (hT:TsR ts) (x:Sd) (k:Nat) (b:Bool) (a:Option Addr) (c:Nat) (m:Mem) (hk:k<=ts.length) (hr:aM m a ts.length 4 (cG ts)):
  FnH Tryz.prog 92 [.v (.slice a ts.length c),.agg x.svs,.v (.int .i64 k),.v (.bool b)] ⟨[],[]⟩ m (ZD ts x k b m):=by
 have hl:=hT.few;have dD:k<=100000:=by omega
 cases b with
 |false=>
  refine enter (b8 ts) (bH hT) Tryz.func92 rfl rfl (by kernel_rfl) rfl ?_ ?_
  ·simp only[go_sem]
  ·simp only[go_sem,false_and];exact⟨rfl,rfl,.inr ⟨fun h=>(by cases h),rfl⟩⟩
 |true=>
  cases h:ai ts k [59] with
  |true=>
   refine enter (b8 ts) (bH hT) Tryz.func92 rfl rfl (by kernel_rfl) rfl ?_ ?_
   ·simp only[go_sem]
   ·simp only[go_sem,hr,h,dD];exact⟨rfl,rfl,.inl ⟨rfl,h,rfl⟩⟩
  |false=>
   refine enter (b8 ts) (bH hT) Tryz.func92 rfl rfl (by kernel_rfl) rfl ?_ ?_
   ·simp only[go_sem]
   ·simp only[go_sem,hr,h];exact⟨rfl,rfl,.inr ⟨fun _=>h,rfl⟩⟩
theorem zf (hT:TsR ts) {i:Nat} (hi:i<=ts.length):wY 89 ts ua i:=fun a c m hr=>by
 have hl:=hT.few;unfold ua;have hb:FnH Tryz.prog 35 [.v (.slice a ts.length c),.v (.int .i64 (i:Int)),.v (.int .i64 1)] ⟨[],[]⟩ m (gr ts (bL 0 (ts.drop i)) m):=(uL hT hi).bin 0 (by decide) a c m hr;refine enter (b8 ts) (bH hT) Tryz.func89 rfl rfl (by kernel_rfl) rfl ?_ ?_
 ·simp only[go_sem]
 ·simp only[go_sem];refine ab (hb.mono ?_);clear hb;rintro r H' m1 aJ ⟨l1,rfl,x1,k1,b1,rfl,aV,⟨rfl,e1,hK,hx1⟩ |⟨rfl,hK⟩⟩
  ·have eM:=aK l1 hr;have dD:k1<=100000:=by omega
   by_cases kL:ai ts k1 [61]=true
   ·have ao:=aN kL;have hb:FnH Tryz.prog 35 [.v (.slice a ts.length c),.v (.int .i64 ((k1:Int)+1)),.v (.int .i64 1)] ⟨[],[]⟩ m1 (gr ts (bL 0 (ts.drop (k1+1))) m1):=(uL hT ao).bin 0 (by decide) a c m1 eM;simp only[go_sem,eM,dD,kL];refine ab (hb.mono ?_);clear hb;rintro r H' m2 aG ⟨l2,rfl,x2,k2,b2,rfl,dd,hb⟩;have cX:=aK (aa l1 l2) hr;have jF:=xr hT ⟨2,[],af,x1,x2,none,0,0,none,0,0⟩ k2 b2 a c m2 dd cX;simp only[go_sem];refine ab (jF.mono ?_);clear jF;rintro r H' m3 bu ⟨rfl,rfl,⟨rfl,ek,rfl⟩ |⟨ek,rfl⟩⟩
    ·simp only[go_sem];rcases hb with ⟨_,e2,hK2,hx2⟩ |⟨h,_⟩
     ·exact pE (aa l1 l2) ⟨2,[],af,x1,x2,none,0,0,none,0,0⟩ (k2+1) (.mk 2 [] af e1 e2 [] []) (aN ek) (by rw[bQ hK,fM kL,List.tail_drop,bQ hK2,jG ek]) (ie (body:=[]) (alt:=[]) ⟨by decide,by decide⟩ (au _) bX (aU l2 hx1) hx2 (au _) (aq _) (cv _ _) (dy _ _) (au _) (aq _) (cv _ _) (dy _ _))
     ·cases h
    ·simp only[go_sem];refine jK (aa l1 l2) ⟨2,[],af,x1,x2,none,0,0,none,0,0⟩ k2 dd ?_;rw[bQ hK,fM kL,List.tail_drop];rcases hb with ⟨rfl,e2,hK2,hx2⟩ |⟨_,hK2⟩
     ·rw[bQ hK2,jH (ek rfl)]
     ·rw[dU hK2]
   ·have kL:=du kL;have jF:=xr hT ⟨3,[],af,aI,x1,none,0,0,none,0,0⟩ k1 true a c m1 aV eM;simp only[go_sem,eM,dD,kL];refine ab (jF.mono ?_);clear jF;rintro r H' m3 bu ⟨rfl,rfl,⟨_,ek,rfl⟩ |⟨ek,rfl⟩⟩
    ·simp only[go_sem];exact pE l1 ⟨3,[],af,aI,x1,none,0,0,none,0,0⟩ (k1+1) (.mk 3 [] af zE e1 [] []) (aN ek) (by rw[bQ hK,aT kL,jG ek]) (ie (body:=[]) (alt:=[]) ⟨by decide,by decide⟩ (au _) bX dQ hx1 (au _) (aq _) (cv _ _) (dy _ _) (au _) (aq _) (cv _ _) (dy _ _))
    ·simp only[go_sem];exact jK l1 ⟨3,[],af,aI,x1,none,0,0,none,0,0⟩ k1 aV (by rw[bQ hK,aT kL,jH (ek rfl)])
  ·simp only[go_sem];exact jK l1 qu k1 aV (dU hK)
end
noncomputable def rf (kd:Int) (l:List Tk):PR St:=ar (fA l) fun e r=>ar (fC r) fun b r2=>if kd=4/\aA rl r2=true then ar (fC r2.tail) fun a r3=> .ok (.mk kd [] af zE e b a,r3) else .ok (.mk kd [] af zE e b [],r2)
section
variable {ts:List Tk}
theorem E2 (hT:TsR ts) {i:Nat} (hi:i<=ts.length):wY 88 ts yd i:=fun a c m hr=>by
 have hl:=hT.few;unfold yd;have hb:=EY a c i m hT hi hr;refine enter (b8 ts) (bH hT) Tryz.func88 rfl rfl (by kernel_rfl) rfl ?_ ?_
 ·simp only[go_sem]
 ·simp only[go_sem];refine ab (hb.mono ?_);clear hb;rintro r H' m1 aJ ⟨l1,rfl,t,k1,b1,rfl,aV,dI,⟨rfl,hK⟩ |⟨rfl,hK⟩⟩
  ·have eM:=aK l1 hr;have dD:k1<=100000:=by omega
   have hs:=hT.toTsB.cs k1;by_cases hid:fL (ts.drop k1)=true
   ·have ao:=z7 hid;by_cases kL:ai ts (k1+1) [61]=true
    ·have jD:=aN kL;have hb:FnH Tryz.prog 35 [.v (.slice a ts.length c),.v (.int .i64 ((k1:Int)+2)),.v (.int .i64 1)] ⟨[],[]⟩ m1 (gr ts (bL 0 (ts.drop (k1+2))) m1):=(uL hT jD).bin 0 (by decide) a c m1 eM;simp only[go_sem,eM,dD,hid,kL];refine ab (hb.mono ?_);clear hb;rintro r H' m2 aG ⟨l2,rfl,x2,k2,b2,rfl,dd,hb⟩;have cX:=aK (aa l1 l2) hr;have jF:=fun m' (h:ak m2 m')=>xr hT ⟨1,(aP ts k1).s,t,aI,x2,none,0,0,none,0,0⟩ k2 b2 a c m' dd (aK h cX)
     simp only[go_sem];refine cw (.hoist 0 (.hoist 1 (.hoist 2 (.hoist 3 (.hoist 4 (.hoist 5 (.hoist 6 (.hoist 7 (.hoist 8 (.hoist 9 (.hoist 10 (.alt 11 [] (.hoist 12 (.hoist 13 (.hoist 14 (.alt 15 [] (.hoist 16 (.hoist 17 .done)) .stop)))) .stop)))))))))))) (bH hT) (by kernel_rfl) (by kernel_rfl) ?_;simp only[go_sem,wa cX ao,ru cX ao,lH cX ao];refine ab ((jF m2 (.inl rfl)).mono ?_);clear jF;rintro r H' m3 bu ⟨rfl,rfl,⟨rfl,ek,rfl⟩ |⟨ek,rfl⟩⟩
     ·simp only[go_sem];rcases hb with ⟨_,e2,hK2,hx2⟩ |⟨h,_⟩
      ·exact pE (aa l1 l2) ⟨1,(aP ts k1).s,t,aI,x2,none,0,0,none,0,0⟩ (k2+1) (.mk 1 (aP ts k1).s t zE e2 [] []) (aN ek) (by rw[bQ hK,bQ (wC hid),jG kL,bQ hK2,jG ek]) (ie (body:=[]) (alt:=[]) ⟨by decide,by decide⟩ hs (dI.ok (by omega)) dQ hx2 (au _) (aq _) (cv _ _) (dy _ _) (au _) (aq _) (cv _ _) (dy _ _))
      ·cases h
     ·simp only[go_sem];refine jK (aa l1 l2) ⟨1,(aP ts k1).s,t,aI,x2,none,0,0,none,0,0⟩ k2 dd ?_;rw[bQ hK,bQ (wC hid),jG kL];rcases hb with ⟨rfl,e2,hK2,hx2⟩ |⟨_,hK2⟩
      ·rw[bQ hK2,jH (ek rfl)]
      ·rw[dU hK2]
    ·have kL:=du kL;simp only[go_sem,eM,dD,hid,kL];exact jK l1 qu (k1+1) ao (by rw[bQ hK,bQ (wC hid),jH kL])
   ·have hid:=du hid;simp only[go_sem,eM,dD,hid];exact jK l1 qu k1 aV (by rw[bQ hK,dU (D4 hid)])
  ·simp only[go_sem];exact jK l1 qu k1 aV (dU hK)
theorem E3 (hT:TsR ts) {i:Nat} {kd:Int} (hkd:ax kd) (hi:i<=ts.length) (hB:∀j,i<j->j<=ts.length->wq ts j) (a:Option Addr) (c:Nat) (m:Mem) (hr:aM m a ts.length 4 (cG ts)):
  FnH Tryz.prog 90 [.v (.slice a ts.length c),.v (.int .i64 i),.v (.int .i64 kd)] ⟨[],[]⟩ m (lM ts (rf kd (ts.drop i)) m):=by
 have hl:=hT.few;generalize hK0:rf kd (ts.drop i)=K0
 unfold rf at hK0;have gP:Good true (ts.drop i) (fA (ts.drop i)):=(j8 _).paren.good;have hb:FnH Tryz.prog 168 [.v (.slice a ts.length c),.v (.int .i64 (i:Int))] ⟨[],[]⟩ m (gr ts (fA (ts.drop i)) m):=(uL hT hi).round a c m hr;refine enter (b8 ts) (bH hT) Tryz.func90 rfl rfl (by kernel_rfl) rfl ?_ ?_
 ·simp only[go_sem]
 ·simp only[go_sem];refine ab (hb.mono ?_);clear hb;rintro r H' m1 aJ ⟨l1,rfl,x1,k1,b1,rfl,aV,⟨rfl,e1,hK,hx1⟩ |⟨rfl,hK⟩⟩
  ·have eM:=aK l1 hr;have jD:i<k1:=pt gP hK aV;have hb:=hB k1 jD aV a c m1 eM;simp only[go_sem];refine ab (hb.mono ?_);clear hb;rintro r H' m2 aG ⟨l2,rfl,a2,n2,c2,k2,b2,rfl,dd,⟨rfl,es,xs,hK2,rfl,bb,hn,hxr,jM⟩ |⟨rfl,hK2⟩⟩
   ·have L2:=aa l1 l2;have cX:=aK L2 hr;have dD:k2<=100000:=by omega
    have eP:k1<k2:=pt (p6 _).block.good hK2 dd;by_cases h4:kd=4
    ·by_cases tu:ai ts k2 [101,108,115,101]=true
     ·have ao:=aN tu;have yo:kd=4/\aA rl (ts.drop k2)=true:=⟨h4,by rw[<- an];exact tu⟩;rw[bQ hK,bQ hK2,ah yo,List.tail_drop] at hK0;have hb:FnH Tryz.prog 86 [.v (.slice a ts.length c),.v (.int .i64 ((k2:Int)+1))] ⟨[],[]⟩ m2 (GY ts (fC (ts.drop (k2+1))) m2):=hB (k2+1) (by omega) ao a c m2 cX;clear hB;subst h4;simp only[go_sem,cX,dD,tu,not_true_eq_false];refine ab (hb.mono ?_);clear hb;rintro r H' m3 bu ⟨l3,rfl,a3,n3,c3,k3,b3,rfl,hk3,hb⟩;simp only[go_sem];rcases hb with ⟨rfl,es3,xs3,hK3,rfl,hcp3,yI,hxr3,hxs3⟩ |⟨rfl,hK3⟩
      ·exact pE (aa L2 l3) ⟨4,[],af,aI,x1,a2,es.length,c2,a3,es3.length,c3⟩ k3 (.mk 4 [] af zE e1 es es3) hk3 (by rw[<- hK0,bQ hK3]) (ie ⟨by decide,by decide⟩ (au _) bX dQ (aU (aa l2 l3) hx1) hn bb (aK l3 hxr) (kz l3 jM) yI hcp3 hxr3 hxs3)
      ·exact jK (aa L2 l3) ⟨4,[],af,aI,x1,a2,es.length,c2,a3,n3,c3⟩ k3 hk3 (by rw[<- hK0,dU hK3])
     ·have tu:=du tu;have abr:¬(kd=4/\aA rl (ts.drop k2)=true):=fun h=>by
       have h2:=h.2;rw[<- an,show ai ts k2 rl=false from tu] at h2;cases h2
      rw[bQ hK,bQ hK2,ae abr] at hK0;clear hB;subst h4;simp only[go_sem,cX,dD,tu,not_true_eq_false];exact pE L2 ⟨4,[],af,aI,x1,a2,es.length,c2,none,0,0⟩ k2 (.mk 4 [] af zE e1 es []) dd hK0.symm (ie (alt:=[]) ⟨by decide,by decide⟩ (au _) bX dQ (aU l2 hx1) hn bb hxr jM (au _) (aq _) (cv _ _) (dy _ _))
    ·clear hB;have h4' :(kd=4)=False:=eq_false h4;simp only[go_sem,cX,dD,h4',not_false_eq_true,false_and];exact pE L2 ⟨kd,[],af,aI,x1,a2,es.length,c2,none,0,0⟩ k2 (.mk kd [] af zE e1 es []) dd (by rw[<- hK0,bQ hK,bQ hK2,ae (fun h=>h4 h.1)]) (ie (alt:=[]) hkd (au _) bX dQ (aU l2 hx1) hn bb hxr jM (au _) (aq _) (cv _ _) (dy _ _))
   ·simp only[go_sem];exact jK (aa l1 l2) qu k2 dd (by rw[<- hK0,bQ hK,dU hK2])
  ·simp only[go_sem];exact jK l1 qu k1 aV (by rw[<- hK0,dU hK])
theorem R1 (hT:TsR ts) {i:Nat} (hi:i<=ts.length) (dP:wq ts i) (hB:∀j,i<j->j<=ts.length->wq ts j):wY 91 ts AB i:=fun a c m hr=>by
 have hl:=hT.few;generalize hK0:AB (ts.drop i)=K0
 unfold AB at hK0;have gB:Good true (ts.drop i) (fC (ts.drop i)):=(p6 _).block.good;have hb:=dP a c m hr;refine enter (b8 ts) (bH hT) Tryz.func91 rfl rfl (by kernel_rfl) rfl ?_ ?_
 ·simp only[go_sem]
 ·simp only[go_sem];refine ab (hb.mono ?_);clear hb;rintro r H' m1 aJ ⟨l1,rfl,a1,n1,c1,k1,b1,rfl,aV,⟨rfl,es,xs,hK,rfl,bb,hn,hxr,jM⟩ |⟨rfl,hK⟩⟩
  ·have eM:=aK l1 hr;have dD:k1<=100000:=by omega
   have aeF:i<k1:=pt gB hK aV;rw[bQ hK] at hK0;by_cases kq:ai ts k1 [99,97,116,99,104]=true
   ·have ao:=aN kq;rw[jG (show ai ts k1 nA=true from kq)] at hK0;by_cases cB:ai ts (k1+1) [40]=true
    ·have jD:=aN cB;rw[jG cB] at hK0;have hb:FnH Tryz.prog 69 [.v (.slice a ts.length c),.v (.int .i64 ((k1:Int)+2))] ⟨[],[]⟩ m1 _:=EY a c (k1+2) m1 hT jD eM;simp only[go_sem,eM,dD,kq,cB];refine ab (hb.mono ?_);clear hb;rintro r H' m2 aG ⟨l2,rfl,t,k2,b2,rfl,dd,dI,⟨rfl,hK2⟩ |⟨rfl,hK2⟩⟩
     ·have L2:=aa l1 l2;have cX:=aK L2 hr;have yK:k2<=100000:=by omega
      have eP:k1+2<k2:=pt (Kt _) hK2 dd;have hs:=hT.toTsB.cs k2;rw[bQ hK2] at hK0;by_cases hid:fL (ts.drop k2)=true
      ·have ql:=z7 hid;rw[bQ (wC hid)] at hK0;by_cases tC:ai ts (k2+1) [41]=true
       ·have abw:=aN tC;rw[jG tC] at hK0;have hb:FnH Tryz.prog 86 [.v (.slice a ts.length c),.v (.int .i64 ((k2:Int)+2))] ⟨[],[]⟩ m2 (GY ts (fC (ts.drop (k2+2))) m2):=hB (k2+2) (by omega) abw a c m2 cX;clear hB dP;simp only[go_sem,cX,yK,hid];refine cw (.hoist 0 (.hoist 1 (.hoist 2 (.hoist 3 (.hoist 4 (.hoist 5 (.hoist 6 (.hoist 7 (.alt 8 [7,6,5,4,3,2,1,0] (.alt 9 [] .done .stop) .stop))))))))) (bH hT) (by kernel_rfl) (by kernel_rfl) ?_;simp only[go_sem,cX,yK,tC,wa cX ql,ru cX ql,lH cX ql];refine ab (hb.mono ?_);clear hb;rintro r H' m3 bu ⟨l3,rfl,a3,n3,c3,k3,b3,rfl,hk3,hb⟩;simp only[go_sem];rcases hb with ⟨rfl,es3,xs3,hK3,rfl,hcp3,yI,hxr3,hxs3⟩ |⟨rfl,hK3⟩
        ·exact pE (aa L2 l3) ⟨8,(aP ts k2).s,t,aI,aI,a1,es.length,c1,a3,es3.length,c3⟩ k3 (.mk 8 (aP ts k2).s t zE zE es es3) hk3 (by rw[<- hK0,bQ hK3]) (ie ⟨by decide,by decide⟩ hs (dI.ok (by omega)) dQ dQ hn bb (aK (aa l2 l3) hxr) (kz (aa l2 l3) jM) yI hcp3 hxr3 hxs3)
        ·exact jK (aa L2 l3) ⟨8,(aP ts k2).s,t,aI,aI,a1,es.length,c1,a3,n3,c3⟩ k3 hk3 (by rw[<- hK0,dU hK3])
       ·have tC:=du tC;clear hB dP;simp only[go_sem,cX,yK,hid];refine cw (.hoist 0 (.hoist 1 (.hoist 2 (.hoist 3 (.hoist 4 (.hoist 5 (.hoist 6 (.hoist 7 (.alt 8 [7,6,5,4,3,2,1,0] (.alt 9 [] .done .stop) .stop))))))))) (bH hT) (by kernel_rfl) (by kernel_rfl) ?_;simp only[go_sem,cX,yK,tC,wa cX ql,ru cX ql,lH cX ql];exact jK L2 ⟨8,(aP ts k2).s,t,aI,aI,a1,es.length,c1,none,0,0⟩ (k2+1) ql (by rw[<- hK0,jH tC])
      ·have hid:=du hid;simp only[go_sem,cX,yK,hid];exact jK L2 qu k2 dd (by rw[<- hK0,dU (D4 hid)])
     ·simp only[go_sem,false_and];exact jK (aa l1 l2) qu k2 dd (by rw[<- hK0,dU hK2])
    ·have cB:=du cB;simp only[go_sem,eM,dD,kq,cB];exact jK l1 qu (k1+1) ao (by rw[<- hK0,jH cB])
   ·have kq:=du kq;simp only[go_sem,eM,dD,kq];exact jK l1 qu k1 aV (by rw[<- hK0,jH (show ai ts k1 nA=false from kq)])
  ·simp only[go_sem,false_and];exact jK l1 qu k1 aV (by rw[<- hK0,dU hK])
end
section
variable {ts:List Tk}
abbrev aci (ts:List Tk) (i:Nat) (K:PR (List St)) (m:Mem):SV->Hp->Mem->Prop:=fun r H' m' =>ak m m' /\H' =⟨[],[]⟩/\∃(a:Option Addr) (n c k:Nat) (b:Bool),r= .tup [.v (.slice a n c),.v (.int .i64 k),.v (.bool b)]/\k<=ts.length/\
 ((b=true/\∃es xs,K= .ok (es,ts.drop k)/\n=es.length/\n<=c/\n<=1000001/\aM m' a n 23 xs/\bj m' es xs/\i+es.length<=k)\/(b=false/\K= .error (ts.drop k)/\n=0))
def ZC (ts:List Tk) (i:Nat):Prop:=∀(a:Option Addr) (c:Nat) (m:Mem),aM m a ts.length 4 (cG ts)->FnH Tryz.prog 86 [.v (.slice a ts.length c),.v (.int .i64 i)] ⟨[],[]⟩ m (aci ts i (fC (ts.drop i)) m)
theorem TG (hT:TsR ts) {i:Nat} (hi:i<=ts.length) (hS:∀j,i<j->j<=ts.length->wY 39 ts pj j):ZC ts i:=fun a c m hr=>by
 have hl:=hT.few;have cN:i<=100000:=by omega
 generalize hK0:fC (ts.drop i)=K0
 rw[Ko] at hK0;cases h1:ai ts i [123] with
 |false=>
  refine enter (b8 ts) (bH hT) Tryz.func86 rfl rfl (by kernel_rfl) rfl ?_ ?_
  ·simp only[go_sem]
  ·simp only[go_sem,hr,h1];exact⟨.inl rfl,rfl,none,0,0,i,false,rfl,hi,.inr ⟨rfl,by rw[<- hK0,jH h1],rfl⟩⟩
 |true=>
  have ao:=aN h1;rw[jG h1] at hK0;refine jv (enter (b8 ts) (bH hT) Tryz.func86 rfl rfl (by kernel_rfl) rfl ?_ ?_)
  ·simp only[go_sem]
  ·simp only[go_sem,hr,h1,cN];refine qV 7 73 23 (by decide) rfl ?_;refine cK (bH hT) (fun y:Nat×List St×List Value×Nat×Mem=>⟨[⟨0,[],.v (.slice a ts.length c)⟩,⟨1,[],.v (.int .i64 y.1)⟩,⟨7,[],.vec 0 y.2.2.2.1⟩],[],[],[⟨0,y.2.2.2.1,73,23,y.2.1.length,y.2.2.1⟩],40,y.2.2.2.2⟩)
    (fun y=>ak m y.2.2.2.2/\y.1<=ts.length/\i<y.1/\i+1+y.2.1.length<=y.1/\y.2.2.1.length=y.2.1.length * 23/\bj y.2.2.2.2 y.2.1 y.2.2.1/\xP y.2.1 (ts.drop y.1)=K0)
    (fun y=>ts.length - y.1) (i+1,[],[],0,m) (fun _ _=>dO rfl) (fun y hy=>hy.1) ?_ ?_ ?_
   ·simp only[go_sem];exact rfl
   ·exact⟨.inl rfl,ao,Nat.lt_succ_self i,aq _,rfl,dy _ _,hK0⟩
   ·rintro⟨k,es,xs,u,mm⟩ ⟨q1,q2,q2',q3,q4,q5,q6⟩;dsimp only at q1 q2 q2' q3 q4 q5 q6;have iy:=aK q1 hr;have dD:k<=100000:=by omega
    rw[EV] at q6;by_cases h2:ai ts k [125]=true
    ·rw[fM h2,List.tail_drop] at q6;simp only[go_sem,iy,h2,dD];exact zG (b:=⟨0,u,73,23,es.length,xs⟩) (by simp only[cS,if_true]) fun a c m2 w1 w2 w3=>⟨aa q1 (.inr w1),rfl,a,es.length,c,k+1,true,rfl,aN h2,.inl ⟨rfl,es,xs,q6.symm,rfl,w2,by omega,w3,kz (.inr w1) q5,by omega⟩⟩
    ·have h2:=du h2;rw[aT h2] at q6;have hb:=hS k q2' q2 a c mm iy;have gS:Good true (ts.drop k) (pj (ts.drop k)):=(p6 _).stmt.good;clear hS;simp only[go_sem,iy,h2,dD];refine ab (hb.mono ?_);clear hb;rintro r H' m1 aJ ⟨l1,rfl,x1,k1,b1,rfl,aV,⟨rfl,e1,hK1,hx1⟩ |⟨rfl,hK1⟩⟩
     ·have eP:k<k1:=pt gS hK1 aV;rw[bQ hK1] at q6;have hrr:room (es.length+1) 312:=gD (by omega) (by decide);simp only[go_sem,hrr];refine⟨(k1,es++[e1],xs++x1.cs,u+1,m1),⟨⟨rfl,rfl⟩,⟨rfl,by simp,rfl⟩,.inl rfl⟩,⟨aa q1 l1,aV,by dsimp only;omega,by simp only[bY,fI];omega,by simp [q4,Sd.cs,Nat.add_mul],zu hx1 q4 (kz l1 q5),q6⟩,by dsimp only;omega⟩
     ·simp only[go_sem];exact .inl ⟨aa q1 l1,rfl,none,0,0,k1,false,rfl,aV,.inr ⟨rfl,by rw[<- q6,dU hK1],rfl⟩⟩
theorem R7 (hT:TsR ts) {i:Nat} (hi:i<=ts.length) (hS:∀j,i<j->j<=ts.length->wY 39 ts pj j):wq ts i:=fun a c m hr=>by
 refine(TG hT hi hS a c m hr).mono ?_;rintro r H' m1 _ ⟨l1,h1,a1,n1,c1,k1,b1,h2,h3,⟨h4,es,xs,h5,h6,h7,h8,h9,vb,_⟩ |⟨h4,h5,_⟩⟩
 ·exact⟨l1,h1,a1,n1,c1,k1,b1,h2,h3,.inl ⟨h4,es,xs,h5,h6,h7,h8,h9,vb⟩⟩
 ·exact⟨l1,h1,a1,n1,c1,k1,b1,h2,h3,.inr ⟨h4,h5⟩⟩
end
end Go.Proofs.YtimddhkipjedcaaGreatDoor.E

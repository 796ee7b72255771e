/- Several texts in one. -/
import Derived.Test.YtimddhkipjedcaaGreatDoorMrg7
set_option linter.unusedSimpArgs false
set_option linter.unusedVariables false
set_option maxHeartbeats 4000000
set_option maxRecDepth 20000
namespace Go.Proofs.YtimddhkipjedcaaGreatDoor.E
open Go
section
variable {ts:List Tk}
theorem F0 {d:Cd} {fl:Int} {t:Ty} {s:List UInt8} {l:List Tk} (h:s≠[60,105,110,105,116,62]):vl d fl t s l=og d fl t s l:=by
 unfold vl og;congr 1
 funext ps r
 by_cases h1:aC [59] r=true
 ·rw[aj ⟨h1,h⟩,aj h1]
 ·rw[ae fun g=>h1 g.1,ae h1]
theorem SE {d:Cd} {fl:Int} {t:Ty} {l:List Tk}:vl d fl t eH l=av (mP l) fun ps r=>av (fE r) fun b r2=> .ok (d.addM ⟨fl,t,eH,ps,true,b⟩,r2):=by
 unfold vl;congr 1
 funext ps r
 exact ae fun g=>g.2 rfl
abbrev Ix (ts:List Tk):Cfg:=qY (fun f=>f==147||f==59) [(58,rk ts fx fun i w=> .bool (ah ts i w)),(68,rk ts eU fun i w=> .bool (ah ts i w)),(87,oz ts fun i=> .bool (ee (ts.drop i))),
 (148,oz ts fun i=> .bool (eY (ts.drop i))),(70,oz ts fun i=> .agg ⟨dX (aO ts i)⟩),(160,oz ts (baseV ts)),(71,fun _=>eZ (fun _=>True) fun s=> .int .i64 (sH s))]
theorem tZ {ts:List Tk} (hT:TsR ts):cK (Ix ts) Tryz.prog:=bu hT
theorem HM (hT:TsR ts) {k:Nat} (h:eY (ts.drop k)=true):(aO ts k).s≠[60,105,110,105,116,62]:=fun e=>by
 have hk:=hT.curk (fun t=>t.k=1->eF t.s=true/\fz.contains t.s=false) (by decide) hT.k1 k;rw[eY,nQ] at h;have h1:(aO ts k).k=1:=by
  by_cases g:(aO ts k).k=1
  ·exact g
  ·rw[bo g] at h;simp at h
 have:=OW (hk h1).1;rw[e] at this;exact this rfl
theorem Df (hT:TsR ts) {i:Nat} (hi:i<=ts.length) (j:Int) (hj:j=(i:Int)) (fl:Int) (t:Ty) (nm:List UInt8) (ix:0<=fl/\fl<2048) (cZ:lh t) (ka:nm.length<=1000000) (y:DSt) (a:Option Addr) (c:Nat) (m:Mem) (hr:aK m a ts.length 4 (cG ts)) (hy:DOk m y i):
  FnH Tryz.prog 147 [.v (.slice a ts.length c),.v (.int .i64 j),dV y,.agg [.v (.int .i64 fl),.v (.int .i64 t.dim),.v (.int .u8 t.base),.v (.string (bs t.name)),.v (.string (bs nm)),.v (.slice none 0 0),.v (.bool false),.v (.slice none 0 0)]] (dH y) m (IE ts y (vl y.d fl t nm (ts.drop i)) m):=by
 subst hj;exact UX hT hi fl t nm ix cZ ka y a c m hr hy
theorem UY (hT:TsR ts) {i:Nat} (hi:i<=ts.length) (y:DSt) (a:Option Addr) (c:Nat) (m:Mem) (hr:aK m a ts.length 4 (cG ts)) (hy:DOk m y i):
  FnH Tryz.prog 59 [.v (.slice a ts.length c),.v (.int .i64 i),dV y] (dH y) m (IE ts y (fA y.d (bg bH 0 (ts.drop i)).1 (bg bH 0 (ts.drop i)).2) m):=by
 have gl:=fun aw af cw cf m' xI hw hf=>LR hT hi bH (by decide) (by decide) (by decide) a aw af c cw cf m' xI hw hf
 obtain⟨d,ia,ic,uf,um,ui,ms,is⟩:=y;have hl:=hT.few;have ck:i<=100000:=by omega
 generalize hK0:fA d (bg bH 0 (ts.drop i)).1 (bg bH 0 (ts.drop i)).2=K0
 refine enter (Ix ts) (tZ hT) Tryz.func59 rfl rfl (by kernel_rfl) rfl ?_ ?_
 ·simp only[go_sem]
 ·simp only[go_sem,hr,ck];refine⟨by kernel_rfl,fun aw cw m1 g1 _ hw af cf m2 g2 _ hf=>dh ((gl aw af cw cf m2 (aD (aa (.inr g1) (.inr g2)) hr) (aD (.inr g2) hw) hf).mono ?_)⟩;have u:an m m2:=aa (.inr g1) (.inr g2);have aS:=aD u hr;clear gl hw hf g1 g2;rintro r H' m3 bN ⟨h3,rfl,v,k,rfl,Jc,hk,hv0,zK,hM⟩;subst h3;have zK:v<=1087:=zK;have bq:k<=100000:=by omega
  have dY:=hy.up u Jc;rw[hM] at hK0;dsimp only at hK0;unfold fA at hK0;have ix:0<=v/\v<2048:=⟨hv0,by omega⟩;by_cases ha:v=8/\ah ts k [123]=true
  ·rw[aj ⟨ha.1,by rw[<- ar];exact ha.2⟩] at hK0;have h8:=ha.1;have sO:=ha.2;have hb:=ZM hT hk a c m3 aS;have fJ:=dY.inn;dsimp only at fJ;clear ha;simp only[go_sem,aS,bq,h8,sO,not_true_eq_false,not_false_eq_true,false_implies,true_implies,and_true,true_and];refine ab (hb.mono ?_);clear hb;rintro r H' m4 dd ⟨l4,rfl,ba,bn,bc,k2,b2,rfl,b8,⟨rfl,es,xs,hK2,rfl,uF,rW,hbR,hbS,gw⟩ |⟨rfl,hK2,rfl⟩⟩
   ·rw[bz hK2] at hK0;simp only[go_sem];have u4:=aa u l4;refine⟨xs,hbR,fun w hw=>GJ hbR.1 hbS w hw,fK (by omega) (by decide),u4,⟨d.addI es,ia,ic,uf,um,ui+1,ms,is++xs⟩,k2,true,rfl,(by simp only[dH,Cd.addI,bM]<;>rfl),⟨rfl,rfl,rfl,rfl,rfl,rfl,aq _,aq _,Nat.le_succ _⟩,b8,.inl ⟨rfl,DOk.addI (dY.up l4 (aq _)) hbS hbR.1 gw,hK0.symm⟩⟩
   ·rw[cV hK2] at hK0;simp only[go_sem];exact⟨[],⟨by simp,fun h=>absurd h (by decide)⟩,fun w hw=>(by cases hw),fK (by omega) (by decide),aa u l4,⟨d,ia,ic,uf,um,ui+1,ms,is++[]⟩,k2,false,rfl,rfl,⟨rfl,rfl,rfl,rfl,rfl,rfl,aq _,aq _,Nat.le_succ _⟩,b8,.inr ⟨rfl,hK0.symm⟩⟩
  ·rw[ae (fun g=>ha ⟨g.1,by rw[ar];exact g.2⟩)] at hK0;by_cases hn:ah ts k [110,101,119]=true
   ·have sO:ah ts k [123]=false:=be hn (by decide);have ao:=aJ hn;rw[eI (show ah ts k zj=true from hn),List.tail_drop,<- SE] at hK0;have nz:=Df hT ao ((k:Int)+1) rfl v eT eH ix uY (by decide) ⟨d,ia,ic,uf,um,ui,ms,is⟩ a c m3 aS (dY.up (.inl rfl) (Nat.le_succ _));rw[hK0] at nz;clear ha;simp only[go_sem,aS,bq,sO,hn,not_true_eq_false,not_false_eq_true,false_implies,true_implies,and_true,true_and];refine ab (nz.mono ?_);clear nz;rintro r H' m4 dd ⟨l4,y4,k4,b4,rfl,rfl,sm,hk4,hb⟩;simp only[go_sem];exact⟨⟨sm.uf,sm.um,sm.ui⟩,aa u l4,y4,k4,b4,rfl,rfl,sm,hk4,hb⟩
   have hn:=bK hn;rw[aT (show ah ts k zj=false from hn)] at hK0;by_cases mJ:ah ts k [118,111,105,100]=true
   ·have sO:ah ts k [123]=false:=be mJ (by decide);have PB:=aJ mJ;rw[eI (show ah ts k wS=true from mJ),List.tail_drop] at hK0;clear ha;by_cases hid:eY (ts.drop (k+1))=true
    ·have ao:=tG hid;rw[bz (rO hid),<- F0 (HM hT hid)] at hK0;have nz:=fun m' (h:an m3 m')=>Df hT ao ((k:Int)+2) rfl v eT (aO ts (k+1)).s ix uY (hT.toTsB.cs _) ⟨d,ia,ic,uf,um,ui,ms,is⟩ a c m' (aD h aS) (dY.up h (by omega))
     rw[hK0] at nz;simp only[go_sem,aS,bq,sO,hn,mJ,hid,not_true_eq_false,not_false_eq_true,false_implies,true_implies,and_true,true_and];refine cg (.hoist 0 (.hoist 1 (.hoist 2 (.hoist 3 (.hoist 4 (.hoist 5 (.hoist 6 (.hoist 7 (.hoist 8 (.hoist 9 (.hoist 10 (.hoist 11 (.hoist 12 (.alt 13 [] (.hoist 14 (.hoist 15 (.hoist 16 (.alt 17 [] (.hoist 18 (.hoist 19 .done)) .stop)))) .stop)))))))))))))) (tZ hT) (by kernel_rfl) (by kernel_rfl) ?_;simp only[go_sem,qb aS ao,gh aS ao,eX aS ao,bq];refine ab ((nz m3 (.inl rfl)).mono ?_);clear nz;rintro r H' m4 dd ⟨l4,y4,k4,b4,rfl,rfl,sm,hk4,hb⟩;simp only[go_sem];exact⟨⟨sm.uf,sm.um,sm.ui⟩,aa u l4,y4,k4,b4,rfl,rfl,sm,hk4,hb⟩
    ·have hid:=bK hid;rw[cV (vU hid)] at hK0;simp only[go_sem,aS,bq,sO,hn,mJ,hid,not_true_eq_false,not_false_eq_true,false_implies,true_implies,and_true,true_and];exact⟨u,⟨d,ia,ic,uf,um,ui,ms,is⟩,k+1,false,rfl,rfl,⟨rfl,rfl,rfl,rfl,rfl,rfl,aq _,aq _,aq _⟩,PB,.inr ⟨rfl,hK0.symm⟩⟩
   have mJ:=bK mJ;rw[aT (show ah ts k wS=false from mJ)] at hK0;have hb:=Af a c k m3 hT hk aS;have hx:ah ts k [123]=false\/(ah ts k [123]=true/\¬v=8):=by
    by_cases h:ah ts k [123]=true
    ·exact .inr ⟨h,fun e=>ha ⟨e,h⟩⟩
    ·exact .inl (bK h)
   clear ha;rcases hx with sO |⟨sO,h8⟩
   ·simp only[go_sem,aS,bq,sO,hn,mJ,not_true_eq_false,not_false_eq_true,false_implies,true_implies,and_true,true_and];refine ab (hb.mono ?_);clear hb;rintro r H' m4 dd ⟨l4,rfl,t,k1,b1,rfl,aV,cZ,⟨rfl,hK⟩ |⟨rfl,hK⟩⟩
    ·have u4:=aa u l4;have bJ:=aD l4 aS;have lr:k1<=100000:=by omega
     have ep:k<k1:=kX (Au _) hK aV;have ka:=hT.toTsB.cs k1;have pB:lh t:=cZ.ok (by omega);rw[bz hK] at hK0;by_cases hid:eY (ts.drop k1)=true
     ·have ao:=tG hid;rw[bz (rO hid)] at hK0;have fk:=dY.fn;dsimp only at fk;have ed:room (d.fields.length+1) 56:=fK (by omega) (by decide);by_cases da:ah ts (k1+1) [59]=true
      ·have cA:=aJ da;rw[eI da,List.tail_drop] at hK0;simp only[go_sem,bJ,lr,hid,da,not_true_eq_false,not_false_eq_true,false_implies,true_implies,and_true,true_and];refine cg (.hoist 0 (.hoist 1 (.hoist 2 (.hoist 3 (.hoist 4 (.hoist 5 (.hoist 6 (.hoist 7 (.hoist 8 (.hoist 9 (.alt 10 [1,0] (.alt 11 [] (.hoist 12 (.alt 13 [] .done .stop)) .stop) .stop))))))))))) (tZ hT) (by kernel_rfl) (by kernel_rfl) ?_;simp only[go_sem,lL bJ ao,gh bJ ao,eX bJ ao,ed,lr];exact⟨u4,⟨d.addF ⟨v,t,(aO ts k1).s⟩,ia,ic,uf+1,um,ui,ms,is⟩,k1+2,true,rfl,(by simp only[dH,Cd.addF,bM,cv,eM,uO]<;>rfl),⟨rfl,rfl,rfl,rfl,rfl,rfl,Nat.le_succ _,aq _,aq _⟩,cA,.inl ⟨rfl,DOk.addF (dY.up l4 (aq _)) ⟨by unfold az;dsimp only;omega,pB,by unfold aA;dsimp only;omega⟩ (by omega),hK0.symm⟩⟩
      ·have da:=bK da;rw[aT da,<- F0 (HM hT hid)] at hK0;have nz:=fun m' (h:an m4 m')=>Df hT ao ((k1:Int)+1) rfl v t (aO ts k1).s ix pB ka ⟨d,ia,ic,uf,um,ui,ms,is⟩ a c m' (aD h bJ) (dY.up (aa l4 h) (by omega))
       rw[hK0] at nz;simp only[go_sem,bJ,lr,hid,da,not_true_eq_false,not_false_eq_true,false_implies,true_implies,and_true,true_and];refine cg (.hoist 0 (.hoist 1 (.hoist 2 (.hoist 3 (.hoist 4 (.hoist 5 (.hoist 6 (.hoist 7 (.hoist 8 (.hoist 9 (.hoist 10 (.hoist 11 (.alt 12 [] (.hoist 13 (.hoist 14 (.hoist 15 (.alt 16 [] (.hoist 17 (.hoist 18 .done)) .stop)))) .stop))))))))))))) (tZ hT) (by kernel_rfl) (by kernel_rfl) ?_;simp only[go_sem,lL bJ ao,gh bJ ao,eX bJ ao,lr];refine ab ((nz m4 (.inl rfl)).mono ?_);clear nz;rintro r H' m5 cW ⟨l5,y5,k5,b5,rfl,rfl,sm,hk5,hb⟩;simp only[go_sem];exact⟨⟨sm.uf,sm.um,sm.ui⟩,aa u4 l5,y5,k5,b5,rfl,rfl,sm,hk5,hb⟩
     ·have hid:=bK hid;rw[cV (vU hid)] at hK0;simp only[go_sem,bJ,lr,hid,not_true_eq_false,not_false_eq_true,false_implies,true_implies,and_true,true_and];exact⟨u4,⟨d,ia,ic,uf,um,ui,ms,is⟩,k1,false,rfl,rfl,⟨rfl,rfl,rfl,rfl,rfl,rfl,aq _,aq _,aq _⟩,aV,.inr ⟨rfl,hK0.symm⟩⟩
    ·have u4:=aa u l4;rw[cV hK] at hK0;simp only[go_sem,not_true_eq_false,not_false_eq_true,false_implies,true_implies,and_true,true_and,false_and,true_or];exact⟨u4,⟨d,ia,ic,uf,um,ui,ms,is⟩,k1,false,rfl,rfl,⟨rfl,rfl,rfl,rfl,rfl,rfl,aq _,aq _,aq _⟩,aV,.inr ⟨rfl,hK0.symm⟩⟩
   ·simp only[go_sem,aS,bq,sO,h8,hn,mJ,not_true_eq_false,not_false_eq_true,false_implies,true_implies,and_true,true_and];refine ab (hb.mono ?_);clear hb;rintro r H' m4 dd ⟨l4,rfl,t,k1,b1,rfl,aV,cZ,⟨rfl,hK⟩ |⟨rfl,hK⟩⟩
    ·have u4:=aa u l4;have bJ:=aD l4 aS;have lr:k1<=100000:=by omega
     have ep:k<k1:=kX (Au _) hK aV;have ka:=hT.toTsB.cs k1;have pB:lh t:=cZ.ok (by omega);rw[bz hK] at hK0;by_cases hid:eY (ts.drop k1)=true
     ·have ao:=tG hid;rw[bz (rO hid)] at hK0;have fk:=dY.fn;dsimp only at fk;have ed:room (d.fields.length+1) 56:=fK (by omega) (by decide);by_cases da:ah ts (k1+1) [59]=true
      ·have cA:=aJ da;rw[eI da,List.tail_drop] at hK0;simp only[go_sem,bJ,lr,hid,da,not_true_eq_false,not_false_eq_true,false_implies,true_implies,and_true,true_and];refine cg (.hoist 0 (.hoist 1 (.hoist 2 (.hoist 3 (.hoist 4 (.hoist 5 (.hoist 6 (.hoist 7 (.hoist 8 (.hoist 9 (.alt 10 [1,0] (.alt 11 [] (.hoist 12 (.alt 13 [] .done .stop)) .stop) .stop))))))))))) (tZ hT) (by kernel_rfl) (by kernel_rfl) ?_;simp only[go_sem,lL bJ ao,gh bJ ao,eX bJ ao,ed,lr];exact⟨u4,⟨d.addF ⟨v,t,(aO ts k1).s⟩,ia,ic,uf+1,um,ui,ms,is⟩,k1+2,true,rfl,(by simp only[dH,Cd.addF,bM,cv,eM,uO]<;>rfl),⟨rfl,rfl,rfl,rfl,rfl,rfl,Nat.le_succ _,aq _,aq _⟩,cA,.inl ⟨rfl,DOk.addF (dY.up l4 (aq _)) ⟨by unfold az;dsimp only;omega,pB,by unfold aA;dsimp only;omega⟩ (by omega),hK0.symm⟩⟩
      ·have da:=bK da;rw[aT da,<- F0 (HM hT hid)] at hK0;have nz:=fun m' (h:an m4 m')=>Df hT ao ((k1:Int)+1) rfl v t (aO ts k1).s ix pB ka ⟨d,ia,ic,uf,um,ui,ms,is⟩ a c m' (aD h bJ) (dY.up (aa l4 h) (by omega))
       rw[hK0] at nz;simp only[go_sem,bJ,lr,hid,da,not_true_eq_false,not_false_eq_true,false_implies,true_implies,and_true,true_and];refine cg (.hoist 0 (.hoist 1 (.hoist 2 (.hoist 3 (.hoist 4 (.hoist 5 (.hoist 6 (.hoist 7 (.hoist 8 (.hoist 9 (.hoist 10 (.hoist 11 (.alt 12 [] (.hoist 13 (.hoist 14 (.hoist 15 (.alt 16 [] (.hoist 17 (.hoist 18 .done)) .stop)))) .stop))))))))))))) (tZ hT) (by kernel_rfl) (by kernel_rfl) ?_;simp only[go_sem,lL bJ ao,gh bJ ao,eX bJ ao,lr];refine ab ((nz m4 (.inl rfl)).mono ?_);clear nz;rintro r H' m5 cW ⟨l5,y5,k5,b5,rfl,rfl,sm,hk5,hb⟩;simp only[go_sem];exact⟨⟨sm.uf,sm.um,sm.ui⟩,aa u4 l5,y5,k5,b5,rfl,rfl,sm,hk5,hb⟩
     ·have hid:=bK hid;rw[cV (vU hid)] at hK0;simp only[go_sem,bJ,lr,hid,not_true_eq_false,not_false_eq_true,false_implies,true_implies,and_true,true_and];exact⟨u4,⟨d,ia,ic,uf,um,ui,ms,is⟩,k1,false,rfl,rfl,⟨rfl,rfl,rfl,rfl,rfl,rfl,aq _,aq _,aq _⟩,aV,.inr ⟨rfl,hK0.symm⟩⟩
    ·have u4:=aa u l4;rw[cV hK] at hK0;simp only[go_sem,not_true_eq_false,not_false_eq_true,false_implies,true_implies,and_true,true_and,false_and,true_or];exact⟨u4,⟨d,ia,ic,uf,um,ui,ms,is⟩,k1,false,rfl,rfl,⟨rfl,rfl,rfl,rfl,rfl,rfl,aq _,aq _,aq _⟩,aV,.inr ⟨rfl,hK0.symm⟩⟩
end
theorem yC {R' :SV->Hp->Mem->Prop} {H' :Hp} {m' :Mem} {cs:List SV} {k u:Nat} {x y:Value} {b:Vc} (i:Nat) (hi:cs[i]? =some (.vec k u)) (hb:cN H'.vc k u=some b) (H2:Hp) (s1:H2.bx.Sublist H'.bx) (s2:H2.vc.Sublist H'.vc)
  (h:∀(a:Option Addr) (c:Nat) (m1:Mem),m'.le m1->b.n<=c->aK m1 a b.n b.sz b.xs->R' (.tup [.agg (cs.set i (.v (.slice a b.n c))),.v x,.v y]) H2 m1):zB R' (.tup [.agg cs,.v x,.v y]) H' m' :=by
 refine .inr ⟨fun z=> .tup [.agg (cs.set i z),.v x,.v y],k,u,b,H2,hb,?_,fun V v e=> ?_,s1,s2,h⟩
 ·obtain⟨hl,he⟩:=List.getElem?_eq_some_iff.1 hi;simp only[<- he,List.set_getElem_self]
 ·show Value.tuple ⟨[.agg ⟨(cs.set i (.vec k u)).map (bj V)⟩,x,y]⟩= .tuple ⟨[.agg ⟨(cs.set i (.v v)).map (bj V)⟩,x,y]⟩;rw[DG hi e]
@[reducible] def rB (y:DSt):Bx:=⟨1,59,[.v (.int .i64 y.d.fl),.v (.string (bs y.d.name)),.v (.string (bs y.d.super)),.v (.slice y.ia y.d.ifs.length y.ic),.vec 2 y.uf,.vec 3 y.um,.vec 4 y.ui]⟩
@[reducible] def rF (y:DSt):Vc:=⟨2,y.uf,94,5,y.d.fields.length,flat Fc.cs y.d.fields⟩
@[reducible] def rM (y:DSt):Vc:=⟨3,y.um,98,8,y.d.methods.length,y.ms⟩
@[reducible] def rI (y:DSt):Vc:=⟨4,y.ui,73,23,y.d.init.length,y.is⟩
attribute [go_sem] rB rF rM rI
section
variable {ts:List Tk}
abbrev aa9 (ts:List Tk) (K:PR Cd) (m:Mem):SV->Hp->Mem->Prop:=fun r H' m' =>an m m' /\H' =⟨[],[]⟩/\∃(x:Cc) (k:Nat) (b:Bool),r= .tup [.agg x.svs,.v (.int .i64 k),.v (.bool b)]/\k<=ts.length/\
 ((b=true/\∃d,K= .ok (d,ts.drop k)/\jW m' d x.cs)\/(b=false/\K= .error (ts.drop k)))
theorem U1 (hT:TsR ts) {i:Nat} (hi:i<=ts.length) (a:Option Addr) (c:Nat) (m:Mem) (hr:aK m a ts.length 4 (cG ts)):FnH Tryz.prog 28 [.v (.slice a ts.length c),.v (.int .i64 i)] ⟨[],[]⟩ m (aa9 ts (wo (ts.drop i)) m):=by
 have hl:=hT.few;have hb:=U0 hT hi a c m hr;generalize hK0:wo (ts.drop i)=K0
 unfold wo at hK0;refine iA (iA (iA (enter (Ix ts) (tZ hT) Tryz.func28 rfl rfl (by kernel_rfl) rfl ?_ ?_)))
 ·simp only[go_sem]
 ·simp only[go_sem,hr];refine ab (hb.mono ?_);clear hb;rintro r H' m1 aN ⟨l1,rfl,fl,nm,sup,ia,n,ic,k,b,rfl,hk,⟨rfl,is,hK,rfl,hic,hir,ax⟩ |⟨rfl,hK⟩⟩
  ·rw[bz hK] at hK0;simp only[go_sem];refine yy 1 4 _ 94 5 (by decide) rfl rfl ?_;refine yy 1 5 _ 98 8 (by decide) rfl rfl ?_;refine yy 1 6 _ 73 23 (by decide) rfl rfl ?_;refine cO (tZ hT) (fun y:Nat×Bool×DSt×Mem=>⟨[⟨0,[],.v (.slice a ts.length c)⟩,⟨1,[],.v (.int .i64 y.1)⟩,⟨4,[],.box 0 0⟩,⟨7,[],.box 1 0⟩,⟨8,[],.v (.bool y.2.1)⟩],[],[rB y.2.2.1,ur 0],[rF y.2.2.1,rM y.2.2.1,rI y.2.2.1],40,y.2.2.2⟩)
    (fun y=>an m1 y.2.2.2/\y.1<=ts.length/\Same ⟨⟨fl,nm,sup,is,[],[],[]⟩,ia,ic,0,0,0,[],[]⟩ y.2.2.1/\(y.2.1=true->DOk y.2.2.2 y.2.2.1 y.1/\yW y.2.2.1.d (ts.drop y.1)=K0)/\(y.2.1=false->K0= .error (ts.drop y.1)))
    (fun y=>if y.2.1=true then ts.length - y.1+1 else 0) (k,true,⟨⟨fl,nm,sup,is,[],[],[]⟩,ia,ic,0,0,0,[],[]⟩,m1) (fun _ _=>dL rfl) (fun y hy=>hy.1) ?_ ?_ ?_
   ·simp only[go_sem];exact rfl
   ·exact⟨.inl rfl,hk,⟨rfl,rfl,rfl,rfl,rfl,rfl,aq _,aq _,aq _⟩,fun _=>⟨⟨rfl,trivial,rfl,dN _ _,fun f hf=>(by cases hf),au _,au _,au _⟩,hK0⟩,fun h=>by cases h⟩
   ·rintro⟨k4,_ |_,y,m4⟩ ⟨p1,p2,p3,p4,p5⟩
    ·dsimp only at p1 p2 p3 p4 p5;have e:=p5 rfl;simp only[go_sem,not_true_eq_false,not_false_eq_true,false_implies,true_implies,and_true,true_and,false_and];refine yC 4 rfl (b:=rF y) (by simp [cN]) ⟨[],[rM y,rI y]⟩ (List.nil_sublist _) (.cons _ (List.Sublist.refl _)) fun a1 c1 w1 x1 x2 x3=> ?_
     refine yC 5 rfl (b:=rM y) (by simp [cN]) ⟨[],[rI y]⟩ (List.Sublist.refl _) (.cons _ (List.Sublist.refl _)) fun a2 c2 w2 x4 x5 x6=> ?_
     refine yC 6 rfl (b:=rI y) (by simp [cN]) ⟨[],[]⟩ (List.Sublist.refl _) (.cons _ (List.Sublist.refl _)) fun a3 c3 w3 x7 x8 x9=> ?_
     have hw:an m4 w3:=aa (.inr x1) (aa (.inr x4) (.inr x7));exact⟨aa l1 (aa p1 hw),rfl,⟨y.d.fl,y.d.name,y.d.super,y.ia,y.d.ifs.length,y.ic,a1,y.d.fields.length,c1,a2,y.d.methods.length,c2,a3,y.d.init.length,c3⟩,k4,false,rfl,p2,.inr ⟨rfl,e⟩⟩
    ·dsimp only at p1 p2 p3 p4 p5;have p6:=(p4 rfl).1;have p7:=(p4 rfl).2;have IZ:=aD (aa l1 p1) hr;have bq:k4<=100000:=by omega
     have fk:=p6.fn;have I4:=p6.mn;have fJ:=p6.inn;clear p4 p5;by_cases h1:ah ts k4 [125]=true
     ·rw[Di,eI h1,List.tail_drop] at p7;simp only[go_sem,IZ,bq,h1,not_true_eq_false,not_false_eq_true,false_implies,true_implies,and_true,true_and,false_and];refine yC 4 rfl (b:=rF y) (by simp [cN]) ⟨[],[rM y,rI y]⟩ (List.nil_sublist _) (.cons _ (List.Sublist.refl _)) fun a1 c1 w1 x1 x2 x3=> ?_
      refine yC 5 rfl (b:=rM y) (by simp [cN]) ⟨[],[rI y]⟩ (List.Sublist.refl _) (.cons _ (List.Sublist.refl _)) fun a2 c2 w2 x4 x5 x6=> ?_
      refine yC 6 rfl (b:=rI y) (by simp [cN]) ⟨[],[]⟩ (List.Sublist.refl _) (.cons _ (List.Sublist.refl _)) fun a3 c3 w3 x7 x8 x9=> ?_
      have hw:an m4 w3:=aa (.inr x1) (aa (.inr x4) (.inr x7));have hy:=p6.up hw (aq _);have kp:an m1 w3:=aa p1 hw;have xP:CdOk y.d:=⟨by rw[p3.fl];exact ax.1,by rw[p3.name];exact ax.2,by rw[p3.super];exact ax.3,by rw[p3.ifs];exact ax.4,by rw[p3.ifs];exact ax.5,by unfold aA;omega,hy.fs,by unfold aA;omega,by unfold aA;omega⟩;exact⟨aa l1 kp,rfl,⟨y.d.fl,y.d.name,y.d.super,y.ia,y.d.ifs.length,y.ic,a1,y.d.fields.length,c1,a2,y.d.methods.length,c2,a3,y.d.init.length,c3⟩,k4+1,true,rfl,aJ h1,.inl ⟨rfl,y.d,p7.symm,_,⟨rfl,rfl,rfl,rfl⟩,⟨rfl,by rw[p3.ifs,p3.ic];exact hic,rfl,x2,rfl,x5,rfl,x8⟩,xP,by rw[p3.ia,p3.ifs];exact aD kp hir,aD (aa (.inr x4) (.inr x7)) x3,_,_,aD (.inr x7) x6,hy.msr,x9,hy.isr⟩⟩
     ·have h1:=bK h1;rw[Di,aT h1] at p7;have hb:=fun m' h h' =>UY hT p2 y a c m' h h'
      simp only[go_sem,IZ,bq,h1,not_true_eq_false,not_false_eq_true,false_implies,true_implies,and_true,true_and,false_and];refine ab ((hb m4 IZ p6).mono ?_);clear hb;rintro r H' m6 fb ⟨l6,y6,k6,b6,rfl,rfl,jr,EG,hb⟩;simp only[go_sem];refine⟨⟨jr.uf,jr.um,jr.ui⟩,(k6,b6,y6,m6),⟨⟨rfl,rfl⟩,⟨rfl,rfl,rfl,rfl,rfl,rfl,rfl⟩,⟨⟨rfl,rfl,rfl⟩,⟨rfl,rfl,rfl⟩,rfl,rfl,rfl⟩,.inl rfl⟩,⟨aa p1 l6,EG,⟨jr.ia.trans p3.ia,jr.ic.trans p3.ic,jr.fl.trans p3.fl,jr.name.trans p3.name,jr.super.trans p3.super,jr.ifs.trans p3.ifs,au _,au _,au _⟩,fun QB=> ?_,fun hF=> ?_⟩,?_⟩
      ·rcases hb with ⟨_,hok6,hK6⟩ |⟨hf,_⟩
       ·exact⟨hok6,by rw[<- p7,bz hK6]⟩
       ·rw[hf] at QB;cases QB
      ·rcases hb with ⟨ht,_⟩ |⟨_,hK6⟩
       ·rw[ht] at hF;cases hF
       ·rw[<- p7,cV hK6]
      ·dsimp only;rcases hb with ⟨ht,_,hK6⟩ |⟨hf,_⟩
       ·have:=nH _ _ _ _ hK6;rw[cH,cH] at this;rw[ht,aj rfl];omega
       ·rw[hf,ae (by decide)];omega
  ·rw[cV hK] at hK0;simp only[go_sem];refine cO (tZ hT) (fun _:Unit=>⟨[⟨0,[],.v (.slice a ts.length c)⟩,⟨1,[],.v (.int .i64 k)⟩,⟨4,[],.box 0 0⟩,⟨7,[],.box 1 0⟩,⟨8,[],.v (.bool false)⟩],[],[⟨1,59,[.v (.int .i64 fl),.v (.string (bs nm)),.v (.string (bs sup)),.v (.slice ia n ic),.v (.slice none 0 0),.v (.slice none 0 0),.v (.slice none 0 0)]⟩,ur 0],[],40,m1⟩)
    (fun _=>True) (fun _=>0) () (fun _ _=>dL rfl) (fun y hy=> .inl rfl) ?_ ?_ ?_
   ·simp only[go_sem]
   ·trivial
   ·rintro _ _;simp only[go_sem,not_true_eq_false,not_false_eq_true,false_implies,true_implies,and_true,true_and,false_and];exact .inl (.inl (.inl ⟨l1,rfl,⟨fl,nm,sup,ia,n,ic,none,0,0,none,0,0,none,0,0⟩,k,false,rfl,hk,.inr ⟨rfl,hK0.symm⟩⟩))
end
theorem Sf (t:List UInt8) (m:Mem) (ht:t.length<=4611686018427387904):FnH Tryz.prog 11 [.v (.string (bs t))] ⟨[],[]⟩ m (PU (lX t) m):=by
 have hk:=Q6 t m ht;have hT:=Wy t;have hl:=uS t;by_cases h0:(aP t).2.2=0
 ·have h1:=Yn hk h0
  have e0:lX t=(match lA [] (aP t).1 with
   | .error r=>([],pw t.length r,71)
   | .ok x=>if(gg [] x.1).2=0 then(x.1,0,0) else([],0,(gg [] x.1).2)):=aj h0
  refine iA (aL ay Tryz.func11 ?_)
  ·simp only[go_sem];refine ab (h1.mono ?_);clear h1;rintro r H' m1 aN ⟨l1,rfl,rfl⟩;simp only[go_sem,not_true_eq_false];refine pO 8 59 7 (by decide) rfl ?_;refine cO ay (fun y:Nat×List Cd×List Value×Nat×Mem=>⟨[⟨0,[],.v (.string (bs t))⟩,⟨5,[],.vec 0 0⟩,⟨8,[],.vec 1 y.2.2.2.1⟩,⟨9,[],.v (.int .i64 y.1)⟩],[],[],[⟨1,y.2.2.2.1,59,7,y.2.1.length,y.2.2.1⟩,Eo (aP t).1],40,y.2.2.2.2⟩)
    (fun y=>an m1 y.2.2.2.2/\y.1<=(aP t).1.length/\y.2.1.length<=y.1/\y.2.2.1.length=y.2.1.length * 7/\mZ (jW y.2.2.2.2) 7 y.2.1 y.2.2.1/\lA y.2.1 ((aP t).1.drop y.1)=lA [] (aP t).1)
    (fun y=>(aP t).1.length - y.1) (0,[],[],0,m1) (fun _ _=>dL rfl) (fun y hy=>hy.1) ?_ ?_ ?_
   ·simp only[go_sem];exact rfl
   ·exact⟨.inl rfl,au _,au _,rfl,trivial,rfl⟩
   ·rintro⟨i,ds,xs,u,m4⟩ ⟨q1,q2,q3,q4,q5,q6⟩;dsimp only at q1 q2 q3 q4 q5 q6;by_cases hi:i<(aP t).1.length
    ·have ls:((i:Int)<(aP t).1.length)=True:=eq_true (by omega);have hS:=fun a c m' hr=>U1 hT q2 a c m' hr
     have hO:=fun k (hk:k<=(aP t).1.length) a c m' hr=>Ts hT t hk a c m' ht hr
     simp only[go_sem,ls,not_true_eq_false,not_false_eq_true,false_implies,true_implies,and_true,true_and];refine⟨by kernel_rfl,fun a c m5 w1 w2 w3=>dh ((hS a c m5 w3).mono ?_)⟩;clear hS;rintro r H' m6 fb ⟨l6,rfl,x6,k6,b6,rfl,bq,⟨rfl,d6,hK6,hd6⟩ |⟨rfl,hK6⟩⟩
     ·have ao:i<k6:=by
       have:=Pj _ _ _ hK6;rw[cH,cH] at this;omega
      have u6:an m4 m6:=aa (.inr w1) l6;simp only[go_sem];refine⟨fK (by omega) (by decide),(k6,ds++[d6],xs++x6.cs,u+1,m6),⟨⟨rfl,rfl⟩,⟨rfl,by simp,rfl⟩,.inl rfl⟩,⟨aa q1 u6,bq,?_,by simp only[bM,fr,q4,Cc.cs,cv,eM];omega,DY (l2:=[d6]) (MO hd6) q4 (ra (fun _ _=>nM u6) q5),?_⟩,?_⟩
      ·dsimp only;rw[bM,fr];omega
      ·dsimp only;rw[<- q6,Aw ds,ae (fun h=>by have:=congrArg List.length h;rw[cH] at this;simp at this;omega),bz hK6]
      ·dsimp only;omega
     ·have e:lX t=([],pw t.length ((aP t).1.drop k6),71):=by
       rw[e0,<- q6,Aw,ae (fun h=>by have:=congrArg List.length h;rw[cH] at this;simp at this;omega),cV hK6]
      simp only[go_sem];refine⟨by kernel_rfl,fun a2 c2 m7 x1 x2 x3=>dh ((hO k6 bq a2 c2 m7 x3).mono ?_)⟩;clear hO;rintro r H' m8 ku ⟨rfl,rfl,rfl⟩;simp only[go_sem];rw[e];exact .inl ⟨aa l1 (aa q1 (aa (.inr w1) (aa l6 (.inr x1)))),none,0,0,rfl,yv _,rfl⟩
    ·have lP:(aP t).1.drop i=[]:=List.drop_eq_nil_of_le (by omega);have ls:((i:Int)<(aP t).1.length)=False:=eq_false (by omega);have hK:lA [] (aP t).1= .ok (ds,[]):=by rw[<- q6,lP,Aw,aj rfl]
     have j9:(ds.map fG).sum<=1048576:=by
      have:=L5 (aP t).1 ds [] hK;dsimp only at *;omega
     rw[hK] at e0;have sN:ds.length<=aA:=by unfold aA;omega
     simp only[go_sem,ls,not_true_eq_false,not_false_eq_true,false_implies,true_implies,and_true,true_and];refine⟨by kernel_rfl,fun a c m6 w1 w2 w3=>dh ?_⟩;have bh:qW m6 ds a ds.length c:=⟨rfl,w2,sN,xs,w3,ra (fun _ _=>nM (.inr w1)) q5⟩;have hc:=RF ds a ds.length c m6 j9 bh;refine hc.mono ?_;clear hc;rintro r H' m7 gM ⟨l7,rfl,rfl⟩;simp only[go_sem];refine⟨fun aV=> ?_,fun aV=> ?_⟩
     ·have e:lX t=([],0,(gg [] ds).2):=by rw[e0];exact ae aV
      rw[e];exact .inl ⟨aa l1 (aa q1 (aa (.inr w1) l7)),none,0,0,rfl,yv _,rfl⟩
     ·have e:lX t=(ds,0,0):=by rw[e0];exact aj aV
      rw[e];exact wH (b:=⟨1,u,59,7,ds.length,xs⟩) (by simp [cN]) fun a8 c8 m8 x1 x2 x3=>⟨aa l1 (aa q1 (aa (.inr w1) (aa l7 (.inr x1)))),a8,ds.length,c8,rfl,⟨rfl,x2,sN,xs,x3,ra (fun _ _=>nM (aa (.inr w1) (aa l7 (.inr x1)))) q5⟩,rfl⟩
 ·have h1:=Yp hk h0;have e0:lX t=([],(aP t).2.1,(aP t).2.2):=ae h0;rw[e0];refine aL ay Tryz.func11 ?_
  ·simp only[go_sem];refine ab (h1.mono ?_);clear h1;rintro r H' m1 aN ⟨l1,rfl,rfl⟩;simp only[go_sem];refine⟨fun _=>⟨l1,none,0,0,rfl,yv _,rfl⟩,fun h=>absurd h h0⟩
theorem SI (t:List UInt8) (m:Mem) (hg:GlobX m) (ht:t.length<=4611686018427387904):FnH Tryz.prog 3 [.v (.string (bs t))] ⟨[],[]⟩ m fun r H' m' =>an m m' /\r= .v (.bool true)/\H' =⟨[],[]⟩:=by
 have hw:=fun m' (h:an m m')=>R2 m' (hg.upM h)
 have k1:=K3 t m hg ht;have k2:=fun m' =>Sf t m' ht
 refine aL ay Tryz.func3 ?_
 ·simp only[go_sem];refine⟨fun h4=>ab ((hw m (.inl rfl)).mono ?_),fun h4=> ?_⟩
  ·clear hw k1 k2;rintro r H' m1 aN ⟨l1,rfl,rfl⟩;simp only[go_sem];exact l1
  ·refine ab (k1.mono ?_);clear k1;rintro r H' m1 aN ⟨u1,a1,n1,c1,rfl,r1,rfl⟩;simp only[go_sem];refine ab ((k2 m1).mono ?_);clear k2;rintro r H' m2 aH ⟨l2,a2,n2,c2,rfl,r2,rfl⟩;have u2:=aa u1 l2;have kE:=RG (lX t).1 (lX t).1 a1 n1 c1 a2 n2 c2 m2 (Vr l2 r1) r2;rw[Ar VX] at kE;simp only[go_sem];refine ab (kE.mono ?_);clear kE;rintro r H' m3 bN ⟨l3,rfl,rfl⟩;have u3:=aa u2 l3;simp only[go_sem,not_true_eq_false,or_self,or_false,false_or,false_implies,true_implies,and_true,true_and,and_self];refine ab ((hw m3 u3).mono ?_);clear hw;rintro r H' m4 dd ⟨l4,rfl,rfl⟩;simp only[go_sem];exact aa u3 l4
end Go.Proofs.YtimddhkipjedcaaGreatDoor.E

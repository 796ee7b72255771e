/- Several texts in one. -/
import Derived.Test.YtmdokbohofchgaaGreatDoorMrg4
set_option linter.unusedSimpArgs false
set_option linter.unusedVariables false
set_option maxHeartbeats 4000000
set_option maxRecDepth 20000
namespace Go.Proofs.YtmdokbohofchgaaGreatDoor.E
open Go
theorem PR {P:Program} {f:FuncId} {uG vj:List SV} {m:Mem} {R:SV->Hp->Mem->Prop} {el:TypeId} {sz:Nat} (fe:0<sz) (ha:∀s∈uG++vj,∃x,s= .v x)
  (h:FnH P f (uG++ .vec 0 0::vj) ⟨[],[⟨0,0,el,sz,0,[]⟩]⟩ m R):FnH P f (uG++ .v (.slice none 0 0)::vj) ⟨[],[]⟩ m R:=by
 intro V w D eg hle hH;have h1:HSat ⟨V.β,fun _ _=>⟨none,0,0⟩⟩ D w ⟨[],[⟨0,0,el,sz,0,[]⟩]⟩:=by
  refine⟨fun b hb=>(by cases hb),fun b hb=> ?_,?_,by simp⟩
  ·rw[List.mem_singleton.1 hb];exact⟨World.ownsRow_nil w 0 el sz,fun g hg=>(by cases hg),fe,fun u hu=>(by cases hu)⟩
  ·simp [aE,Hd.blk]
 have e:∀l:List SV,(∀s∈l,∃x,s= .v x)->l.map (den V)=l.map (den ⟨V.β,fun _ _=>⟨none,0,0⟩⟩):=fun l hl=>List.map_congr_left fun s hs=>by
  obtain⟨x,rfl⟩:=hl s hs;rfl
 have lP:(uG++ .v (.slice none 0 0)::vj).map (den V)=(uG++ .vec 0 0::vj).map (den ⟨V.β,fun _ _=>⟨none,0,0⟩⟩):=by
  rw[List.map_append,List.map_append,aG,aG,e uG fun s hs=>ha s (List.mem_append.2 (.inl hs)),e vj fun s hs=>ha s (List.mem_append.2 (.inr hs))];rfl
 rw[lP];refine(h _ w D eg hle h1).mono ?_;rintro e w' ⟨r,V',D',H',m',e1,e2,e3,e4,e5,e6,e7,e8,e9,cn,cu⟩;have hF:∀b,b∈aE ⟨V.β,fun _ _=>⟨none,0,0⟩⟩ ⟨[],[⟨0,0,el,sz,0,[]⟩]⟩->False:=fun b hb=>by simp [aE,Hd.blk] at hb
 refine⟨r,V',D',H',m',e1,e2,e3,fun b hb=>(by cases hb),fun b hb=>(by cases hb),⟨e6.os,e6.tape,e6.output,e6.size,fun x hx hn=>e6.same x hx fun bg=>hF x bg⟩,fun x hx=>(e7 x hx).imp (fun bg=>(hF x bg).elim) id,e8,e9,cn,cu⟩
abbrev F1:Cfg:=eZ (fun f=>f==160) []
theorem zj:cw F1 Tryz.prog:=pure_nil
theorem O6 {E:List Cd} {f:Nat} {out:List Nm} {s:Nm} (h:cls E s=none):dx E f out s=out:=by unfold dx;rw[h]
theorem O5 {E:List Cd} {f:Nat} {out:List Nm} {s:Nm} {d:Cd} (h:cls E s=some d) (hc:out.contains s=true):dx E f out s=out:=by unfold dx;rw[h];exact ak hc
theorem Qg {E:List Cd} {f:Nat} {out:List Nm} {s:Nm} {d:Cd} (h:cls E s=some d) (hc:out.contains s=false):dx E f out s=eC E f (out++[s]) d.ifs:=by unfold dx;rw[h];exact ae (by rw[hc];decide)
section
variable {ad:Addr} {pr E:List Cd} {b:Nat} {a:Option Addr} {c:Nat} {L:List Cc}
theorem DH:∀(f u:Nat) (out l:List Nm) (la:Option Addr) (lc:Nat) (m:Mem),Ck m ad pr E b a c L->Vis E out->E.length<out.length+f->aw m la l.length 1 (strs l)->l.length<=ay->
  FnH Tryz.prog 160 [.v (.pointer (some ad)),.vec 0 u,.v (.slice la l.length lc)] ⟨[],[⟨0,u,9,1,out.length,strs out⟩]⟩ m
   fun r H' m' =>af m m' /\∃u',u<=u' /\r= .vec 0 u' /\H' =⟨[],[⟨0,u',9,1,(eC E f out l).length,strs (eC E f out l)⟩]⟩
 |0,u,out,l,la,lc,m,hC,hv,hf,hr,hl=>by have:=hv.len;omega
 |f+1,u,out,l,la,lc,m,hC,hv,hf,hr,hl=>by
  have ih:=DH f;have hK:l.foldl (dx E f) out=eC E (f+1) out l:=(pW E f out l).symm;revert hK;generalize eC E (f+1) out l=K
  intro hK;refine enter F1 zj Tryz.func160 rfl rfl (by kernel_rfl) rfl ?_ ?_
  ·clear ih;simp only[go_sem]
  ·simp only[go_sem];refine cq zj (fun x:Nat×Nat×List Nm×Mem=>⟨[⟨13,[],.v (.int .i64 x.1)⟩,⟨12,[],.v (.int .i64 l.length)⟩,⟨11,[],.v (.slice la l.length lc)⟩,⟨6,[],.v (.slice none 0 0)⟩,⟨1,[],.vec 0 x.2.1⟩,⟨0,[],.v (.pointer (some ad))⟩],[],[],[⟨0,x.2.1,9,1,x.2.2.1.length,strs x.2.2.1⟩],1,x.2.2.2⟩)
    (fun x=>af m x.2.2.2/\x.1<=l.length/\u<=x.2.1/\Vis E x.2.2.1/\out.length<=x.2.2.1.length/\(l.drop x.1).foldl (dx E f) x.2.2.1=K) (fun x=>l.length - x.1) (0,u,out,m) (by kernel_rfl) (fun _ _=>aZ rfl) (fun x hx=>hx.1) (fun _=> ?_) ?_ ⟨.inl rfl,aF _,aC _,hv,aC _,hK⟩ ?_
   ·clear ih;simp only[go_sem]
   ·clear ih;simp only[go_sem];rfl
   ·rintro⟨j,v,o2,mm⟩ ⟨i1,i2,i3,i4,i5,i6⟩;dsimp only at i1 i2 i3 i4 i5 i6;have hC:=hC.up i1;have hw:=hC.fw;have uV:=i4.len;by_cases aj:j<l.length
    ·have hc:((j:Int)<(l.length:Int))=True:=eq_true (by clear ih;omega);rw[List.drop_eq_getElem_cons aj,List.foldl_cons] at i6;have rp:=aN i1 hr;have aI:=js rp aj;have au:= @iL _ _ _ _ rp _ aj (.string (bs l[j])) (by unfold strs;rw[List.getElem?_map,List.getElem?_eq_getElem aj];rfl);cases hq:cls E l[j] with
     |none=>
      rw[O6 hq] at i6;have dK:=hC.none hq;clear ih;simp only[go_sem,hc,aI,au,cj (j:=0) hC.rd rfl,cj (j:=1) hC.rd rfl,fK hC.rm,iV,Option.map_none,Option.map_some,cv,forall_eq',false_implies,and_true,true_and,fh,dK];exact⟨by unfold az;unfold ay at hl;omega,(j+1,v,o2,mm),⟨⟨by omega,rfl⟩,⟨rfl,rfl,rfl⟩,.inl rfl⟩,⟨i1,aj,i3,i4,i5,i6⟩,by omega⟩
     |some d=>
      refine Exists.elim (hC.some hq) fun X hX=> ?_
      have dK:=hX.1;simp only[go_sem,hc,aI,au,cj (j:=0) hC.rd rfl,cj (j:=1) hC.rd rfl,fK hC.rm,iV,Option.map_none,Option.map_some,cv,forall_eq',false_implies,and_true,true_and,fh,dK,Cc.cs];refine⟨by kernel_rfl,fun a1 c1 m1 h1 h2 h3=>bD ((vn o2 l[j] a1 o2.length c1 m1 h3 (by clear ih;omega)).mono ?_)⟩;rintro r H' m2 aK ⟨rfl,rfl⟩;have hle:=aa i1 (aa (.inr h1) (.inr aK));by_cases bg:o2.contains l[j]=true
      ·rw[O5 hq bg] at i6;clear ih;simp only[go_sem,bg];exact⟨by unfold az;unfold ay at hl;omega,(j+1,v,o2,m2),⟨⟨by omega,rfl⟩,⟨rfl,rfl,rfl⟩,.inl rfl⟩,⟨hle,aj,i3,i4,i5,i6⟩,by omega⟩
      ·have bg:=(Bool.not_eq_true _).mp bg;rw[Qg hq bg] at i6;simp only[go_sem,bg];have Nv:=i4.snoc (by rw[hq];rfl) bg;have s7:=ih (v+1) (o2++[l[j]]) d.ifs X.ia X.ic m2 (hC.up (aa (.inr h1) (.inr aK))) Nv (by rw[bc,nJ];clear ih;omega) (by rw[<- hX.2.il];exact aN (aa (.inr h1) (.inr aK)) hX.2.ifs) hX.2.ok.il;rw[AR,<- hX.2.il,bc,nJ] at s7;clear ih;have NB:E.length<(eC E f (o2++[l[j]]) d.ifs).length+(f+1):=by
        have:=(rJ (E:=E) (f:=f) (out:=o2++[l[j]]) (l:=d.ifs)).length_le;rw[bc,nJ] at this;clear s7;omega
       have jL:out.length<=(eC E f (o2++[l[j]]) d.ifs).length:=by
        have:=(rJ (E:=E) (f:=f) (out:=o2++[l[j]]) (l:=d.ifs)).length_le;rw[bc,nJ] at this;clear s7;omega
       have Gl:=xN (f:=f) (l:=d.ifs) Nv;revert s7 NB jL Gl i6;generalize eC E f (o2++[l[j]]) d.ifs=o3
       intro i6 s7 NB jL Gl;refine bZ (.hoist 0 (.hoist 1 (.hoist 2 (.hoist 5 (.hoist 6 (.alt 3 [6,5,1,0] (.alt 4 [6,5,0] (.alt 7 [] (.hoist 8 .done) .stop) .stop) .stop)))))) zj (by kernel_rfl) (by kernel_rfl) ?_;simp only[go_sem];refine⟨jz (by clear s7;omega) (by decide),by kernel_rfl,bD (s7.mono ?_)⟩;clear s7;rintro r H' m3 cA ⟨l3,u',hu,rfl,rfl⟩;simp only[go_sem];exact⟨hu,by unfold az;unfold ay at hl;omega,(j+1,u',o3,m3),⟨⟨by omega,rfl⟩,⟨rfl,rfl,rfl⟩,.inl rfl⟩,⟨aa hle l3,aj,cQ i3 (Nat.le_of_succ_le hu),Gl,jL,i6⟩,by omega⟩
    ·have hc:((j:Int)<(l.length:Int))=False:=eq_false (by clear ih;omega);rw[List.drop_of_length_le (by clear ih;omega)] at i6;clear ih;simp only[go_sem,hc];rw[<- i6];exact⟨i1,v,i3,rfl,rfl⟩
theorem Qf (l:List Nm) (la:Option Addr) (lc:Nat) (m:Mem) (hC:Ck m ad pr E b a c L) (hr:aw m la l.length 1 (strs l)) (hl:l.length<=ay):
  FnH Tryz.prog 160 [.v (.pointer (some ad)),.v (.slice none 0 0),.v (.slice la l.length lc)] ⟨[],[]⟩ m
   fun r H' m' =>af m m' /\H' =⟨[],[]⟩/\∃a c,r= .v (.slice a (eQ E [] l).length c)/\(eQ E [] l).length<=c/\aw m' a (eQ E [] l).length 1 (strs (eQ E [] l)):=by
 have h:=PR (uG:=[.v (.pointer (some ad))]) (vj:=[.v (.slice la l.length lc)]) (el:=9) (sz:=1) (by decide) (fun s hs=>by simp only[List.mem_append,List.mem_singleton] at hs;rcases hs with rfl |rfl<;>exact⟨_,rfl⟩) (DH (E.length+1) 0 [] l la lc m hC (Vis.nil E) (by simp) hr hl);refine nQ (h.mono ?_);rintro r H' m' hm ⟨l1,u,hu,rfl,rfl⟩;exact yo (b:=⟨0,u,9,1,(eQ E [] l).length,strs (eQ E [] l)⟩) (by simp [cz,eQ]) ⟨[],[]⟩ (List.Sublist.refl _) (List.nil_sublist _) fun a c m1 h1 h2 h3=>⟨aa l1 (.inr h1),rfl,a,c,rfl,h2,h3⟩
def Fq (E:List Cd) (out:List Nm) (c:Nm):List Nm:=eQ E out (bI E c).ifs
theorem Pw (s:Nm) (m:Mem) (hC:Ck m ad pr E b a c L):FnH Tryz.prog 90 [.v (.pointer (some ad)),.v (.string (bs s))] ⟨[],[]⟩ m
  fun r H' m' =>af m m' /\∃u,r= .vec 0 u/\H' =⟨[],[⟨0,u,9,1,(bR E s).length,strs (bR E s)⟩]⟩:=by
 have hK:(aT E s).foldl (Fq E) []=bR E s:=rfl;have hS:=pV s m hC;have Gp:=kv E s;revert hK hS Gp;generalize bR E s=K
 generalize aT E s=sl
 intro hK hS Gp;refine enter F1 zj Tryz.func90 rfl rfl (by kernel_rfl) rfl ?_ ?_
 ·clear hS;simp only[go_sem]
 ·simp only[go_sem];refine ai (hS.mono ?_);clear hS;rintro r H' m1 aR ⟨l1,rfl,sa,sc,rfl,h1,h2⟩;simp only[go_sem];refine yk 5 9 1 (by decide) rfl ?_;simp only[go_sem];refine cq zj (fun x:Nat×Nat×List Nm×Mem=>⟨[⟨12,[],.v (.int .i64 x.1)⟩,⟨11,[],.v (.int .i64 sl.length)⟩,⟨10,[],.v (.slice sa sl.length sc)⟩,⟨4,[],.v (.slice none 0 0)⟩,⟨5,[],.vec 0 x.2.1⟩,⟨0,[],.v (.pointer (some ad))⟩],[],[],[⟨0,x.2.1,9,1,x.2.2.1.length,strs x.2.2.1⟩],1,x.2.2.2⟩)
   (fun x=>af m1 x.2.2.2/\x.1<=sl.length/\Vis E x.2.2.1/\(sl.drop x.1).foldl (Fq E) x.2.2.1=K) (fun x=>sl.length - x.1) (0,0,[],m1) (by kernel_rfl) (fun _ _=>aZ rfl) (fun x hx=>hx.1) (fun _=> ?_) ?_ ⟨.inl rfl,aF _,Vis.nil E,hK⟩ ?_
  ·simp only[go_sem]
  ·simp only[go_sem];exact⟨rfl,rfl⟩
  ·rintro⟨j,v,o2,mm⟩ ⟨i1,i2,i4,i6⟩;dsimp only at i1 i2 i4 i6;have hC:=hC.up (aa l1 i1);have hw:=hC.fw;have uV:=i4.len;have eE:=Gp.len;by_cases aj:j<sl.length
   ·have hc:((j:Int)<(sl.length:Int))=True:=eq_true (by omega);rw[List.drop_eq_getElem_cons aj,List.foldl_cons] at i6;have rp:=aN i1 h2;have aI:=js rp aj;have au:= @iL _ _ _ _ rp _ aj (.string (bs sl[j])) (by unfold strs;rw[List.getElem?_map,List.getElem?_eq_getElem aj];rfl);refine Exists.elim (hC.get sl[j]) fun X hX=> ?_
    have aU:=hX.1;have cW:=hX.2.ifs;rw[hX.2.il] at cW;have ih:=DH (E.length+1) v o2 (bI E sl[j]).ifs X.ia X.ic mm hC i4 (by omega) cW hX.2.ok.il;rw[<- hX.2.il] at ih;have jL:=AK (l:=(bI E sl[j]).ifs) i4;have i6:(sl.drop (j+1)).foldl (Fq E) (eC E (E.length+1) o2 (bI E sl[j]).ifs)=K:=i6;have jL:Vis E (eC E (E.length+1) o2 (bI E sl[j]).ifs):=jL;simp only[Cc.cs] at aU;clear hX cW;revert ih i6 jL;generalize eC E (E.length+1) o2 (bI E sl[j]).ifs=o3
    intro ih i6 jL;simp only[go_sem,hc,aI,au,cj (j:=0) hC.rd rfl,cj (j:=1) hC.rd rfl,fK hC.rm,nO,↓ox,fh,Cc.cs,aU];refine ai (ih.mono ?_);clear ih;rintro r H' m3 cA ⟨l3,u',hu,rfl,rfl⟩;simp only[go_sem];exact⟨hu,by unfold az;omega,(j+1,u',o3,m3),⟨⟨by omega,rfl⟩,⟨rfl,rfl,rfl⟩,.inl rfl⟩,⟨aa i1 l3,aj,jL,i6⟩,by omega⟩
   ·have hc:((j:Int)<(sl.length:Int))=False:=eq_false (by omega);rw[List.drop_of_length_le (by omega)] at i6;simp only[go_sem,hc];rw[<- i6];exact⟨aa l1 i1,v,rfl,rfl⟩
theorem vq (s:Nm) (m:Mem) (hC:Ck m ad pr E b a c L):FnH Tryz.prog 90 [.v (.pointer (some ad)),.v (.string (bs s))] ⟨[],[]⟩ m
  fun r H' m' =>af m m' /\H' =⟨[],[]⟩/\∃a c,r= .v (.slice a (bR E s).length c)/\(bR E s).length<=c/\aw m' a (bR E s).length 1 (strs (bR E s)):=by
 refine nQ ((Pw s m hC).mono ?_);rintro r H' m' hm ⟨l,u,rfl,rfl⟩;exact yo (b:=⟨0,u,9,1,(bR E s).length,strs (bR E s)⟩) (by simp [cz]) ⟨[],[]⟩ (List.Sublist.refl _) (List.nil_sublist _) fun a c m1 h1 h2 h3=>⟨aa l (.inr h1),rfl,a,c,rfl,h2,h3⟩
abbrev F0:Cfg:=kZ (fun _=>false) [(98,B8)]
theorem zi:cw F0 Tryz.prog:=fG (by kernel_rfl) Un rK
theorem BJ {m:Mem} {a:Option Addr} {l:List Nm} (h:aw m a l.length 1 (strs l)):(∃l',aw m a l.length 1 (strs l'))=True:=eq_true ⟨l,h⟩
theorem Ow (s t:Nm) (m:Mem) (hC:Ck m ad pr E b a c L):FnH Tryz.prog 87 [.v (.pointer (some ad)),.v (.string (bs s)),.v (.string (bs t))] ⟨[],[]⟩ m fun r H' _=>r= .v (.bool (eX E s t))/\H' =⟨[],[]⟩:=by
 have hw:=hC.fw;have hS:=pV s m hC;have hI:=fun m' (hle:af m m')=>vq s m' (hC.up hle)
 have fr:=(kv E s).len;have jN:=(tE E s).len;have hK:eX E s t=(decide (s=t)||((cls E s).isSome&&(decide (t=aY)||(aT E s).contains t||(bR E s).contains t))):=rfl;revert hK hS hI fr jN;generalize eX E s t=K
 generalize aT E s=sl
 generalize bR E s=il
 intro hS hI fr jN hK;by_cases eM:s=t
 ·rw[aQ eM,Bool.true_or] at hK;clear hS hI;refine br zi Tryz.func87 ?_
  ·simp only[go_sem,eM];rw[hK]
 rw[ab eM,Bool.false_or] at hK;cases hc:cls E s with
 |none=>
  rw[hc] at hK;have hf:=hC.none hc;clear hS hI;refine br zi Tryz.func87 ?_
  ·simp only[go_sem,eM,cj (j:=0) hC.rd rfl,cj (j:=1) hC.rd rfl,fK hC.rm,iV,Option.map_none,Option.map_some,cv,forall_eq',false_implies,and_true,true_and,fh,hf];rw[hK];rfl
 |some d=>
  rw[hc] at hK;obtain⟨X,hX⟩:=hC.some hc;have hf:=hX.1;refine enter F0 zi Tryz.func87 rfl rfl (by kernel_rfl) rfl ?_ ?_
  ·clear hS hI;simp only[go_sem]
  ·simp only[go_sem,eM,cj (j:=0) hC.rd rfl,cj (j:=1) hC.rd rfl,fK hC.rm,iV,Option.map_none,Option.map_some,cv,forall_eq',false_implies,and_true,true_and,fh,hf,Cc.cs];have hK:K=(decide (t=aY)||sl.contains t||il.contains t):=by rw[hK];exact Bool.true_and _
   refine⟨fun ho=>ai (hS.mono ?_),fun ho=>by rw[hK,aQ (show t=aY from ho)];simp⟩;rw[ab (show ¬t=aY from ho),Bool.false_or] at hK;clear hS;rintro r H' m1 aR ⟨l1,rfl,sa,sc,rfl,h1,h2⟩;have jP:=BJ h2;have pK:=yF h2;have kq:(sl.length<=4611686018427387904)=True:=eq_true (by clear hI;omega);by_cases bg:sl.contains t=true
   ·clear hI;simp only[go_sem,jP,pK,kq,bg];rw[hK,bg,Bool.true_or]
   ·have bg:=(Bool.not_eq_true _).mp bg;have hI:=hI m1 l1;simp only[go_sem,jP,pK,kq,bg];refine ai (hI.mono ?_);clear hI;rintro r H' m2 aK ⟨l2,rfl,sa,sc,rfl,g1,g2⟩;have jP:=BJ g2;have pK:=yF g2;have kq:(il.length<=4611686018427387904)=True:=eq_true (by omega);simp only[go_sem,jP,pK,kq];rw[hK,bg,Bool.false_or]
theorem Oi (p:Value) (s t:Nm) (m:Mem) (h:ChkR m p pr E):FnH Tryz.prog 87 [.v p,.v (.string (bs s)),.v (.string (bs t))] ⟨[],[]⟩ m fun r H' _=>r= .v (.bool (eX E s t))/\H' =⟨[],[]⟩:=by
 obtain⟨ad,b,a,c,L,rfl,hC⟩:=h;exact Ow s t m hC
abbrev F3 (pr E:List Cd):Cfg:=kZ (fun _=>false) [(87,wo pr E fun s t=> .bool (eX E s t)),(84,fun _=>wJ fun t=> .bool (eb t)),(85,fun _=>um (.agg ⟨aB fU⟩)),(86,fun _=>zl fun s=> .agg ⟨aB (cG s)⟩)]
theorem B5 (pr E:List Cd):cw (F3 pr E) Tryz.prog:=fG (by kernel_rfl) (Ej fun p s t m h=>Oi p s t m h) (fG (by kernel_rfl) (fun m aO y hy hB=>EN (fun t m=>HT m t) aO y hy hB m)
 (fG (by kernel_rfl) (fun m aO y hy hB=>Bp Ir aO y hy hB m) (fG (by kernel_rfl) (fun m aO y hy hB=>KA (fun s m=>IS m s) aO y hy hB m) rK)))
theorem sD (a b:Ty):(Ty.eq a b=true)↔(a.dim=b.dim/\a.base=b.base/\a.name=b.name):=by
 unfold Ty.eq;simp only[bB,cE]
theorem wg {a b:Ty} (h:¬a.dim=b.dim\/¬a.base=b.base\/¬a.name=b.name):¬Ty.eq a b=true:=fun e=>by
 have:=(sD a b).1 e;rcases h with h |h |h
 ·exact h this.1
 ·exact h this.2.1
 ·exact h this.2.2
theorem yz {a b:Ty} (h:¬Ty.eq a b=true):Ty.eq a b=false:=(Bool.not_eq_true _).mp h
theorem Ls (t u:Ty) (m:Mem) (hC:Ck m ad pr E b a c L):FnH Tryz.prog 42 [.v (.pointer (some ad)),.v (.agg ⟨aB t⟩),.v (.agg ⟨aB u⟩)] ⟨[],[]⟩ m fun r H' _=>r= .v (.bool (cD E t u))/\H' =⟨[],[]⟩:=by
 have aS:=hC.chk;refine enter (F3 pr E) (B5 pr E) Tryz.func42 rfl rfl (by kernel_rfl) rfl ?_ ?_
 ·simp only[go_sem,aB]
 ·simp only[go_sem,aB,aS,dD];refine⟨fun h=> ?_,fun h=> ?_⟩
  ·rw[cD,ak ((sD t u).2 h)]
  ·have e1:=wg h;refine vO (B5 pr E) (by kernel_rfl) (by kernel_rfl) (by kernel_rfl) ?_;simp only[go_sem,aB,aS,dD,fU];refine⟨fun h2=> ?_,fun h2=> ?_⟩
   ·rw[cD,ae e1,ak];rcases h2 with (h2 |h2) |h2
    ·rw[show eb t=false from h2];rfl
    ·rw[show eb u=false from h2];simp
    ·rw[(sD u fU).2 h2];simp
   ·have e2:¬(!eb t|| !eb u||Ty.eq u fU)=true:=by
     rw[show eb t=true from h2.1.1,show eb u=true from h2.1.2,yz (wg (b:=fU) h2.2)];simp
    refine vO (B5 pr E) (by kernel_rfl) (by kernel_rfl) (by kernel_rfl) ?_;simp only[go_sem,aB,aS,dD,fU,cG];rw[cD,ae e1,ae e2];refine⟨fun h3=> ?_,fun h3=> ?_⟩
    ·rw[ak];rcases h3 with h3 |h3
     ·rw[(sD t fU).2 h3];rfl
     ·rw[(sD u (cG aY)).2 h3];simp
    ·have e3:¬(Ty.eq t fU||Ty.eq u (cG aY))=true:=by
      rw[yz (wg (b:=fU) h3.1),yz (wg (b:=cG aY) h3.2)];simp
     rw[ae e3];refine⟨fun h4=> ?_,fun h4=> ?_⟩
     ·rw[ak];rw[h4.1.1.1,h4.1.1.2,h4.1.2,h4.2];simp
     ·rw[ae]
      ·rfl
      ·intro h5;simp only[bB,cE] at h5;rcases h4 with ((h4 |h4) |h4) |h4
       ·exact h4 h5.1.1.1
       ·exact h4 h5.1.1.2
       ·exact h4 h5.1.2
       ·rw[h5.2] at h4;cases h4
theorem Ke (p:Value) (t u:Ty) (m:Mem) (h:ChkR m p pr E):FnH Tryz.prog 42 [.v p,.v (.agg ⟨aB t⟩),.v (.agg ⟨aB u⟩)] ⟨[],[]⟩ m fun r H' _=>r= .v (.bool (cD E t u))/\H' =⟨[],[]⟩:=by
 obtain⟨ad,b,a,c,L,rfl,hC⟩:=h;exact Ls t u m hC
end
def wH:List Value:=[.int .i64 0,.int .i64 0,.int .u8 0,.string (bs []),.string (bs [])]
def qk:Option (Nm×Fc)->Value
 |some (o,f)=> .tuple ⟨[.string (bs o),.agg ⟨f.cs⟩,.bool true]⟩
 |none=> .tuple ⟨[.string (bs []),.agg ⟨wH⟩,.bool false]⟩
def CB {α:Type}:Option α->Option α->Option α
 |some x,_=>some x
 |none,r=>r
theorem K8 {α β:Type} (G:α->Option β) (x:α) (r:List α):(x::r).findSome? G=CB (G x) (r.findSome? G):=by
 rw[List.findSome?_cons];cases G x<;>rfl
def sq (n c:Nm) (l:List Fc):Option (Nm×Fc):=(l.find? fun f=>decide (f.name=n)).map fun f=>(c,f)
theorem QZ {n c:Nm} {f:Fc} {r:List Fc} (h:f.name=n):sq n c (f::r)=some (c,f):=by unfold sq;rw[List.find?_cons,aQ h];rfl
theorem PC {n c:Nm} {f:Fc} {r:List Fc} (h:¬f.name=n):sq n c (f::r)=sq n c r:=by unfold sq;rw[List.find?_cons,ab h]
def yZ (E:List Cd) (n:Nm) (c:Nm):Option (Nm×Fc):=sq n c (bI E c).fields
section
variable {ad:Addr} {pr E:List Cd} {b:Nat} {a:Option Addr} {c:Nat} {L:List Cc}
theorem DR (s n:Nm) (m:Mem) (hC:Ck m ad pr E b a c L):FnH Tryz.prog 43 [.v (.pointer (some ad)),.v (.string (bs s)),.v (.string (bs n))] ⟨[],[]⟩ m fun r H' _=>r= .v (qk (cg E s n))/\H' =⟨[],[]⟩:=by
 refine jT (R:=fun r H' m' =>(match cg E s n with |some (o,f)=>r= .tup [.v (.string (bs o)),.agg (f.cs.map .v),.v (.bool true)] |none=>r= .tup [.v (.string (bs [])),.agg (wH.map .v),.v (.bool false)])/\H' =⟨[],[]⟩) ?_ fun r H' m' _ hr=>⟨.v (qk (cg E s n)),fun V=> ?_,rfl,hr.2⟩
 ·have hS:=pV s m hC;have fr:=(kv E s).len;have hK:(aT E s).findSome? (yZ E n)=cg E s n:=rfl;revert hS fr hK;generalize cg E s n=K
  generalize aT E s=sl
  intro hS fr hK;refine enter bb aq Tryz.func43 rfl rfl (by kernel_rfl) rfl ?_ ?_
  ·clear hS;simp only[go_sem]
  ·simp only[go_sem];refine ai (hS.mono ?_);clear hS;rintro r H' m1 aR ⟨l1,rfl,sa,sc,rfl,h1,h2⟩;have hC:=hC.up l1;have hw:=hC.fw;simp only[go_sem];refine cq aq (fun i:Nat=>⟨[⟨17,[],.v (.int .i64 i)⟩,⟨16,[],.v (.int .i64 sl.length)⟩,⟨15,[],.v (.slice sa sl.length sc)⟩,⟨2,[],.v (.string (bs n))⟩,⟨0,[],.v (.pointer (some ad))⟩,⟨6,[],.v (.string (bs []))⟩,⟨7,[],.box 0 0⟩,⟨8,[],.v (.bool false)⟩],[],[⟨0,40,[.v (.int .i64 0),.v (.int .i64 0),.v (.int .u8 0),.v (.string (bs [])),.v (.string (bs []))]⟩],[],1,m1⟩)
    (fun i=>i<=sl.length/\(sl.drop i).findSome? (yZ E n)=K) (fun i=>sl.length - i) 0 (by kernel_rfl) (fun _ _=>aZ rfl) (fun x hx=> .inl rfl) (fun _=> ?_) ?_ ⟨aF _,hK⟩ ?_
   ·simp only[go_sem]
   ·simp only[go_sem];exact rfl
   ·rintro i ⟨i1,i2⟩;by_cases aj:i<sl.length
    ·have hc:((i:Int)<(sl.length:Int))=True:=eq_true (by omega);rw[List.drop_eq_getElem_cons aj,K8] at i2;have i2:CB (sq n sl[i] (bI E sl[i]).fields) ((sl.drop (i+1)).findSome? (yZ E n))=K:=i2;have aI:=js h2 aj;have au:= @iL _ _ _ _ h2 _ aj (.string (bs sl[i])) (by unfold strs;rw[List.getElem?_map,List.getElem?_eq_getElem aj];rfl);refine Exists.elim (hC.get sl[i]) fun X hX=> ?_
     have aU:=hX.1;simp only[Cc.cs] at aU;have my:=hX.2.fds;have dK:=hX.2.fn;have gH:=hX.2.ok.fn;clear hX;revert my dK gH i2;generalize (bI E sl[i]).fields=fl
     intro i2 my dK gH;simp only[go_sem,hc,aI,au,cj (j:=0) hC.rd rfl,cj (j:=1) hC.rd rfl,fK hC.rm,nO,↓ox,fh,Cc.cs,aU];refine cq aq (fun j:Nat=>⟨[⟨29,[],.v (.int .i64 j)⟩,⟨28,[],.v (.int .i64 X.fn)⟩,⟨27,[],.v (.slice X.fa X.fn X.fc)⟩,⟨10,[],.v (.string (bs sl[i]))⟩,⟨17,[],.v (.int .i64 i)⟩,⟨16,[],.v (.int .i64 sl.length)⟩,⟨15,[],.v (.slice sa sl.length sc)⟩,⟨2,[],.v (.string (bs n))⟩,⟨0,[],.v (.pointer (some ad))⟩,⟨6,[],.v (.string (bs []))⟩,⟨7,[],.box 0 0⟩,⟨8,[],.v (.bool false)⟩],[],[⟨0,40,[.v (.int .i64 0),.v (.int .i64 0),.v (.int .u8 0),.v (.string (bs [])),.v (.string (bs []))]⟩],[],1,m1⟩)
      (fun j=>j<=fl.length/\CB (sq n sl[i] (fl.drop j)) ((sl.drop (i+1)).findSome? (yZ E n))=K) (fun j=>fl.length - j) 0 (by kernel_rfl) (fun _ _=>aZ rfl) (fun x hx=> .inl rfl) (fun _=> ?_) ?_ ⟨aF _,i2⟩ ?_
     ·simp only[go_sem]
     ·simp only[go_sem];exact rfl
     ·rintro j ⟨j1,j2⟩;by_cases iz:j<fl.length
      ·have ko:((j:Int)<(X.fn:Int))=True:=eq_true (by omega);rw[List.drop_eq_getElem_cons iz] at j2;have gY:=dM my (by omega:j<X.fn);rw[mK (f:=Fc.cs) (sz:=5) (fun _=>rfl) iz] at gY;have rv:bS X.fa X.fn (j:Int)=True:=eq_true ⟨by omega,by omega,gY.2⟩;have mu:= @cC _ _ _ 5 gY.1 rfl;simp only[Fc.cs] at mu;by_cases hn:fl[j].name=n
       ·rw[QZ hn] at j2;have j2:some (sl[i],fl[j])=K:=j2;simp only[go_sem,ko,rv,mu,hn];refine bZ (.hoist 0 (.hoist 1 (.hoist 2 (.alt 3 [] (.hoist 4 .done) .stop)))) aq (by kernel_rfl) (by kernel_rfl) ?_;simp only[go_sem];subst j2;simp only[Fc.cs,hn];rfl
       ·rw[PC hn] at j2;simp only[go_sem,ko,rv,mu,hn];exact⟨by unfold az;unfold ay at gH;omega,j+1,rfl,⟨iz,j2⟩,by omega⟩
      ·have ko:((j:Int)<(X.fn:Int))=False:=eq_false (by omega);rw[List.drop_of_length_le (by omega)] at j2;have j2:(sl.drop (i+1)).findSome? (yZ E n)=K:=j2;simp only[go_sem,ko];exact⟨by unfold az;omega,i+1,rfl,⟨aj,j2⟩,by omega⟩
    ·have hc:((i:Int)<(sl.length:Int))=False:=eq_false (by omega);rw[List.drop_of_length_le (by omega)] at i2;subst i2;simp only[go_sem,hc];exact rfl
 ·have h:=hr.1;revert h;cases cg E s n with
  |some x=>
   rintro rfl;show Value.tuple ⟨_⟩=Value.tuple ⟨[_,Value.agg ⟨_⟩,_]⟩;rw[lI];rfl
  |none=>
   rintro rfl;rfl
end
attribute [go_sem] Option.isSome_some Option.isSome_none
theorem Mc.inj {X Y:Mc} (h:X.cs=Y.cs):X=Y:=by
 obtain⟨x1,⟨x2,x3,x4⟩,x5,x6,x7,x8,x9,x10,x11,x12⟩:=X;obtain⟨y1,⟨y2,y3,y4⟩,y5,y6,y7,y8,y9,y10,y11,y12⟩:=Y;simp only[Mc.cs,List.cons.injEq,Value.int.injEq,Value.string.injEq,Value.slice.injEq,Value.bool.injEq,true_and,and_true] at h;obtain⟨h1,h2,h3,h4,h5,⟨h6,h7,h8⟩,h9,h10,h11,vg⟩:=h;have h4:=oS h4;have h5:=oS h5;subst h1 h2 h3 h4 h5 h6 h7 h8 h9 h10 h11 vg;rfl
structure MdX (m:Mem) (d:Md) (Y:Mc):Prop where
 fl:Y.fl=d.fl
 res:Y.res=d.res
 name:Y.name=d.name
 hb:Y.hb=d.hb
 pl:Y.pl=d.params.length
 pc:Y.pl<=Y.pc
 l:Y.l=d.body.length
 cp:Y.l<=Y.cp
 ok:MdOk d
 par:aw m Y.pa Y.pl 4 (flat Pc.cs d.params)
 body:∃xs,aw m Y.a Y.l 23 xs/\bL m d.body xs
theorem Ni {m:Mem} {d:Md} {Y:Mc} (h:ig m d Y.cs):MdX m d Y:=by
 obtain⟨Z,⟨e,h1,h2,h3,h4⟩,⟨q1,q2,q3,q4⟩,h5,h6,xs,h7,h8⟩:=h;cases Mc.inj e;exact⟨h1,h2,h3,h4,q1,q2,q3,q4,h5,h6,xs,h7,h8⟩
theorem MdX.rep {m:Mem} {d:Md} {Y:Mc} (h:MdX m d Y):ig m d Y.cs:=by
 obtain⟨xs,h7,h8⟩:=h.body;exact⟨Y,⟨rfl,h.fl,h.res,h.name,h.hb⟩,⟨h.pl,h.pc,h.l,h.cp⟩,h.ok,h.par,xs,h7,h8⟩
theorem MdX.up {m m' :Mem} {d:Md} {Y:Mc} (hle:af m m') (h:MdX m d Y):MdX m' d Y:=Ni (lA hle h.rep)
def uF:Mc:=⟨0,⟨0,0,[]⟩,[],none,0,0,false,none,0,0⟩
theorem aam (m:Mem):MdX m nb uF:=
 ⟨rfl,rfl,rfl,rfl,rfl,aC _,rfl,aC _,⟨by unfold az;decide,⟨by unfold az;decide,by decide,aF _⟩,aF _,aF _,fun p hp=>(by cases hp),aF _⟩,⟨rfl,fun h=>absurd h (Nat.lt_irrefl 0)⟩,[],⟨rfl,fun h=>absurd h (Nat.lt_irrefl 0)⟩,trivial⟩
def MdA (m:Mem) (o:Option Md) (Y:Mc):Prop:=match o with
 |some d=>MdX m d Y
 |none=>Y=uF
theorem MdA.x {m:Mem} {o:Option Md} {Y:Mc} (h:MdA m o Y):MdX m (o.getD nb) Y:=by
 cases o with
 |some d=>exact h
 |none=>rw[show Y=uF from h];exact aam m
theorem MdA.up {m m' :Mem} {o:Option Md} {Y:Mc} (hle:af m m') (h:MdA m o Y):MdA m' o Y:=by
 cases o with
 |some d=>exact MdX.up hle h
 |none=>exact h
theorem ue {m:Mem} {a:Option Addr} {n:Nat} {l:List Md} {xs:List Value} (h:aw m a n 8 xs) (hn:n=l.length) (hr:dZ (ig m) 8 l xs) {k:Nat} (hk:k<l.length):
  ∃Y:Mc,Rd m (bk a (k * 8)) Y.cs/\a≠none/\MdX m l[k] Y:=by
 obtain⟨h1,h2⟩:=dM h (by omega:k<n);have bX:=oY hr hk;obtain⟨Y,e1,e2⟩:=bX;have e:=e1.1;rw[e] at h1;exact⟨Y,h1,h2,Ni ⟨Y,⟨rfl,e1.2⟩,e2⟩⟩
def sI (n:Nm) (k:Int) (m:Md):Bool:=decide (m.name=n)&&decide ((m.params.length:Int)=k)
section
variable {ad:Addr} {pr E:List Cd} {b:Nat} {a:Option Addr} {c:Nat} {L:List Cc}
theorem Q5 (s n:Nm) (k:Int) (m:Mem) (hC:Ck m ad pr E b a c L):FnH Tryz.prog 161 [.v (.pointer (some ad)),.v (.string (bs s)),.v (.string (bs n)),.v (.int .i64 k)] ⟨[],[]⟩ m
  fun r H' m' =>m' =m/\H' =⟨[],[]⟩/\∃Y:Mc,MdA m (cU E s n k) Y/\r= .tup [.agg (Y.cs.map .v),.v (.bool (cU E s n k).isSome)]:=by
 obtain⟨X,aU,hX⟩:=hC.get s;simp only[Cc.cs] at aU;have dY:=hX.ml;have gH:=hX.ok.ml;obtain⟨xs,g1,g2⟩:=hX.mth;have hK:(bI E s).methods.find? (sI n k)=cU E s n k:=rfl;clear hX;revert dY gH g1 g2 hK;generalize cU E s n k=K
 generalize (bI E s).methods=ml
 intro dY gH g1 g2 hK;refine br aq Tryz.func161 ?_
 ·simp only[go_sem,cj (j:=0) hC.rd rfl,cj (j:=1) hC.rd rfl,fK hC.rm,nO,↓ox,fh,Cc.cs,aU];refine cq aq (fun i:Nat=>⟨[⟨20,[],.v (.int .i64 i)⟩,⟨19,[],.v (.int .i64 X.ml)⟩,⟨18,[],.v (.slice X.ma X.ml X.mc)⟩,⟨2,[],.v (.string (bs n))⟩,⟨3,[],.v (.int .i64 k)⟩,⟨8,[],.box 0 0⟩,⟨9,[],.v (.bool false)⟩],[],[⟨0,45,[.v (.int .i64 0),.v (.int .i64 0),.v (.int .u8 0),.v (.string (bs [])),.v (.string (bs [])),.v (.slice none 0 0),.v (.bool false),.v (.slice none 0 0)]⟩],[],1,m⟩)
   (fun i=>i<=ml.length/\(ml.drop i).find? (sI n k)=K) (fun i=>ml.length - i) 0 (by kernel_rfl) (fun _ _=>aZ rfl) (fun x hx=> .inl rfl) (fun _=> ?_) ?_ ⟨aF _,hK⟩ ?_
  ·simp only[go_sem]
  ·simp only[go_sem];exact rfl
  ·rintro i ⟨i1,i2⟩;by_cases aj:i<ml.length
   ·have hc:((i:Int)<(X.ml:Int))=True:=eq_true (by omega);rw[List.drop_eq_getElem_cons aj,List.find?_cons] at i2;refine Exists.elim (ue g1 dY g2 aj) fun Y hY=> ?_
    have aI:bS X.ma X.ml (i:Int)=True:=eq_true ⟨by omega,by omega,hY.2.1⟩;have au:= @cC _ _ _ 8 hY.1 rfl;have hn:=hY.2.2.name;have hp:=hY.2.2.pl;simp only[Mc.cs] at au;by_cases h1:Y.name=n
    ·by_cases h2:(Y.pl:Int)=k
     ·have hm:sI n k ml[i]=true:=by unfold sI;rw[<- hn,<- hp,h1,h2];simp
      rw[hm] at i2;have i2:some ml[i]=K:=i2;simp only[go_sem,hc,aI,au,h1,h2];subst i2;refine⟨Y,hY.2.2,?_⟩;simp only[Mc.cs,h1];rfl
     ·have hm:sI n k ml[i]=false:=by unfold sI;rw[<- hn,<- hp,h1,ab h2];simp
      rw[hm] at i2;simp only[go_sem,hc,aI,au,h1,h2];exact⟨by unfold az;unfold ay at gH;omega,i+1,rfl,⟨aj,i2⟩,by omega⟩
    ·have hm:sI n k ml[i]=false:=by unfold sI;rw[<- hn,ab h1];simp
     rw[hm] at i2;simp only[go_sem,hc,aI,au,h1];exact⟨by unfold az;unfold ay at gH;omega,i+1,rfl,⟨aj,i2⟩,by omega⟩
   ·have hc:((i:Int)<(X.ml:Int))=False:=eq_false (by omega);rw[List.drop_of_length_le (by omega)] at i2;have i2:none=K:=i2;simp only[go_sem,hc];subst i2;exact⟨uF,rfl,rfl⟩
theorem vz (s n:Nm) (k:Int) (m:Mem) (hC:Ck m ad pr E b a c L):FnH Tryz.prog 161 [.v (.pointer (some ad)),.v (.string (bs s)),.v (.string (bs n)),.v (.int .i64 k)] ⟨[],[]⟩ m
  fun r H' m' =>m' =m/\H' =⟨[],[]⟩/\∃Y:Mc,MdA m (cU E s n k) Y/\r= .tup [.v (.agg ⟨Y.cs⟩),.v (.bool (cU E s n k).isSome)]:=by
 refine jT (Q5 s n k m hC) ?_;rintro r H' m' hm ⟨h1,h2,Y,h3,rfl⟩;refine⟨.tup [.v (.agg ⟨Y.cs⟩),.v (.bool (cU E s n k).isSome)],fun V=> ?_,h1,h2,Y,h3,rfl⟩;show Value.tuple ⟨[.agg ⟨Y.cs⟩,_]⟩=Value.tuple ⟨[Value.agg ⟨_⟩,_]⟩;rw[lI]
def MtA (m:Mem) (x:Option (Nm×Md)) (o:Nm) (Y:Mc):Prop:=match x with
 |some (o',d)=>o=o' /\MdX m d Y
 |none=>o=[]/\Y=uF
theorem MtA.up {m m' :Mem} {x:Option (Nm×Md)} {o:Nm} {Y:Mc} (hle:af m m') (h:MtA m x o Y):MtA m' x o Y:=by
 cases x with
 |some d=>exact⟨h.1,MdX.up hle h.2⟩
 |none=>exact h
def BP (E:List Cd) (n:Nm) (k:Int) (s:Nm):Option (Nm×Md):=(cU E s n k).map fun m=>(s,m)
theorem QV (l:List Nm) (la:Option Addr) (lc:Nat) (n:Nm) (k:Int) (m:Mem) (hC:Ck m ad pr E b a c L) (hr:aw m la l.length 1 (strs l)) (hl:l.length<=4000000):
  FnH Tryz.prog 89 [.v (.pointer (some ad)),.v (.slice la l.length lc),.v (.string (bs n)),.v (.int .i64 k)] ⟨[],[]⟩ m
   fun r H' m' =>m' =m/\H' =⟨[],[]⟩/\∃(o:Nm) (Y:Mc),MtA m (ep E l n k) o Y/\r= .tup [.v (.string (bs o)),.agg (Y.cs.map .v),.v (.bool (ep E l n k).isSome)]:=by
 have hK:l.findSome? (BP E n k)=ep E l n k:=rfl;revert hK;generalize ep E l n k=K
 intro hK;refine br aq Tryz.func89 ?_
 ·simp only[go_sem];refine cq aq (fun i:Nat=>⟨[⟨17,[],.v (.int .i64 i)⟩,⟨16,[],.v (.int .i64 l.length)⟩,⟨15,[],.v (.slice la l.length lc)⟩,⟨0,[],.v (.pointer (some ad))⟩,⟨2,[],.v (.string (bs n))⟩,⟨3,[],.v (.int .i64 k)⟩,⟨8,[],.v (.string (bs []))⟩,⟨9,[],.box 0 0⟩,⟨10,[],.v (.bool false)⟩],[],[⟨0,45,[.v (.int .i64 0),.v (.int .i64 0),.v (.int .u8 0),.v (.string (bs [])),.v (.string (bs [])),.v (.slice none 0 0),.v (.bool false),.v (.slice none 0 0)]⟩],[],1,m⟩)
   (fun i=>i<=l.length/\(l.drop i).findSome? (BP E n k)=K) (fun i=>l.length - i) 0 (by kernel_rfl) (fun _ _=>aZ rfl) (fun x hx=> .inl rfl) (fun _=> ?_) ?_ ⟨aF _,hK⟩ ?_
  ·simp only[go_sem]
  ·simp only[go_sem];exact rfl
  ·rintro i ⟨i1,i2⟩;by_cases aj:i<l.length
   ·have hc:((i:Int)<(l.length:Int))=True:=eq_true (by omega);rw[List.drop_eq_getElem_cons aj,K8] at i2;have aI:=js hr aj;have au:= @iL _ _ _ _ hr _ aj (.string (bs l[i])) (by unfold strs;rw[List.getElem?_map,List.getElem?_eq_getElem aj];rfl);have hD:=vz l[i] n k m hC;have i2:CB ((cU E l[i] n k).map fun m=>(l[i],m)) ((l.drop (i+1)).findSome? (BP E n k))=K:=i2;revert hD i2;generalize cU E l[i] n k=o
    intro hD i2;simp only[go_sem,hc,aI,au];refine ai (hD.mono ?_);clear hD;rintro r H' m1 aR ⟨rfl,rfl,Y,h1,rfl⟩;cases o with
    |none=>
     have i2:(l.drop (i+1)).findSome? (BP E n k)=K:=i2;simp only[go_sem,Mc.cs];exact⟨by unfold az;omega,i+1,rfl,⟨aj,i2⟩,by omega⟩
    |some d=>
     have i2:some (l[i],d)=K:=i2;simp only[go_sem,Mc.cs];refine bZ (.hoist 0 (.hoist 1 (.hoist 2 (.alt 3 [] (.hoist 4 .done) .stop)))) aq (by kernel_rfl) (by kernel_rfl) ?_;simp only[go_sem];subst i2;exact⟨l[i],Y,⟨rfl,h1⟩,rfl⟩
   ·have hc:((i:Int)<(l.length:Int))=False:=eq_false (by omega);rw[List.drop_of_length_le (by omega)] at i2;have i2:none=K:=i2;simp only[go_sem,hc];subst i2;exact⟨[],uF,⟨rfl,rfl⟩,rfl⟩
theorem xO (l:List Nm) (la:Option Addr) (lc:Nat) (n:Nm) (k:Int) (m:Mem) (hC:Ck m ad pr E b a c L) (hr:aw m la l.length 1 (strs l)) (hl:l.length<=4000000):
  FnH Tryz.prog 89 [.v (.pointer (some ad)),.v (.slice la l.length lc),.v (.string (bs n)),.v (.int .i64 k)] ⟨[],[]⟩ m
   fun r H' m' =>m' =m/\H' =⟨[],[]⟩/\∃(o:Nm) (Y:Mc),MtA m (ep E l n k) o Y/\r= .tup [.v (.string (bs o)),.v (.agg ⟨Y.cs⟩),.v (.bool (ep E l n k).isSome)]:=by
 refine jT (QV l la lc n k m hC hr hl) ?_;rintro r H' m' hm ⟨h1,h2,o,Y,h3,rfl⟩;refine⟨.tup [.v (.string (bs o)),.v (.agg ⟨Y.cs⟩),.v (.bool (ep E l n k).isSome)],fun V=> ?_,h1,h2,o,Y,h3,rfl⟩;show Value.tuple ⟨[_,.agg ⟨Y.cs⟩,_]⟩=Value.tuple ⟨[_,Value.agg ⟨_⟩,_]⟩;rw[lI]
theorem aaS {a:Option Addr} {c h:Nat}:gE a c 0 h 1= .slice a h c:=by
 unfold gE;simp only[Nat.sub_zero,Nat.zero_mul];split
 ·rfl
 ·cases a with
  |none=>rfl
  |some ad=>simp [Addr.add]
theorem aa0 (sl:List Nm):(if((sl.length:Nat):Int)<1 then((sl.length:Nat):Int) else 1).toNat=(sl.take 1).length:=by
 rw[List.length_take];split<;>omega
theorem P7 {m:Mem} {a:Option Addr} {l:List Nm} (h:aw m a l.length 1 (strs l)) (k:Nat) (hk:k<=l.length):aw m a (l.take k).length 1 (strs (l.take k)):=by
 have hl:(l.take k).length=k:=by rw[List.length_take];omega
 rw[hl];refine⟨by unfold strs;simp;omega,fun h0=> ?_⟩;obtain⟨ad,e,hs,hc⟩:=h.2 (by omega);refine⟨ad,e,hs,fun j hj=> ?_⟩;obtain⟨q1,q2⟩:=hc j (by omega);refine⟨?_,q2⟩;rw[q1];unfold strs;rw[List.getElem?_map,List.getElem?_map,List.getElem?_take,ak (by omega)]
theorem OZ {m:Mem} {a:Option Addr} {l:List Nm} (h:aw m a l.length 1 (strs l)):aw m a (l.take 1).length 1 (strs (l.take 1)):=by
 by_cases h0:l=[]
 ·subst h0;exact⟨rfl,fun h=>absurd h (Nat.lt_irrefl 0)⟩
 ·exact P7 h 1 (List.length_pos_iff.2 h0)
theorem Ps (s n:Nm) (k:Int) (m:Mem) (hC:Ck m ad pr E b a c L):FnH Tryz.prog 45 [.v (.pointer (some ad)),.v (.string (bs s)),.v (.string (bs n)),.v (.int .i64 k)] ⟨[],[]⟩ m
  fun r H' m' =>af m m' /\H' =⟨[],[]⟩/\∃(o:Nm) (Y:Mc),MtA m' (eG E s n k) o Y/\r= .tup [.v (.string (bs o)),.agg (Y.cs.map .v),.v (.bool (eG E s n k).isSome)]:=by
 have hS:=pV s m hC;have fr:=(kv E s).len;have hw:=hC.fw;have jN:=(tE E s).len;have hI:=fun m' (hle:af m m')=>vq s m' (hC.up hle)
 unfold eG;revert hS fr jN hI;generalize aT E s=sl
 generalize bR E s=il
 intro hS fr jN hI;by_cases hn:n=bJ
 ·rw[ak hn];subst hn;have hF:=fun m' (hle:af m m') sa sc (hr:aw m' sa sl.length 1 (strs sl))=>xO (sl.take 1) sa sc bJ k m' (hC.up hle) (OZ hr) (by rw[List.length_take];omega)
  have e1:=aa0 sl;clear hI;revert hF e1;generalize ep E (sl.take 1) bJ k=K
  intro hF e1;refine enter bb aq Tryz.func45 rfl rfl (by kernel_rfl) rfl ?_ ?_
  ·clear hS;simp only[go_sem]
  ·have hi:(bJ=[60,105,110,105,116,62])=True:=eq_true rfl;simp only[go_sem,hi];refine ai (hS.mono ?_);clear hS;rintro r H' m1 aR ⟨l1,rfl,sa,sc,rfl,h1,h2⟩;have hF:=hF m1 l1 sa sc h2;simp only[go_sem,hi,aaS,e1];refine⟨⟨by omega,by split<;>omega,by split<;>omega⟩,by kernel_rfl,bD (hF.mono ?_)⟩;clear hF;rintro r H' m2 aK ⟨rfl,rfl,o,Y,g1,rfl⟩;simp only[go_sem,Mc.cs];exact⟨l1,o,Y,g1,rfl⟩
 ·rw[ae hn];have vf:=fun m' (hle:af m m') sa sc (hr:aw m' sa sl.length 1 (strs sl))=>xO sl sa sc n k m' (hC.up hle) hr (by omega)
  have ti:=fun m' (hle:af m m') sa sc (hr:aw m' sa il.length 1 (strs il))=>xO il sa sc n k m' (hC.up hle) hr (by omega)
  revert vf ti;generalize ep E sl n k=K1
  generalize ep E il n k=K2
  intro vf ti;refine enter bb aq Tryz.func45 rfl rfl (by kernel_rfl) rfl ?_ ?_
  ·clear hS vf ti hI;simp only[go_sem]
  ·have hi:(n=[60,105,110,105,116,62])=False:=eq_false hn;simp only[go_sem,hi];refine ai (hS.mono ?_);clear hS;rintro r H' m1 aR ⟨l1,rfl,sa,sc,rfl,h1,h2⟩;have vf:=vf m1 l1 sa sc h2;simp only[go_sem,hi];refine ai (vf.mono ?_);clear vf;rintro r H' m2 aK ⟨rfl,rfl,o,Y,g1,rfl⟩;cases K1 with
   |some x=>
    clear hI ti;simp only[go_sem,Mc.cs];refine bZ (.hoist 0 (.hoist 1 (.hoist 2 (.alt 3 [] (.hoist 4 .done) .stop)))) aq (by kernel_rfl) (by kernel_rfl) ?_;simp only[go_sem];exact⟨l1,o,Y,g1,rfl⟩
   |none=>
    have hI:=hI m2 l1;simp only[go_sem,Mc.cs];refine ai (hI.mono ?_);clear hI;rintro r H' m3 cA ⟨l3,rfl,ia,ic,rfl,h3,h4⟩;have ti:=ti m3 (aa l1 l3) ia ic h4;simp only[go_sem];refine ai (ti.mono ?_);clear ti;rintro r H' m4 gW ⟨rfl,rfl,o2,Y2,g2,rfl⟩;simp only[go_sem,Mc.cs];exact⟨aa l1 l3,o2,Y2,g2,rfl⟩
theorem C8 (s n:Nm) (k:Int) (m:Mem) (hC:Ck m ad pr E b a c L):FnH Tryz.prog 45 [.v (.pointer (some ad)),.v (.string (bs s)),.v (.string (bs n)),.v (.int .i64 k)] ⟨[],[]⟩ m
  fun r H' m' =>af m m' /\H' =⟨[],[]⟩/\∃(o:Nm) (Y:Mc),MtA m' (eG E s n k) o Y/\r= .tup [.v (.string (bs o)),.v (.agg ⟨Y.cs⟩),.v (.bool (eG E s n k).isSome)]:=by
 refine jT (Ps s n k m hC) ?_;rintro r H' m' hm ⟨h1,h2,o,Y,h3,rfl⟩;refine⟨.tup [.v (.string (bs o)),.v (.agg ⟨Y.cs⟩),.v (.bool (eG E s n k).isSome)],fun V=> ?_,h1,h2,o,Y,h3,rfl⟩;show Value.tuple ⟨[_,.agg ⟨Y.cs⟩,_]⟩=Value.tuple ⟨[_,Value.agg ⟨_⟩,_]⟩;rw[lI]
end
theorem Z8:cH Tryz.prog 72=some none:=by kernel_rfl
theorem aaD:aM Tryz.prog 72=1:=by kernel_rfl
attribute [go_sem] Z8 aaD
section
variable {ad:Addr} {pr E:List Cd} {b:Nat} {a:Option Addr} {c:Nat} {L:List Cc}
theorem X8 {m:Mem} (hC:Ck m ad pr E b a c L):Rd m (bk (some ad) 1) [.map (some b)]:=tR hC.rd 1 1 (aC _)
theorem UH (E:List Cd) (t:Ty):oe E t=(decide (t.dim=0)&&decide (t.base=76)&&hasB (bI E t.name).fl 512):=rfl
theorem QO (t:Ty) (m:Mem) (hC:Ck m ad pr E b a c L):FnH Tryz.prog 264 [.v (.pointer (some ad)),.v (.agg ⟨aB t⟩)] ⟨[],[]⟩ m fun r H' _=>r= .v (.bool (oe E t))/\H' =⟨[],[]⟩:=by
 obtain⟨X,aU,hX⟩:=hC.get t.name;simp only[Cc.cs] at aU;have gX:=hX.fl;rw[UH,<- gX,hasB];refine enter bb aq Tryz.func264 rfl rfl (by kernel_rfl) rfl ?_ ?_
 ·simp only[go_sem,aB]
 ·simp only[go_sem,aB];refine bZ (.hoist 0 (.hoist 1 (.hoist 2 (.hoist 3 (.hoist 4 (.hoist 5 (.hoist 6 (.hoist 7 (.hoist 8 (.hoist 9 (.hoist 10 (.hoist 11 (.hoist 12 (.hoist 13 (.hoist 14 (.hoist 15 (.hoist 16 (.hoist 17 (.hoist 18 (.hoist 19 (.hoist 20 .done))))))))))))))))))))) aq (by kernel_rfl) (by kernel_rfl) ?_;simp only[go_sem,cj (j:=0) hC.rd rfl,cj (j:=1) hC.rd rfl,fK hC.rm,nO,↓ox,fh,Cc.cs,aU];refine⟨_,fun _=>X8 hC,lh L,hC.rm,?_⟩;simp only[go_sem,cj (j:=0) hC.rd rfl,cj (j:=1) hC.rd rfl,fK hC.rm,nO,↓ox,fh,Cc.cs,aU]
theorem QC (s x:Nm) (m:Mem) (hC:Ck m ad pr E b a c L):
  FnH Tryz.prog 276 [.v (.string (bs x)),.box 0 0,.box 1 0] ⟨[⟨0,9,[.v (.string (bs s))]⟩,⟨1,72,[.v (.pointer (some ad))]⟩],[]⟩ m
   fun r H' _=>r= .v (.bool (!decide (x=s)&&eX E x s))/\H' =⟨[⟨0,9,[.v (.string (bs s))]⟩,⟨1,72,[.v (.pointer (some ad))]⟩],[]⟩:=by
 have aS:=hC.chk;refine enter (F3 pr E) (B5 pr E) Tryz.func276 rfl rfl (by kernel_rfl) rfl ?_ ?_
 ·simp only[go_sem]
 ·simp only[go_sem,aS]
end
def wY (n:Nat) (P:Nat->Bool) (r:SV):Prop:=(r= .v (.int .i64 (-1))/\∀j,j<n->P j=false)\/∃k,k<n/\r= .v (.int .i64 k)/\P k=true/\∀j,j<k->P j=false
theorem yM {n:Nat} {P:Nat->Bool} (h:∀j,j<n->P j=false):(List.range n).any P=false:=by
 rw[List.any_eq_false];intro j hj;rw[h j (List.mem_range.1 hj)];decide
theorem UI (g:FuncId) (ei:dp Tryz.prog g=true) (c0 c1:List Value) (la:Option Addr) (n lc:Nat) (m:Mem) (hn:n<=4000000000) (cell:Nat->Value) (b8:∀i,i<n->Rd m (bk la i) [cell i]/\la≠none) (P:Nat->Bool)
  (hg:∀i m',i<n->af m m' ->FnH Tryz.prog g [.v (cell i),.box 0 0,.box 1 0] ⟨[⟨0,9,c0.map .v⟩,⟨1,72,c1.map .v⟩],[]⟩ m' fun r H' _=>r= .v (.bool (P i))/\H' =⟨[⟨0,9,c0.map .v⟩,⟨1,72,c1.map .v⟩],[]⟩):
  FnH Tryz.prog 233 [.v (.slice la n lc),.cl g [0,1]] ⟨[⟨0,9,c0.map .v⟩,⟨1,72,c1.map .v⟩],[]⟩ m fun r H' _=>H' =⟨[⟨0,9,c0.map .v⟩,⟨1,72,c1.map .v⟩],[]⟩/\wY n P r:=by
 refine enter bb aq Tryz.func233 rfl rfl (by kernel_rfl) rfl ?_ ?_
 ·clear hg;simp only[go_sem,bC,bm,bo,bp,bA]
 ·simp only[go_sem,bC,bm,bo,bp,bA];refine cq aq (fun x:Nat×Mem=>⟨[⟨8,[],.v (.int .i64 x.1)⟩,⟨7,[],.v (.int .i64 n)⟩,⟨0,[],.v (.slice la n lc)⟩,⟨1,[],.cl g [0,1]⟩,⟨4,[],.v (.int .i64 0)⟩],[],[⟨0,9,c0.map .v⟩,⟨1,72,c1.map .v⟩],[],2,x.2⟩)
   (fun x=>af m x.2/\x.1<=n/\∀j,j<x.1->P j=false) (fun x=>n - x.1) (0,m) (by kernel_rfl) (fun _ _=>aZ rfl) (fun x hx=>hx.1) (fun _=> ?_) ?_ ⟨.inl rfl,aF _,fun j hj=>absurd hj (Nat.not_lt_zero j)⟩ ?_
  ·clear hg;simp only[go_sem,bC,bm,bo,bp,bA]
  ·clear hg;simp only[go_sem,bC,bm,bo,bp,bA];rfl
  ·rintro⟨i,mm⟩ ⟨q1,q2,q3⟩;dsimp only at q1 q2 q3;by_cases aj:i<n
   ·have hc:((i:Int)<(n:Int))=True:=eq_true (by omega);have aI:bS la n (i:Int)=True:=eq_true ⟨by omega,by omega,(b8 i aj).2⟩;have au:= @Gf _ _ _ (oV q1 (b8 i aj).1);have dd:=hg i mm aj q1;clear hg;cases hp:P i with
    |true=>
     rw[hp] at dd;simp only[go_sem,hc,aI,au,bC,bm,bo,bp,bA];refine⟨ei,bD (dd.mono ?_)⟩;clear dd;rintro r H' m2 aK ⟨rfl,rfl⟩;simp only[go_sem,bC,bm,bo,bp,bA];exact .inr ⟨i,aj,rfl,hp,q3⟩
    |false=>
     rw[hp] at dd;simp only[go_sem,hc,aI,au,bC,bm,bo,bp,bA];refine⟨ei,bD (dd.mono ?_)⟩;clear dd;rintro r H' m2 aK ⟨rfl,rfl⟩;simp only[go_sem,bC,bm,bo,bp,bA];refine⟨by unfold az;omega,(i+1,m2),⟨by omega,.inl rfl⟩,⟨aa q1 (.inr aK),aj,fun j hj=> ?_⟩,by omega⟩;rcases Nat.lt_succ_iff_lt_or_eq.1 hj with hj |rfl
     ·exact q3 j hj
     ·exact hp
   ·have hc:((i:Int)<(n:Int))=False:=eq_false (by omega);clear hg;simp only[go_sem,hc,bC,bm,bo,bp,bA];exact .inl ⟨rfl,fun j hj=>q3 j (by omega)⟩
theorem UJ (g:FuncId) (ei:dp Tryz.prog g=true) (c0 c1:List Value) (la:Option Addr) (n lc:Nat) (m:Mem) (hn:n<=4000000000) (cell:Nat->Value) (b8:∀i,i<n->Rd m (bk la i) [cell i]/\la≠none) (P:Nat->Bool)
  (hg:∀i m',i<n->af m m' ->FnH Tryz.prog g [.v (cell i),.box 0 0,.box 1 0] ⟨[⟨0,9,c0.map .v⟩,⟨1,72,c1.map .v⟩],[]⟩ m' fun r H' _=>r= .v (.bool (P i))/\H' =⟨[⟨0,9,c0.map .v⟩,⟨1,72,c1.map .v⟩],[]⟩):
  FnH Tryz.prog 146 [.v (.slice la n lc),.cl g [0,1]] ⟨[⟨0,9,c0.map .v⟩,⟨1,72,c1.map .v⟩],[]⟩ m fun r H' _=>H' =⟨[⟨0,9,c0.map .v⟩,⟨1,72,c1.map .v⟩],[]⟩/\r= .v (.bool ((List.range n).any P)):=by
 have hI:=UI g ei c0 c1 la n lc m hn cell b8 P hg;clear hg;refine enter bb aq Tryz.func146 rfl rfl (by kernel_rfl) rfl ?_ ?_
 ·clear hI;simp only[go_sem,bC,bm,bo,bp,bA]
 ·simp only[go_sem,bC,bm,bo,bp,bA];refine ai (hI.mono ?_);clear hI;rintro r H' m2 aK ⟨rfl,h |⟨k,h1,rfl,h2,h3⟩⟩
  ·obtain⟨rfl,h⟩:=h;have he:(List.range n).any P=false:=yM h;simp only[go_sem,bC,bm,bo,bp,bA];rw[he];rfl
  ·have he:(List.range n).any P=true:=List.any_eq_true.2 ⟨k,List.mem_range.2 h1,h2⟩;simp only[go_sem,bC,bm,bo,bp,bA];rw[he];exact aQ (by omega)
theorem UK (g:FuncId) (ei:dp Tryz.prog g=true) (c0:List Value) (la:Option Addr) (n lc:Nat) (m:Mem) (hn:n<=4000000000) (cell:Nat->Value) (b8:∀i,i<n->Rd m (bk la i) [cell i]/\la≠none) (P:Nat->Bool)
  (hg:∀i m',i<n->af m m' ->FnH Tryz.prog g [.v (cell i),.box 0 0] ⟨[⟨0,72,c0.map .v⟩],[]⟩ m' fun r H' _=>r= .v (.bool (P i))/\H' =⟨[⟨0,72,c0.map .v⟩],[]⟩):
  FnH Tryz.prog 233 [.v (.slice la n lc),.cl g [0]] ⟨[⟨0,72,c0.map .v⟩],[]⟩ m fun r H' _=>H' =⟨[⟨0,72,c0.map .v⟩],[]⟩/\wY n P r:=by
 refine enter bb aq Tryz.func233 rfl rfl (by kernel_rfl) rfl ?_ ?_
 ·clear hg;simp only[go_sem,bC,bm,bo,bp,bA]
 ·simp only[go_sem,bC,bm,bo,bp,bA];refine cq aq (fun x:Nat×Mem=>⟨[⟨8,[],.v (.int .i64 x.1)⟩,⟨7,[],.v (.int .i64 n)⟩,⟨0,[],.v (.slice la n lc)⟩,⟨1,[],.cl g [0]⟩,⟨4,[],.v (.int .i64 0)⟩],[],[⟨0,72,c0.map .v⟩],[],1,x.2⟩)
   (fun x=>af m x.2/\x.1<=n/\∀j,j<x.1->P j=false) (fun x=>n - x.1) (0,m) (by kernel_rfl) (fun _ _=>aZ rfl) (fun x hx=>hx.1) (fun _=> ?_) ?_ ⟨.inl rfl,aF _,fun j hj=>absurd hj (Nat.not_lt_zero j)⟩ ?_
  ·clear hg;simp only[go_sem,bC,bm,bo,bp,bA]
  ·clear hg;simp only[go_sem,bC,bm,bo,bp,bA];rfl
  ·rintro⟨i,mm⟩ ⟨q1,q2,q3⟩;dsimp only at q1 q2 q3;by_cases aj:i<n
   ·have hc:((i:Int)<(n:Int))=True:=eq_true (by omega);have aI:bS la n (i:Int)=True:=eq_true ⟨by omega,by omega,(b8 i aj).2⟩;have au:= @Gf _ _ _ (oV q1 (b8 i aj).1);have dd:=hg i mm aj q1;clear hg;cases hp:P i with
    |true=>
     rw[hp] at dd;simp only[go_sem,hc,aI,au,bC,bm,bo,bp,bA];refine⟨ei,bD (dd.mono ?_)⟩;clear dd;rintro r H' m2 aK ⟨rfl,rfl⟩;simp only[go_sem,bC,bm,bo,bp,bA];exact .inr ⟨i,aj,rfl,hp,q3⟩
    |false=>
     rw[hp] at dd;simp only[go_sem,hc,aI,au,bC,bm,bo,bp,bA];refine⟨ei,bD (dd.mono ?_)⟩;clear dd;rintro r H' m2 aK ⟨rfl,rfl⟩;simp only[go_sem,bC,bm,bo,bp,bA];refine⟨by unfold az;omega,(i+1,m2),⟨by omega,.inl rfl⟩,⟨aa q1 (.inr aK),aj,fun j hj=> ?_⟩,by omega⟩;rcases Nat.lt_succ_iff_lt_or_eq.1 hj with hj |rfl
     ·exact q3 j hj
     ·exact hp
   ·have hc:((i:Int)<(n:Int))=False:=eq_false (by omega);clear hg;simp only[go_sem,hc,bC,bm,bo,bp,bA];exact .inl ⟨rfl,fun j hj=>q3 j (by omega)⟩
theorem UL (g:FuncId) (ei:dp Tryz.prog g=true) (c0:List Value) (la:Option Addr) (n lc:Nat) (m:Mem) (hn:n<=4000000000) (cell:Nat->Value) (b8:∀i,i<n->Rd m (bk la i) [cell i]/\la≠none) (P:Nat->Bool)
  (hg:∀i m',i<n->af m m' ->FnH Tryz.prog g [.v (cell i),.box 0 0] ⟨[⟨0,72,c0.map .v⟩],[]⟩ m' fun r H' _=>r= .v (.bool (P i))/\H' =⟨[⟨0,72,c0.map .v⟩],[]⟩):
  FnH Tryz.prog 146 [.v (.slice la n lc),.cl g [0]] ⟨[⟨0,72,c0.map .v⟩],[]⟩ m fun r H' _=>H' =⟨[⟨0,72,c0.map .v⟩],[]⟩/\r= .v (.bool ((List.range n).any P)):=by
 have hI:=UK g ei c0 la n lc m hn cell b8 P hg;clear hg;refine enter bb aq Tryz.func146 rfl rfl (by kernel_rfl) rfl ?_ ?_
 ·clear hI;simp only[go_sem,bC,bm,bo,bp,bA]
 ·simp only[go_sem,bC,bm,bo,bp,bA];refine ai (hI.mono ?_);clear hI;rintro r H' m2 aK ⟨rfl,h |⟨k,h1,rfl,h2,h3⟩⟩
  ·obtain⟨rfl,h⟩:=h;have he:(List.range n).any P=false:=yM h;simp only[go_sem,bC,bm,bo,bp,bA];rw[he];rfl
  ·have he:(List.range n).any P=true:=List.any_eq_true.2 ⟨k,List.mem_range.2 h1,h2⟩;simp only[go_sem,bC,bm,bo,bp,bA];rw[he];exact aQ (by omega)
theorem SP (g:FuncId) (ei:dp Tryz.prog g=true) (c0:List Value) (la:Option Addr) (n lc:Nat) (m:Mem) (hn:n<=4000000000) (cell:Nat->List Value) (b8:∀i,i<n->Rd m (bk la (i * 4)) (cell i)/\la≠none/\(cell i).length=4) (P:Nat->Bool)
  (hg:∀i m',i<n->af m m' ->FnH Tryz.prog g [.v (.agg ⟨cell i⟩),.box 0 0] ⟨[⟨0,9,c0.map .v⟩],[]⟩ m' fun r H' _=>r= .v (.bool (P i))/\H' =⟨[⟨0,9,c0.map .v⟩],[]⟩):
  FnH Tryz.prog 275 [.v (.slice la n lc),.cl g [0]] ⟨[⟨0,9,c0.map .v⟩],[]⟩ m fun r H' _=>H' =⟨[⟨0,9,c0.map .v⟩],[]⟩/\wY n P r:=by
 refine enter bb aq Tryz.func275 rfl rfl (by kernel_rfl) rfl ?_ ?_
 ·clear hg;simp only[go_sem,bC,bm,bo,bp,bA]
 ·simp only[go_sem,bC,bm,bo,bp,bA];refine cq aq (fun x:Nat×Mem=>⟨[⟨8,[],.v (.int .i64 x.1)⟩,⟨7,[],.v (.int .i64 n)⟩,⟨0,[],.v (.slice la n lc)⟩,⟨1,[],.cl g [0]⟩,⟨4,[],.v (.int .i64 0)⟩],[],[⟨0,9,c0.map .v⟩],[],1,x.2⟩)
   (fun x=>af m x.2/\x.1<=n/\∀j,j<x.1->P j=false) (fun x=>n - x.1) (0,m) (by kernel_rfl) (fun _ _=>aZ rfl) (fun x hx=>hx.1) (fun _=> ?_) ?_ ⟨.inl rfl,aF _,fun j hj=>absurd hj (Nat.not_lt_zero j)⟩ ?_
  ·clear hg;simp only[go_sem,bC,bm,bo,bp,bA]
  ·clear hg;simp only[go_sem,bC,bm,bo,bp,bA];rfl
  ·rintro⟨i,mm⟩ ⟨q1,q2,q3⟩;dsimp only at q1 q2 q3;by_cases aj:i<n
   ·have hc:((i:Int)<(n:Int))=True:=eq_true (by omega);have aI:bS la n (i:Int)=True:=eq_true ⟨by omega,by omega,(b8 i aj).2.1⟩;have au:= @cC _ _ _ 4 (oV q1 (b8 i aj).1) (b8 i aj).2.2;have dd:=hg i mm aj q1;clear hg;cases hp:P i with
    |true=>
     rw[hp] at dd;simp only[go_sem,hc,aI,au,bC,bm,bo,bp,bA];refine⟨ei,bD (dd.mono ?_)⟩;clear dd;rintro r H' m2 aK ⟨rfl,rfl⟩;simp only[go_sem,bC,bm,bo,bp,bA];exact .inr ⟨i,aj,rfl,hp,q3⟩
    |false=>
     rw[hp] at dd;simp only[go_sem,hc,aI,au,bC,bm,bo,bp,bA];refine⟨ei,bD (dd.mono ?_)⟩;clear dd;rintro r H' m2 aK ⟨rfl,rfl⟩;simp only[go_sem,bC,bm,bo,bp,bA];refine⟨by unfold az;omega,(i+1,m2),⟨by omega,.inl rfl⟩,⟨aa q1 (.inr aK),aj,fun j hj=> ?_⟩,by omega⟩;rcases Nat.lt_succ_iff_lt_or_eq.1 hj with hj |rfl
     ·exact q3 j hj
     ·exact hp
   ·have hc:((i:Int)<(n:Int))=False:=eq_false (by omega);clear hg;simp only[go_sem,hc,bC,bm,bo,bp,bA];exact .inl ⟨rfl,fun j hj=>q3 j (by omega)⟩
theorem SQ (g:FuncId) (ei:dp Tryz.prog g=true) (c0:List Value) (la:Option Addr) (n lc:Nat) (m:Mem) (hn:n<=4000000000) (cell:Nat->List Value) (b8:∀i,i<n->Rd m (bk la (i * 4)) (cell i)/\la≠none/\(cell i).length=4) (P:Nat->Bool)
  (hg:∀i m',i<n->af m m' ->FnH Tryz.prog g [.v (.agg ⟨cell i⟩),.box 0 0] ⟨[⟨0,9,c0.map .v⟩],[]⟩ m' fun r H' _=>r= .v (.bool (P i))/\H' =⟨[⟨0,9,c0.map .v⟩],[]⟩):
  FnH Tryz.prog 232 [.v (.slice la n lc),.cl g [0]] ⟨[⟨0,9,c0.map .v⟩],[]⟩ m fun r H' _=>H' =⟨[⟨0,9,c0.map .v⟩],[]⟩/\r= .v (.bool ((List.range n).any P)):=by
 have hI:=SP g ei c0 la n lc m hn cell b8 P hg;clear hg;refine enter bb aq Tryz.func232 rfl rfl (by kernel_rfl) rfl ?_ ?_
 ·clear hI;simp only[go_sem,bC,bm,bo,bp,bA]
 ·simp only[go_sem,bC,bm,bo,bp,bA];refine ai (hI.mono ?_);clear hI;rintro r H' m2 aK ⟨rfl,h |⟨k,h1,rfl,h2,h3⟩⟩
  ·obtain⟨rfl,h⟩:=h;have he:(List.range n).any P=false:=yM h;simp only[go_sem,bC,bm,bo,bp,bA];rw[he];rfl
  ·have he:(List.range n).any P=true:=List.any_eq_true.2 ⟨k,List.mem_range.2 h1,h2⟩;simp only[go_sem,bC,bm,bo,bp,bA];rw[he];exact aQ (by omega)
theorem SR (g:FuncId) (ei:dp Tryz.prog g=true) (c0:List Value) (la:Option Addr) (n lc:Nat) (m:Mem) (hn:n<=4000000000) (cell:Nat->List Value) (b8:∀i,i<n->Rd m (bk la (i * 4)) (cell i)/\la≠none/\(cell i).length=4) (P:Nat->Bool)
  (hg:∀i m',i<n->af m m' ->FnH Tryz.prog g [.v (.agg ⟨cell i⟩),.box 0 0] ⟨[⟨0,95,c0.map .v⟩],[]⟩ m' fun r H' _=>r= .v (.bool (P i))/\H' =⟨[⟨0,95,c0.map .v⟩],[]⟩):
  FnH Tryz.prog 275 [.v (.slice la n lc),.cl g [0]] ⟨[⟨0,95,c0.map .v⟩],[]⟩ m fun r H' _=>H' =⟨[⟨0,95,c0.map .v⟩],[]⟩/\wY n P r:=by
 refine enter bb aq Tryz.func275 rfl rfl (by kernel_rfl) rfl ?_ ?_
 ·clear hg;simp only[go_sem,bC,bm,bo,bp,bA]
 ·simp only[go_sem,bC,bm,bo,bp,bA];refine cq aq (fun x:Nat×Mem=>⟨[⟨8,[],.v (.int .i64 x.1)⟩,⟨7,[],.v (.int .i64 n)⟩,⟨0,[],.v (.slice la n lc)⟩,⟨1,[],.cl g [0]⟩,⟨4,[],.v (.int .i64 0)⟩],[],[⟨0,95,c0.map .v⟩],[],1,x.2⟩)
   (fun x=>af m x.2/\x.1<=n/\∀j,j<x.1->P j=false) (fun x=>n - x.1) (0,m) (by kernel_rfl) (fun _ _=>aZ rfl) (fun x hx=>hx.1) (fun _=> ?_) ?_ ⟨.inl rfl,aF _,fun j hj=>absurd hj (Nat.not_lt_zero j)⟩ ?_
  ·clear hg;simp only[go_sem,bC,bm,bo,bp,bA]
  ·clear hg;simp only[go_sem,bC,bm,bo,bp,bA];rfl
  ·rintro⟨i,mm⟩ ⟨q1,q2,q3⟩;dsimp only at q1 q2 q3;by_cases aj:i<n
   ·have hc:((i:Int)<(n:Int))=True:=eq_true (by omega);have aI:bS la n (i:Int)=True:=eq_true ⟨by omega,by omega,(b8 i aj).2.1⟩;have au:= @cC _ _ _ 4 (oV q1 (b8 i aj).1) (b8 i aj).2.2;have dd:=hg i mm aj q1;clear hg;cases hp:P i with
    |true=>
     rw[hp] at dd;simp only[go_sem,hc,aI,au,bC,bm,bo,bp,bA];refine⟨ei,bD (dd.mono ?_)⟩;clear dd;rintro r H' m2 aK ⟨rfl,rfl⟩;simp only[go_sem,bC,bm,bo,bp,bA];exact .inr ⟨i,aj,rfl,hp,q3⟩
    |false=>
     rw[hp] at dd;simp only[go_sem,hc,aI,au,bC,bm,bo,bp,bA];refine⟨ei,bD (dd.mono ?_)⟩;clear dd;rintro r H' m2 aK ⟨rfl,rfl⟩;simp only[go_sem,bC,bm,bo,bp,bA];refine⟨by unfold az;omega,(i+1,m2),⟨by omega,.inl rfl⟩,⟨aa q1 (.inr aK),aj,fun j hj=> ?_⟩,by omega⟩;rcases Nat.lt_succ_iff_lt_or_eq.1 hj with hj |rfl
     ·exact q3 j hj
     ·exact hp
   ·have hc:((i:Int)<(n:Int))=False:=eq_false (by omega);clear hg;simp only[go_sem,hc,bC,bm,bo,bp,bA];exact .inl ⟨rfl,fun j hj=>q3 j (by omega)⟩
theorem SS (g:FuncId) (ei:dp Tryz.prog g=true) (c0:List Value) (la:Option Addr) (n lc:Nat) (m:Mem) (hn:n<=4000000000) (cell:Nat->List Value) (b8:∀i,i<n->Rd m (bk la (i * 4)) (cell i)/\la≠none/\(cell i).length=4) (P:Nat->Bool)
  (hg:∀i m',i<n->af m m' ->FnH Tryz.prog g [.v (.agg ⟨cell i⟩),.box 0 0] ⟨[⟨0,95,c0.map .v⟩],[]⟩ m' fun r H' _=>r= .v (.bool (P i))/\H' =⟨[⟨0,95,c0.map .v⟩],[]⟩):
  FnH Tryz.prog 232 [.v (.slice la n lc),.cl g [0]] ⟨[⟨0,95,c0.map .v⟩],[]⟩ m fun r H' _=>H' =⟨[⟨0,95,c0.map .v⟩],[]⟩/\r= .v (.bool ((List.range n).any P)):=by
 have hI:=SR g ei c0 la n lc m hn cell b8 P hg;clear hg;refine enter bb aq Tryz.func232 rfl rfl (by kernel_rfl) rfl ?_ ?_
 ·clear hI;simp only[go_sem,bC,bm,bo,bp,bA]
 ·simp only[go_sem,bC,bm,bo,bp,bA];refine ai (hI.mono ?_);clear hI;rintro r H' m2 aK ⟨rfl,h |⟨k,h1,rfl,h2,h3⟩⟩
  ·obtain⟨rfl,h⟩:=h;have he:(List.range n).any P=false:=yM h;simp only[go_sem,bC,bm,bo,bp,bA];rw[he];rfl
  ·have he:(List.range n).any P=true:=List.any_eq_true.2 ⟨k,List.mem_range.2 h1,h2⟩;simp only[go_sem,bC,bm,bo,bp,bA];rw[he];exact aQ (by omega)
theorem UM (g:FuncId) (ei:dp Tryz.prog g=true) (la:Option Addr) (n lc:Nat) (m:Mem) (hn:n<=4000000000) (cell:Nat->List Value) (b8:∀i,i<n->Rd m (bk la (i * 8)) (cell i)/\la≠none/\(cell i).length=8) (P:Nat->Bool)
  (hg:∀i m',i<n->af m m' ->FnH Tryz.prog g [.v (.agg ⟨cell i⟩)] ⟨[],[]⟩ m' fun r H' _=>r= .v (.bool (P i))/\H' =⟨[],[]⟩):
  FnH Tryz.prog 235 [.v (.slice la n lc),.v (.func (.func g) ⟨[]⟩ ⟨[]⟩)] ⟨[],[]⟩ m fun r H' _=>H' =⟨[],[]⟩/\wY n P r:=by
 refine enter bb aq Tryz.func235 rfl rfl (by kernel_rfl) rfl ?_ ?_
 ·clear hg;simp only[go_sem,bC,bm,bo,bp,bA]
 ·simp only[go_sem,bC,bm,bo,bp,bA];refine cq aq (fun x:Nat×Mem=>⟨[⟨8,[],.v (.int .i64 x.1)⟩,⟨7,[],.v (.int .i64 n)⟩,⟨0,[],.v (.slice la n lc)⟩,⟨1,[],.v (.func (.func g) ⟨[]⟩ ⟨[]⟩)⟩,⟨4,[],.v (.int .i64 0)⟩],[],[],[],0,x.2⟩)
   (fun x=>af m x.2/\x.1<=n/\∀j,j<x.1->P j=false) (fun x=>n - x.1) (0,m) (by kernel_rfl) (fun _ _=>aZ rfl) (fun x hx=>hx.1) (fun _=> ?_) ?_ ⟨.inl rfl,aF _,fun j hj=>absurd hj (Nat.not_lt_zero j)⟩ ?_
  ·clear hg;simp only[go_sem,bC,bm,bo,bp,bA]
  ·clear hg;simp only[go_sem,bC,bm,bo,bp,bA];rfl
  ·rintro⟨i,mm⟩ ⟨q1,q2,q3⟩;dsimp only at q1 q2 q3;by_cases aj:i<n
   ·have hc:((i:Int)<(n:Int))=True:=eq_true (by omega);have aI:bS la n (i:Int)=True:=eq_true ⟨by omega,by omega,(b8 i aj).2.1⟩;have au:= @cC _ _ _ 8 (oV q1 (b8 i aj).1) (b8 i aj).2.2;have dd:=hg i mm aj q1;clear hg;cases hp:P i with
    |true=>
     rw[hp] at dd;simp only[go_sem,hc,aI,au,bC,bm,bo,bp,bA];refine⟨ei,bD (dd.mono ?_)⟩;clear dd;rintro r H' m2 aK ⟨rfl,rfl⟩;simp only[go_sem,bC,bm,bo,bp,bA];exact .inr ⟨i,aj,rfl,hp,q3⟩
    |false=>
     rw[hp] at dd;simp only[go_sem,hc,aI,au,bC,bm,bo,bp,bA];refine⟨ei,bD (dd.mono ?_)⟩;clear dd;rintro r H' m2 aK ⟨rfl,rfl⟩;simp only[go_sem,bC,bm,bo,bp,bA];refine⟨by unfold az;omega,(i+1,m2),⟨by omega,.inl rfl⟩,⟨aa q1 (.inr aK),aj,fun j hj=> ?_⟩,by omega⟩;rcases Nat.lt_succ_iff_lt_or_eq.1 hj with hj |rfl
     ·exact q3 j hj
     ·exact hp
   ·have hc:((i:Int)<(n:Int))=False:=eq_false (by omega);clear hg;simp only[go_sem,hc,bC,bm,bo,bp,bA];exact .inl ⟨rfl,fun j hj=>q3 j (by omega)⟩
theorem UN (g:FuncId) (ei:dp Tryz.prog g=true) (la:Option Addr) (n lc:Nat) (m:Mem) (hn:n<=4000000000) (cell:Nat->List Value) (b8:∀i,i<n->Rd m (bk la (i * 8)) (cell i)/\la≠none/\(cell i).length=8) (P:Nat->Bool)
  (hg:∀i m',i<n->af m m' ->FnH Tryz.prog g [.v (.agg ⟨cell i⟩)] ⟨[],[]⟩ m' fun r H' _=>r= .v (.bool (P i))/\H' =⟨[],[]⟩):
  FnH Tryz.prog 148 [.v (.slice la n lc),.v (.func (.func g) ⟨[]⟩ ⟨[]⟩)] ⟨[],[]⟩ m fun r H' _=>H' =⟨[],[]⟩/\r= .v (.bool ((List.range n).any P)):=by
 have hI:=UM g ei la n lc m hn cell b8 P hg;clear hg;refine enter bb aq Tryz.func148 rfl rfl (by kernel_rfl) rfl ?_ ?_
 ·clear hI;simp only[go_sem,bC,bm,bo,bp,bA]
 ·simp only[go_sem,bC,bm,bo,bp,bA];refine ai (hI.mono ?_);clear hI;rintro r H' m2 aK ⟨rfl,h |⟨k,h1,rfl,h2,h3⟩⟩
  ·obtain⟨rfl,h⟩:=h;have he:(List.range n).any P=false:=yM h;simp only[go_sem,bC,bm,bo,bp,bA];rw[he];rfl
  ·have he:(List.range n).any P=true:=List.any_eq_true.2 ⟨k,List.mem_range.2 h1,h2⟩;simp only[go_sem,bC,bm,bo,bp,bA];rw[he];exact aQ (by omega)
theorem UO (g:FuncId) (ei:dp Tryz.prog g=true) (c0:List Value) (la:Option Addr) (n lc:Nat) (m:Mem) (hn:n<=4000000000) (cell:Nat->List Value) (b8:∀i,i<n->Rd m (bk la (i * 7)) (cell i)/\la≠none/\(cell i).length=7) (P:Nat->Bool)
  (hg:∀i m',i<n->af m m' ->FnH Tryz.prog g [.v (.agg ⟨cell i⟩),.box 0 0] ⟨[⟨0,9,c0.map .v⟩],[]⟩ m' fun r H' _=>r= .v (.bool (P i))/\H' =⟨[⟨0,9,c0.map .v⟩],[]⟩):
  FnH Tryz.prog 277 [.v (.slice la n lc),.cl g [0]] ⟨[⟨0,9,c0.map .v⟩],[]⟩ m fun r H' _=>H' =⟨[⟨0,9,c0.map .v⟩],[]⟩/\wY n P r:=by
 refine enter bb aq Tryz.func277 rfl rfl (by kernel_rfl) rfl ?_ ?_
 ·clear hg;simp only[go_sem,bC,bm,bo,bp,bA]
 ·simp only[go_sem,bC,bm,bo,bp,bA];refine cq aq (fun x:Nat×Mem=>⟨[⟨8,[],.v (.int .i64 x.1)⟩,⟨7,[],.v (.int .i64 n)⟩,⟨0,[],.v (.slice la n lc)⟩,⟨1,[],.cl g [0]⟩,⟨4,[],.v (.int .i64 0)⟩],[],[⟨0,9,c0.map .v⟩],[],1,x.2⟩)
   (fun x=>af m x.2/\x.1<=n/\∀j,j<x.1->P j=false) (fun x=>n - x.1) (0,m) (by kernel_rfl) (fun _ _=>aZ rfl) (fun x hx=>hx.1) (fun _=> ?_) ?_ ⟨.inl rfl,aF _,fun j hj=>absurd hj (Nat.not_lt_zero j)⟩ ?_
  ·clear hg;simp only[go_sem,bC,bm,bo,bp,bA]
  ·clear hg;simp only[go_sem,bC,bm,bo,bp,bA];rfl
  ·rintro⟨i,mm⟩ ⟨q1,q2,q3⟩;dsimp only at q1 q2 q3;by_cases aj:i<n
   ·have hc:((i:Int)<(n:Int))=True:=eq_true (by omega);have aI:bS la n (i:Int)=True:=eq_true ⟨by omega,by omega,(b8 i aj).2.1⟩;have au:= @cC _ _ _ 7 (oV q1 (b8 i aj).1) (b8 i aj).2.2;have dd:=hg i mm aj q1;clear hg;cases hp:P i with
    |true=>
     rw[hp] at dd;simp only[go_sem,hc,aI,au,bC,bm,bo,bp,bA];refine⟨ei,bD (dd.mono ?_)⟩;clear dd;rintro r H' m2 aK ⟨rfl,rfl⟩;simp only[go_sem,bC,bm,bo,bp,bA];exact .inr ⟨i,aj,rfl,hp,q3⟩
    |false=>
     rw[hp] at dd;simp only[go_sem,hc,aI,au,bC,bm,bo,bp,bA];refine⟨ei,bD (dd.mono ?_)⟩;clear dd;rintro r H' m2 aK ⟨rfl,rfl⟩;simp only[go_sem,bC,bm,bo,bp,bA];refine⟨by unfold az;omega,(i+1,m2),⟨by omega,.inl rfl⟩,⟨aa q1 (.inr aK),aj,fun j hj=> ?_⟩,by omega⟩;rcases Nat.lt_succ_iff_lt_or_eq.1 hj with hj |rfl
     ·exact q3 j hj
     ·exact hp
   ·have hc:((i:Int)<(n:Int))=False:=eq_false (by omega);clear hg;simp only[go_sem,hc,bC,bm,bo,bp,bA];exact .inl ⟨rfl,fun j hj=>q3 j (by omega)⟩
def wB (E:List Cd) (n:Nm) (k:Int) (s:Nm):Bool:=match cU E s n k with
 |some m=> !hasB m.fl 8
 |none=>false
theorem IK {α:Type} (P:α->Bool) (l:List α) {i:Nat} (hi:i<l.length):(l.take (i+1)).filter P=(l.take i).filter P++(if P l[i]=true then[l[i]] else[]):=by
 rw[vE _ hi,List.filter_append];congr 1
 cases h:P l[i]<;>simp [h]
theorem JY {α:Type} (P:α->Bool) (l:List α) (i:Nat):((l.take i).filter P).length<=l.length:=
 cQ (List.length_filter_le _ _) (by rw[List.length_take];omega)
theorem A5 {α:Type} (Q:α->Bool) (z:α) (w:List α):((List.range w.length).any fun i=>Q (w.getD i z))=w.any Q:=by
 rw[Bool.eq_iff_iff,List.any_eq_true,List.any_eq_true];constructor
 ·rintro⟨i,hi,hq⟩;have hi:=List.mem_range.1 hi;refine⟨w[i],List.getElem_mem hi,?_⟩;rwa [List.getD_eq_getElem?_getD,List.getElem?_eq_getElem hi] at hq
 ·rintro⟨x,hx,hq⟩;obtain⟨i,hi,rfl⟩:=List.getElem_of_mem hx;refine⟨i,List.mem_range.2 hi,?_⟩;rwa [List.getD_eq_getElem?_getD,List.getElem?_eq_getElem hi]
theorem P8 {l:List Nm} {i:Nat} (hi:i<l.length):(strs l).getD i undef= .string (bs l[i]):=by
 unfold strs;rw[List.getD_eq_getElem?_getD,List.getElem?_map,List.getElem?_eq_getElem hi];rfl
def fB (E:List Cd) (w:List Nm) (s:Nm):Bool:= !(w.any fun t=> !decide (t=s)&&eX E t s)
theorem Ic {m:Mem} {a:Option Addr} {w:List Nm} (h:aw m a w.length 1 (strs w)) {i:Nat} (hi:i<w.length):Rd m (bk a i) [.string (bs (w.getD i []))]/\a≠none:=by
 have cW:=dM h hi;rw[Nat.mul_one] at cW;refine⟨?_,cW.2⟩;have e:((strs w).drop i).take 1=[.string (bs (w.getD i []))]:=by
  unfold strs;rw[<- List.map_drop,<- List.map_take,List.drop_eq_getElem_cons hi,List.take_succ_cons,List.take_zero,List.getD_eq_getElem?_getD,List.getElem?_eq_getElem hi];rfl
 rw[e] at cW;exact cW.1
section
variable {ad:Addr} {pr E:List Cd} {b:Nat} {a:Option Addr} {c:Nat} {L:List Cc}
theorem So (l:List Nm) (la:Option Addr) (lc:Nat) (n:Nm) (k:Int) (m:Mem) (hC:Ck m ad pr E b a c L) (hr:aw m la l.length 1 (strs l)) (hl:l.length<=1100000):
  FnH Tryz.prog 243 [.v (.pointer (some ad)),.v (.slice la l.length lc),.v (.string (bs n)),.v (.int .i64 k)] ⟨[],[]⟩ m
   fun r H' m' =>af m m' /\∃i u,r= .vec i u/\H' =⟨[],[⟨i,u,9,1,(gp E l n k).length,strs (gp E l n k)⟩]⟩:=by
 have hW:l.filter (wB E n k)=kF E l n k:=rfl;have hK:(kF E l n k).filter (fun s=> !((kF E l n k).any fun t=> !decide (t=s)&&eX E t s))=gp E l n k:=rfl;have Nt:(kF E l n k).length<=l.length:=List.length_filter_le _ _;revert hK hW Nt;generalize gp E l n k=K
 generalize kF E l n k=w
 intro hW hK Nt;refine br aq Tryz.func243 ?_
 ·simp only[go_sem];refine yk 9 9 1 (by decide) rfl ?_;simp only[go_sem];refine cq aq (fun i:Nat=>⟨[⟨19,[],.v (.int .i64 i)⟩,⟨18,[],.v (.int .i64 l.length)⟩,⟨17,[],.v (.slice la l.length lc)⟩,⟨9,[],.vec 1 ((l.take i).filter (wB E n k)).length⟩,⟨2,[],.v (.string (bs n))⟩,⟨3,[],.v (.int .i64 k)⟩,⟨4,[],.box 0 0⟩,⟨8,[],.v (.slice none 0 0)⟩],[],[⟨0,72,[.v (.pointer (some ad))]⟩],[⟨1,((l.take i).filter (wB E n k)).length,9,1,((l.take i).filter (wB E n k)).length,strs ((l.take i).filter (wB E n k))⟩],2,m⟩)
   (fun i=>i<=l.length) (fun i=>l.length - i) 0 (by kernel_rfl) (fun _ _=>aZ rfl) (fun x hx=> .inl rfl) (fun _=> ?_) ?_ (aF _) ?_
  ·simp only[go_sem]
  ·simp only[go_sem];exact⟨⟨rfl,rfl⟩,rfl,rfl,rfl⟩
  ·intro i i1;by_cases aj:i<l.length
   ·have hc:((i:Int)<(l.length:Int))=True:=eq_true (by omega);have aI:=js hr aj;have au:= @iL _ _ _ _ hr _ aj (.string (bs l[i])) (by unfold strs;rw[List.getElem?_map,List.getElem?_eq_getElem aj];rfl);have hD:=vz l[i] n k m hC;have ek:=IK (wB E n k) l aj;have gX:=JY (wB E n k) l i;have nw:wB E n k l[i]=(match cU E l[i] n k with |some m=> !hasB m.fl 8 |none=>false):=rfl;revert hD nw;generalize cU E l[i] n k=o
    intro hD nw;simp only[go_sem,hc,aI,au];refine ai (hD.mono ?_);clear hD;rintro r H' m1 aR ⟨rfl,rfl,Y,h1,rfl⟩;cases o with
    |none=>
     have nw:wB E n k l[i]=false:=nw;rw[nw,ae (by decide),List.append_nil] at ek;simp only[go_sem,Mc.cs];exact⟨by unfold az;omega,i+1,⟨⟨by omega,by rw[ek]⟩,by rw[ek],by rw[ek],by rw[ek]⟩,aj,by omega⟩
    |some d=>
     have nw:wB E n k l[i]= !hasB d.fl 8:=nw;have abd:Y.fl=d.fl:=h1.x.fl;rw[<- abd,hasB,Bool.not_not] at nw;simp only[go_sem,Mc.cs];refine⟨fun h0=> ?_,fun h0=> ?_⟩
     ·rw[aQ h0] at nw;rw[nw,ak rfl] at ek;refine⟨jz (by omega) (by decide),by unfold az;omega,i+1,⟨⟨by omega,?_⟩,?_,?_,?_⟩,aj,by omega⟩
      ·rw[ek,bc];rfl
      ·rw[ek,bc];rfl
      ·rw[ek,bc];rfl
      ·rw[ek,AR]
     ·rw[ab h0] at nw;rw[nw,ae (by decide),List.append_nil] at ek;exact⟨by unfold az;omega,i+1,⟨⟨by omega,by rw[ek]⟩,by rw[ek],by rw[ek],by rw[ek]⟩,aj,by omega⟩
   ·have hc:((i:Int)<(l.length:Int))=False:=eq_false (by omega);have hfw:(l.take i).filter (wB E n k)=w:=by rw[jS (by omega)];exact hW
    simp only[go_sem,hc,hfw];refine yk 14 9 1 (by decide) rfl ?_;simp only[go_sem]
    refine cq aq (fun x:Nat×Mem=>⟨[⟨45,[],.v (.int .i64 x.1)⟩,⟨44,[],.v (.int .i64 w.length)⟩,⟨43,[],.vec 1 w.length⟩,⟨9,[],.vec 1 w.length⟩,⟨14,[],.vec 2 ((w.take x.1).filter (fB E w)).length⟩,⟨4,[],.box 0 0⟩,⟨8,[],.v (.slice none 0 0)⟩],[],[⟨0,72,[.v (.pointer (some ad))]⟩],
     [⟨2,((w.take x.1).filter (fB E w)).length,9,1,((w.take x.1).filter (fB E w)).length,strs ((w.take x.1).filter (fB E w))⟩,⟨1,w.length,9,1,w.length,strs w⟩],3,x.2⟩)
     (fun x=>af m x.2/\x.1<=w.length) (fun x=>w.length - x.1) (0,m) (by kernel_rfl) (fun _ _=>aZ rfl) (fun x hx=>hx.1) (fun _=> ?_) ?_ ⟨.inl rfl,aF _⟩ ?_
    ·simp only[go_sem]
    ·simp only[go_sem];exact⟨⟨rfl,rfl⟩,rfl,rfl,rfl⟩
    ·rintro⟨j,mm⟩ ⟨j1,j2⟩;dsimp only at j1 j2;have hC:=hC.up j1;by_cases iz:j<w.length
     ·have ko:((j:Int)<(w.length:Int))=True:=eq_true (by omega);have hg:=P8 iz;have eE:(strs w).length=w.length:=by unfold strs;simp
      have ek:=IK (fB E w) w iz;have gX:=JY (fB E w) w j;have aU:=fun m' (hle:af mm m') x=>QC w[j] x m' (hC.up hle)
      have hnn:(0:Int)<=j:=by omega
      simp only[go_sem,ko,hg,eE,iz,hnn];refine⟨by kernel_rfl,fun a1 c1 m1 e1 e2 e3=>bD ((UJ 276 (by kernel_rfl) [.string (bs w[j])] [.pointer (some ad)] a1 w.length c1 m1 (by omega) (fun i=> .string (bs (w.getD i []))) (fun i hi=> ?_) (fun i=> !decide (w.getD i []=w[j])&&eX E (w.getD i []) w[j]) (fun i m' hi hle=>aU m' (aa (.inr e1) hle) _)).mono ?_)⟩
      ·have cW:=Ic e3 hi;exact cW
      ·clear aU;rintro r H' m2 aK ⟨rfl,rfl⟩;have han:((List.range w.length).any fun i=> !decide (w.getD i []=w[j])&&eX E (w.getD i []) w[j])= !fB E w w[j]:=by
        unfold fB;rw[Bool.not_not];exact A5 (fun t=> !decide (t=w[j])&&eX E t w[j]) [] w
       rw[han];have hle:=aa j1 (aa (.inr e1) (.inr aK));cases CU:fB E w w[j] with
       |true=>
        rw[CU,ak rfl] at ek;simp only[go_sem,aG,List.map_nil];refine⟨jz (by omega) (by decide),by unfold az;omega,(j+1,m2),⟨⟨by omega,?_⟩,⟨?_,?_,?_⟩,.inl rfl⟩,⟨hle,iz⟩,by omega⟩
        ·dsimp only;rw[ek,bc];rfl
        ·dsimp only;rw[ek,bc];rfl
        ·dsimp only;rw[ek,bc];rfl
        ·dsimp only;rw[ek,AR]
       |false=>
        rw[CU,ae (by decide),List.append_nil] at ek;simp only[go_sem,aG,List.map_nil];exact⟨by unfold az;omega,(j+1,m2),⟨⟨by omega,by rw[ek]⟩,⟨by rw[ek],by rw[ek],by rw[ek]⟩,.inl rfl⟩,⟨hle,iz⟩,by omega⟩
     ·have ko:((j:Int)<(w.length:Int))=False:=eq_false (by omega);have hfk:(w.take j).filter (fB E w)=K:=by rw[jS (by omega)];exact hK
      simp only[go_sem,ko,hfk];exact⟨j1,_,_,rfl,rfl⟩
theorem Iv (l:List Nm) (la:Option Addr) (lc:Nat) (n:Nm) (k:Int) (m:Mem) (hC:Ck m ad pr E b a c L) (hr:aw m la l.length 1 (strs l)) (hl:l.length<=1100000):
  FnH Tryz.prog 243 [.v (.pointer (some ad)),.v (.slice la l.length lc),.v (.string (bs n)),.v (.int .i64 k)] ⟨[],[]⟩ m
   fun r H' m' =>af m m' /\H' =⟨[],[]⟩/\∃a c,r= .v (.slice a (gp E l n k).length c)/\(gp E l n k).length<=c/\aw m' a (gp E l n k).length 1 (strs (gp E l n k)):=by
 refine nQ ((So l la lc n k m hC hr hl).mono ?_);rintro r H' m' hm ⟨l1,i,u,rfl,rfl⟩;exact yo (b:=⟨i,u,9,1,(gp E l n k).length,strs (gp E l n k)⟩) (by simp [cz]) ⟨[],[]⟩ (List.Sublist.refl _) (List.nil_sublist _) fun a c m1 h1 h2 h3=>⟨aa l1 (.inr h1),rfl,a,c,rfl,h2,h3⟩
end
theorem Z4:cH Tryz.prog 87=some (some 9):=by kernel_rfl
theorem aaz:aM Tryz.prog 87=9:=by kernel_rfl
theorem ZN:fV Tryz.prog 87=true:=by kernel_rfl
theorem V9:cY Tryz.prog 87=some [.v (.pointer none),.v (.slice none 0 0),.v (.int .i64 0),.v (.bool false),.v (.bool false),.v (.int .i64 0),.v (.int .u8 0),.v (.string (bs [])),.v (.slice none 0 0)]:=by kernel_rfl
theorem Xi:bf Tryz.prog 87 0=some (0,none,1):=by kernel_rfl
theorem Xh:bf Tryz.prog 87 1=some (1,some 8,8):=by kernel_rfl
theorem Z7:cH Tryz.prog 54=some (some 8):=by kernel_rfl
theorem aaC:aM Tryz.prog 54=8:=by kernel_rfl
theorem ZQ:fV Tryz.prog 54=true:=by kernel_rfl
theorem Wb:cY Tryz.prog 54=some [.v (.slice none 0 0),.v (.int .i64 0),.v (.bool false),.v (.bool false),.v (.int .i64 0),.v (.int .u8 0),.v (.string (bs [])),.v (.slice none 0 0)]:=by kernel_rfl
theorem Xr:bf Tryz.prog 54 0=some (0,none,1):=by kernel_rfl
theorem Xq:bf Tryz.prog 54 1=some (1,none,1):=by kernel_rfl
theorem Xp:bf Tryz.prog 54 2=some (2,none,1):=by kernel_rfl
theorem Xo:bf Tryz.prog 54 3=some (3,none,1):=by kernel_rfl
theorem Xn:bf Tryz.prog 54 4=some (4,some 3,3):=by kernel_rfl
theorem Xm:bf Tryz.prog 54 5=some (7,none,1):=by kernel_rfl
attribute [go_sem] Z4 aaz ZN V9 Xi Xh Z7 aaC ZQ Wb Xr Xq Xp Xo Xn Xm
def av (ad:Addr) (da:Option Addr) (dc:Nat) (S:Sc) (la:Option Addr) (lc:Nat):List Value:=
 [.pointer (some ad),.slice da S.pr.length dc,.int .i64 S.ci,.bool S.st,.bool S.su,.int .i64 S.res.dim,.int .u8 S.res.base,.string (bs S.res.name),.slice la S.loc.length lc]
structure Tp (m:Mem) (S:Sc) (E:List Cd) (ad:Addr) (da:Option Addr) (dc:Nat) (la:Option Addr) (lc:Nat) (b:Nat) (a:Option Addr) (c:Nat) (L:List Cc):Prop where
 ck:Ck m ad S.pr E b a c L
 pr:fi m S.pr da S.pr.length dc
 ci:S.ci<S.pr.length
 loc:aw m la S.loc.length 4 (flat Pc.cs S.loc)
 lcp:S.loc.length<=lc
 ll:S.loc.length<=2000000000
theorem Tp.up {m m' :Mem} {S:Sc} {E:List Cd} {ad:Addr} {da:Option Addr} {dc:Nat} {la:Option Addr} {lc:Nat} {b:Nat} {a:Option Addr} {c:Nat} {L:List Cc} (hle:af m m') (h:Tp m S E ad da dc la lc b a c L):Tp m' S E ad da dc la lc b a c L:=
 ⟨h.ck.up hle,jv hle h.pr,h.ci,aN hle h.loc,h.lcp,h.ll⟩
def TpR (m:Mem) (S:Sc) (E:List Cd) (tp:List Value):Prop:=∃ad da dc la lc b a c L,tp=av ad da dc S la lc/\Tp m S E ad da dc la lc b a c L
theorem Tp.r {m:Mem} {S:Sc} {E:List Cd} {ad:Addr} {da:Option Addr} {dc:Nat} {la:Option Addr} {lc:Nat} {b:Nat} {a:Option Addr} {c:Nat} {L:List Cc} (h:Tp m S E ad da dc la lc b a c L):
  TpR m S E [.pointer (some ad),.slice da S.pr.length dc,.int .i64 S.ci,.bool S.st,.bool S.su,.int .i64 S.res.dim,.int .u8 S.res.base,.string (bs S.res.name),.slice la S.loc.length lc]=True:=eq_true ⟨ad,da,dc,la,lc,b,a,c,L,rfl,h⟩
theorem TpR.up {m m' :Mem} {S:Sc} {E:List Cd} {tp:List Value} (hle:af m m') (h:TpR m S E tp):TpR m' S E tp:=by
 obtain⟨ad,da,dc,la,lc,b,a,c,L,e,h⟩:=h;exact⟨ad,da,dc,la,lc,b,a,c,L,e,h.up hle⟩
theorem mG {m:Mem} {pr:List Cd} {a:Option Addr} {n c:Nat} (h:fi m pr a n c) {i:Nat} (hi:i<pr.length):∃X:Cc,Rd m (bk a (i * 7)) X.cs/\a≠none/\X.name=pr[i].name/\CdX m pr[i] X:=by
 obtain⟨rfl,_,_,xs,h1,h2⟩:=h;obtain⟨X,q1,q2,q3,q4⟩:=Mp h1 h2 hi;exact⟨X,q1,q2,q3,N1 q4⟩
section
variable {S:Sc} {E:List Cd} {ad:Addr} {da:Option Addr} {dc:Nat} {la:Option Addr} {lc:Nat} {b:Nat} {a:Option Addr} {c:Nat} {L:List Cc}
theorem X0 (h:S.ci<S.pr.length):dh S=S.pr[S.ci]:=by
 unfold dh;rw[List.getD_eq_getElem?_getD,List.getElem?_eq_getElem h];rfl
theorem Hu (m:Mem) (hT:Tp m S E ad da dc la lc b a c L):FnH Tryz.prog 246 [.v (.agg ⟨av ad da dc S la lc⟩)] ⟨[],[]⟩ m
  fun r H' m' =>m' =m/\H' =⟨[],[]⟩/\∃X:Cc,r= .agg (X.cs.map .v)/\CdX m (dh S) X:=by
 rw[X0 hT.ci];obtain⟨X,h1,h2,h3,h4⟩:=mG hT.pr hT.ci;have aI:bS da S.pr.length (S.ci:Int)=True:=eq_true ⟨by omega,by have:=hT.ci;omega,h2⟩;have au:= @cC _ _ _ 7 h1 rfl;simp only[Cc.cs] at au;refine enter bb aq Tryz.func246 rfl rfl (by kernel_rfl) rfl ?_ ?_
 ·simp only[go_sem,av]
 ·simp only[go_sem,av,aI,au];exact⟨X,rfl,h4⟩
theorem C9 (m:Mem) (hT:Tp m S E ad da dc la lc b a c L):FnH Tryz.prog 246 [.v (.agg ⟨av ad da dc S la lc⟩)] ⟨[],[]⟩ m
  fun r H' m' =>m' =m/\H' =⟨[],[]⟩/\∃X:Cc,r= .v (.agg ⟨X.cs⟩)/\CdX m (dh S) X:=by
 refine jT (Hu m hT) ?_;rintro r H' m' hm ⟨h1,h2,X,rfl,h3⟩;exact⟨.v (.agg ⟨X.cs⟩),fun V=>by show Value.agg ⟨X.cs⟩=Value.agg ⟨_⟩;rw[lI],h1,h2,X,rfl,h3⟩
theorem VW (o:Nm) (fl:Int) (m:Mem) (hT:Tp m S E ad da dc la lc b a c L):FnH Tryz.prog 262 [.v (.agg ⟨av ad da dc S la lc⟩),.v (.string (bs o)),.v (.int .i64 fl)] ⟨[],[]⟩ m
  fun r H' _=>r= .v (.bool (jJ S o fl))/\H' =⟨[],[]⟩:=by
 have hK:jJ S o fl=(!hasB fl 2||decide (o=(dh S).name)):=rfl;rw[hasB,Bool.not_not] at hK;have gk:=C9 m hT;refine enter bb aq Tryz.func262 rfl rfl (by kernel_rfl) rfl ?_ ?_
 ·clear gk;simp only[go_sem,av]
 ·unfold av at gk;simp only[go_sem,av];refine⟨fun h0=>ai ((aD gk fun V=>rfl).mono ?_),fun h0=>by rw[hK,aQ h0];rfl⟩;clear gk;rintro r H' m1 aR ⟨rfl,rfl,X,rfl,hX⟩;simp only[go_sem,Cc.cs];rw[hK,ab h0,Bool.false_or,hX.name]
def zn (S:Sc) (E:List Cd):Mem->List Value->Option (Prop×Value)
 |m,[.agg ⟨tp⟩,.string o,.int .i64 fl]=>some (TpR m S E tp,.bool (jJ S (tl o) fl))
 |_,_=>none
attribute [go_sem] zn.eq_1
theorem KC (S:Sc) (E:List Cd):∀m aO y,zn S E m aO=some y->y.1->FnH Tryz.prog 262 (aO.map SV.v) ⟨[],[]⟩ m fun r H' _=>r= .v y.2/\H' =⟨[],[]⟩:=fun m aO y hy hB=>by
 unfold zn at hy;split at hy
 ·rename_i tp o fl;cases hy;obtain⟨ad,da,dc,la,lc,b,a,c,L,rfl,hT⟩:=hB;have:=VW (tl o) fl m hT;rwa [eY] at this
 ·cases hy
abbrev M0 (pr E:List Cd):Cfg:=kZ (fun _=>false) [(42,yT pr E fun t u=> .bool (cD E t u))]
theorem FJ (pr E:List Cd):cw (M0 pr E) Tryz.prog:=fG (by kernel_rfl) (Jv fun p t u m h=>Ke p t u m h) rK
theorem Kl {m:Mem} {a:Option Addr} {n:Nat} {l:List Ty} (h:aw m a n 3 (flat aB l)) (hn:n=l.length) {i:Nat} (hi:i<l.length):Rd m (bk a (i * 3)) (aB l[i])/\a≠none:=by
 have hc:=dM h (by omega:i<n);rwa [mK (f:=aB) (sz:=3) (fun _=>rfl) hi] at hc
theorem yn {m:Mem} {a:Option Addr} {n:Nat} {l:List Pc} (h:aw m a n 4 (flat Pc.cs l)) (hn:n=l.length) {i:Nat} (hi:i<l.length):Rd m (bk a (i * 4)) l[i].cs/\a≠none:=by
 have hc:=dM h (by omega:i<n);rwa [mK (f:=Pc.cs) (sz:=4) (fun _=>rfl) hi] at hc
theorem Kf (ps:List Pc) (ts:List Ty) (pa ta:Option Addr) (pn pc tn tc:Nat) (m:Mem) (hT:Tp m S E ad da dc la lc b a c L) (hp:aw m pa pn 4 (flat Pc.cs ps)) (hpn:pn=ps.length) (ht:aw m ta tn 3 (flat aB ts)) (Gm:tn=ts.length) (hl:ps.length<=ts.length) (hb:ps.length<=ay):
  FnH Tryz.prog 263 [.v (.agg ⟨av ad da dc S la lc⟩),.v (.slice pa pn pc),.v (.slice ta tn tc)] ⟨[],[]⟩ m fun r H' m' =>m' =m/\H' =⟨[],[]⟩/\r= .v (.int .i64 (gw E ps ts)):=by
 have aS:=hT.ck.chk;generalize hK:gw E ps ts=K
 refine enter (M0 S.pr E) (FJ S.pr E) Tryz.func263 rfl rfl (by kernel_rfl) rfl ?_ ?_
 ·simp only[go_sem,av]
 ·simp only[go_sem,av];refine cq (FJ S.pr E) (fun i:Nat=>⟨[⟨11,[],.v (.int .i64 i)⟩,⟨10,[],.v (.int .i64 pn)⟩,⟨9,[],.v (.slice pa pn pc)⟩,⟨2,[],.v (.slice ta tn tc)⟩,⟨3,[],.box 0 0⟩,⟨6,[],.v (.int .i64 0)⟩],[],[⟨0,87,[.v (.pointer (some ad)),.v (.slice da S.pr.length dc),.v (.int .i64 S.ci),.v (.bool S.st),.v (.bool S.su),.v (.int .i64 S.res.dim),.v (.int .u8 S.res.base),.v (.string (bs S.res.name)),.v (.slice la S.loc.length lc)]⟩],[],1,m⟩)
   (fun i=>i<=ps.length/\gw E (ps.drop i) (ts.drop i)=K) (fun i=>ps.length - i) 0 (by kernel_rfl) (fun _ _=>aZ rfl) (fun x hx=> .inl rfl) (fun _=> ?_) ?_ ⟨aF _,hK⟩ ?_
  ·simp only[go_sem]
  ·simp only[go_sem];exact rfl
  ·rintro i ⟨i1,i2⟩;by_cases aj:i<ps.length
   ·have hc:((i:Int)<(pn:Int))=True:=eq_true (by omega);have zu:i<ts.length:=by omega
    rw[List.drop_eq_getElem_cons aj,List.drop_eq_getElem_cons zu,gw] at i2;have q1:=yn hp hpn aj;have q2:=Kl ht Gm zu;have aI:bS pa pn (i:Int)=True:=eq_true ⟨by omega,by omega,q1.2⟩;have MJ:bS ta tn (i:Int)=True:=eq_true ⟨by omega,by omega,q2.2⟩;have au:= @cC _ _ _ 4 q1.1 rfl;have FT:= @cC _ _ _ 3 q2.1 rfl;simp only[Pc.cs] at au;simp only[aB] at FT;simp only[go_sem,hc,aI,MJ,au,FT,aS];refine vO (FJ S.pr E) (by kernel_rfl) (by kernel_rfl) (by kernel_rfl) ?_;simp only[go_sem,hc,aI,MJ,au,FT,aS];refine⟨fun h0=> ?_,fun h0=>⟨by unfold az;unfold ay at hb;omega,i+1,rfl,⟨aj,?_⟩,by omega⟩⟩
    ·rw[ae (by rw[show cD E ts[i] ps[i].ty=false from h0];decide)] at i2;exact i2
    ·rw[ak (show cD E ts[i] ps[i].ty=true from h0)] at i2;exact i2
   ·have hc:((i:Int)<(pn:Int))=False:=eq_false (by omega);rw[List.drop_of_length_le (by omega)] at i2;rw[gw] at i2
    ·simp only[go_sem,hc];exact i2
    ·intros;simp at *
end
abbrev F2 (S:Sc) (E:List Cd):Cfg:=kZ (fun _=>false) [(262,zn S E)]
theorem Mx (S:Sc) (E:List Cd):cw (F2 S E) Tryz.prog:=fG (by kernel_rfl) (KC S E) rK
structure TsA (m:Mem) (ts:List Ty) (ta:Option Addr) (tn tc:Nat):Prop where
 n:tn=ts.length
 c:tn<=tc
 rd:aw m ta tn 3 (flat aB ts)
theorem TsA.up {m m' :Mem} {ts:List Ty} {ta:Option Addr} {tn tc:Nat} (hle:af m m') (h:TsA m ts ta tn tc):TsA m' ts ta tn tc:=⟨h.n,h.c,aN hle h.rd⟩
theorem Sr {E:List Cd} {s n:Nm} {k:Int} {o:Nm} {d:Md} (h:eG E s n k=some (o,d)):(d.params.length:Int)=k:=by
 have hf:∀(l:List Nm) (x:Nm×Md),ep E l n k=some x->(x.2.params.length:Int)=k:=fun l x hx=>by
  unfold ep at hx;obtain⟨c,hc,e⟩:=List.exists_of_findSome?_eq_some hx;obtain⟨m,h1,h2⟩:=Option.map_eq_some_iff.1 e;subst h2;unfold cU at h1;have:=List.find?_some h1;simp only[bB,cE] at this;exact this.2
 unfold eG at h;split at h
 ·exact hf _ _ h
 ·split at h
  ·rename_i x hx;cases h;exact hf _ _ hx
  ·exact hf _ _ h
section
variable {S:Sc} {E:List Cd} {ad:Addr} {da:Option Addr} {dc:Nat} {la:Option Addr} {lc:Nat} {b:Nat} {a:Option Addr} {c:Nat} {L:List Cc}
theorem EA (s n:Nm) (st:Bool) (ts:List Ty) (ta:Option Addr) (tn tc:Nat) (m:Mem) (hT:Tp m S E ad da dc la lc b a c L) (ht:TsA m ts ta tn tc):
  FnH Tryz.prog 192 [.v (.agg ⟨av ad da dc S la lc⟩),.v (.string (bs s)),.v (.string (bs n)),.v (.bool st),.v (.slice ta tn tc)] ⟨[],[]⟩ m
   fun r H' m' =>af m m' /\H' =⟨[],[]⟩/\r= .tup [dJ (jg E S s n st ts).1,.v (.int .i64 (jg E S s n st ts).2)]:=by
 have hM:=C8 s n tn m hT.ck
 have hK:jg E S s n st ts=(match eG E s n tn with
  |none=>(an,72)
  |some (o,m)=>if(!jJ S o m.fl|| !(hasB m.fl 8==st))=true then(an,72) else if gw E m.params ts=0 then(m.res,0) else(an,gw E m.params ts)):=by rw[ht.n];rfl
 have hlen:=fun o d (h:eG E s n tn=some (o,d))=>Sr h
 revert hM hK hlen;generalize eG E s n tn=M
 generalize jg E S s n st ts=K
 intro hM hK hlen;refine enter (F2 S E) (Mx S E) Tryz.func192 rfl rfl (by kernel_rfl) rfl ?_ ?_
 ·clear hM;simp only[go_sem,av]
 ·simp only[go_sem,av];refine ai (hM.mono ?_);clear hM;rintro r H' m1 aR ⟨l1,rfl,o,Y,hA,rfl⟩;have hr:=(hT.up l1).r;cases M with
  |none=>
   simp only[go_sem,Mc.cs,hr];rw[hK];exact⟨by kernel_rfl,l1,rfl⟩
  |some x=>
   obtain⟨o',d⟩:=x;obtain⟨rfl,hY⟩:=hA;have hK:K=(if(!jJ S o d.fl|| !(hasB d.fl 8==st))=true then(an,72) else if gw E d.params ts=0 then(d.res,0) else(an,gw E d.params ts)):=hK;have hA:=fun m' (hle:af m1 m')=>Kf d.params ts Y.pa ta Y.pl Y.pc tn tc m' (hT.up (aa l1 hle)) (aN hle hY.par) hY.pl (ht.up (aa l1 hle)).rd ht.n (by have:=hlen o d rfl;have:=ht.n;omega) hY.ok.pl
   unfold av at hA;simp only[go_sem,Mc.cs,hr];have hb:(!decide (bits .and .i64 Y.fl 8=0))=hasB d.fl 8:=by rw[hY.fl];rfl
   rw[hY.fl] at *;refine⟨by kernel_rfl,fun h0=> ?_,fun h0=> ?_⟩
   ·rw[hK,ak]
    ·exact⟨l1,rfl⟩
    ·rcases h0 with h0 |h0
     ·rw[h0];rfl
     ·rw[show(hasB d.fl 8==st)=false from h0];simp
   ·rw[ae] at hK
    ·refine ai ((aD (hA m1 (.inl rfl)) fun V=>rfl).mono ?_);clear hA;rintro r H' m2 aK ⟨rfl,rfl,rfl⟩;simp only[go_sem];refine⟨fun h1=> ?_,fun h1=> ?_⟩
     ·rw[ae h1] at hK;rw[hK];exact⟨l1,rfl⟩
     ·rw[ak h1] at hK;rw[hK];dsimp only;rw[<- hY.res];exact⟨l1,rfl⟩
    ·rw[h0.1,show(hasB d.fl 8==st)=true from h0.2];decide
end
theorem IV {α:Type} [Inhabited α] {n:Nat} {Q:Nat->α->Prop} (h:∀i,i<n->∃x,Q i x):∃f:Nat->α,∀i,i<n->Q i (f i):=by
 classical
 exact⟨fun i=>if hi:i<n then(h i hi).choose else default,fun i hi=>by dsimp only;rw[dif_pos hi];exact(h i hi).choose_spec⟩
instance:Inhabited Cc:=⟨⟨0,[],[],none,0,0,none,0,0,none,0,0,none,0,0⟩⟩
instance:Inhabited Mc:=⟨uF⟩
theorem Lc {α:Type} {P:α->Bool}:∀{l:List α} {k:Nat} (hk:k<l.length),P l[k]=true->(∀j (hj:j<k),P (l[j]'(Nat.lt_trans hj hk))=false)->l.find? P=some l[k]
 |x::r,0,_,h1,_=>by rw[List.find?_cons];simp only[List.getElem_cons_zero] at h1;rw[h1];rfl
 |x::r,k+1,hk,h1,h2=>by
  rw[List.find?_cons];have h0:=h2 0 (Nat.succ_pos _);simp only[List.getElem_cons_zero] at h0;rw[h0];exact Lc (l:=r) (k:=k) (by simpa using hk) (by simpa using h1) fun j hj=>by simpa using h2 (j+1) (by omega)
theorem Vq {α:Type} {P:α->Bool} {l:List α} (h:∀j (hj:j<l.length),P l[j]=false):l.find? P=none:=by
 rw[List.find?_eq_none];intro x hx;obtain⟨j,hj,rfl⟩:=List.getElem_of_mem hx;rw[h j hj];decide
theorem Th {E:List Cd} {s n:Nm} {k:Int} {d:Md} (h:cU E s n k=some d):(d.params.length:Int)=k:=by
 unfold cU at h;have:=List.find?_some h;simp only[bB,cE] at this;exact this.2
theorem X9 {m:Mem} {ad:Addr} {pr E:List Cd} {b:Nat} {a:Option Addr} {c:Nat} {L:List Cc} (hC:Ck m ad pr E b a c L):Rd m (bk (some ad) 0) [.slice a pr.length c]:=tR hC.rd 0 1 (aZ rfl)
section
variable {S:Sc} {E:List Cd} {ad:Addr} {da:Option Addr} {dc:Nat} {la:Option Addr} {lc:Nat} {b:Nat} {a:Option Addr} {c:Nat} {L:List Cc}
theorem Q7 (X:Cc) (s:Nm) (m:Mem):FnH Tryz.prog 278 [.v (.agg ⟨X.cs⟩),.box 0 0] ⟨[⟨0,9,[.v (.string (bs s))]⟩],[]⟩ m
  fun r H' _=>r= .v (.bool (decide (X.name=s)))/\H' =⟨[⟨0,9,[.v (.string (bs s))]⟩],[]⟩:=by
 refine enter bb aq Tryz.func278 rfl rfl (by kernel_rfl) rfl ?_ ?_
 ·simp only[go_sem,Cc.cs]
 ·simp only[go_sem,Cc.cs]
theorem Q6 (Y:Mc) (m:Mem):FnH Tryz.prog 279 [.v (.agg ⟨Y.cs⟩)] ⟨[],[]⟩ m
  fun r H' _=>r= .v (.bool (decide (Y.name=bJ)))/\H' =⟨[],[]⟩:=by
 refine enter bb aq Tryz.func279 rfl rfl (by kernel_rfl) rfl ?_ ?_
 ·simp only[go_sem,Mc.cs]
 ·simp only[go_sem,Mc.cs];rfl
theorem QP (ml:List Md) (ma:Option Addr) (mn mc:Nat) (xs:List Value) (m:Mem) (h1:aw m ma mn 8 xs) (hn:mn=ml.length) (h2:dZ (ig m) 8 ml xs) (hb:ml.length<=ay):
  FnH Tryz.prog 148 [.v (.slice ma mn mc),.v (.func (.func 279) ⟨[]⟩ ⟨[]⟩)] ⟨[],[]⟩ m
   fun r H' _=>H' =⟨[],[]⟩/\r= .v (.bool (ml.any fun m=>decide (m.name=bJ))):=by
 obtain⟨f,hf⟩:=IV (n:=ml.length) (Q:=fun i (Y:Mc)=>∃hi:i<ml.length,Rd m (bk ma (i * 8)) Y.cs/\ma≠none/\MdX m ml[i] Y) fun i hi=>by
  obtain⟨Y,q⟩:=ue h1 hn h2 hi;exact⟨Y,hi,q⟩
 refine(UN 279 (by kernel_rfl) ma mn mc m (by unfold ay at hb;omega) (fun i=>(f i).cs) (fun i hi=> ?_) (fun i=>decide ((f i).name=bJ)) fun i m' hi hle=>Q6 (f i) m').mono ?_
 ·obtain⟨lr,q1,q2,_⟩:=hf i (by omega);exact⟨q1,q2,rfl⟩
 ·rintro r H' m' hm ⟨h3,rfl⟩;refine⟨h3,?_⟩;have e:((List.range mn).any fun i=>decide ((f i).name=bJ))=ml.any fun m=>decide (m.name=bJ):=by
   rw[hn,<- A5 (fun m:Md=>decide (m.name=bJ)) nb ml];rw[Bool.eq_iff_iff,List.any_eq_true,List.any_eq_true];constructor
   ·rintro⟨i,hi,q⟩;obtain⟨lr,_,_,q3⟩:=hf i (List.mem_range.1 hi);refine⟨i,hi,?_⟩;rw[List.getD_eq_getElem?_getD,List.getElem?_eq_getElem lr];rwa [q3.name] at q
   ·rintro⟨i,hi,q⟩;obtain⟨lr,_,_,q3⟩:=hf i (List.mem_range.1 hi);refine⟨i,hi,?_⟩;rw[List.getD_eq_getElem?_getD,List.getElem?_eq_getElem lr] at q;rw[q3.name];exact q
  rw[e]
theorem PU (pr:List Cd) (pa:Option Addr) (pn pc:Nat) (s:Nm) (m:Mem) (h:fi m pr pa pn pc):
  FnH Tryz.prog 277 [.v (.slice pa pn pc),.cl 278 [0]] ⟨[⟨0,9,[.v (.string (bs s))]⟩],[]⟩ m
   fun r H' _=>H' =⟨[⟨0,9,[.v (.string (bs s))]⟩],[]⟩/\((r= .v (.int .i64 (-1))/\pr.find? (fun d=>decide (d.name=s))=none)\/∃k,∃hk:k<pr.length,r= .v (.int .i64 k)/\pr.find? (fun d=>decide (d.name=s))=some pr[k]):=by
 have hn:=h.1;obtain⟨f,hf⟩:=IV (n:=pr.length) (Q:=fun i (X:Cc)=>∃hi:i<pr.length,Rd m (bk pa (i * 7)) X.cs/\pa≠none/\X.name=pr[i].name) fun i hi=>by
  obtain⟨X,q1,q2,q3,_⟩:=mG h hi;exact⟨X,hi,q1,q2,q3⟩
 refine(UO 278 (by kernel_rfl) [.string (bs s)] pa pn pc m (by have:=h.2.2.1;unfold ay at this;omega) (fun i=>(f i).cs) (fun i hi=> ?_) (fun i=>decide ((f i).name=s)) fun i m' hi hle=>Q7 (f i) s m').mono ?_
 ·obtain⟨lr,q1,q2,_⟩:=hf i (by omega);exact⟨q1,q2,rfl⟩
 ·rintro r H' m' hm ⟨h3,h4⟩;refine⟨h3,?_⟩;have hq:∀j (hj:j<pr.length),decide ((f j).name=s)=decide (pr[j].name=s):=fun j hj=>by
   obtain⟨_,_,_,q⟩:=hf j hj;rw[q]
  rcases h4 with ⟨rfl,h4⟩ |⟨k,hk,rfl,h5,h6⟩
  ·exact .inl ⟨rfl,Vq fun j hj=>by rw[<- hq j hj];exact h4 j (by omega)⟩
  ·exact .inr ⟨k,by omega,rfl,Lc (by omega) (by rw[<- hq k (by omega)];exact h5) fun j hj=>by rw[<- hq j (by omega)];exact h6 j hj⟩
def Mm (ts:List Ty) (F:Option Cd):Int:=match F with
 |some d=>if ts.length=0/\(d.methods.any fun m=>decide (m.name=bJ))=false then 0 else 72
 |none=>72
theorem J6 (s:Nm) (ts:List Ty) (ta:Option Addr) (tn tc:Nat) (m:Mem) (hT:Tp m S E ad da dc la lc b a c L) (ht:TsA m ts ta tn tc):
  FnH Tryz.prog 245 [.v (.agg ⟨av ad da dc S la lc⟩),.v (.string (bs s)),.v (.slice ta tn tc)] ⟨[],[]⟩ m
   fun r H' m' =>af m m' /\H' =⟨[],[]⟩/\r= .v (.int .i64 (n9 E S s ts)):=by
 have hD:=vz s bJ tn m hT.ck;have hC:=hT.ck;have hlen:=fun d (h:cU E s bJ tn=some d)=>Th h
 have hK:n9 E S s ts=(match cU E s bJ tn with
  |some m=>if jJ S s m.fl=true then gw E m.params ts else 72
  |none=>match S.pr.find? fun d=>decide (d.name=s) with
   |some d=>if ts.length=0/\(d.methods.any fun m=>decide (m.name=bJ))=false then 0 else 72
   |none=>72):=by rw[ht.n];rfl
 have hW:=fun m' (hle:af m m')=>PU S.pr a S.pr.length c s m' (hC.up hle).pr
 revert hD hK hlen hW;generalize cU E s bJ tn=M
 generalize n9 E S s ts=K
 generalize S.pr.find? (fun d=>decide (d.name=s))=F
 intro hD hlen hK hW;refine enter (F2 S E) (Mx S E) Tryz.func245 rfl rfl (by kernel_rfl) rfl ?_ ?_
 ·clear hD hW;simp only[go_sem,av]
 ·simp only[go_sem,av];refine ai ((aD hD fun V=>rfl).mono ?_);clear hD;rintro r H' m1 aR ⟨rfl,rfl,Y,hA,rfl⟩;cases M with
  |some d=>
   have hK:K=if jJ S s d.fl=true then gw E d.params ts else 72:=hK
   have hY:MdX m1 d Y:=hA;have hr:=hT.r;clear hW;have hA:=fun m' (hle:af m1 m')=>Kf d.params ts Y.pa ta Y.pl Y.pc tn tc m' (hT.up hle) (aN hle hY.par) hY.pl (ht.up hle).rd ht.n (by have:=hlen d rfl;have:=ht.n;omega) hY.ok.pl
   unfold av at hA;simp only[go_sem,Mc.cs,hr];refine⟨fun h0=> ?_,fun h0=>ai ((aD (hA m1 (.inl rfl)) fun V=>rfl).mono ?_)⟩
   ·rw[hK,ae];rw[<- hY.fl,h0];decide
   ·clear hA;rintro r H' m2 aK ⟨rfl,rfl,rfl⟩;simp only[go_sem];rw[hK,ak (by rw[<- hY.fl];exact h0)]
  |none=>
   have hK:K=Mm ts F:=hK;have hW:=hW m1 (.inl rfl);have sK:=HU ad;simp only[go_sem,Mc.cs,cj (j:=0) hC.rd rfl,cj (j:=1) hC.rd rfl,fK hC.rm,iV,Option.map_none,Option.map_some,cv,forall_eq',false_implies,and_true,true_and,fh];refine ai (hW.mono ?_);clear hW;rintro r H' m2 aK ⟨rfl,⟨rfl,hF⟩ |⟨k,hk,rfl,hF⟩⟩
   ·rw[hF] at hK;have NF:((0:Int)<= -1)=False:=eq_false (by decide);simp only[go_sem,NF,false_and,false_implies];refine⟨.slice a S.pr.length c,?_⟩;simp only[go_sem,NF,false_and,false_implies];exact⟨undef,.inr aK,hK.symm⟩
   ·rw[hF] at hK;have eF:=hC.up (.inr aK);refine Exists.elim (mG eF.pr hk) fun X hX=> ?_
    have gG:(0:Int)<=k:=by omega
    simp only[go_sem,gG];refine⟨.slice a S.pr.length c,fun _=>X9 eF,?_⟩;simp only[go_sem,gG];refine⟨fun _=>⟨by omega,by omega,hX.2.1⟩,fun _=>of_eq_true (lD hX.1),.slice X.ma X.ml X.mc,fun _=>tR hX.1 5 1 (aZ rfl),fun h0=>⟨by kernel_rfl,?_⟩,fun h0=> ?_⟩
    ·refine Exists.elim hX.2.2.2.mth fun xs gF=> ?_
     have hI:=QP S.pr[k].methods X.ma X.ml X.mc xs m2 gF.1 hX.2.2.2.ml gF.2 hX.2.2.2.ok.ml;refine bD (hI.mono ?_);clear hI;rintro r H' m3 cA ⟨rfl,rfl⟩;have hK:K=if ts.length=0/\(S.pr[k].methods.any fun m=>decide (m.name=bJ))=false then 0 else 72:=hK
     have Gm:=ht.n;simp only[go_sem,h0,gG];refine⟨fun h1=>⟨aa (.inr aK) (.inr cA),?_⟩,fun h1=>⟨aa (.inr aK) (.inr cA),?_⟩⟩
     ·rw[hK,ak ⟨by omega,h1⟩]
     ·rw[hK,ae fun h=>by rw[h.2] at h1;cases h1]
    ·refine⟨.inr aK,?_⟩;have Gm:=ht.n;rw[hK,Mm,ae];rintro⟨h1,_⟩;omega
end
def Mv (E:List Cd) (S:Sc) (n:Nm) (k:Int) (M:Option (Nm×Md)) (fo:Option (Nm×Md)) (ml:List Nm) (C:TR):TR:=
 if(S.st||S.su||hasB (dh S).fl 512)=true then(an,72) else match M with
  |none=>(an,72)
  |some (_,m)=>if hasB m.fl 1024=true then(an,72)
   else if fo.isSome=true then C
   else match ml with
    |[s]=>if((cU E s n k).getD nb).hb=true then C else(an,72)
    |_=>(an,72)
theorem TV (E:List Cd) (S:Sc) (n:Nm) (ts:List Ty) (tn:Nat) (h:tn=ts.length):mN E S n ts=Mv E S n tn (eG E (dh S).super n tn) (ep E (aT E (dh S).super) n tn) (gp E (bR E (dh S).super) n tn) (jg E S (dh S).super n false ts):=by
 subst h;rfl
section
variable {S:Sc} {E:List Cd} {ad:Addr} {da:Option Addr} {dc:Nat} {la:Option Addr} {lc:Nat} {b:Nat} {a:Option Addr} {c:Nat} {L:List Cc}
theorem P5 (n:Nm) (ts:List Ty) (ta:Option Addr) (tn tc:Nat) (m:Mem) (hT:Tp m S E ad da dc la lc b a c L) (ht:TsA m ts ta tn tc):
  FnH Tryz.prog 194 [.v (.agg ⟨av ad da dc S la lc⟩),.v (.string (bs n)),.v (.slice ta tn tc)] ⟨[],[]⟩ m
   fun r H' m' =>af m m' /\H' =⟨[],[]⟩/\r= .tup [dJ (mN E S n ts).1,.v (.int .i64 (mN E S n ts).2)]:=by
 have hC:=hT.ck;have hw:=hC.fw;have hK:=TV E S n ts tn ht.n;have gk:=C9 m hT;have hM:=fun m' (hle:af m m')=>C8 (dh S).super n tn m' (hC.up hle)
 have hS:=fun m' (hle:af m m')=>pV (dh S).super m' (hC.up hle)
 have hI:=fun m' (hle:af m m')=>vq (dh S).super m' (hC.up hle)
 have hF:=fun m' (hle:af m m') fa fc (hr:aw m' fa (aT E (dh S).super).length 1 (strs (aT E (dh S).super)))=>xO (aT E (dh S).super) fa fc n tn m' (hC.up hle) hr (by have:=(kv E (dh S).super).len;omega)
 have hO:=fun m' (hle:af m m') fa fc (hr:aw m' fa (bR E (dh S).super).length 1 (strs (bR E (dh S).super)))=>Iv (bR E (dh S).super) fa fc n tn m' (hC.up hle) hr (by have:=(tE E (dh S).super).len;omega)
 have ku:=fun m' (hle:af m m')=>EA (dh S).super n false ts ta tn tc m' (hT.up hle) (ht.up hle)
 revert hK hM hS hI hF hO ku;generalize mN E S n ts=K
 generalize eG E (dh S).super n tn=M
 generalize ep E (aT E (dh S).super) n tn=fo
 generalize gp E (bR E (dh S).super) n tn=ml
 generalize aT E (dh S).super=sl
 generalize bR E (dh S).super=il
 generalize jg E S (dh S).super n false ts=CC
 intro hK hM hS hI hF hO ku;unfold av at gk ku;refine enter bb aq Tryz.func194 rfl rfl (by kernel_rfl) rfl ?_ ?_
 ·clear gk hM hS hI hF hO ku;simp only[go_sem,av]
 ·simp only[go_sem,av];refine ai ((aD gk fun V=>rfl).mono ?_);clear gk;rintro r H' m1 aR ⟨rfl,rfl,X,rfl,hX⟩;have gX:=hX.fl;have Gq:=hX.sup;unfold Mv at hK;rw[<- gX] at hK;rw[<- Gq] at hM hS hI ku;have hM:=hM m1 (.inl rfl);simp only[go_sem,Cc.cs];refine⟨fun h0=> ?_,fun h0=>ai (hM.mono ?_)⟩
  ·have e:(S.st||S.su||hasB X.fl 512)=true:=by
    unfold hasB;rcases h0 with (h0 |h0) |h0
    ·rw[h0];rfl
    ·rw[h0];simp
    ·rw[ab h0];simp
   rw[ak e] at hK;rw[hK];rfl
  have hK:=hK.trans (ae (by unfold hasB;rw[h0.1.1,h0.1.2,aQ h0.2];decide));clear hM;rintro r H' m2 aK ⟨l2,rfl,o,Y,hA,rfl⟩;cases M with
  |none=>
   clear hS hI hF hO ku;simp only[go_sem,Mc.cs];rw[hK];exact⟨l2,rfl⟩
  |some x=>
   obtain⟨o',d⟩:=x;obtain⟨_,hY⟩:=hA;dsimp only at hK;rw[<- hY.fl] at hK;by_cases hab:bits .and .i64 Y.fl 1024=0
   ·have hK:=hK.trans (ae (by unfold hasB;rw[aQ hab];decide));have hS:=hS m2 l2;simp only[go_sem,Mc.cs,hab];refine bZ (.hoist 0 (.hoist 1 (.hoist 2 (.hoist 3 (.hoist 4 (.hoist 5 (.hoist 7 (.hoist 8 (.hoist 9 (.alt 6 [9,8,7,1,0] (.alt 10 [] (.hoist 11 (.hoist 12 (.hoist 13 (.hoist 14 (.alt 15 [14,13,12,11] (.hoist 16 (.alt 17 [14] (.hoist 18 .done) .stop)) .stop))))) (.alt 15 [9,8,7,1,0] (.alt 10 [] (.hoist 11 (.hoist 12 (.hoist 13 (.hoist 14 (.hoist 16 (.alt 17 [14] (.hoist 18 .done) .stop)))))) .stop) .stop)) (.alt 15 [9,8,7,5,4,3,2,1,0] (.alt 6 [9,8,7,1,0] (.alt 10 [] (.hoist 11 (.hoist 12 (.hoist 13 (.hoist 14 (.hoist 16 (.alt 17 [14] (.hoist 18 .done) .stop)))))) .stop) .stop) .stop))))))))))) aq (by kernel_rfl) (by kernel_rfl) ?_;simp only[go_sem,Mc.cs];refine⟨ai (hS.mono ?_),by kernel_rfl,bD (hS.mono ?_)⟩;all_goals
     clear hS;rintro r H' m3 cA ⟨l3,rfl,fa,fc,rfl,g1,g2⟩;have hF:=hF m3 (aa l2 l3) fa fc g2;have oC:=eq_true l3;simp only[go_sem,Mc.cs,oC,and_self];first |refine⟨ai (hF.mono ?_),by kernel_rfl,bD (hF.mono ?_)⟩ |refine ai (hF.mono ?_)
    all_goals
     clear hF;rintro r H' m4 gW ⟨rfl,rfl,o2,Y2,rD,rfl⟩;by_cases jO:fo.isSome=true
     ·have hK:=hK.trans (ak jO);have ku:=ku m4 (aa l2 l3);clear hI hO;simp only[go_sem,Mc.cs,jO];refine ai ((aD ku fun V=>rfl).mono ?_);clear ku;rintro r H' m5 mq ⟨l5,rfl,rfl⟩;simp only[go_sem];rw[hK];exact⟨aa l2 (aa l3 l5),rfl⟩
     ·have hK:=hK.trans (ae jO);have jO:=(Bool.not_eq_true _).mp jO;have hI:=hI m4 (aa l2 l3);simp only[go_sem,Mc.cs,jO];refine bZ (.hoist 0 (.hoist 1 (.hoist 2 (.hoist 3 (.hoist 4 (.hoist 5 (.hoist 7 (.hoist 8 (.hoist 9 (.alt 6 [9,8,7,1,0] (.alt 10 [] (.hoist 11 .done) .stop) .stop)))))))))) aq (by kernel_rfl) (by kernel_rfl) ?_;simp only[go_sem,Mc.cs];refine ai (hI.mono ?_);clear hI;rintro r H' m5 mq ⟨l5,rfl,ia,ic,rfl,q1,q2⟩;have hO:=hO m5 (aa l2 (aa l3 l5)) ia ic q2;have hl5:=eq_true l5;simp only[go_sem,Mc.cs,hl5,and_self];refine ai (hO.mono ?_);clear hO;rintro r H' m6 pM ⟨l6,rfl,ja,jc,rfl,w1,w2⟩;have wT:=aa l2 (aa l3 (aa l5 l6));have xw:=eq_true l6;cases ml with
      |nil=>
       have hK:K=(an,72):=hK;have hc:(((0:Nat):Int)=1)=False:=eq_false (by decide);simp only[go_sem,xw,and_self,hc];rw[hK];exact⟨wT,rfl⟩
      |cons s1 r=>
       cases r with
       |nil=>
        have hD:=vz s1 n tn m6 (hC.up wT);have hK:K=if((cU E s1 n tn).getD nb).hb=true then CC else(an,72):=hK
        have aI:bS ja 1 0=True:=eq_true ⟨by decide,by decide,(dM w2 (Nat.zero_lt_one)).2⟩;have au:= @iL _ _ _ _ w2 0 Nat.zero_lt_one (.string (bs s1)) rfl;have ku:=ku m6 wT;have hc:(((1:Nat):Int)=1)=True:=eq_true rfl;simp only[go_sem,xw,and_self,hc];refine bZ (.hoist 0 (.hoist 1 (.hoist 2 (.hoist 3 (.hoist 4 (.hoist 5 (.hoist 6 (.hoist 7 (.alt 8 [] (.hoist 9 (.hoist 10 (.hoist 11 (.alt 12 [11,10,9] (.alt 13 [11] (.hoist 14 .done) .stop) .stop)))) (.alt 12 [7,6,5,4,3,2,1,0] (.alt 8 [] (.hoist 9 (.hoist 10 (.hoist 11 (.alt 13 [11] (.hoist 14 .done) .stop)))) .stop) .stop)))))))))) aq (by kernel_rfl) (by kernel_rfl) ?_;simp only[go_sem,aI,au,xw,and_self];refine⟨ai (hD.mono ?_),by kernel_rfl,bD (hD.mono ?_)⟩;all_goals
         clear hD;rintro r H' m7 mi ⟨rfl,rfl,Y3,hY3,rfl⟩;have hhb:=hY3.x.hb;rw[<- hhb] at hK;by_cases hh:Y3.hb=true
         ·have hK:=hK.trans (ak hh);simp only[go_sem,Mc.cs,hh,fR,and_self];refine ai ((aD ku fun V=>rfl).mono ?_);clear ku;rintro r H' m8 oB ⟨l8,rfl,rfl⟩;simp only[go_sem];rw[hK];exact⟨aa wT l8,rfl⟩
         ·have hK:=hK.trans (ae hh);have hh:=(Bool.not_eq_true _).mp hh;clear ku;simp only[go_sem,Mc.cs,hh,fR,and_self];rw[hK];exact⟨wT,rfl⟩
       |cons s2 r=>
        have hK:K=(an,72):=hK;have hc:((((r.length+1+1:Nat)):Int)=1)=False:=eq_false (by omega);simp only[go_sem,xw,and_self,hc];rw[hK];exact⟨wT,rfl⟩
   ·have hK:=hK.trans (ak (by unfold hasB;rw[ab hab];decide));clear hS hI hF hO ku;simp only[go_sem,Mc.cs,hab];rw[hK];exact⟨l2,rfl⟩
end
abbrev cO (S:Sc) (E:List Cd):Cfg:=kZ (fun _=>false) [(42,yT S.pr E fun t u=> .bool (cD E t u)),(84,fun _=>wJ fun t=> .bool (eb t)),
 (191,fun _=>um (.agg ⟨aB cr⟩)),(196,fun _=>um (.agg ⟨aB ed⟩)),(85,fun _=>um (.agg ⟨aB fU⟩)),(86,fun _=>zl fun s=> .agg ⟨aB (cG s)⟩),
 (190,fun _=>B7),(159,wK S.pr E fun t=> .bool (cM E t)),(264,wK S.pr E fun t=> .bool (oe E t)),(193,fun _=>wJ fun t=> .string (bs (pt t))),
 (262,zn S E),(43,wo S.pr E fun s n=>qk (cg E s n))]
theorem bM (S:Sc) (E:List Cd):cw (cO S E) Tryz.prog:=
 fG (by kernel_rfl) (Jv fun p t u m h=>Ke p t u m h) (fG (by kernel_rfl) (fun m aO y hy hB=>EN (fun t m=>HT m t) aO y hy hB m)
 (fG (by kernel_rfl) (fun m aO y hy hB=>Bp SL aO y hy hB m) (fG (by kernel_rfl) (fun m aO y hy hB=>Bp QH aO y hy hB m) (fG (by kernel_rfl) (fun m aO y hy hB=>Bp Ir aO y hy hB m)
 (fG (by kernel_rfl) (fun m aO y hy hB=>KA (fun s m=>IS m s) aO y hy hB m) (fG (by kernel_rfl) (fun m aO y hy hB=>Um (fun b t m=>SI m b t) aO y hy hB m)
 (fG (by kernel_rfl) (EO fun p t m h=>HS p t m h) (fG (by kernel_rfl) (EO fun p t m h=>by obtain⟨ad,b,a,c,L,rfl,hC⟩:=h;exact QO t m hC) (fG (by kernel_rfl) (fun m aO y hy hB=>EN (fun t m=>QF m t) aO y hy hB m)
 (fG (by kernel_rfl) (KC S E) (fG (by kernel_rfl) (Ej fun p s n m h=>by obtain⟨ad,b,a,c,L,rfl,hC⟩:=h;exact DR s n m hC) rK)))))))))))
section
variable {S:Sc} {E:List Cd} {ad:Addr} {da:Option Addr} {dc:Nat} {la:Option Addr} {lc:Nat} {b:Nat} {a:Option Addr} {c:Nat} {L:List Cc}
theorem Tu (op:Nm) (t u:Ty) (m:Mem) (hT:Tp m S E ad da dc la lc b a c L):
  FnH Tryz.prog 197 [.v (.agg ⟨av ad da dc S la lc⟩),.v (.string (bs op)),.v (.agg ⟨aB t⟩),.v (.agg ⟨aB u⟩)] ⟨[],[]⟩ m
   fun r H' m' =>m' =m/\H' =⟨[],[]⟩/\r= .tup [dJ (ir E op t u).1,.v (.int .i64 (ir E op t u).2)]:=by
 have aS:=hT.ck.chk;refine enter (cO S E) (bM S E) Tryz.func197 rfl rfl (by kernel_rfl) rfl ?_ ?_
 ·simp only[go_sem,av,aB]
 ·simp only[go_sem,av,aB];refine vO (bM S E) (by kernel_rfl) (by kernel_rfl) (by kernel_rfl) ?_;by_cases q0:op=[43]
  ·have d0:decide (op=[43])=true:=aQ q0;have d1:decide (op=[45])=false:=ab (by rw[q0];decide);have d2:decide (op=[42])=false:=ab (by rw[q0];decide);have d3:decide (op=[47])=false:=ab (by rw[q0];decide);have d4:decide (op=[37])=false:=ab (by rw[q0];decide);have d5:decide (op=[60])=false:=ab (by rw[q0];decide);have d6:decide (op=[60,61])=false:=ab (by rw[q0];decide);have d7:decide (op=[62])=false:=ab (by rw[q0];decide);have d8:decide (op=[62,61])=false:=ab (by rw[q0];decide);have d9:decide (op=[61,61])=false:=ab (by rw[q0];decide);have d10:decide (op=[33,61])=false:=ab (by rw[q0];decide);simp only[go_sem,aB,aS,dD,cr,ed,d0,d1,d2,d3,d4,d5,d6,d7,d8,d9,d10];rw[ir,ak (by simp [q0])];rfl
  have d0:decide (op=[43])=false:=ab q0;by_cases q1:op=[45]
  ·have d1:decide (op=[45])=true:=aQ q1;have d2:decide (op=[42])=false:=ab (by rw[q1];decide);have d3:decide (op=[47])=false:=ab (by rw[q1];decide);have d4:decide (op=[37])=false:=ab (by rw[q1];decide);have d5:decide (op=[60])=false:=ab (by rw[q1];decide);have d6:decide (op=[60,61])=false:=ab (by rw[q1];decide);have d7:decide (op=[62])=false:=ab (by rw[q1];decide);have d8:decide (op=[62,61])=false:=ab (by rw[q1];decide);have d9:decide (op=[61,61])=false:=ab (by rw[q1];decide);have d10:decide (op=[33,61])=false:=ab (by rw[q1];decide);simp only[go_sem,aB,aS,dD,cr,ed,d0,d1,d2,d3,d4,d5,d6,d7,d8,d9,d10];rw[ir,ak (by simp [q1])];rfl
  have d1:decide (op=[45])=false:=ab q1;by_cases q2:op=[42]
  ·have d2:decide (op=[42])=true:=aQ q2;have d3:decide (op=[47])=false:=ab (by rw[q2];decide);have d4:decide (op=[37])=false:=ab (by rw[q2];decide);have d5:decide (op=[60])=false:=ab (by rw[q2];decide);have d6:decide (op=[60,61])=false:=ab (by rw[q2];decide);have d7:decide (op=[62])=false:=ab (by rw[q2];decide);have d8:decide (op=[62,61])=false:=ab (by rw[q2];decide);have d9:decide (op=[61,61])=false:=ab (by rw[q2];decide);have d10:decide (op=[33,61])=false:=ab (by rw[q2];decide);simp only[go_sem,aB,aS,dD,cr,ed,d0,d1,d2,d3,d4,d5,d6,d7,d8,d9,d10];rw[ir,ak (by simp [q2])];rfl
  have d2:decide (op=[42])=false:=ab q2;by_cases q3:op=[47]
  ·have d3:decide (op=[47])=true:=aQ q3;have d4:decide (op=[37])=false:=ab (by rw[q3];decide);have d5:decide (op=[60])=false:=ab (by rw[q3];decide);have d6:decide (op=[60,61])=false:=ab (by rw[q3];decide);have d7:decide (op=[62])=false:=ab (by rw[q3];decide);have d8:decide (op=[62,61])=false:=ab (by rw[q3];decide);have d9:decide (op=[61,61])=false:=ab (by rw[q3];decide);have d10:decide (op=[33,61])=false:=ab (by rw[q3];decide);simp only[go_sem,aB,aS,dD,cr,ed,d0,d1,d2,d3,d4,d5,d6,d7,d8,d9,d10];rw[ir,ak (by simp [q3])];rfl
  have d3:decide (op=[47])=false:=ab q3;by_cases q4:op=[37]
  ·have d4:decide (op=[37])=true:=aQ q4;have d5:decide (op=[60])=false:=ab (by rw[q4];decide);have d6:decide (op=[60,61])=false:=ab (by rw[q4];decide);have d7:decide (op=[62])=false:=ab (by rw[q4];decide);have d8:decide (op=[62,61])=false:=ab (by rw[q4];decide);have d9:decide (op=[61,61])=false:=ab (by rw[q4];decide);have d10:decide (op=[33,61])=false:=ab (by rw[q4];decide);simp only[go_sem,aB,aS,dD,cr,ed,d0,d1,d2,d3,d4,d5,d6,d7,d8,d9,d10];rw[ir,ak (by simp [q4])];rfl
  have d4:decide (op=[37])=false:=ab q4;by_cases q5:op=[60]
  ·have d5:decide (op=[60])=true:=aQ q5;have d6:decide (op=[60,61])=false:=ab (by rw[q5];decide);have d7:decide (op=[62])=false:=ab (by rw[q5];decide);have d8:decide (op=[62,61])=false:=ab (by rw[q5];decide);have d9:decide (op=[61,61])=false:=ab (by rw[q5];decide);have d10:decide (op=[33,61])=false:=ab (by rw[q5];decide);simp only[go_sem,aB,aS,dD,cr,ed,d0,d1,d2,d3,d4,d5,d6,d7,d8,d9,d10];rw[ir,ae (by rw[q5];decide),ak (by simp [q5])];rfl
  have d5:decide (op=[60])=false:=ab q5;by_cases q6:op=[60,61]
  ·have d6:decide (op=[60,61])=true:=aQ q6;have d7:decide (op=[62])=false:=ab (by rw[q6];decide);have d8:decide (op=[62,61])=false:=ab (by rw[q6];decide);have d9:decide (op=[61,61])=false:=ab (by rw[q6];decide);have d10:decide (op=[33,61])=false:=ab (by rw[q6];decide);simp only[go_sem,aB,aS,dD,cr,ed,d0,d1,d2,d3,d4,d5,d6,d7,d8,d9,d10];rw[ir,ae (by rw[q6];decide),ak (by simp [q6])];rfl
  have d6:decide (op=[60,61])=false:=ab q6;by_cases q7:op=[62]
  ·have d7:decide (op=[62])=true:=aQ q7;have d8:decide (op=[62,61])=false:=ab (by rw[q7];decide);have d9:decide (op=[61,61])=false:=ab (by rw[q7];decide);have d10:decide (op=[33,61])=false:=ab (by rw[q7];decide);simp only[go_sem,aB,aS,dD,cr,ed,d0,d1,d2,d3,d4,d5,d6,d7,d8,d9,d10];rw[ir,ae (by rw[q7];decide),ak (by simp [q7])];rfl
  have d7:decide (op=[62])=false:=ab q7;by_cases q8:op=[62,61]
  ·have d8:decide (op=[62,61])=true:=aQ q8;have d9:decide (op=[61,61])=false:=ab (by rw[q8];decide);have d10:decide (op=[33,61])=false:=ab (by rw[q8];decide);simp only[go_sem,aB,aS,dD,cr,ed,d0,d1,d2,d3,d4,d5,d6,d7,d8,d9,d10];rw[ir,ae (by rw[q8];decide),ak (by simp [q8])];rfl
  have d8:decide (op=[62,61])=false:=ab q8;by_cases q9:op=[61,61]
  ·have d9:decide (op=[61,61])=true:=aQ q9;have d10:decide (op=[33,61])=false:=ab (by rw[q9];decide);simp only[go_sem,aB,aS,dD,cr,ed,d0,d1,d2,d3,d4,d5,d6,d7,d8,d9,d10];rw[ir,ae (by rw[q9];decide),ae (by rw[q9];decide),ak (by simp [q9])];rfl
  have d9:decide (op=[61,61])=false:=ab q9;by_cases q10:op=[33,61]
  ·have d10:decide (op=[33,61])=true:=aQ q10;simp only[go_sem,aB,aS,dD,cr,ed,d0,d1,d2,d3,d4,d5,d6,d7,d8,d9,d10];rw[ir,ae (by rw[q10];decide),ae (by rw[q10];decide),ak (by simp [q10])];rfl
  have d10:decide (op=[33,61])=false:=ab q10;simp only[go_sem,aB,aS,dD,cr,ed,d0,d1,d2,d3,d4,d5,d6,d7,d8,d9,d10];refine bZ (.hoist 0 (.alt 1 [0] (.hoist 2 (.hoist 3 (.hoist 4 (.alt 5 [4] (.hoist 6 (.hoist 7 (.alt 8 [7,6,4] (.alt 9 [] (.hoist 10 (.hoist 11 (.alt 12 [] (.hoist 13 .done) .stop))) .stop) .stop))) .stop)))) .stop)) (bM S E) (by kernel_rfl) (by kernel_rfl) ?_;simp only[go_sem,aB,aS,dD,cr,ed,d0,d1,d2,d3,d4,d5,d6,d7,d8,d9,d10];rw[ir,ae (by simp [q0,q1,q2,q3,q4]),ae (by simp [q5,q6,q7,q8]),ae (by simp [q9,q10])];rfl
end
section
variable {S:Sc} {E:List Cd} {ad:Addr} {da:Option Addr} {dc:Nat} {la:Option Addr} {lc:Nat} {b:Nat} {a:Option Addr} {c:Nat} {L:List Cc}
theorem IW (X:Nd) (t:Ty) (m:Mem) (hT:Tp m S E ad da dc la lc b a c L):
  FnH Tryz.prog 198 [.v (.agg ⟨av ad da dc S la lc⟩),.v (.agg ⟨X.cs⟩),.v (.agg ⟨aB t⟩)] ⟨[],[]⟩ m
   fun r H' m' =>m' =m/\H' =⟨[],[]⟩/\r= .tup [dJ (mV E X.k X.ty t).1,.v (.int .i64 (mV E X.k X.ty t).2)]:=by
 have aS:=hT.ck.chk;cases hk:cM E X.ty with
 |false=>
  refine enter (cO S E) (bM S E) Tryz.func198 rfl rfl (by kernel_rfl) rfl ?_ ?_
  ·simp only[go_sem,av,aB,Nd.cs]
  ·simp only[go_sem,av,aB,Nd.cs,aS,hk];rw[mV,ae (by rw[hk];decide)];first |done |rfl
 |true=>
  refine enter (cO S E) (bM S E) Tryz.func198 rfl rfl (by kernel_rfl) rfl ?_ ?_
  ·simp only[go_sem,av,aB,Nd.cs]
  ·simp only[go_sem,av,aB,Nd.cs,aS,hk];refine⟨fun h=> ?_,fun h=> ?_⟩
   ·rw[mV,ak hk,ak h];first |done |rfl
   ·rw[mV,ak hk,ae h];first |done |rfl
theorem SA (X:Nd) (m:Mem) (hT:Tp m S E ad da dc la lc b a c L):
  FnH Tryz.prog 199 [.v (.agg ⟨av ad da dc S la lc⟩),.v (.agg ⟨X.cs⟩)] ⟨[],[]⟩ m
   fun r H' m' =>m' =m/\H' =⟨[],[]⟩/\r= .tup [dJ (kH S X.k).1,.v (.int .i64 (kH S X.k).2)]:=by
 have aS:=hT.ck.chk;have gk:=C9 m hT;unfold av at gk;by_cases q1:X.k=1
 ·have d1:decide (X.k=1)=true:=aQ q1;clear gk;refine enter (cO S E) (bM S E) Tryz.func199 rfl rfl (by kernel_rfl) rfl ?_ ?_
  ·simp only[go_sem,av,Nd.cs]
  ·simp only[go_sem,av,Nd.cs,d1,aB];rw[kH,ak q1];first |done |rfl
 have d1:decide (X.k=1)=false:=ab q1;by_cases q2:X.k=2
 ·have d2:decide (X.k=2)=true:=aQ q2;clear gk;refine enter (cO S E) (bM S E) Tryz.func199 rfl rfl (by kernel_rfl) rfl ?_ ?_
  ·simp only[go_sem,av,Nd.cs]
  ·simp only[go_sem,av,Nd.cs,d1,d2,aB];rw[kH,ae q1,ak q2];first |done |rfl
 have d2:decide (X.k=2)=false:=ab q2;by_cases q3:X.k=3
 ·have d3:decide (X.k=3)=true:=aQ q3;clear gk;refine enter (cO S E) (bM S E) Tryz.func199 rfl rfl (by kernel_rfl) rfl ?_ ?_
  ·simp only[go_sem,av,Nd.cs]
  ·simp only[go_sem,av,Nd.cs,d1,d2,d3,aB];rw[kH,ae q1,ae q2,ak q3];first |done |rfl
 have d3:decide (X.k=3)=false:=ab q3;by_cases q4:X.k=4
 ·have d4:decide (X.k=4)=true:=aQ q4;clear gk;refine enter (cO S E) (bM S E) Tryz.func199 rfl rfl (by kernel_rfl) rfl ?_ ?_
  ·simp only[go_sem,av,Nd.cs]
  ·simp only[go_sem,av,Nd.cs,d1,d2,d3,d4,aB];rw[kH,ae q1,ae q2,ae q3,ak q4];first |done |rfl
 have d4:decide (X.k=4)=false:=ab q4;refine enter (cO S E) (bM S E) Tryz.func199 rfl rfl (by kernel_rfl) rfl ?_ ?_
 ·clear gk;simp only[go_sem,av,Nd.cs]
 ·simp only[go_sem,av,Nd.cs,d1,d2,d3,d4,aB];refine⟨fun h0=> ?_,fun h0=>ai ((aD gk fun V=>rfl).mono ?_)⟩
  ·rw[kH,ae q1,ae q2,ae q3,ae q4,ak (by rw[Bool.or_eq_true];exact h0)];first |done |rfl
  clear gk;rintro r H' m1 aR ⟨rfl,rfl,Y,rfl,hY⟩;simp only[go_sem,Cc.cs,aB];rw[kH,ae q1,ae q2,ae q3,ae q4,ae (by rw[h0.1,h0.2];decide),<- hY.name];first |done |rfl
end
section
variable {S:Sc} {E:List Cd} {ad:Addr} {da:Option Addr} {dc:Nat} {la:Option Addr} {lc:Nat} {b:Nat} {a:Option Addr} {c:Nat} {L:List Cc}
theorem lE {m:Mem} {ts:List Ty} {ta:Option Addr} {tn tc:Nat} (ht:TsA m ts ta tn tc) {i:Nat} (h0:i<ts.length):(bS ta tn (i:Int)=True)/\Rd m (bk ta (i * 3)) (aB (ts.getD i an)):=by
 have h:=Kl ht.rd ht.n h0;refine⟨eq_true ⟨by omega,by have:=ht.n;omega,h.2⟩,?_⟩;rw[List.getD_eq_getElem?_getD,List.getElem?_eq_getElem h0];exact h.1
def uu (l:List Pc) (s:Nm):TR:=match l.find? fun p=>decide (p.name=s) with
 |some p=>(p.ty,0)
 |none=>(an,72)
theorem Sv {p:Pc} {r:List Pc} {s:Nm} (h:p.name=s):uu (p::r) s=(p.ty,0):=by unfold uu;rw[List.find?_cons,aQ h]
theorem QI {p:Pc} {r:List Pc} {s:Nm} (h:¬p.name=s):uu (p::r) s=uu r s:=by unfold uu;rw[List.find?_cons,ab h]
theorem UD (X:Nd) (ta:Option Addr) (tn tc:Nat) (ts:List Ty) (m:Mem) (hT:Tp m S E ad da dc la lc b a c L) (hk:X.k=6):
  FnH Tryz.prog 189 [.v (.agg ⟨av ad da dc S la lc⟩),.v (.agg ⟨X.cs⟩),.v (.slice ta tn tc)] ⟨[],[]⟩ m
   fun r H' m' =>m' =m/\H' =⟨[],[]⟩/\r= .tup [dJ (gu E S X.k X.s X.c ts).1,.v (.int .i64 (gu E S X.k X.s X.c ts).2)]:=by
 have hK:uu S.loc X.s=gu E S X.k X.s X.c ts:=by rw[gu,ak hk];rfl
 revert hK;generalize gu E S X.k X.s X.c ts=K
 intro hK;have d6:decide (X.k=6)=true:=aQ hk;refine enter (cO S E) (bM S E) Tryz.func189 rfl rfl (by kernel_rfl) rfl ?_ ?_
 ·simp only[go_sem,av,Nd.cs]
 ·simp only[go_sem,av,Nd.cs,d6]
  refine cq (bM S E) (fun i:Nat=>⟨[⟨21,[],.v (.int .i64 i)⟩,⟨20,[],.v (.int .i64 S.loc.length)⟩,⟨19,[],.v (.slice la S.loc.length lc)⟩,⟨4,[],.box 1 0⟩,⟨6,[],.box 2 0⟩,⟨7,[],.v (.int .i64 0)⟩],[],
   [⟨2,35,[.v (.int .i64 0),.v (.int .u8 0),.v (.string (bs []))]⟩,⟨1,57,[.v (.int .i64 X.k),.v (.int .i64 X.n),.v (.string (bs X.s)),.v (.string (bs X.c)),.v (.int .i64 X.ty.dim),.v (.int .u8 X.ty.base),.v (.string (bs X.ty.name)),.v (.slice X.a X.l X.cp)]⟩],[],3,m⟩)
   (fun i=>i<=S.loc.length/\uu (S.loc.drop i) X.s=K) (fun i=>S.loc.length - i) 0 (by kernel_rfl) (fun _ _=>aZ rfl) (fun x hx=> .inl rfl) (fun _=> ?_) ?_ ⟨aF _,hK⟩ ?_
  ·simp only[go_sem]
  ·simp only[go_sem];first |done |rfl
  ·rintro i ⟨i1,i2⟩;by_cases aj:i<S.loc.length
   ·have hc:((i:Int)<(S.loc.length:Int))=True:=eq_true (by omega);rw[List.drop_eq_getElem_cons aj] at i2;have q1:=yn hT.loc rfl aj;have aI:bS la S.loc.length (i:Int)=True:=eq_true ⟨by omega,by omega,q1.2⟩;have au:= @cC _ _ _ 4 q1.1 rfl;have ny:=hT.ll;simp only[Pc.cs] at au;by_cases hn:S.loc[i].name=X.s
    ·rw[Sv hn] at i2;simp only[go_sem,hc,aI,au,hn];rw[<- i2]
    ·rw[QI hn] at i2;have CP:decide (S.loc[i].name=X.s)=false:=ab hn;simp only[go_sem,hc,aI,au,CP];exact⟨by unfold az;omega,i+1,rfl,⟨aj,i2⟩,by omega⟩
   ·have hc:((i:Int)<(S.loc.length:Int))=False:=eq_false (by omega);rw[List.drop_of_length_le (by omega)] at i2;simp only[go_sem,hc];rw[<- i2];rfl
theorem KO (X:Nd) (ta:Option Addr) (tn tc:Nat) (ts:List Ty) (m:Mem) (hT:Tp m S E ad da dc la lc b a c L) (ht:TsA m ts ta tn tc) (hk:¬X.k=6) (h0:X.k=7->0<ts.length) (h8:X.k=7\/X.k=8):
  FnH Tryz.prog 189 [.v (.agg ⟨av ad da dc S la lc⟩),.v (.agg ⟨X.cs⟩),.v (.slice ta tn tc)] ⟨[],[]⟩ m
   fun r H' m' =>m' =m/\H' =⟨[],[]⟩/\r= .tup [dJ (gu E S X.k X.s X.c ts).1,.v (.int .i64 (gu E S X.k X.s X.c ts).2)]:=by
 have aS:=hT.ck.chk;have hr:=hT.r;have d6:decide (X.k=6)=false:=ab hk;by_cases h7:X.k=7
 ·have d7:decide (X.k=7)=true:=aQ h7;have d8:decide (X.k=8)=false:=ab (by omega);obtain⟨q1,q2⟩:=lE ht (h0 h7);have au:= @cC _ _ _ 3 q2 rfl;simp only[aB] at au;have hK:gu E S X.k X.s X.c ts=(if eb (ts.getD 0 an)=true then oh E S false (pt (ts.getD 0 an)) X.s else(an,73)):=by rw[gu,ae hk,ak h7]
  rw[hK];generalize hz:ts.getD 0 an=z
  rw[hz] at au;have q1:bS ta tn 0=True:=q1;unfold oh;cases jO:cg E (pt z) X.s with
  |none=>
   refine enter (cO S E) (bM S E) Tryz.func189 rfl rfl (by kernel_rfl) rfl ?_ ?_
   ·simp only[go_sem,av,Nd.cs]
   ·simp only[go_sem,av,Nd.cs,d6,d7,d8,q1,au,aS,hr,jO,qk,wH];refine⟨fun h=> ?_,fun h=>⟨by kernel_rfl,?_⟩⟩
    ·rw[ae (by rw[show eb z=false from h];decide)];first |done |rfl
    ·rw[ak (show eb z=true from h)];first |done |rfl
  |some x=>
   obtain⟨o,f⟩:=x;refine enter (cO S E) (bM S E) Tryz.func189 rfl rfl (by kernel_rfl) rfl ?_ ?_
   ·simp only[go_sem,av,Nd.cs]
   ·simp only[go_sem,av,Nd.cs,d6,d7,d8,q1,au,aS,hr,jO,qk,Fc.cs];refine⟨fun h=> ?_,fun h=> ?_⟩
    ·rw[ae (by rw[show eb z=false from h];decide)];first |done |rfl
    ·rw[ak (show eb z=true from h)];refine⟨by kernel_rfl,fun h1=> ?_,fun h1=> ?_⟩
     ·rw[ak (show(hasB f.fl 8==false)=false\/jJ S o f.fl=false from h1)];first |done |rfl
     ·have e:¬((hasB f.fl 8==false)=false\/jJ S o f.fl=false):=by
       rw[show(hasB f.fl 8==false)=true from h1.1,h1.2];decide
      rw[ae e];first |done |rfl
 ·have d7:decide (X.k=7)=false:=ab h7;have d8:decide (X.k=8)=true:=aQ (by omega);have hK:gu E S X.k X.s X.c ts=oh E S true X.c X.s:=by rw[gu,ae hk,ae h7]
  rw[hK];unfold oh;cases jO:cg E X.c X.s with
  |none=>
   refine enter (cO S E) (bM S E) Tryz.func189 rfl rfl (by kernel_rfl) rfl ?_ ?_
   ·simp only[go_sem,av,Nd.cs]
   ·simp only[go_sem,av,Nd.cs,d6,d7,d8,aS,hr,jO,qk,wH];exact⟨by kernel_rfl,rfl⟩
  |some x=>
   obtain⟨o,f⟩:=x;refine enter (cO S E) (bM S E) Tryz.func189 rfl rfl (by kernel_rfl) rfl ?_ ?_
   ·simp only[go_sem,av,Nd.cs]
   ·simp only[go_sem,av,Nd.cs,d6,d7,d8,aS,hr,jO,qk,Fc.cs];refine⟨by kernel_rfl,fun h1=> ?_,fun h1=> ?_⟩
    ·rw[ak (show(hasB f.fl 8==true)=false\/jJ S o f.fl=false from h1)];first |done |rfl
    ·have e:¬((hasB f.fl 8==true)=false\/jJ S o f.fl=false):=by
      rw[show(hasB f.fl 8==true)=true from h1.1,h1.2];decide
     rw[ae e];first |done |rfl
end
section
variable {S:Sc} {E:List Cd} {ad:Addr} {da:Option Addr} {dc:Nat} {la:Option Addr} {lc:Nat} {b:Nat} {a:Option Addr} {c:Nat} {L:List Cc}
theorem VU (X:Nd) (ta:Option Addr) (tn tc:Nat) (ts:List Ty) (m:Mem) (hT:Tp m S E ad da dc la lc b a c L) (ht:TsA m ts ta tn tc) (hk:X.k=14) (h0:0<ts.length) (hd: -1000<=X.ty.dim/\X.ty.dim<=1000):
  FnH Tryz.prog 195 [.v (.agg ⟨av ad da dc S la lc⟩),.v (.agg ⟨X.cs⟩),.v (.slice ta tn tc)] ⟨[],[]⟩ m
   fun r H' m' =>af m m' /\H' =⟨[],[]⟩/\r= .tup [dJ (je E S X.k X.c X.ty ts).1,.v (.int .i64 (je E S X.k X.c X.ty ts).2)]:=by
 have aS:=hT.ck.chk;have d14:decide (X.k=14)=true:=aQ hk;have sN:az (X.ty.dim+1)=True:=eq_true (by unfold az;omega);obtain⟨q1,q2⟩:=lE ht h0;have q1:bS ta tn 0=True:=q1;have au:= @cC _ _ _ 3 q2 rfl;simp only[aB] at au;have hK:je E S X.k X.c X.ty ts=(if cM E X.ty=true then fb (Ty.eq (ts.getD 0 an) cr&&decide (X.ty.dim<8)) ⟨X.ty.dim+1,X.ty.base,X.ty.name⟩ else(an,72)):=by rw[je,ak hk]
 rw[hK];generalize hz:ts.getD 0 an=z
 rw[hz] at au;cases ru:cM E X.ty with
 |false=>
  rw[ae (by decide)];refine enter (cO S E) (bM S E) Tryz.func195 rfl rfl (by kernel_rfl) rfl ?_ ?_
  ·simp only[go_sem,av,Nd.cs]
  ·simp only[go_sem,av,Nd.cs,d14,aS,ru];first |done |exact⟨fR m▸trivial,rfl⟩ |exact rfl
 |true=>
  rw[ak rfl];refine enter (cO S E) (bM S E) Tryz.func195 rfl rfl (by kernel_rfl) rfl ?_ ?_
  ·simp only[go_sem,av,Nd.cs]
  ·simp only[go_sem,av,Nd.cs,d14,aS,ru,sN];refine bZ (.hoist 0 (.hoist 1 (.hoist 2 (.hoist 11 (.alt 3 [11,2,1,0] (.hoist 4 (.hoist 5 (.hoist 6 (.hoist 7 (.hoist 8 (.hoist 9 (.hoist 10 (.alt 12 [] (.hoist 13 (.hoist 14 (.alt 15 [] (.hoist 16 .done) .stop))) .stop)))))))) .stop))))) (bM S E) (by kernel_rfl) (by kernel_rfl) ?_;simp only[go_sem,aB,q1,au,dD,cr,sN];first |done |rfl
theorem Uw (X:Nd) (ta:Option Addr) (tn tc:Nat) (ts:List Ty) (m:Mem) (hT:Tp m S E ad da dc la lc b a c L) (ht:TsA m ts ta tn tc) (hk:¬X.k=14):
  FnH Tryz.prog 195 [.v (.agg ⟨av ad da dc S la lc⟩),.v (.agg ⟨X.cs⟩),.v (.slice ta tn tc)] ⟨[],[]⟩ m
   fun r H' m' =>af m m' /\H' =⟨[],[]⟩/\r= .tup [dJ (je E S X.k X.c X.ty ts).1,.v (.int .i64 (je E S X.k X.c X.ty ts).2)]:=by
 have hC:=hT.ck;have d14:decide (X.k=14)=false:=ab hk
 have hK:je E S X.k X.c X.ty ts=(match cls E X.c with
  |none=>(an,72)
  |some d=>if hasB d.fl 1536=true then(an,73) else(cG X.c,n9 E S X.c ts)):=by rw[je,ae hk];rfl
 have hN:=J6 X.c ts ta tn tc m hT ht;revert hK hN;generalize je E S X.k X.c X.ty ts=K
 generalize n9 E S X.c ts=CC
 intro hK hN;unfold av at hN;cases hc:cls E X.c with
 |none=>
  rw[hc] at hK;have hf:=hC.none hc;clear hN;refine enter (cO S E) (bM S E) Tryz.func195 rfl rfl (by kernel_rfl) rfl ?_ ?_
  ·simp only[go_sem,av,Nd.cs]
  ·simp only[go_sem,av,Nd.cs,d14];refine bZ (.hoist 0 (.hoist 1 (.hoist 2 (.hoist 3 (.hoist 4 (.hoist 5 (.hoist 6 (.hoist 7 (.hoist 8 (.hoist 9 (.hoist 10 (.alt 11 [10,9,8,7,6,5,4,3,2,1,0] (.alt 12 [10] (.hoist 13 .done) .stop) .stop)))))))))))) (bM S E) (by kernel_rfl) (by kernel_rfl) ?_;simp only[go_sem,cj (j:=0) hC.rd rfl,cj (j:=1) hC.rd rfl,fK hC.rm,iV,Option.map_none,Option.map_some,cv,forall_eq',false_implies,and_true,true_and,fh,hf];rw[hK];first |done |rfl
 |some d=>
  rw[hc] at hK;obtain⟨Y,hY⟩:=hC.some hc;have hf:=hY.1;refine enter (cO S E) (bM S E) Tryz.func195 rfl rfl (by kernel_rfl) rfl ?_ ?_
  ·clear hN;simp only[go_sem,av,Nd.cs]
  ·simp only[go_sem,av,Nd.cs,d14];refine bZ (.hoist 0 (.hoist 1 (.hoist 2 (.hoist 3 (.hoist 4 (.hoist 5 (.hoist 6 (.hoist 7 (.hoist 8 (.hoist 9 (.hoist 10 (.alt 11 [10,9,8,7,6,5,4,3,2,1,0] (.alt 12 [10] (.hoist 13 .done) .stop) .stop)))))))))))) (bM S E) (by kernel_rfl) (by kernel_rfl) ?_;simp only[go_sem,cj (j:=0) hC.rd rfl,cj (j:=1) hC.rd rfl,fK hC.rm,iV,Option.map_none,Option.map_some,cv,forall_eq',false_implies,and_true,true_and,fh,hf,Cc.cs];have gX:=hY.2.fl;have hK:K=if hasB d.fl 1536=true then(an,73) else(cG X.c,CC):=hK
   rw[<- gX] at hK;refine⟨fun h0=> ?_,fun h0=> ?_⟩
   ·rw[hK,ak (by unfold hasB;rw[ab h0];rfl)];first |done |rfl
   ·have hK:=hK.trans (ae (by unfold hasB;rw[aQ h0];decide));refine bZ (.hoist 0 (.hoist 1 (.hoist 3 (.hoist 4 (.hoist 5 (.hoist 6 (.alt 2 [6,5,4,3] (.alt 7 [] (.alt 8 [] (.hoist 9 .done) .stop) .stop) .stop))))))) (bM S E) (by kernel_rfl) (by kernel_rfl) ?_;simp only[go_sem,aB];refine ai ((aD hN fun V=>rfl).mono ?_);clear hN;rintro r H' m1 aR ⟨l1,rfl,rfl⟩;have bE:=eq_true l1;simp only[go_sem,aB,bE,and_self];rw[hK];first |done |rfl
end
section
variable {S:Sc} {E:List Cd} {ad:Addr} {da:Option Addr} {dc:Nat} {la:Option Addr} {lc:Nat} {b:Nat} {a:Option Addr} {c:Nat} {L:List Cc}
theorem qF {m:Mem} {x:Value} {t:Ty} (h:Rd m x (aB t)) {K:Value->Prop}:(∃c,Rd m (vZ x 0) [c]/\K c)=K (.int .i64 t.dim):=r9 h (j:=0) rfl
theorem X4 (X:Nd) (ta:Option Addr) (tn tc:Nat) (ts:List Ty) (m:Mem) (hT:Tp m S E ad da dc la lc b a c L) (ht:TsA m ts ta tn tc) (hk:X.k=6):
  FnH Tryz.prog 104 [.v (.agg ⟨av ad da dc S la lc⟩),.v (.agg ⟨X.cs⟩),.v (.slice ta tn tc)] ⟨[],[]⟩ m
   fun r H' m' =>af m m' /\H' =⟨[],[]⟩/\r= .tup [dJ (bq E S X.k X.s X.c X.ty ts).1,.v (.int .i64 (bq E S X.k X.s X.c X.ty ts).2)]:=by
 have aS:=hT.ck.chk;have hr:=hT.r;have hK:bq E S X.k X.s X.c X.ty ts=gu E S X.k X.s X.c ts:=by rw[bq,ak (by omega)]
 have d6:decide (X.k=6)=true:=aQ hk;have d7:decide (X.k=7)=false:=ab (by omega);have d8:decide (X.k=8)=false:=ab (by omega);have d9:decide (X.k=9)=false:=ab (by omega);have d19:decide (X.k=19)=false:=ab (by omega);have d10:decide (X.k=10)=false:=ab (by omega);have d11:decide (X.k=11)=false:=ab (by omega);have d12:decide (X.k=12)=false:=ab (by omega);have d13:decide (X.k=13)=false:=ab (by omega);have d14:decide (X.k=14)=false:=ab (by omega);have d15:decide (X.k=15)=false:=ab (by omega);have d16:decide (X.k=16)=false:=ab (by omega);have d17:decide (X.k=17)=false:=ab (by omega);have d18:decide (X.k=18)=false:=ab (by omega);have d20:decide (X.k=20)=false:=ab (by omega);have d21:decide (X.k=21)=false:=ab (by omega);rw[hK];have hN:=UD X ta tn tc ts m hT hk;unfold av at hN;revert hN;generalize gu E S X.k X.s X.c ts=K
 intro hN;refine enter (cO S E) (bM S E) Tryz.func104 rfl rfl (by kernel_rfl) rfl ?_ ?_
 ·clear hN;simp only[go_sem,av,Nd.cs]
 ·simp only[go_sem,av,Nd.cs,d6,d7,d8,d9,d19,d10,d11,d12,d13,d14,d15,d16,d17,d18,d20,d21,aS,hr];refine ai ((aD hN fun V=>rfl).mono ?_);clear hN;rintro r H' m1 aR ⟨rfl,rfl,rfl⟩;simp only[go_sem,fR,and_self]
theorem X3 (X:Nd) (ta:Option Addr) (tn tc:Nat) (ts:List Ty) (m:Mem) (hT:Tp m S E ad da dc la lc b a c L) (ht:TsA m ts ta tn tc) (hk:X.k=7) (h0:0<ts.length):
  FnH Tryz.prog 104 [.v (.agg ⟨av ad da dc S la lc⟩),.v (.agg ⟨X.cs⟩),.v (.slice ta tn tc)] ⟨[],[]⟩ m
   fun r H' m' =>af m m' /\H' =⟨[],[]⟩/\r= .tup [dJ (bq E S X.k X.s X.c X.ty ts).1,.v (.int .i64 (bq E S X.k X.s X.c X.ty ts).2)]:=by
 have aS:=hT.ck.chk;have hr:=hT.r;have hK:bq E S X.k X.s X.c X.ty ts=gu E S X.k X.s X.c ts:=by rw[bq,ak (by omega)]
 have d6:decide (X.k=6)=false:=ab (by omega);have d7:decide (X.k=7)=true:=aQ hk;have d8:decide (X.k=8)=false:=ab (by omega);have d9:decide (X.k=9)=false:=ab (by omega);have d19:decide (X.k=19)=false:=ab (by omega);have d10:decide (X.k=10)=false:=ab (by omega);have d11:decide (X.k=11)=false:=ab (by omega);have d12:decide (X.k=12)=false:=ab (by omega);have d13:decide (X.k=13)=false:=ab (by omega);have d14:decide (X.k=14)=false:=ab (by omega);have d15:decide (X.k=15)=false:=ab (by omega);have d16:decide (X.k=16)=false:=ab (by omega);have d17:decide (X.k=17)=false:=ab (by omega);have d18:decide (X.k=18)=false:=ab (by omega);have d20:decide (X.k=20)=false:=ab (by omega);have d21:decide (X.k=21)=false:=ab (by omega);rw[hK];have hN:=KO X ta tn tc ts m hT ht (by omega) (fun _=>h0) (by omega);unfold av at hN;revert hN;generalize gu E S X.k X.s X.c ts=K
 intro hN;refine enter (cO S E) (bM S E) Tryz.func104 rfl rfl (by kernel_rfl) rfl ?_ ?_
 ·clear hN;simp only[go_sem,av,Nd.cs]
 ·simp only[go_sem,av,Nd.cs,d6,d7,d8,d9,d19,d10,d11,d12,d13,d14,d15,d16,d17,d18,d20,d21,aS,hr];refine ai ((aD hN fun V=>rfl).mono ?_);clear hN;rintro r H' m1 aR ⟨rfl,rfl,rfl⟩;simp only[go_sem,fR,and_self]
theorem X2 (X:Nd) (ta:Option Addr) (tn tc:Nat) (ts:List Ty) (m:Mem) (hT:Tp m S E ad da dc la lc b a c L) (ht:TsA m ts ta tn tc) (hk:X.k=8):
  FnH Tryz.prog 104 [.v (.agg ⟨av ad da dc S la lc⟩),.v (.agg ⟨X.cs⟩),.v (.slice ta tn tc)] ⟨[],[]⟩ m
   fun r H' m' =>af m m' /\H' =⟨[],[]⟩/\r= .tup [dJ (bq E S X.k X.s X.c X.ty ts).1,.v (.int .i64 (bq E S X.k X.s X.c X.ty ts).2)]:=by
 have aS:=hT.ck.chk;have hr:=hT.r;have hK:bq E S X.k X.s X.c X.ty ts=gu E S X.k X.s X.c ts:=by rw[bq,ak (by omega)]
 have d6:decide (X.k=6)=false:=ab (by omega);have d7:decide (X.k=7)=false:=ab (by omega);have d8:decide (X.k=8)=true:=aQ hk;have d9:decide (X.k=9)=false:=ab (by omega);have d19:decide (X.k=19)=false:=ab (by omega);have d10:decide (X.k=10)=false:=ab (by omega);have d11:decide (X.k=11)=false:=ab (by omega);have d12:decide (X.k=12)=false:=ab (by omega);have d13:decide (X.k=13)=false:=ab (by omega);have d14:decide (X.k=14)=false:=ab (by omega);have d15:decide (X.k=15)=false:=ab (by omega);have d16:decide (X.k=16)=false:=ab (by omega);have d17:decide (X.k=17)=false:=ab (by omega);have d18:decide (X.k=18)=false:=ab (by omega);have d20:decide (X.k=20)=false:=ab (by omega);have d21:decide (X.k=21)=false:=ab (by omega);rw[hK];have hN:=KO X ta tn tc ts m hT ht (by omega) (fun h=>absurd h (by omega)) (by omega);unfold av at hN;revert hN;generalize gu E S X.k X.s X.c ts=K
 intro hN;refine enter (cO S E) (bM S E) Tryz.func104 rfl rfl (by kernel_rfl) rfl ?_ ?_
 ·clear hN;simp only[go_sem,av,Nd.cs]
 ·simp only[go_sem,av,Nd.cs,d6,d7,d8,d9,d19,d10,d11,d12,d13,d14,d15,d16,d17,d18,d20,d21,aS,hr];refine ai ((aD hN fun V=>rfl).mono ?_);clear hN;rintro r H' m1 aR ⟨rfl,rfl,rfl⟩;simp only[go_sem,fR,and_self]
theorem VN (X:Nd) (ta:Option Addr) (tn tc:Nat) (ts:List Ty) (m:Mem) (hT:Tp m S E ad da dc la lc b a c L) (ht:TsA m ts ta tn tc) (hk:X.k=11):
  FnH Tryz.prog 104 [.v (.agg ⟨av ad da dc S la lc⟩),.v (.agg ⟨X.cs⟩),.v (.slice ta tn tc)] ⟨[],[]⟩ m
   fun r H' m' =>af m m' /\H' =⟨[],[]⟩/\r= .tup [dJ (bq E S X.k X.s X.c X.ty ts).1,.v (.int .i64 (bq E S X.k X.s X.c X.ty ts).2)]:=by
 have aS:=hT.ck.chk;have hr:=hT.r;have hK:bq E S X.k X.s X.c X.ty ts=jg E S X.c X.s true ts:=by rw[bq,ae (by omega),ae (by omega),ae (by omega),ae (by omega),ak (by omega)]
 have d6:decide (X.k=6)=false:=ab (by omega);have d7:decide (X.k=7)=false:=ab (by omega);have d8:decide (X.k=8)=false:=ab (by omega);have d9:decide (X.k=9)=false:=ab (by omega);have d19:decide (X.k=19)=false:=ab (by omega);have d10:decide (X.k=10)=false:=ab (by omega);have d11:decide (X.k=11)=true:=aQ hk;have d12:decide (X.k=12)=false:=ab (by omega);have d13:decide (X.k=13)=false:=ab (by omega);have d14:decide (X.k=14)=false:=ab (by omega);have d15:decide (X.k=15)=false:=ab (by omega);have d16:decide (X.k=16)=false:=ab (by omega);have d17:decide (X.k=17)=false:=ab (by omega);have d18:decide (X.k=18)=false:=ab (by omega);have d20:decide (X.k=20)=false:=ab (by omega);have d21:decide (X.k=21)=false:=ab (by omega);rw[hK];have hN:=EA X.c X.s true ts ta tn tc m hT ht;unfold av at hN;revert hN;generalize jg E S X.c X.s true ts=K
 intro hN;refine enter (cO S E) (bM S E) Tryz.func104 rfl rfl (by kernel_rfl) rfl ?_ ?_
 ·clear hN;simp only[go_sem,av,Nd.cs]
 ·simp only[go_sem,av,Nd.cs,d6,d7,d8,d9,d19,d10,d11,d12,d13,d14,d15,d16,d17,d18,d20,d21,aS,hr];refine ai ((aD hN fun V=>rfl).mono ?_);clear hN;rintro r H' m1 aR ⟨l1,rfl,rfl⟩;have bE:=eq_true l1;simp only[go_sem,bE,and_self]
theorem VM (X:Nd) (ta:Option Addr) (tn tc:Nat) (ts:List Ty) (m:Mem) (hT:Tp m S E ad da dc la lc b a c L) (ht:TsA m ts ta tn tc) (hk:X.k=12):
  FnH Tryz.prog 104 [.v (.agg ⟨av ad da dc S la lc⟩),.v (.agg ⟨X.cs⟩),.v (.slice ta tn tc)] ⟨[],[]⟩ m
   fun r H' m' =>af m m' /\H' =⟨[],[]⟩/\r= .tup [dJ (bq E S X.k X.s X.c X.ty ts).1,.v (.int .i64 (bq E S X.k X.s X.c X.ty ts).2)]:=by
 have aS:=hT.ck.chk;have hr:=hT.r;have hK:bq E S X.k X.s X.c X.ty ts=mN E S X.s ts:=by rw[bq,ae (by omega),ae (by omega),ae (by omega),ae (by omega),ae (by omega),ak (by omega)]
 have d6:decide (X.k=6)=false:=ab (by omega);have d7:decide (X.k=7)=false:=ab (by omega);have d8:decide (X.k=8)=false:=ab (by omega);have d9:decide (X.k=9)=false:=ab (by omega);have d19:decide (X.k=19)=false:=ab (by omega);have d10:decide (X.k=10)=false:=ab (by omega);have d11:decide (X.k=11)=false:=ab (by omega);have d12:decide (X.k=12)=true:=aQ hk;have d13:decide (X.k=13)=false:=ab (by omega);have d14:decide (X.k=14)=false:=ab (by omega);have d15:decide (X.k=15)=false:=ab (by omega);have d16:decide (X.k=16)=false:=ab (by omega);have d17:decide (X.k=17)=false:=ab (by omega);have d18:decide (X.k=18)=false:=ab (by omega);have d20:decide (X.k=20)=false:=ab (by omega);have d21:decide (X.k=21)=false:=ab (by omega);rw[hK];have hN:=P5 X.s ts ta tn tc m hT ht;unfold av at hN;revert hN;generalize mN E S X.s ts=K
 intro hN;refine enter (cO S E) (bM S E) Tryz.func104 rfl rfl (by kernel_rfl) rfl ?_ ?_
 ·clear hN;simp only[go_sem,av,Nd.cs]
 ·simp only[go_sem,av,Nd.cs,d6,d7,d8,d9,d19,d10,d11,d12,d13,d14,d15,d16,d17,d18,d20,d21,aS,hr];refine ai ((aD hN fun V=>rfl).mono ?_);clear hN;rintro r H' m1 aR ⟨l1,rfl,rfl⟩;have bE:=eq_true l1;simp only[go_sem,bE,and_self]
theorem VL (X:Nd) (ta:Option Addr) (tn tc:Nat) (ts:List Ty) (m:Mem) (hT:Tp m S E ad da dc la lc b a c L) (ht:TsA m ts ta tn tc) (hk:X.k=13):
  FnH Tryz.prog 104 [.v (.agg ⟨av ad da dc S la lc⟩),.v (.agg ⟨X.cs⟩),.v (.slice ta tn tc)] ⟨[],[]⟩ m
   fun r H' m' =>af m m' /\H' =⟨[],[]⟩/\r= .tup [dJ (bq E S X.k X.s X.c X.ty ts).1,.v (.int .i64 (bq E S X.k X.s X.c X.ty ts).2)]:=by
 have aS:=hT.ck.chk;have hr:=hT.r;have hK:bq E S X.k X.s X.c X.ty ts=je E S X.k X.c X.ty ts:=by rw[bq,ae (by omega),ae (by omega),ae (by omega),ae (by omega),ae (by omega),ae (by omega),ak (by omega)]
 have d6:decide (X.k=6)=false:=ab (by omega);have d7:decide (X.k=7)=false:=ab (by omega);have d8:decide (X.k=8)=false:=ab (by omega);have d9:decide (X.k=9)=false:=ab (by omega);have d19:decide (X.k=19)=false:=ab (by omega);have d10:decide (X.k=10)=false:=ab (by omega);have d11:decide (X.k=11)=false:=ab (by omega);have d12:decide (X.k=12)=false:=ab (by omega);have d13:decide (X.k=13)=true:=aQ hk;have d14:decide (X.k=14)=false:=ab (by omega);have d15:decide (X.k=15)=false:=ab (by omega);have d16:decide (X.k=16)=false:=ab (by omega);have d17:decide (X.k=17)=false:=ab (by omega);have d18:decide (X.k=18)=false:=ab (by omega);have d20:decide (X.k=20)=false:=ab (by omega);have d21:decide (X.k=21)=false:=ab (by omega);rw[hK];have hN:=Uw X ta tn tc ts m hT ht (by omega);unfold av at hN;revert hN;generalize je E S X.k X.c X.ty ts=K
 intro hN;refine enter (cO S E) (bM S E) Tryz.func104 rfl rfl (by kernel_rfl) rfl ?_ ?_
 ·clear hN;simp only[go_sem,av,Nd.cs]
 ·simp only[go_sem,av,Nd.cs,d6,d7,d8,d9,d19,d10,d11,d12,d13,d14,d15,d16,d17,d18,d20,d21,aS,hr];refine ai ((aD hN fun V=>rfl).mono ?_);clear hN;rintro r H' m1 aR ⟨l1,rfl,rfl⟩;have bE:=eq_true l1;simp only[go_sem,bE,and_self]
theorem VK (X:Nd) (ta:Option Addr) (tn tc:Nat) (ts:List Ty) (m:Mem) (hT:Tp m S E ad da dc la lc b a c L) (ht:TsA m ts ta tn tc) (hk:X.k=14) (h0:0<ts.length) (hd: -1000<=X.ty.dim/\X.ty.dim<=1000):
  FnH Tryz.prog 104 [.v (.agg ⟨av ad da dc S la lc⟩),.v (.agg ⟨X.cs⟩),.v (.slice ta tn tc)] ⟨[],[]⟩ m
   fun r H' m' =>af m m' /\H' =⟨[],[]⟩/\r= .tup [dJ (bq E S X.k X.s X.c X.ty ts).1,.v (.int .i64 (bq E S X.k X.s X.c X.ty ts).2)]:=by
 have aS:=hT.ck.chk;have hr:=hT.r;have hK:bq E S X.k X.s X.c X.ty ts=je E S X.k X.c X.ty ts:=by rw[bq,ae (by omega),ae (by omega),ae (by omega),ae (by omega),ae (by omega),ae (by omega),ak (by omega)]
 have d6:decide (X.k=6)=false:=ab (by omega);have d7:decide (X.k=7)=false:=ab (by omega);have d8:decide (X.k=8)=false:=ab (by omega);have d9:decide (X.k=9)=false:=ab (by omega);have d19:decide (X.k=19)=false:=ab (by omega);have d10:decide (X.k=10)=false:=ab (by omega);have d11:decide (X.k=11)=false:=ab (by omega);have d12:decide (X.k=12)=false:=ab (by omega);have d13:decide (X.k=13)=false:=ab (by omega);have d14:decide (X.k=14)=true:=aQ hk;have d15:decide (X.k=15)=false:=ab (by omega);have d16:decide (X.k=16)=false:=ab (by omega);have d17:decide (X.k=17)=false:=ab (by omega);have d18:decide (X.k=18)=false:=ab (by omega);have d20:decide (X.k=20)=false:=ab (by omega);have d21:decide (X.k=21)=false:=ab (by omega);rw[hK];have hN:=VU X ta tn tc ts m hT ht hk h0 hd;unfold av at hN;revert hN;generalize je E S X.k X.c X.ty ts=K
 intro hN;refine enter (cO S E) (bM S E) Tryz.func104 rfl rfl (by kernel_rfl) rfl ?_ ?_
 ·clear hN;simp only[go_sem,av,Nd.cs]
 ·simp only[go_sem,av,Nd.cs,d6,d7,d8,d9,d19,d10,d11,d12,d13,d14,d15,d16,d17,d18,d20,d21,aS,hr];refine ai ((aD hN fun V=>rfl).mono ?_);clear hN;rintro r H' m1 aR ⟨l1,rfl,rfl⟩;have bE:=eq_true l1;simp only[go_sem,bE,and_self]
end
section
variable {S:Sc} {E:List Cd} {ad:Addr} {da:Option Addr} {dc:Nat} {la:Option Addr} {lc:Nat} {b:Nat} {a:Option Addr} {c:Nat} {L:List Cc}
theorem VF (X:Nd) (ta:Option Addr) (tn tc:Nat) (ts:List Ty) (m:Mem) (hT:Tp m S E ad da dc la lc b a c L) (ht:TsA m ts ta tn tc) (hk:X.k=19) (h0:0<ts.length):
  FnH Tryz.prog 104 [.v (.agg ⟨av ad da dc S la lc⟩),.v (.agg ⟨X.cs⟩),.v (.slice ta tn tc)] ⟨[],[]⟩ m
   fun r H' m' =>af m m' /\H' =⟨[],[]⟩/\r= .tup [dJ (bq E S X.k X.s X.c X.ty ts).1,.v (.int .i64 (bq E S X.k X.s X.c X.ty ts).2)]:=by
 have aS:=hT.ck.chk;have hr:=hT.r;have hK:bq E S X.k X.s X.c X.ty ts=fb (decide (0<(ts.getD 0 an).dim)) cr:=by rw[bq,ae (by omega),ae (by omega),ak (by omega)]
 have d6:decide (X.k=6)=false:=ab (by omega);have d7:decide (X.k=7)=false:=ab (by omega);have d8:decide (X.k=8)=false:=ab (by omega);have d9:decide (X.k=9)=false:=ab (by omega);have d19:decide (X.k=19)=true:=aQ hk;have d10:decide (X.k=10)=false:=ab (by omega);have d11:decide (X.k=11)=false:=ab (by omega);have d12:decide (X.k=12)=false:=ab (by omega);have d13:decide (X.k=13)=false:=ab (by omega);have d14:decide (X.k=14)=false:=ab (by omega);have d15:decide (X.k=15)=false:=ab (by omega);have d16:decide (X.k=16)=false:=ab (by omega);have d17:decide (X.k=17)=false:=ab (by omega);have d18:decide (X.k=18)=false:=ab (by omega);have d20:decide (X.k=20)=false:=ab (by omega);have d21:decide (X.k=21)=false:=ab (by omega);rw[hK];obtain⟨q1,q2⟩:=lE ht h0;have q1:bS ta tn 0=True:=q1;have au:= @cC _ _ _ 3 q2 rfl;simp only[aB] at au;have dO:= @qF _ _ _ q2;have dA:mU (bk ta 0)=True:=lD q2;have q2:Rd m (bk ta 0) (aB (ts.getD 0 an)):=q2;revert au dO q2;generalize ts.getD 0 an=z
 intro au dO q2;refine enter (cO S E) (bM S E) Tryz.func104 rfl rfl (by kernel_rfl) rfl ?_ ?_
 ·simp only[go_sem,av,Nd.cs]
 ·simp only[go_sem,av,Nd.cs,d6,d7,d8,d9,d19,d10,d11,d12,d13,d14,d15,d16,d17,d18,d20,d21,aS,hr];refine bZ (.hoist 0 (.hoist 1 (.hoist 2 (.hoist 3 (.hoist 4 (.alt 5 [4,3,2,1,0] (.alt 6 [] (.hoist 7 (.hoist 8 (.alt 9 [] (.hoist 10 .done) .stop))) .stop) .stop)))))) (bM S E) (by kernel_rfl) (by kernel_rfl) ?_;simp only[go_sem,q1,dA,au,dO,dD,cr,ed,aB,aS,hr,fR,and_self];first |done |rfl
theorem VE (X:Nd) (ta:Option Addr) (tn tc:Nat) (ts:List Ty) (m:Mem) (hT:Tp m S E ad da dc la lc b a c L) (ht:TsA m ts ta tn tc) (hk:X.k=20) (h0:0<ts.length):
  FnH Tryz.prog 104 [.v (.agg ⟨av ad da dc S la lc⟩),.v (.agg ⟨X.cs⟩),.v (.slice ta tn tc)] ⟨[],[]⟩ m
   fun r H' m' =>af m m' /\H' =⟨[],[]⟩/\r= .tup [dJ (bq E S X.k X.s X.c X.ty ts).1,.v (.int .i64 (bq E S X.k X.s X.c X.ty ts).2)]:=by
 have aS:=hT.ck.chk;have hr:=hT.r;have hK:bq E S X.k X.s X.c X.ty ts=fb (Ty.eq (ts.getD 0 an) ed) cr:=by rw[bq,ae (by omega),ae (by omega),ae (by omega),ae (by omega),ae (by omega),ae (by omega),ae (by omega),ae (by omega),ae (by omega),ae (by omega),ak (by omega)]
 have d6:decide (X.k=6)=false:=ab (by omega);have d7:decide (X.k=7)=false:=ab (by omega);have d8:decide (X.k=8)=false:=ab (by omega);have d9:decide (X.k=9)=false:=ab (by omega);have d19:decide (X.k=19)=false:=ab (by omega);have d10:decide (X.k=10)=false:=ab (by omega);have d11:decide (X.k=11)=false:=ab (by omega);have d12:decide (X.k=12)=false:=ab (by omega);have d13:decide (X.k=13)=false:=ab (by omega);have d14:decide (X.k=14)=false:=ab (by omega);have d15:decide (X.k=15)=false:=ab (by omega);have d16:decide (X.k=16)=false:=ab (by omega);have d17:decide (X.k=17)=false:=ab (by omega);have d18:decide (X.k=18)=false:=ab (by omega);have d20:decide (X.k=20)=true:=aQ hk;have d21:decide (X.k=21)=false:=ab (by omega);rw[hK];obtain⟨q1,q2⟩:=lE ht h0;have q1:bS ta tn 0=True:=q1;have au:= @cC _ _ _ 3 q2 rfl;simp only[aB] at au;have dO:= @qF _ _ _ q2;have dA:mU (bk ta 0)=True:=lD q2;have q2:Rd m (bk ta 0) (aB (ts.getD 0 an)):=q2;revert au dO q2;generalize ts.getD 0 an=z
 intro au dO q2;refine enter (cO S E) (bM S E) Tryz.func104 rfl rfl (by kernel_rfl) rfl ?_ ?_
 ·simp only[go_sem,av,Nd.cs]
 ·simp only[go_sem,av,Nd.cs,d6,d7,d8,d9,d19,d10,d11,d12,d13,d14,d15,d16,d17,d18,d20,d21,aS,hr];refine bZ (.hoist 0 (.hoist 1 (.hoist 2 (.alt 3 [2,1,0] (.hoist 4 (.alt 5 [4,2,1,0] (.alt 6 [] (.hoist 7 (.hoist 8 (.alt 9 [] (.hoist 10 .done) .stop))) .stop) .stop)) .stop)))) (bM S E) (by kernel_rfl) (by kernel_rfl) ?_;simp only[go_sem,q1,dA,au,dO,dD,cr,ed,aB,aS,hr,fR,and_self];first |done |rfl
theorem VD (X:Nd) (ta:Option Addr) (tn tc:Nat) (ts:List Ty) (m:Mem) (hT:Tp m S E ad da dc la lc b a c L) (ht:TsA m ts ta tn tc) (hk:X.k=21) (h0:0<ts.length):
  FnH Tryz.prog 104 [.v (.agg ⟨av ad da dc S la lc⟩),.v (.agg ⟨X.cs⟩),.v (.slice ta tn tc)] ⟨[],[]⟩ m
   fun r H' m' =>af m m' /\H' =⟨[],[]⟩/\r= .tup [dJ (bq E S X.k X.s X.c X.ty ts).1,.v (.int .i64 (bq E S X.k X.s X.c X.ty ts).2)]:=by
 have aS:=hT.ck.chk;have hr:=hT.r;have hK:bq E S X.k X.s X.c X.ty ts=fb (Ty.eq (ts.getD 0 an) cr) ed:=by rw[bq,ae (by omega),ae (by omega),ae (by omega),ae (by omega),ae (by omega),ae (by omega),ae (by omega),ae (by omega),ae (by omega),ae (by omega),ae (by omega),ak (by omega)]
 have d6:decide (X.k=6)=false:=ab (by omega);have d7:decide (X.k=7)=false:=ab (by omega);have d8:decide (X.k=8)=false:=ab (by omega);have d9:decide (X.k=9)=false:=ab (by omega);have d19:decide (X.k=19)=false:=ab (by omega);have d10:decide (X.k=10)=false:=ab (by omega);have d11:decide (X.k=11)=false:=ab (by omega);have d12:decide (X.k=12)=false:=ab (by omega);have d13:decide (X.k=13)=false:=ab (by omega);have d14:decide (X.k=14)=false:=ab (by omega);have d15:decide (X.k=15)=false:=ab (by omega);have d16:decide (X.k=16)=false:=ab (by omega);have d17:decide (X.k=17)=false:=ab (by omega);have d18:decide (X.k=18)=false:=ab (by omega);have d20:decide (X.k=20)=false:=ab (by omega);have d21:decide (X.k=21)=true:=aQ hk;rw[hK];obtain⟨q1,q2⟩:=lE ht h0;have q1:bS ta tn 0=True:=q1;have au:= @cC _ _ _ 3 q2 rfl;simp only[aB] at au;have dO:= @qF _ _ _ q2;have dA:mU (bk ta 0)=True:=lD q2;have q2:Rd m (bk ta 0) (aB (ts.getD 0 an)):=q2;revert au dO q2;generalize ts.getD 0 an=z
 intro au dO q2;refine enter (cO S E) (bM S E) Tryz.func104 rfl rfl (by kernel_rfl) rfl ?_ ?_
 ·simp only[go_sem,av,Nd.cs]
 ·simp only[go_sem,av,Nd.cs,d6,d7,d8,d9,d19,d10,d11,d12,d13,d14,d15,d16,d17,d18,d20,d21,aS,hr];refine bZ (.hoist 0 (.hoist 1 (.hoist 2 (.alt 3 [2,1,0] (.hoist 4 (.alt 5 [4,2,1,0] (.alt 6 [] (.hoist 7 (.hoist 8 (.alt 9 [] (.hoist 10 .done) .stop))) .stop) .stop)) .stop)))) (bM S E) (by kernel_rfl) (by kernel_rfl) ?_;simp only[go_sem,q1,dA,au,dO,dD,cr,ed,aB,aS,hr,fR,and_self];first |done |rfl
theorem VJ (X:Nd) (ta:Option Addr) (tn tc:Nat) (ts:List Ty) (m:Mem) (hT:Tp m S E ad da dc la lc b a c L) (ht:TsA m ts ta tn tc) (hk:X.k=15) (h0:0<ts.length):
  FnH Tryz.prog 104 [.v (.agg ⟨av ad da dc S la lc⟩),.v (.agg ⟨X.cs⟩),.v (.slice ta tn tc)] ⟨[],[]⟩ m
   fun r H' m' =>af m m' /\H' =⟨[],[]⟩/\r= .tup [dJ (bq E S X.k X.s X.c X.ty ts).1,.v (.int .i64 (bq E S X.k X.s X.c X.ty ts).2)]:=by
 have aS:=hT.ck.chk;have hr:=hT.r;have hK:bq E S X.k X.s X.c X.ty ts=fb (Ty.eq (ts.getD 0 an) cr||(decide (X.s=[45])&&Ty.eq (ts.getD 0 an) ed)) (ts.getD 0 an):=by rw[bq,ae (by omega),ae (by omega),ae (by omega),ae (by omega),ae (by omega),ae (by omega),ae (by omega),ak (by omega)]
 have d6:decide (X.k=6)=false:=ab (by omega);have d7:decide (X.k=7)=false:=ab (by omega);have d8:decide (X.k=8)=false:=ab (by omega);have d9:decide (X.k=9)=false:=ab (by omega);have d19:decide (X.k=19)=false:=ab (by omega);have d10:decide (X.k=10)=false:=ab (by omega);have d11:decide (X.k=11)=false:=ab (by omega);have d12:decide (X.k=12)=false:=ab (by omega);have d13:decide (X.k=13)=false:=ab (by omega);have d14:decide (X.k=14)=false:=ab (by omega);have d15:decide (X.k=15)=true:=aQ hk;have d16:decide (X.k=16)=false:=ab (by omega);have d17:decide (X.k=17)=false:=ab (by omega);have d18:decide (X.k=18)=false:=ab (by omega);have d20:decide (X.k=20)=false:=ab (by omega);have d21:decide (X.k=21)=false:=ab (by omega);rw[hK];obtain⟨q1,q2⟩:=lE ht h0;have q1:bS ta tn 0=True:=q1;have au:= @cC _ _ _ 3 q2 rfl;simp only[aB] at au;have dO:= @qF _ _ _ q2;have dA:mU (bk ta 0)=True:=lD q2;have q2:Rd m (bk ta 0) (aB (ts.getD 0 an)):=q2;revert au dO q2;generalize ts.getD 0 an=z
 intro au dO q2;refine enter (cO S E) (bM S E) Tryz.func104 rfl rfl (by kernel_rfl) rfl ?_ ?_
 ·simp only[go_sem,av,Nd.cs]
 ·simp only[go_sem,av,Nd.cs,d6,d7,d8,d9,d19,d10,d11,d12,d13,d14,d15,d16,d17,d18,d20,d21,aS,hr];refine bZ (.hoist 0 (.hoist 1 (.hoist 2 (.hoist 17 (.hoist 18 (.hoist 19 (.alt 3 [19,18,17,2,1,0] (.hoist 4 (.hoist 5 (.hoist 6 (.hoist 7 (.hoist 8 (.hoist 9 (.hoist 10 (.hoist 11 (.hoist 12 (.alt 13 [12,11,10,19,18,17] (.hoist 14 (.hoist 15 (.hoist 16 (.alt 20 [] (.hoist 21 (.hoist 22 (.alt 23 [] (.hoist 24 .done) .stop))) .stop)))) .stop)))))))))) .stop))))))) (bM S E) (by kernel_rfl) (by kernel_rfl) ?_;simp only[go_sem,q1,dA,au,dO,dD,cr,ed,aB,aS,hr,fR,and_self];refine⟨aB z,fun _=>⟨q2,rfl⟩,?_⟩;simp only[go_sem,q1,dA,au,dO,dD,cr,ed,aB,aS,hr,fR,and_self];first |done |rfl
theorem VI (X:Nd) (ta:Option Addr) (tn tc:Nat) (ts:List Ty) (m:Mem) (hT:Tp m S E ad da dc la lc b a c L) (ht:TsA m ts ta tn tc) (hk:X.k=16) (h1:1<ts.length):
  FnH Tryz.prog 104 [.v (.agg ⟨av ad da dc S la lc⟩),.v (.agg ⟨X.cs⟩),.v (.slice ta tn tc)] ⟨[],[]⟩ m
   fun r H' m' =>af m m' /\H' =⟨[],[]⟩/\r= .tup [dJ (bq E S X.k X.s X.c X.ty ts).1,.v (.int .i64 (bq E S X.k X.s X.c X.ty ts).2)]:=by
 have aS:=hT.ck.chk;have hr:=hT.r;have hK:bq E S X.k X.s X.c X.ty ts=ir E X.s (ts.getD 0 an) (ts.getD 1 an):=by rw[bq,ae (by omega),ae (by omega),ae (by omega),ae (by omega),ae (by omega),ae (by omega),ae (by omega),ae (by omega),ak (by omega)]
 have d6:decide (X.k=6)=false:=ab (by omega);have d7:decide (X.k=7)=false:=ab (by omega);have d8:decide (X.k=8)=false:=ab (by omega);have d9:decide (X.k=9)=false:=ab (by omega);have d19:decide (X.k=19)=false:=ab (by omega);have d10:decide (X.k=10)=false:=ab (by omega);have d11:decide (X.k=11)=false:=ab (by omega);have d12:decide (X.k=12)=false:=ab (by omega);have d13:decide (X.k=13)=false:=ab (by omega);have d14:decide (X.k=14)=false:=ab (by omega);have d15:decide (X.k=15)=false:=ab (by omega);have d16:decide (X.k=16)=true:=aQ hk;have d17:decide (X.k=17)=false:=ab (by omega);have d18:decide (X.k=18)=false:=ab (by omega);have d20:decide (X.k=20)=false:=ab (by omega);have d21:decide (X.k=21)=false:=ab (by omega);rw[hK];have h0:0<ts.length:=by omega
 obtain⟨q1,q2⟩:=lE ht h0;have q1:bS ta tn 0=True:=q1;have au:= @cC _ _ _ 3 q2 rfl;simp only[aB] at au;have dO:= @qF _ _ _ q2;have dA:mU (bk ta 0)=True:=lD q2;have q2:Rd m (bk ta 0) (aB (ts.getD 0 an)):=q2;obtain⟨q3,q4⟩:=lE ht h1;have q3:bS ta tn 1=True:=q3;have px:= @cC _ _ _ 3 q4 rfl;simp only[aB] at px;have hN:=Tu X.s (ts.getD 0 an) (ts.getD 1 an) m hT;unfold av at hN;revert au dO px hN;generalize ts.getD 0 an=z
 generalize ts.getD 1 an=w
 intro au dO px hN;refine enter (cO S E) (bM S E) Tryz.func104 rfl rfl (by kernel_rfl) rfl ?_ ?_
 ·clear hN;simp only[go_sem,av,Nd.cs]
 ·simp only[go_sem,av,Nd.cs,d6,d7,d8,d9,d19,d10,d11,d12,d13,d14,d15,d16,d17,d18,d20,d21,aS,hr];refine bZ (.hoist 0 (.hoist 1 (.hoist 2 (.hoist 3 (.hoist 4 (.hoist 5 (.hoist 6 (.hoist 7 (.hoist 8 (.alt 9 [] (.hoist 10 (.hoist 11 (.alt 12 [] (.hoist 13 .done) .stop))) .stop)))))))))) (bM S E) (by kernel_rfl) (by kernel_rfl) ?_;simp only[go_sem,q1,q3,au,px,aB,aS,hr];refine ai ((aD hN fun V=>rfl).mono ?_);clear hN;rintro r H' m1 aR ⟨rfl,rfl,rfl⟩;simp only[go_sem,fR,and_self];first |done |rfl
theorem VH (X:Nd) (ta:Option Addr) (tn tc:Nat) (ts:List Ty) (m:Mem) (hT:Tp m S E ad da dc la lc b a c L) (ht:TsA m ts ta tn tc) (hk:X.k=17) (h0:0<ts.length):
  FnH Tryz.prog 104 [.v (.agg ⟨av ad da dc S la lc⟩),.v (.agg ⟨X.cs⟩),.v (.slice ta tn tc)] ⟨[],[]⟩ m
   fun r H' m' =>af m m' /\H' =⟨[],[]⟩/\r= .tup [dJ (bq E S X.k X.s X.c X.ty ts).1,.v (.int .i64 (bq E S X.k X.s X.c X.ty ts).2)]:=by
 have aS:=hT.ck.chk;have hr:=hT.r;have hK:bq E S X.k X.s X.c X.ty ts=mV E X.k X.ty (ts.getD 0 an):=by rw[bq,ae (by omega),ae (by omega),ae (by omega),ae (by omega),ae (by omega),ae (by omega),ae (by omega),ae (by omega),ae (by omega),ak (by omega)]
 have d6:decide (X.k=6)=false:=ab (by omega);have d7:decide (X.k=7)=false:=ab (by omega);have d8:decide (X.k=8)=false:=ab (by omega);have d9:decide (X.k=9)=false:=ab (by omega);have d19:decide (X.k=19)=false:=ab (by omega);have d10:decide (X.k=10)=false:=ab (by omega);have d11:decide (X.k=11)=false:=ab (by omega);have d12:decide (X.k=12)=false:=ab (by omega);have d13:decide (X.k=13)=false:=ab (by omega);have d14:decide (X.k=14)=false:=ab (by omega);have d15:decide (X.k=15)=false:=ab (by omega);have d16:decide (X.k=16)=false:=ab (by omega);have d17:decide (X.k=17)=true:=aQ hk;have d18:decide (X.k=18)=false:=ab (by omega);have d20:decide (X.k=20)=false:=ab (by omega);have d21:decide (X.k=21)=false:=ab (by omega);rw[hK];obtain⟨q1,q2⟩:=lE ht h0;have q1:bS ta tn 0=True:=q1;have au:= @cC _ _ _ 3 q2 rfl;simp only[aB] at au;have dO:= @qF _ _ _ q2;have dA:mU (bk ta 0)=True:=lD q2;have q2:Rd m (bk ta 0) (aB (ts.getD 0 an)):=q2;have hN:=IW X (ts.getD 0 an) m hT;unfold av at hN;revert au dO hN;generalize ts.getD 0 an=z
 intro au dO hN;refine enter (cO S E) (bM S E) Tryz.func104 rfl rfl (by kernel_rfl) rfl ?_ ?_
 ·clear hN;simp only[go_sem,av,Nd.cs]
 ·simp only[go_sem,av,Nd.cs,d6,d7,d8,d9,d19,d10,d11,d12,d13,d14,d15,d16,d17,d18,d20,d21,aS,hr];refine bZ (.hoist 0 (.hoist 1 (.hoist 2 (.hoist 3 (.hoist 4 (.alt 5 [] (.hoist 6 (.hoist 7 (.alt 8 [] (.hoist 9 .done) .stop))) .stop)))))) (bM S E) (by kernel_rfl) (by kernel_rfl) ?_;simp only[go_sem,q1,au,aB,aS,hr];refine ai ((aD hN fun V=>rfl).mono ?_);clear hN;rintro r H' m1 aR ⟨rfl,rfl,rfl⟩;simp only[go_sem,fR,and_self];first |done |rfl
theorem VG (X:Nd) (ta:Option Addr) (tn tc:Nat) (ts:List Ty) (m:Mem) (hT:Tp m S E ad da dc la lc b a c L) (ht:TsA m ts ta tn tc) (hk:X.k=18) (h0:0<ts.length):
  FnH Tryz.prog 104 [.v (.agg ⟨av ad da dc S la lc⟩),.v (.agg ⟨X.cs⟩),.v (.slice ta tn tc)] ⟨[],[]⟩ m
   fun r H' m' =>af m m' /\H' =⟨[],[]⟩/\r= .tup [dJ (bq E S X.k X.s X.c X.ty ts).1,.v (.int .i64 (bq E S X.k X.s X.c X.ty ts).2)]:=by
 have aS:=hT.ck.chk;have hr:=hT.r;have hK:bq E S X.k X.s X.c X.ty ts=mV E X.k X.ty (ts.getD 0 an):=by rw[bq,ae (by omega),ae (by omega),ae (by omega),ae (by omega),ae (by omega),ae (by omega),ae (by omega),ae (by omega),ae (by omega),ak (by omega)]
 have d6:decide (X.k=6)=false:=ab (by omega);have d7:decide (X.k=7)=false:=ab (by omega);have d8:decide (X.k=8)=false:=ab (by omega);have d9:decide (X.k=9)=false:=ab (by omega);have d19:decide (X.k=19)=false:=ab (by omega);have d10:decide (X.k=10)=false:=ab (by omega);have d11:decide (X.k=11)=false:=ab (by omega);have d12:decide (X.k=12)=false:=ab (by omega);have d13:decide (X.k=13)=false:=ab (by omega);have d14:decide (X.k=14)=false:=ab (by omega);have d15:decide (X.k=15)=false:=ab (by omega);have d16:decide (X.k=16)=false:=ab (by omega);have d17:decide (X.k=17)=false:=ab (by omega);have d18:decide (X.k=18)=true:=aQ hk;have d20:decide (X.k=20)=false:=ab (by omega);have d21:decide (X.k=21)=false:=ab (by omega);rw[hK];obtain⟨q1,q2⟩:=lE ht h0;have q1:bS ta tn 0=True:=q1;have au:= @cC _ _ _ 3 q2 rfl;simp only[aB] at au;have dO:= @qF _ _ _ q2;have dA:mU (bk ta 0)=True:=lD q2;have q2:Rd m (bk ta 0) (aB (ts.getD 0 an)):=q2;have hN:=IW X (ts.getD 0 an) m hT;unfold av at hN;revert au dO hN;generalize ts.getD 0 an=z
 intro au dO hN;refine enter (cO S E) (bM S E) Tryz.func104 rfl rfl (by kernel_rfl) rfl ?_ ?_
 ·clear hN;simp only[go_sem,av,Nd.cs]
 ·simp only[go_sem,av,Nd.cs,d6,d7,d8,d9,d19,d10,d11,d12,d13,d14,d15,d16,d17,d18,d20,d21,aS,hr];refine bZ (.hoist 0 (.hoist 1 (.hoist 2 (.hoist 3 (.hoist 4 (.alt 5 [] (.hoist 6 (.hoist 7 (.alt 8 [] (.hoist 9 .done) .stop))) .stop)))))) (bM S E) (by kernel_rfl) (by kernel_rfl) ?_;simp only[go_sem,q1,au,aB,aS,hr];refine ai ((aD hN fun V=>rfl).mono ?_);clear hN;rintro r H' m1 aR ⟨rfl,rfl,rfl⟩;simp only[go_sem,fR,and_self];first |done |rfl
end
theorem Rp {m:Mem} {a:Option Addr} {n c sz:Nat} {xs:List Value} (h:aw m a n sz xs) {l:Nat} (hl:l<=n) (hc:n<=c):aw m (if c=l then a else a.map (·.add (l * sz))) (n - l) sz (xs.drop (l * sz)):=by
 refine⟨by rw[gI,h.1,Nat.sub_mul],fun h0=> ?_⟩;rw[ae (by omega)];obtain⟨ad,rfl,hs,b8⟩:=h.2 (by omega);obtain⟨e1,e2,e3⟩:=kU ad (l * sz) hs;have hm:(n - l) * sz=n * sz - l * sz:=Nat.sub_mul ..;have aK:l * sz<=n * sz:=Nat.mul_le_mul_right _ hl;refine⟨ad.add (l * sz),rfl,e3,fun j hj=> ?_⟩;obtain⟨q1,q2⟩:=b8 (l * sz+j) (by omega);have Ak:(ad.add (l * sz)).add j=ad.add (l * sz+j):=Addr.add_add ad (l * sz) j;rw[Ak,q1,List.getElem?_drop];refine⟨rfl,?_⟩;rw[e1,e2];omega
theorem TsA.tail {m:Mem} {ts:List Ty} {ta:Option Addr} {tn tc:Nat} (h:TsA m ts ta tn tc) (h0:0<ts.length):TsA m ts.tail (if tc=1 then ta else ta.map (·.add (1 * 3))) (tn - 1) (tc - 1):=by
 refine⟨by rw[List.length_tail,h.n],by have:=h.c;omega,?_⟩;have hr:=Rp h.rd (l:=1) (by have:=h.n;omega) h.c;cases ts with
 |nil=>cases h0
 |cons t r=>
  have e:(flat aB (t::r)).drop (1 * 3)=flat aB r:=rfl;rw[e] at hr;exact hr
section
variable {S:Sc} {E:List Cd} {ad:Addr} {da:Option Addr} {dc:Nat} {la:Option Addr} {lc:Nat} {b:Nat} {a:Option Addr} {c:Nat} {L:List Cc}
theorem X1 (X:Nd) (ta:Option Addr) (tn tc:Nat) (ts:List Ty) (m:Mem) (hT:Tp m S E ad da dc la lc b a c L) (ht:TsA m ts ta tn tc) (hk:X.k=9) (h1:1<ts.length) (sN:az ((ts.getD 0 an).dim - 1)=True):
  FnH Tryz.prog 104 [.v (.agg ⟨av ad da dc S la lc⟩),.v (.agg ⟨X.cs⟩),.v (.slice ta tn tc)] ⟨[],[]⟩ m
   fun r H' m' =>af m m' /\H' =⟨[],[]⟩/\r= .tup [dJ (bq E S X.k X.s X.c X.ty ts).1,.v (.int .i64 (bq E S X.k X.s X.c X.ty ts).2)]:=by
 have aS:=hT.ck.chk;have hr:=hT.r;have hK:bq E S X.k X.s X.c X.ty ts=fb (decide (0<(ts.getD 0 an).dim)&&Ty.eq (ts.getD 1 an) cr) ⟨(ts.getD 0 an).dim - 1,(ts.getD 0 an).base,(ts.getD 0 an).name⟩:=by rw[bq,ae (by omega),ak (by omega)]
 have d6:decide (X.k=6)=false:=ab (by omega);have d7:decide (X.k=7)=false:=ab (by omega);have d8:decide (X.k=8)=false:=ab (by omega);have d9:decide (X.k=9)=true:=aQ hk;have d19:decide (X.k=19)=false:=ab (by omega);have d10:decide (X.k=10)=false:=ab (by omega);have d11:decide (X.k=11)=false:=ab (by omega);have d12:decide (X.k=12)=false:=ab (by omega);have d13:decide (X.k=13)=false:=ab (by omega);have d14:decide (X.k=14)=false:=ab (by omega);have d15:decide (X.k=15)=false:=ab (by omega);have d16:decide (X.k=16)=false:=ab (by omega);have d17:decide (X.k=17)=false:=ab (by omega);have d18:decide (X.k=18)=false:=ab (by omega);have d20:decide (X.k=20)=false:=ab (by omega);have d21:decide (X.k=21)=false:=ab (by omega);rw[hK];have h0:0<ts.length:=by omega
 obtain⟨q1,q2⟩:=lE ht h0;have q1:bS ta tn 0=True:=q1;have au:= @cC _ _ _ 3 q2 rfl;simp only[aB] at au;have dO:= @qF _ _ _ q2;have dA:mU (bk ta 0)=True:=lD q2;have q2:Rd m (bk ta 0) (aB (ts.getD 0 an)):=q2;obtain⟨q3,q4⟩:=lE ht h1;have q3:bS ta tn 1=True:=q3;have px:= @cC _ _ _ 3 q4 rfl;simp only[aB] at px;have q4:Rd m (bk ta 3) (aB (ts.getD 1 an)):=q4;revert au dO px q2 q4 sN;generalize ts.getD 0 an=z
 generalize ts.getD 1 an=w
 intro sN au dO q2 px q4;refine enter (cO S E) (bM S E) Tryz.func104 rfl rfl (by kernel_rfl) rfl ?_ ?_
 ·simp only[go_sem,av,Nd.cs]
 ·simp only[go_sem,av,Nd.cs,d6,d7,d8,d9,d19,d10,d11,d12,d13,d14,d15,d16,d17,d18,d20,d21,aS,hr];simp only[go_sem,q1,dA,au,dO,sN,aB];refine bZ (.hoist 0 (.hoist 1 (.hoist 2 (.hoist 3 (.hoist 4 (.hoist 5 (.hoist 6 (.hoist 7 (.hoist 8 (.hoist 12 (.alt 9 [12,8,7,6] (.hoist 10 (.hoist 11 (.alt 13 [] (.hoist 14 (.hoist 15 (.alt 16 [] (.hoist 17 .done) .stop))) .stop))) .stop))))))))))) (bM S E) (by kernel_rfl) (by kernel_rfl) ?_;simp only[go_sem,q1,q3,dA,au,dO,px,sN,dD,cr,ed,aB,aS,hr,fR,and_self];refine⟨aB w,fun _=>⟨q4,rfl⟩,?_⟩;simp only[go_sem,q1,q3,dA,au,dO,px,sN,dD,cr,ed,aB,aS,hr,fR,and_self];first |done |rfl
theorem VO (X:Nd) (ta:Option Addr) (tn tc:Nat) (ts:List Ty) (m:Mem) (hT:Tp m S E ad da dc la lc b a c L) (ht:TsA m ts ta tn tc) (hk:X.k=10) (h0:0<ts.length):
  FnH Tryz.prog 104 [.v (.agg ⟨av ad da dc S la lc⟩),.v (.agg ⟨X.cs⟩),.v (.slice ta tn tc)] ⟨[],[]⟩ m
   fun r H' m' =>af m m' /\H' =⟨[],[]⟩/\r= .tup [dJ (bq E S X.k X.s X.c X.ty ts).1,.v (.int .i64 (bq E S X.k X.s X.c X.ty ts).2)]:=by
 have aS:=hT.ck.chk;have hr:=hT.r;have hK:bq E S X.k X.s X.c X.ty ts=(if eb (ts.getD 0 an)=true then jg E S (pt (ts.getD 0 an)) X.s false ts.tail else(an,73)):=by rw[bq,ae (by omega),ae (by omega),ae (by omega),ak (by omega)]
 have d6:decide (X.k=6)=false:=ab (by omega);have d7:decide (X.k=7)=false:=ab (by omega);have d8:decide (X.k=8)=false:=ab (by omega);have d9:decide (X.k=9)=false:=ab (by omega);have d19:decide (X.k=19)=false:=ab (by omega);have d10:decide (X.k=10)=true:=aQ hk;have d11:decide (X.k=11)=false:=ab (by omega);have d12:decide (X.k=12)=false:=ab (by omega);have d13:decide (X.k=13)=false:=ab (by omega);have d14:decide (X.k=14)=false:=ab (by omega);have d15:decide (X.k=15)=false:=ab (by omega);have d16:decide (X.k=16)=false:=ab (by omega);have d17:decide (X.k=17)=false:=ab (by omega);have d18:decide (X.k=18)=false:=ab (by omega);have d20:decide (X.k=20)=false:=ab (by omega);have d21:decide (X.k=21)=false:=ab (by omega);rw[hK];obtain⟨q1,q2⟩:=lE ht h0;have q1:bS ta tn 0=True:=q1;have au:= @cC _ _ _ 3 q2 rfl;simp only[aB] at au;have dO:= @qF _ _ _ q2;have dA:mU (bk ta 0)=True:=lD q2;have q2:Rd m (bk ta 0) (aB (ts.getD 0 an)):=q2;have hN:=EA (pt (ts.getD 0 an)) X.s false ts.tail _ _ _ m hT (ht.tail h0);have eE:((1:Int)<=tn)=True:=eq_true (by have:=ht.n;omega);have gh:=ht.c;unfold av at hN;revert au dO hN q2;generalize ts.getD 0 an=z
 generalize ts.tail=tt
 intro au dO q2 hN;refine enter (cO S E) (bM S E) Tryz.func104 rfl rfl (by kernel_rfl) rfl ?_ ?_
 ·clear hN;simp only[go_sem,av,Nd.cs]
 ·simp only[go_sem,av,Nd.cs,d6,d7,d8,d9,d19,d10,d11,d12,d13,d14,d15,d16,d17,d18,d20,d21,aS,hr];simp only[go_sem,q1,au,aB,aS,hr];refine⟨fun h=> ?_,fun h=> ?_⟩
  ·rw[ae (by rw[h];decide)];first |done |rfl
  ·rw[ak h];refine bZ (.hoist 0 (.hoist 1 (.hoist 2 (.hoist 3 (.hoist 5 (.hoist 6 (.hoist 7 (.hoist 8 (.alt 4 [8,7,6,5,0] (.alt 9 [] (.hoist 10 (.hoist 11 (.alt 12 [] (.hoist 13 .done) .stop))) .stop) .stop))))))))) (bM S E) (by kernel_rfl) (by kernel_rfl) ?_;simp only[go_sem,q1,au,aB,aS,hr,eE];refine⟨⟨by omega,by omega⟩,by kernel_rfl,bD ((aD hN fun V=>rfl).mono ?_)⟩;clear hN;rintro r H' m1 aR ⟨l1,rfl,rfl⟩;have bE:=eq_true l1;simp only[go_sem,bE,and_self];first |done |rfl
theorem yi (X:Nd) (ta:Option Addr) (tn tc:Nat) (ts:List Ty) (m:Mem) (hT:Tp m S E ad da dc la lc b a c L) (ht:TsA m ts ta tn tc) (hk:X.k<=5):
  FnH Tryz.prog 104 [.v (.agg ⟨av ad da dc S la lc⟩),.v (.agg ⟨X.cs⟩),.v (.slice ta tn tc)] ⟨[],[]⟩ m
   fun r H' m' =>af m m' /\H' =⟨[],[]⟩/\r= .tup [dJ (bq E S X.k X.s X.c X.ty ts).1,.v (.int .i64 (bq E S X.k X.s X.c X.ty ts).2)]:=by
 have aS:=hT.ck.chk;have hr:=hT.r;have hK:bq E S X.k X.s X.c X.ty ts=kH S X.k:=by rw[bq,ae (by omega),ae (by omega),ae (by omega),ae (by omega),ae (by omega),ae (by omega),ae (by omega),ae (by omega),ae (by omega),ae (by omega),ae (by omega),ae (by omega)]
 have d6:decide (X.k=6)=false:=ab (by omega);have d7:decide (X.k=7)=false:=ab (by omega);have d8:decide (X.k=8)=false:=ab (by omega);have d9:decide (X.k=9)=false:=ab (by omega);have d19:decide (X.k=19)=false:=ab (by omega);have d10:decide (X.k=10)=false:=ab (by omega);have d11:decide (X.k=11)=false:=ab (by omega);have d12:decide (X.k=12)=false:=ab (by omega);have d13:decide (X.k=13)=false:=ab (by omega);have d14:decide (X.k=14)=false:=ab (by omega);have d15:decide (X.k=15)=false:=ab (by omega);have d16:decide (X.k=16)=false:=ab (by omega);have d17:decide (X.k=17)=false:=ab (by omega);have d18:decide (X.k=18)=false:=ab (by omega);have d20:decide (X.k=20)=false:=ab (by omega);have d21:decide (X.k=21)=false:=ab (by omega);rw[hK];have hN:=SA X m hT;unfold av at hN;revert hN;generalize kH S X.k=K
 intro hN;refine enter (cO S E) (bM S E) Tryz.func104 rfl rfl (by kernel_rfl) rfl ?_ ?_
 ·clear hN;simp only[go_sem,av,Nd.cs]
 ·simp only[go_sem,av,Nd.cs,d6,d7,d8,d9,d19,d10,d11,d12,d13,d14,d15,d16,d17,d18,d20,d21,aS,hr];refine ai ((aD hN fun V=>rfl).mono ?_);clear hN;rintro r H' m1 aR ⟨rfl,rfl,rfl⟩;simp only[go_sem,fR,and_self];first |done |rfl
end
def dP (t:Ty):Prop:= -9223372036854775808<t.dim/\t.dim<=9223372036854775807
def dy (E:List Cd):Prop:=∀d∈E,(∀f∈d.fields,dP f.ty)/\∀m∈d.methods,dP m.res
def dW (l:List Pc):Prop:=∀p∈l,dP p.ty
theorem gB:dP an:=⟨by decide,by decide⟩
theorem FZ (s:Nm):dP (cG s):=⟨(by decide:(-9223372036854775808:Int)<0),(by decide:(0:Int)<=9223372036854775807)⟩
theorem uC:dP cr:=⟨by decide,by decide⟩
theorem MS:dP ed:=⟨by decide,by decide⟩
theorem du {p:Prop} [Decidable p] {a b:TR} (ha:p->dP a.1) (hb:¬p->dP b.1):dP (if p then a else b).1:=by
 split
 ·rename_i h;exact ha h
 ·rename_i h;exact hb h
theorem oo {ok:Bool} {t:Ty} (h:ok=true->dP t):dP (fb ok t).1:=by
 unfold fb;exact du h fun _=>gB
theorem Lm {E:List Cd} (hE:dy E) (s:Nm):(∀f∈(bI E s).fields,dP f.ty)/\∀m∈(bI E s).methods,dP m.res:=by
 unfold bI;cases h:cls E s with
 |none=>exact⟨(fun f hf=>nomatch hf),(fun m hm=>nomatch hm)⟩
 |some d=>exact hE d (List.mem_of_find?_eq_some h)
theorem Ss {E:List Cd} (hE:dy E) {s n:Nm} {k:Int} {o:Nm} {d:Md} (h:eG E s n k=some (o,d)):dP d.res:=by
 have hf:∀(l:List Nm) (x:Nm×Md),ep E l n k=some x->dP x.2.res:=fun l x hx=>by
  unfold ep at hx;obtain⟨c,hc,e⟩:=List.exists_of_findSome?_eq_some hx;obtain⟨m,h1,h2⟩:=Option.map_eq_some_iff.1 e;subst h2;exact(Lm hE c).2 _ (List.mem_of_find?_eq_some h1)
 unfold eG at h;split at h
 ·exact hf _ _ h
 ·split at h
  ·rename_i x hx;cases h;exact hf _ _ hx
  ·exact hf _ _ h
section
variable {E:List Cd} {S:Sc}
theorem Bd (hE:dy E) (s n:Nm) (st:Bool) (ts:List Ty):dP (jg E S s n st ts).1:=by
 unfold jg;split
 ·exact gB
 ·rename_i o m h;exact du (fun _=>gB) fun _=>du (fun _=>Ss hE h) fun _=>gB
theorem P6 (hE:dy E) (n:Nm) (ts:List Ty):dP (mN E S n ts).1:=by
 unfold mN;refine du (fun _=>gB) fun _=> ?_
 split
 ·exact gB
 ·refine du (fun _=>gB) fun _=>du (fun _=>Bd hE ..) fun _=> ?_
  split
  ·exact du (fun _=>Bd hE ..) fun _=>gB
  ·exact gB
theorem K9 (hE:dy E) (st:Bool) (c s:Nm):dP (oh E S st c s).1:=by
 unfold oh;split
 ·exact gB
 ·rename_i o f h;refine du (fun _=>gB) fun _=> ?_
  unfold cg at h;obtain⟨c',hc,e⟩:=List.exists_of_findSome?_eq_some h;obtain⟨m,h1,h2⟩:=Option.map_eq_some_iff.1 e;cases h2;exact(Lm hE _).1 _ (List.mem_of_find?_eq_some h1)
theorem JT {ts:List Ty} (h:∀t∈ts,dP t) (i:Nat):dP (ts.getD i an):=by
 rw[List.getD_eq_getElem?_getD];cases e:ts[i]? with
 |none=>exact gB
 |some t=>exact h t (List.mem_of_getElem? e)
theorem Tm (hE:dy E) (hS:dW S.loc) {k:Int} {s c:Nm} {ty:Ty} {ts:List Ty} (dE:dP ty) (ht:∀t∈ts,dP t):dP (bq E S k s c ty ts).1:=by
 have h0:=JT ht 0;unfold bq;refine du (fun _=> ?_) fun _=>du (fun _=>oo fun h=> ?_) fun _=>du (fun _=>oo fun _=>uC) fun _=>du (fun _=>du (fun _=>Bd hE ..) fun _=>gB) fun _=>du (fun _=>Bd hE ..) fun _=>du (fun _=>P6 hE ..) fun _=>du (fun _=> ?_) fun _=>du (fun _=>oo fun _=>h0) fun _=>du (fun _=> ?_) fun _=>du (fun _=> ?_) fun _=>du (fun _=>oo fun _=>uC) fun _=>du (fun _=>oo fun _=>MS) fun _=> ?_
 ·unfold gu;refine du (fun _=> ?_) fun _=>du (fun _=>du (fun _=>K9 hE ..) fun _=>gB) fun _=>K9 hE ..
  split
  ·rename_i p h;exact hS _ (List.mem_of_find?_eq_some h)
  ·exact gB
 ·simp only[bB,cE] at h;exact⟨by dsimp only;omega,by have:=h0.2;dsimp only;omega⟩
 ·unfold je;refine du (fun _=>du (fun _=>oo fun h=> ?_) fun _=>gB) fun _=> ?_
  ·simp only[bB,cE] at h;exact⟨by have:=dE.1;dsimp only;omega,by dsimp only;omega⟩
  ·split
   ·exact gB
   ·exact du (fun _=>gB) fun _=>FZ _
 ·unfold ir;exact du (fun _=>oo fun _=>h0) fun _=>du (fun _=>oo fun _=>uC) fun _=>du (fun _=>oo fun _=>uC) fun _=>oo fun _=>uC
 ·unfold mV;refine du (fun _=>oo fun _=> ?_) fun _=>gB
  split
  ·exact uC
  ·exact dE
 ·unfold kH;exact du (fun _=>uC) fun _=>du (fun _=>MS) fun _=>du (fun _=>FZ _) fun _=>du (fun _=>⟨by decide,by decide⟩) fun _=>du (fun _=>gB) fun _=>FZ _
end
theorem JI {k n:Int} {s c:Nm} {ty:Ty} {l:Nat} (h:qx k n s c ty.dim ty.base ty.name l=true):0<=ty.dim/\ty.dim<=8:=by
 unfold qx at h;simp only[bB] at h;have h2:=h.2;split at h2
 ·simp only[bB] at h2;have h3:=h2.1;unfold iS kz at h3;simp only[bB] at h3;have h4:=h3.1.1;split at h4
  ·cases h4
  ·omega
 ·simp only[bB,cE] at h2;omega
section
variable {S:Sc} {E:List Cd} {ad:Addr} {da:Option Addr} {dc:Nat} {la:Option Addr} {lc:Nat} {b:Nat} {a:Option Addr} {c:Nat} {L:List Cc}
theorem Tl (X:Nd) (ta:Option Addr) (tn tc:Nat) (ts:List Ty) (m:Mem) (hT:Tp m S E ad da dc la lc b a c L) (ht:TsA m ts ta tn tc) (hv:qx X.k X.n X.s X.c X.ty.dim X.ty.base X.ty.name ts.length=true) (hd:∀t∈ts,dP t):
  FnH Tryz.prog 104 [.v (.agg ⟨av ad da dc S la lc⟩),.v (.agg ⟨X.cs⟩),.v (.slice ta tn tc)] ⟨[],[]⟩ m
   fun r H' m' =>af m m' /\H' =⟨[],[]⟩/\r= .tup [dJ (bq E S X.k X.s X.c X.ty ts).1,.v (.int .i64 (bq E S X.k X.s X.c X.ty ts).2)]:=by
 have hdm:=JI hv;have h0:=JT hd 0;have hi:az ((ts.getD 0 an).dim - 1)=True:=eq_true ⟨by have:=h0.1;omega,by have:=h0.2;omega⟩;unfold qx at hv;simp only[bB,cE] at hv;have hk:=kinds hv.1.1.1.1.1;have hlo:=hv.1.1.1.1.2;clear hv;have hs:∀k:Int,X.k=k->(kB k).2.2.2.1<=(ts.length:Int):=fun k e=>by rw[<- e];exact hlo
 rcases hk with h |h |h |h |h |h |h |h |h |h |h |h |h |h |h |h |h |h |h |h |h<;>have hq:=hs _ h<;>simp only[kB,reduceIte,Int.reduceEq,or_false,or_true,false_or,true_or,or_self] at hq
 ·exact yi X ta tn tc ts m hT ht (by omega)
 ·exact yi X ta tn tc ts m hT ht (by omega)
 ·exact yi X ta tn tc ts m hT ht (by omega)
 ·exact yi X ta tn tc ts m hT ht (by omega)
 ·exact yi X ta tn tc ts m hT ht (by omega)
 ·exact X4 X ta tn tc ts m hT ht h
 ·exact X3 X ta tn tc ts m hT ht h (by omega)
 ·exact X2 X ta tn tc ts m hT ht h
 ·exact X1 X ta tn tc ts m hT ht h (by omega) hi
 ·exact VO X ta tn tc ts m hT ht h (by omega)
 ·exact VN X ta tn tc ts m hT ht h
 ·exact VM X ta tn tc ts m hT ht h
 ·exact VL X ta tn tc ts m hT ht h
 ·exact VK X ta tn tc ts m hT ht h (by omega) (by omega)
 ·exact VJ X ta tn tc ts m hT ht h (by omega)
 ·exact VI X ta tn tc ts m hT ht h (by omega)
 ·exact VH X ta tn tc ts m hT ht h (by omega)
 ·exact VG X ta tn tc ts m hT ht h (by omega)
 ·exact VF X ta tn tc ts m hT ht h (by omega)
 ·exact VE X ta tn tc ts m hT ht h (by omega)
 ·exact VD X ta tn tc ts m hT ht h (by omega)
end
theorem WG {n b:Nat} (hn:n<=2000002) (hb:b<=1000):room n b:=by
 have:n * b<=2000002 * 1000:=Nat.mul_le_mul hn hb;exact⟨by omega,by unfold maxLen;omega⟩
theorem qi (m:Mem) (z:Nat):aw m none 0 z []:=⟨by simp,fun h=>absurd h (by decide)⟩
theorem Sh {R' :SV->Hp->Mem->Prop} {bx:List Bx} {vc:List Vc} {m' :Mem} {k u:Nat} {x:Value} {b:Vc} (hb:cz vc k u=some b)
  (h:∀(a:Option Addr) (c:Nat) (m1:Mem),m'.le m1->b.n<=c->aw m1 a b.n b.sz b.xs->R' (.tup [.v (.slice a b.n c),.v x]) ⟨[],[]⟩ m1):sS R' (.tup [.vec k u,.v x]) ⟨bx,vc⟩ m' :=
 .inr ⟨fun z=> .tup [z,.v x],k,u,b,⟨[],[]⟩,hb,rfl,fun V v e=>by subst e;rfl,List.nil_sublist _,List.nil_sublist _,h⟩
theorem Vt {m:Mem} {l:List Ex} {xs:List Value} {a:Option Addr} {n:Nat} (hr:aw m a n 8 xs) (hn:n=l.length) (cJ:dI m l xs) {i:Nat} (hi:i<l.length):∃X:Nd,Rd m (bk a (i * 8)) X.cs/\a≠none/\a8 m l[i] X.cs:=by
 have hc:=dM hr (by omega:i<n);have he:=tX cJ hi;obtain⟨X,hX⟩:=rN he;rw[hX] at hc he;exact⟨X,hc.1,hc.2,he⟩
def C4 (m:Mem) (x:TR) (r:SV) (H' :Hp) (m' :Mem):Prop:=af m m' /\H' =⟨[],[]⟩/\r= .tup [dJ x.1,.v (.int .i64 x.2)]
def M3 (m:Mem) (x:List Ty×Int) (r:SV) (H' :Hp) (m' :Mem):Prop:=af m m' /\H' =⟨[],[]⟩/\∃a c,TsA m' x.1 a x.1.length c/\r= .tup [.v (.slice a x.1.length c),.v (.int .i64 x.2)]
section
variable {S:Sc} {E:List Cd} {ad:Addr} {da:Option Addr} {dc:Nat} {la:Option Addr} {lc:Nat} {b:Nat} {a:Option Addr} {c:Nat} {L:List Cc}
theorem KE (l:List Ex) (xs:List Value) (ea:Option Addr) (n cp:Nat) (m:Mem) (hT:Tp m S E ad da dc la lc b a c L) (hr:aw m ea n 8 xs) (hn:n=l.length) (hb:n<=ay) (cJ:dI m l xs)
  (hI:∀e∈l,∀cs m',af m m' ->a8 m' e cs->FnH Tryz.prog 53 [.v (.agg ⟨av ad da dc S la lc⟩),.v (.agg ⟨cs⟩)] ⟨[],[]⟩ m' (C4 m' (bW E S e))):
  FnH Tryz.prog 103 [.v (.agg ⟨av ad da dc S la lc⟩),.v (.slice ea n cp)] ⟨[],[]⟩ m (M3 m (cK E S l)):=by
 refine nQ ?_;have rC:(if(cK E S (l.drop 0)).2=0 then(([]:List Ty)++(cK E S (l.drop 0)).1,(0:Int)) else([],(cK E S (l.drop 0)).2))=cK E S l:=by
  rw[List.drop_zero];split
  ·rename_i h;rw[List.nil_append,<- h]
  ·cases l with
   |nil=>rfl
   |cons e r=>
    rw[cK] at *;split
    ·split
     ·rename_i h1 h2 h3;rw[ak h2,ak h3] at h1;exact absurd rfl h1
     ·rfl
    ·rfl
 revert rC;generalize cK E S l=K
 intro rC;refine enter bb aq Tryz.func103 rfl rfl (by kernel_rfl) rfl ?_ ?_
 ·clear hI;simp only[go_sem,av]
 ·unfold av at hI;simp only[go_sem,av];refine yk 6 35 3 (by decide) rfl ?_;simp only[go_sem];refine cq aq (fun y:Nat×List Ty×Mem=>⟨[⟨6,[],.vec 1 y.2.1.length⟩,⟨13,[],.v (.int .i64 y.1)⟩,⟨12,[],.v (.int .i64 n)⟩,⟨11,[],.v (.slice ea n cp)⟩,⟨2,[],.box 0 0⟩],[],[⟨0,87,[.v (.pointer (some ad)),.v (.slice da S.pr.length dc),.v (.int .i64 S.ci),.v (.bool S.st),.v (.bool S.su),.v (.int .i64 S.res.dim),.v (.int .u8 S.res.base),.v (.string (bs S.res.name)),.v (.slice la S.loc.length lc)]⟩],[⟨1,y.2.1.length,35,3,y.2.1.length,flat aB y.2.1⟩],2,y.2.2⟩)
   (fun y=>af m y.2.2/\y.1<=n/\y.2.1.length=y.1/\(if(cK E S (l.drop y.1)).2=0 then(y.2.1++(cK E S (l.drop y.1)).1,(0:Int)) else([],(cK E S (l.drop y.1)).2))=K) (fun y=>n - y.1) (0,[],m) (by kernel_rfl) (fun _ _=>aZ rfl) (fun y hy=>hy.1) (fun _=> ?_) ?_ ⟨.inl rfl,aF _,rfl,rC⟩ ?_
  ·clear hI;simp only[go_sem]
  ·clear hI;simp only[go_sem];exact⟨rfl,rfl⟩
  ·rintro⟨i,acc,mm⟩ ⟨q1,q2,q3,q4⟩;dsimp only at q1 q2 q3 q4;by_cases aj:i<l.length
   ·have hc:((i:Int)<(n:Int))=True:=eq_true (by omega);rw[List.drop_eq_getElem_cons aj,cK] at q4;have hI:=hI l[i] (List.getElem_mem aj);refine Exists.elim (Vt (aN q1 hr) hn (xP q1 cJ) aj) fun X hX=> ?_
    have aI:bS ea n (i:Int)=True:=eq_true ⟨by omega,by omega,hX.2.1⟩;have au:= @cC _ _ _ 8 hX.1 rfl;simp only[Nd.cs] at au;have hI:=hI X.cs mm q1 hX.2.2;revert hI q4;generalize bW E S l[i]=x
    generalize hy:cK E S (l.drop (i+1))=y
    intro q4 hI;simp only[go_sem,hc,aI,au];refine ai ((aD hI fun V=>rfl).mono ?_);clear hI;rintro r H' m2 aK ⟨l1,rfl,rfl⟩;by_cases hz:x.2=0
    ·have q4:(if y.2=0 then((acc++[x.1])++y.1,(0:Int)) else([],y.2))=K:=by
      rw[<- q4,ak hz];by_cases hw:y.2=0
      ·rw[ak hw,ak hw,ak rfl,List.append_assoc];rfl
      ·rw[ae hw,ae hw,ae hw]
     simp only[go_sem,hz];refine⟨WG (by unfold ay at hb;omega) (by decide),by unfold ay at hb;unfold az;omega,(i+1,acc++[x.1],m2),⟨⟨by rw[bc];rfl,rfl⟩,⟨by rw[bc];rfl,by rw[bc];rfl,by rw[xW];rfl⟩,.inl rfl⟩,⟨aa q1 (aa (.inr aK) (.inl rfl)),by omega,by rw[bc,q3];rfl,?_⟩,by omega⟩;dsimp only;rw[hy];exact q4
    ·have q4:(([]:List Ty),x.2)=K:=by
      rw[<- q4,ae hz,ae hz]
     simp only[go_sem,hz];subst q4;exact .inl ⟨aa q1 (.inr aK),rfl,none,0,⟨rfl,aC _,qi m2 3⟩,rfl⟩
   ·have hc:((i:Int)<(n:Int))=False:=eq_false (by omega);rw[List.drop_of_length_le (by omega),cK,ak rfl,List.append_nil] at q4;clear hI;simp only[go_sem,hc];subst q4;exact Sh (b:=⟨1,acc.length,35,3,acc.length,flat aB acc⟩) (by simp [cz]) fun a c m1 h1 h2 h3=>⟨aa q1 (.inr h1),rfl,a,c,⟨rfl,h2,h3⟩,rfl⟩
mutual
theorem P3 (hE:dy E) (hS:dW S.loc):∀e:Ex,de e=true->dP (bW E S e).1
 | .mk k n s c ty es,h=>by
  rw[de,bB] at h;have hd:=JI h.1;rw[bW];exact du (fun _=>du (fun _=>Tm hE hS ⟨by omega,by omega⟩ (D7 hE hS es h.2)) fun _=>gB) fun _=>gB
theorem D7 (hE:dy E) (hS:dW S.loc):∀l:List Ex,kV l=true->∀t∈(cK E S l).1,dP t
 |[],_,t,ht=>by rw[cK] at ht;cases ht
 |e::r,h,t,ht=>by
  rw[kV,bB] at h;rw[cK] at ht;split at ht
  ·split at ht
   ·rcases List.mem_cons.1 ht with rfl |ht
    ·exact P3 hE hS e h.1
    ·exact D7 hE hS r h.2 t ht
   ·cases ht
  ·cases ht
end
theorem I7:∀l:List Ex,(cK E S l).2=0->(cK E S l).1.length=l.length
 |[],_=>by rw[cK];rfl
 |e::r,h=>by
  rw[cK] at h ⊢;split at h
  ·rename_i h1;rw[ak h1];split at h
   ·rename_i h2;rw[ak h2];simp only[dk,I7 r h2]
   ·rename_i h2;exact absurd h h2
  ·rename_i h1;exact absurd h h1
theorem J1 (hE:dy E) (hS:dW S.loc):∀(h:Nat) (e:Ex) (cs:List Value) (m:Mem),eS e<=h->Tp m S E ad da dc la lc b a c L->a8 m e cs->de e=true->
  FnH Tryz.prog 53 [.v (.agg ⟨av ad da dc S la lc⟩),.v (.agg ⟨cs⟩)] ⟨[],[]⟩ m (C4 m (bW E S e))
 |0,.mk k n s c ty args,cs,m,hd,_,_,_=>by simp [eS] at hd
 |h+1,.mk k n s c ty args,cs,m,hd,hT,he,hv=>by
  obtain⟨X,rfl,rfl,rfl,rfl,rfl,rfl,hl,bQ,hn,xs,hr,cJ⟩:=rM he;simp only[eS] at hd;rw[de,bB] at hv;have hO:=KE args xs X.a X.l X.cp m hT hr hl hn cJ fun y hy bh m' hle r1=>J1 hE hS h y bh m' (by have:=DA hy;omega) (hT.up hle) r1 (Dc hv.2 y hy)
  have hC:=fun(ta:Option Addr) (tc:Nat) (m' :Mem) (hle:af m m') (h0:(cK E S args).2=0) (ht:TsA m' (cK E S args).1 ta (cK E S args).1.length tc)=>Tl X ta (cK E S args).1.length tc (cK E S args).1 m' (hT.up hle) ht (by rw[I7 args h0];exact hv.1) (D7 hE hS args hv.2)
  have hR:=(bW.eq_1 E S X.k X.n X.s X.c X.ty args).symm;revert hO hC hR;generalize bW E S (.mk X.k X.n X.s X.c X.ty args)=R
  generalize cK E S args=K
  generalize bq E S X.k X.s X.c X.ty K.1=x
  unfold av;intro hO hC hR;refine enter bb aq Tryz.func53 rfl rfl (by kernel_rfl) rfl ?_ ?_
  ·clear hO hC;simp only[go_sem,Nd.cs]
  ·simp only[go_sem,Nd.cs];refine ai ((aD hO fun V=>rfl).mono ?_);clear hO;rintro r H' m1 aR ⟨l1,rfl,ta,tc,ht,rfl⟩;by_cases hz:K.2=0
   ·have hC:=hC ta tc m1 l1 hz ht;rw[ak hz] at hR;simp only[go_sem,hz];refine ai ((aD hC fun V=>rfl).mono ?_);clear hC;rintro r H' m2 aK ⟨l2,rfl,rfl⟩;by_cases hw:x.2=0
    ·rw[ak hw] at hR;subst hR;simp only[go_sem,hw];exact⟨aa l1 (aa l2 (.inl rfl)),rfl,by rw[hw]⟩
    ·rw[ae hw] at hR;subst hR;simp only[go_sem,hw];exact⟨aa l1 (aa l2 (.inl rfl)),rfl,rfl⟩
   ·clear hC;rw[ae hz] at hR;subst hR;simp only[go_sem,hz];exact⟨l1,rfl,rfl⟩
theorem tI (hE:dy E) (hS:dW S.loc) (e:Ex) (cs:List Value) (m:Mem) (hT:Tp m S E ad da dc la lc b a c L) (he:a8 m e cs) (hv:de e=true):
  FnH Tryz.prog 53 [.v (.agg ⟨av ad da dc S la lc⟩),.v (.agg ⟨cs⟩)] ⟨[],[]⟩ m (C4 m (bW E S e)):=
 J1 hE hS _ e cs m (aC _) hT he hv
theorem On (hE:dy E) (hS:dW S.loc) (l:List Ex) (xs:List Value) (ea:Option Addr) (n cp:Nat) (m:Mem) (hT:Tp m S E ad da dc la lc b a c L) (hr:aw m ea n 8 xs) (hn:n=l.length) (hb:n<=ay) (cJ:dI m l xs) (hv:kV l=true):
  FnH Tryz.prog 103 [.v (.agg ⟨av ad da dc S la lc⟩),.v (.slice ea n cp)] ⟨[],[]⟩ m (M3 m (cK E S l)):=
 KE l xs ea n cp m hT hr hn hb cJ fun y hy bh m' hle r1=>tI hE hS y bh m' (hT.up hle) r1 (Dc hv y hy)
end
theorem Dt:∀(l:List St) (h:0<l.length),iZ l=wh (l[l.length - 1]'(by omega))
 |[s],_=>by rw[iZ];rfl
 |s::t::r,_=>by
  rw[iZ,Dt (t::r) (Nat.succ_pos _)];rfl
theorem EH {m:Mem} {l:List St} {xs:List Value} {a:Option Addr} {n:Nat} (hr:aw m a n 23 xs) (hn:n=l.length) (cJ:bL m l xs) {i:Nat} (hi:i<l.length):∃X:Sd,Rd m (bk a (i * 23)) X.cs/\a≠none/\et m l[i] X.cs:=by
 have hc:=dM hr (by omega:i<n);have he:=rT cJ hi;obtain⟨X,hX⟩:=D9 he;rw[hX] at hc he;exact⟨X,hc.1,hc.2,he⟩
theorem Sd.cs_inj {x y:Sd} (h:x.cs=y.cs):x.k=y.k/\x.a=y.a/\x.l=y.l/\x.cp=y.cp/\x.b=y.b/\x.l2=y.l2/\x.cp2=y.cp2:=by
 simp only[Sd.cs,List.cons.injEq,Value.int.injEq,Value.slice.injEq,true_and,and_true] at h;obtain⟨h1,h2⟩:=h;refine⟨h1,?_⟩;simp_all
theorem A9:∀(h:Nat) (l:List St) (xs:List Value) (a:Option Addr) (n c:Nat) (m:Mem),ct l<=h->aw m a n 23 xs->n=l.length->bL m l xs->n<=ay->
  FnH Tryz.prog 30 [.v (.slice a n c)] ⟨[],[]⟩ m fun r H' _=>r= .v (.bool (iZ l))/\H' =⟨[],[]⟩
 |0,s::r,xs,a,n,c,m,hd,_,_,_,_=>by
  cases s;simp only[ct,fS] at hd;omega
 |h,[],xs,a,n,c,m,hd,hr,hn,hs,hb=>by
  subst hn;refine br aq Tryz.func30 ?_
  ·simp only[go_sem,pU];exact⟨fun _=>rfl,fun h=>absurd rfl h⟩
 |h+1,s0::r0,xs,a,n,c,m,hd,hr,hn,hs,hb=>by
  have h0:0<(s0::r0).length:=Nat.succ_pos _;rw[Dt _ h0];have aj:(s0::r0).length - 1<(s0::r0).length:=by omega
  have u5:=cQ (rH (List.getElem_mem aj)) hd;obtain⟨X,CX,hX2,GI⟩:=EH hr hn hs aj;revert GI u5;generalize (s0::r0)[(s0::r0).length - 1]=s
  intro u5 GI;cases s with
  |mk k nm ty tg ex body alt=>
   obtain⟨x,hxx,rfl,rfl,rfl,p1,p2,p3,p4,p5,p6,p7,ys,zs,p8,p9,kh,jK⟩:=vI GI;obtain⟨e1,e2,e3,e4,e5,e6,e7⟩:=Sd.cs_inj hxx;rw[<- e2,<- e3] at p8;rw[<- e5,<- e6] at p9;rw[<- e3] at p3;rw[<- e6] at p5;rw[<- e1];simp only[fS] at u5;have kq:=p7.l;have Al:=p7.l2;have hB:=A9 h body ys X.a X.l X.cp m (by omega) p8 p3 kh (by omega);have hA:=fun m' (hle:af m m')=>A9 h alt zs X.b X.l2 X.cp2 m' (by omega) (aN hle p9) p5 (cL hle jK) (by omega)
   have hR:=wh.eq_1 X.k x.name x.ty tg ex body alt;have b9:(n=0)=False:=eq_false (by omega);have uw:((n:Int)=0)=False:=eq_false (by omega);have fE:az ((n:Int) - 1)=True:=eq_true (by unfold ay at hb;unfold az;omega);have rq:az (((s0::r0).length - 1:Nat):Int)=True:=eq_true (by unfold ay at hb;unfold az;omega);have j6:((n:Int) - 1)=(((s0::r0).length - 1:Nat):Int):=by omega
   have aI:bS a n ((((s0::r0).length - 1:Nat):Int))=True:=eq_true ⟨by omega,by omega,hX2⟩;have au:= @cC _ _ _ 23 CX rfl;simp only[Sd.cs] at au;revert hR hB hA rq aI au j6;generalize wh (.mk X.k x.name x.ty tg ex body alt)=R
   generalize iZ body=B
   generalize iZ alt=A
   generalize (s0::r0).length - 1=i
   intro hB hA hR rq j6 aI au;by_cases h6:X.k=6
   ·have d6:decide (X.k=6)=true:=aQ (by omega);have d7:decide (X.k=7)=false:=ab (by omega);have d10:decide (X.k=10)=false:=ab (by omega);have d9:decide (X.k=9)=false:=ab (by omega);have d4:decide (X.k=4)=false:=ab (by omega);have d8:decide (X.k=8)=false:=ab (by omega);clear hA hB;rw[ak (by omega)] at hR;refine br aq Tryz.func30 ?_
    ·simp only[go_sem,b9,uw,fE,rq,j6,aI,au,d6,d7,d10,d9,d4,d8];first |exact hR.symm |trace_state
   ·skip
    by_cases h7:X.k=7
    ·have d6:decide (X.k=6)=false:=ab (by omega);have d7:decide (X.k=7)=true:=aQ (by omega);have d10:decide (X.k=10)=false:=ab (by omega);have d9:decide (X.k=9)=false:=ab (by omega);have d4:decide (X.k=4)=false:=ab (by omega);have d8:decide (X.k=8)=false:=ab (by omega);clear hA hB;rw[ak (by omega)] at hR;refine br aq Tryz.func30 ?_
     ·simp only[go_sem,b9,uw,fE,rq,j6,aI,au,d6,d7,d10,d9,d4,d8];first |exact hR.symm |trace_state
    ·skip
     by_cases h10:X.k=10
     ·have d6:decide (X.k=6)=false:=ab (by omega);have d7:decide (X.k=7)=false:=ab (by omega);have d10:decide (X.k=10)=true:=aQ (by omega);have d9:decide (X.k=9)=false:=ab (by omega);have d4:decide (X.k=4)=false:=ab (by omega);have d8:decide (X.k=8)=false:=ab (by omega);clear hA;rw[ae (by omega),ak (by omega)] at hR;refine enter bb aq Tryz.func30 rfl rfl (by kernel_rfl) rfl ?_ ?_
      ·clear hB;simp only[go_sem]
      ·simp only[go_sem,b9,uw,fE,rq,j6,aI,au,d6,d7,d10,d9,d4,d8];refine ai (hB.mono ?_);clear hB;rintro r H' m1 aR ⟨rfl,rfl⟩;simp only[go_sem];first |exact hR.symm |trace_state
     ·skip
      by_cases h9:X.k=9
      ·have d6:decide (X.k=6)=false:=ab (by omega);have d7:decide (X.k=7)=false:=ab (by omega);have d10:decide (X.k=10)=false:=ab (by omega);have d9:decide (X.k=9)=true:=aQ (by omega);have d4:decide (X.k=4)=false:=ab (by omega);have d8:decide (X.k=8)=false:=ab (by omega);clear hA;rw[ae (by omega),ak (by omega)] at hR;refine enter bb aq Tryz.func30 rfl rfl (by kernel_rfl) rfl ?_ ?_
       ·clear hB;simp only[go_sem]
       ·simp only[go_sem,b9,uw,fE,rq,j6,aI,au,d6,d7,d10,d9,d4,d8];refine ai (hB.mono ?_);clear hB;rintro r H' m1 aR ⟨rfl,rfl⟩;simp only[go_sem];first |exact hR.symm |trace_state
      ·skip
       by_cases h4:X.k=4
       ·have d6:decide (X.k=6)=false:=ab (by omega);have d7:decide (X.k=7)=false:=ab (by omega);have d10:decide (X.k=10)=false:=ab (by omega);have d9:decide (X.k=9)=false:=ab (by omega);have d4:decide (X.k=4)=true:=aQ (by omega);have d8:decide (X.k=8)=false:=ab (by omega);rw[ae (by omega),ae (by omega),ak (by omega)] at hR;refine enter bb aq Tryz.func30 rfl rfl (by kernel_rfl) rfl ?_ ?_
        ·clear hA hB;simp only[go_sem]
        ·simp only[go_sem,b9,uw,fE,rq,j6,aI,au,d6,d7,d10,d9,d4,d8];refine ai (hB.mono ?_);clear hB;rintro r H' m1 aR ⟨rfl,rfl⟩;have hA:=hA m1 (.inr aR);cases B with
         |false=>
          clear hA;simp only[go_sem];exact hR.symm
         |true=>
          simp only[go_sem];refine ai (hA.mono ?_);clear hA;rintro r H' m2 aK ⟨rfl,rfl⟩;simp only[go_sem];exact hR.symm
       ·skip
        by_cases h8:X.k=8
        ·have d6:decide (X.k=6)=false:=ab (by omega);have d7:decide (X.k=7)=false:=ab (by omega);have d10:decide (X.k=10)=false:=ab (by omega);have d9:decide (X.k=9)=false:=ab (by omega);have d4:decide (X.k=4)=false:=ab (by omega);have d8:decide (X.k=8)=true:=aQ (by omega);rw[ae (by omega),ae (by omega),ak (by omega)] at hR;refine enter bb aq Tryz.func30 rfl rfl (by kernel_rfl) rfl ?_ ?_
         ·clear hA hB;simp only[go_sem]
         ·simp only[go_sem,b9,uw,fE,rq,j6,aI,au,d6,d7,d10,d9,d4,d8];refine ai (hB.mono ?_);clear hB;rintro r H' m1 aR ⟨rfl,rfl⟩;have hA:=hA m1 (.inr aR);cases B with
          |false=>
           clear hA;simp only[go_sem];exact hR.symm
          |true=>
           simp only[go_sem];refine ai (hA.mono ?_);clear hA;rintro r H' m2 aK ⟨rfl,rfl⟩;simp only[go_sem];exact hR.symm
        ·have d6:decide (X.k=6)=false:=ab (by omega);have d7:decide (X.k=7)=false:=ab (by omega);have d10:decide (X.k=10)=false:=ab (by omega);have d9:decide (X.k=9)=false:=ab (by omega);have d4:decide (X.k=4)=false:=ab (by omega);have d8:decide (X.k=8)=false:=ab (by omega);clear hA hB;rw[ae (by omega),ae (by omega),ae (by omega)] at hR;refine br aq Tryz.func30 ?_
         ·simp only[go_sem,b9,uw,fE,rq,j6,aI,au,d6,d7,d10,d9,d4,d8];first |exact hR.symm |trace_state
theorem SU (p:Pc) (s:Nm) (m:Mem):FnH Tryz.prog 272 [.v (.agg ⟨p.cs⟩),.box 0 0] ⟨[⟨0,9,[.v (.string (bs s))]⟩],[]⟩ m
  fun r H' _=>r= .v (.bool (decide (p.name=s)))/\H' =⟨[⟨0,9,[.v (.string (bs s))]⟩],[]⟩:=by
 refine enter bb aq Tryz.func272 rfl rfl (by kernel_rfl) rfl ?_ ?_
 ·simp only[go_sem,Pc.cs]
 ·simp only[go_sem,Pc.cs]
section
variable {S:Sc} {E:List Cd} {ad:Addr} {da:Option Addr} {dc:Nat} {la:Option Addr} {lc:Nat} {b:Nat} {a:Option Addr} {c:Nat} {L:List Cc}
theorem TD (s:Nm) (m:Mem) (hT:Tp m S E ad da dc la lc b a c L):
  FnH Tryz.prog 232 [.v (.slice la S.loc.length lc),.cl 272 [0]] ⟨[⟨0,9,[.v (.string (bs s))]⟩],[]⟩ m
   fun r H' _=>H' =⟨[⟨0,9,[.v (.string (bs s))]⟩],[]⟩/\r= .v (.bool (rX S s)):=by
 have zP:Pc:=⟨an,[]⟩;refine(SQ 272 (by kernel_rfl) [.string (bs s)] la S.loc.length lc m (by have:=hT.ll;omega) (fun i=>(S.loc.getD i zP).cs) (fun i hi=> ?_) (fun i=>decide ((S.loc.getD i zP).name=s)) fun i m' hi hle=>SU _ s m').mono ?_
 ·have h:=yn hT.loc rfl hi;rw[List.getD_eq_getElem?_getD,List.getElem?_eq_getElem hi];exact⟨h.1,h.2,rfl⟩
 ·rintro r H' m' hm ⟨h3,rfl⟩;refine⟨h3,?_⟩;rw[A5 (fun p:Pc=>decide (p.name=s)) zP S.loc];rfl
theorem UP (s:Nm) (m:Mem) (hT:Tp m S E ad da dc la lc b a c L):FnH Tryz.prog 222 [.v (.agg ⟨av ad da dc S la lc⟩),.v (.string (bs s))] ⟨[],[]⟩ m
  fun r H' _=>r= .v (.bool (rX S s))/\H' =⟨[],[]⟩:=by
 have hA:=TD s m hT;refine enter bb aq Tryz.func222 rfl rfl (by kernel_rfl) rfl ?_ ?_
 ·clear hA;simp only[go_sem,av]
 ·simp only[go_sem,av];refine ai (hA.mono ?_);clear hA;rintro r H' m1 aR ⟨rfl,rfl⟩;simp only[go_sem]
theorem DG (hE:dy E) (hS:dW S.loc) (e:Ex) (X:Nd) (t:Ty) (m:Mem) (hT:Tp m S E ad da dc la lc b a c L) (he:a8 m e X.cs) (hv:de e=true):
  FnH Tryz.prog 122 [.v (.agg ⟨av ad da dc S la lc⟩),.v (.agg ⟨X.cs⟩),.v (.agg ⟨aB t⟩)] ⟨[],[]⟩ m
   fun r H' m' =>af m m' /\H' =⟨[],[]⟩/\r= .v (.int .i64 (ik E S e t)):=by
 have hX:=tI hE hS e X.cs m hT he hv;have hR:ik E S e t=if(bW E S e).2=0/\cD E (bW E S e).1 t=false then 73 else(bW E S e).2:=rfl
 revert hX hR;generalize ik E S e t=R
 generalize bW E S e=x
 unfold av;intro hX hR;refine enter (cO S E) (bM S E) Tryz.func122 rfl rfl (by kernel_rfl) rfl ?_ ?_
 ·clear hX;simp only[go_sem,Nd.cs,aB]
 ·simp only[go_sem,Nd.cs,aB];refine ai ((aD hX fun V=>rfl).mono ?_);clear hX;rintro r H' m1 aR ⟨l1,rfl,rfl⟩;have aS:=(hT.up l1).ck.chk;have bE:=eq_true l1;by_cases hz:x.2=0
  ·simp only[go_sem,hz,aS,bE,and_self,aB];exact⟨fun h=>by rw[hR,ak ⟨hz,h⟩],fun h=>by rw[hR,ae (fun q=>by rw[show cD E x.1 t=true from h] at q;cases q.2),hz]⟩
  ·rw[ae (fun h=>hz h.1)] at hR;subst hR;simp only[go_sem,hz,aS,bE,and_self,aB]
theorem Kk (X:Sd) (m:Mem) (hT:Tp m S E ad da dc la lc b a c L):
  FnH Tryz.prog 121 [.v (.agg ⟨av ad da dc S la lc⟩),.v (.agg ⟨X.cs⟩)] ⟨[],[]⟩ m
   fun r H' m' =>af m m' /\H' =⟨[],[]⟩/\r= .v (.int .i64 (fW E S X.ty X.name)):=by
 have hH:=fun m' (hle:af m m')=>UP X.name m' (hT.up hle)
 have hR:fW E S X.ty X.name=if(!cM E X.ty||rX S X.name)=true then 72 else 0:=rfl
 have aS:=hT.ck.chk;revert hH hR;generalize fW E S X.ty X.name=R
 generalize rX S X.name=B
 unfold av;intro hH hR;refine enter (cO S E) (bM S E) Tryz.func121 rfl rfl (by kernel_rfl) rfl ?_ ?_
 ·clear hH;simp only[go_sem,Sd.cs]
 ·simp only[go_sem,Sd.cs,aS];refine⟨fun h=> ?_,fun h=> ?_⟩
  ·have h:cM E X.ty=true:=h;rw[h] at hR;refine ai ((aD (hH m (.inl rfl)) fun V=>rfl).mono ?_);clear hH;rintro r H' m1 aR ⟨rfl,rfl⟩;have bE:af m m1=True:=eq_true (.inr aR);cases B with
   |false=>
    simp only[go_sem,bE,and_self];exact hR.symm
   |true=>
    simp only[go_sem,bE,and_self];exact hR.symm
  ·clear hH;have h:cM E X.ty=false:=h;rw[h] at hR;have bE:af m m=True:=eq_true (.inl rfl);first |exact hR.symm |exact⟨.inl rfl,hR.symm⟩
end
end Go.Proofs.YtmdokbohofchgaaGreatDoor.E

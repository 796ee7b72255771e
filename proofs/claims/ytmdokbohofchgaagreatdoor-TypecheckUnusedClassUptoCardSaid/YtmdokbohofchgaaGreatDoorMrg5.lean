/- Several texts in one. -/
import Derived.Test.YtmdokbohofchgaaGreatDoorMrg4
set_option linter.unusedSimpArgs false
set_option linter.unusedVariables false
set_option maxHeartbeats 4000000
set_option maxRecDepth 20000
namespace Go.Proofs.YtmdokbohofchgaaGreatDoor.E
open Go
theorem Of {P:Program} {f:FuncId} {tY uO:List SV} {m:Mem} {R:SV->Hp->Mem->Prop} {el:TypeId} {sz:Nat} (eQ:0<sz) (ha:∀s∈tY++uO,∃x,s= .v x)
  (h:FnH P f (tY++ .vec 0 0::uO) ⟨[],[⟨0,0,el,sz,0,[]⟩]⟩ m R):FnH P f (tY++ .v (.slice none 0 0)::uO) ⟨[],[]⟩ m R:=by
 intro V w D dX hle hH;have h1:HSat ⟨V.β,fun _ _=>⟨none,0,0⟩⟩ D w ⟨[],[⟨0,0,el,sz,0,[]⟩]⟩:=by
  refine⟨fun b hb=>(by cases hb),fun b hb=> ?_,?_,by simp⟩
  ·rw[List.mem_singleton.1 hb];exact⟨World.ownsRow_nil w 0 el sz,fun g hg=>(by cases hg),eQ,fun u hu=>(by cases hu)⟩
  ·simp [aE,Hd.blk]
 have e:∀l:List SV,(∀s∈l,∃x,s= .v x)->l.map (den V)=l.map (den ⟨V.β,fun _ _=>⟨none,0,0⟩⟩):=fun l hl=>List.map_congr_left fun s hs=>by
  obtain⟨x,rfl⟩:=hl s hs;rfl
 have lE:(tY++ .v (.slice none 0 0)::uO).map (den V)=(tY++ .vec 0 0::uO).map (den ⟨V.β,fun _ _=>⟨none,0,0⟩⟩):=by
  rw[List.map_append,List.map_append,aG,aG,e tY fun s hs=>ha s (List.mem_append.2 (.inl hs)),e uO fun s hs=>ha s (List.mem_append.2 (.inr hs))];rfl
 rw[lE];refine(h _ w D dX hle h1).mono ?_;rintro e w' ⟨r,V',D',H',m',e1,e2,e3,e4,e5,e6,e7,e8,e9,bZ,cj⟩;have hF:∀b,b∈aE ⟨V.β,fun _ _=>⟨none,0,0⟩⟩ ⟨[],[⟨0,0,el,sz,0,[]⟩]⟩->False:=fun b hb=>by simp [aE,Hd.blk] at hb
 refine⟨r,V',D',H',m',e1,e2,e3,fun b hb=>(by cases hb),fun b hb=>(by cases hb),⟨e6.os,e6.tape,e6.output,e6.size,fun x hx hn=>e6.same x hx fun bg=>hF x bg⟩,fun x hx=>(e7 x hx).imp (fun bg=>(hF x bg).elim) id,e8,e9,bZ,cj⟩
abbrev E0:Cfg:=fF (fun f=>f==160) []
theorem yz:cw E0 Tryz.prog:=pure_nil
theorem ND {E:List Cd} {f:Nat} {out:List Nm} {s:Nm} (h:cls E s=none):fm E f out s=out:=by unfold fm;rw[h]
theorem NC {E:List Cd} {f:Nat} {out:List Nm} {s:Nm} {d:Cd} (h:cls E s=some d) (hc:out.contains s=true):fm E f out s=out:=by unfold fm;rw[h];exact ai hc
theorem OK {E:List Cd} {f:Nat} {out:List Nm} {s:Nm} {d:Cd} (h:cls E s=some d) (hc:out.contains s=false):fm E f out s=gk E f (out++[s]) d.ifs:=by unfold fm;rw[h];exact aa (by rw[hc];decide)
section
variable {ad:Addr} {pr E:List Cd} {b:Nat} {a:Option Addr} {c:Nat} {L:List Cc}
theorem C3:∀(f u:Nat) (out l:List Nm) (la:Option Addr) (lc:Nat) (m:Mem),Ck m ad pr E b a c L->Vis E out->E.length<out.length+f->ax m la l.length 1 (strs l)->l.length<=aw->
  FnH Tryz.prog 160 [.v (.pointer (some ad)),.vec 0 u,.v (.slice la l.length lc)] ⟨[],[⟨0,u,9,1,out.length,strs out⟩]⟩ m
   fun r H' m' =>ah m m' /\∃u',u<=u' /\r= .vec 0 u' /\H' =⟨[],[⟨0,u',9,1,(gk E f out l).length,strs (gk E f out l)⟩]⟩
 |0,u,out,l,la,lc,m,hC,hv,hf,hr,hl=>by have:=hv.len;omega
 |f+1,u,out,l,la,lc,m,hC,hv,hf,hr,hl=>by
  have ih:=C3 f;have hK:l.foldl (fm E f) out=gk E (f+1) out l:=(sT E f out l).symm;revert hK;generalize gk E (f+1) out l=K
  intro hK;refine enter E0 yz Tryz.func160 rfl rfl (by kernel_rfl) rfl ?_ ?_
  ·clear ih;simp only[go_sem]
  ·simp only[go_sem];refine ct yz (fun x:Nat×Nat×List Nm×Mem=>⟨[⟨13,[],.v (.int .i64 x.1)⟩,⟨12,[],.v (.int .i64 l.length)⟩,⟨11,[],.v (.slice la l.length lc)⟩,⟨6,[],.v (.slice none 0 0)⟩,⟨1,[],.vec 0 x.2.1⟩,⟨0,[],.v (.pointer (some ad))⟩],[],[],[⟨0,x.2.1,9,1,x.2.2.1.length,strs x.2.2.1⟩],1,x.2.2.2⟩)
    (fun x=>ah m x.2.2.2/\x.1<=l.length/\u<=x.2.1/\Vis E x.2.2.1/\out.length<=x.2.2.1.length/\(l.drop x.1).foldl (fm E f) x.2.2.1=K) (fun x=>l.length - x.1) (0,u,out,m) (by kernel_rfl) (fun _ _=>aU rfl) (fun x hx=>hx.1) (fun _=> ?_) ?_ ⟨.inl rfl,aF _,aA _,hv,aA _,hK⟩ ?_
   ·clear ih;simp only[go_sem]
   ·clear ih;simp only[go_sem];rfl
   ·rintro⟨j,v,o2,mm⟩ ⟨i1,i2,i3,i4,i5,i6⟩;dsimp only at i1 i2 i3 i4 i5 i6;have hC:=hC.up i1;have hw:=hC.fw;have uu:=i4.len;by_cases an:j<l.length
    ·have hc:((j:Int)<(l.length:Int))=True:=eq_true (by clear ih;omega);rw[List.drop_eq_getElem_cons an,List.foldl_cons] at i6;have qK:=aM i1 hr;have aL:=kQ qK an;have av:= @ky _ _ _ _ qK _ an (.string (bs l[j])) (by unfold strs;rw[List.getElem?_map,List.getElem?_eq_getElem an];rfl);cases hq:cls E l[j] with
     |none=>
      rw[ND hq] at i6;have ep:=hC.none hq;clear ih;simp only[go_sem,hc,aL,av,bY (j:=0) hC.rd rfl,bY (j:=1) hC.rd rfl,fG hC.rm,iN,Option.map_none,Option.map_some,cn,forall_eq',false_implies,and_true,true_and,eV,ep];exact⟨by unfold aB;unfold aw at hl;omega,(j+1,v,o2,mm),⟨⟨by omega,rfl⟩,⟨rfl,rfl,rfl⟩,.inl rfl⟩,⟨i1,an,i3,i4,i5,i6⟩,by omega⟩
     |some d=>
      refine Exists.elim (hC.some hq) fun X hX=> ?_
      have ep:=hX.1;simp only[go_sem,hc,aL,av,bY (j:=0) hC.rd rfl,bY (j:=1) hC.rd rfl,fG hC.rm,iN,Option.map_none,Option.map_some,cn,forall_eq',false_implies,and_true,true_and,eV,ep,Cc.cs];refine⟨by kernel_rfl,fun a1 c1 m1 h1 h2 h3=>bF ((uR o2 l[j] a1 o2.length c1 m1 h3 (by clear ih;omega)).mono ?_)⟩;rintro r H' m2 aJ ⟨rfl,rfl⟩;have hle:=ae i1 (ae (.inr h1) (.inr aJ));by_cases bg:o2.contains l[j]=true
      ·rw[NC hq bg] at i6;clear ih;simp only[go_sem,bg];exact⟨by unfold aB;unfold aw at hl;omega,(j+1,v,o2,m2),⟨⟨by omega,rfl⟩,⟨rfl,rfl,rfl⟩,.inl rfl⟩,⟨hle,an,i3,i4,i5,i6⟩,by omega⟩
      ·have bg:=(Bool.not_eq_true _).mp bg;rw[OK hq bg] at i6;simp only[go_sem,bg];have L5:=i4.snoc (by rw[hq];rfl) bg;have sF:=ih (v+1) (o2++[l[j]]) d.ifs X.ia X.ic m2 (hC.up (ae (.inr h1) (.inr aJ))) L5 (by rw[aZ,nz];clear ih;omega) (by rw[<- hX.2.il];exact aM (ae (.inr h1) (.inr aJ)) hX.2.ifs) hX.2.ok.il;rw[Aj,<- hX.2.il,aZ,nz] at sF;clear ih;have Ma:E.length<(gk E f (o2++[l[j]]) d.ifs).length+(f+1):=by
        have:=(Ad (E:=E) (f:=f) (out:=o2++[l[j]]) (l:=d.ifs)).length_le;rw[aZ,nz] at this;clear sF;omega
       have jB:out.length<=(gk E f (o2++[l[j]]) d.ifs).length:=by
        have:=(Ad (E:=E) (f:=f) (out:=o2++[l[j]]) (l:=d.ifs)).length_le;rw[aZ,nz] at this;clear sF;omega
       have Fo:=Ac (f:=f) (l:=d.ifs) L5;revert sF Ma jB Fo i6;generalize gk E f (o2++[l[j]]) d.ifs=o3
       intro i6 sF Ma jB Fo;refine bX (.hoist 0 (.hoist 1 (.hoist 2 (.hoist 5 (.hoist 6 (.alt 3 [6,5,1,0] (.alt 4 [6,5,0] (.alt 7 [] (.hoist 8 .done) .stop) .stop) .stop)))))) yz (by kernel_rfl) (by kernel_rfl) ?_;simp only[go_sem];refine⟨jq (by clear sF;omega) (by decide),by kernel_rfl,bF (sF.mono ?_)⟩;clear sF;rintro r H' m3 dx ⟨l3,u',hu,rfl,rfl⟩;simp only[go_sem];exact⟨hu,by unfold aB;unfold aw at hl;omega,(j+1,u',o3,m3),⟨⟨by omega,rfl⟩,⟨rfl,rfl,rfl⟩,.inl rfl⟩,⟨ae hle l3,an,dk i3 (Nat.le_of_succ_le hu),Fo,jB,i6⟩,by omega⟩
    ·have hc:((j:Int)<(l.length:Int))=False:=eq_false (by clear ih;omega);rw[List.drop_of_length_le (by clear ih;omega)] at i6;clear ih;simp only[go_sem,hc];rw[<- i6];exact⟨i1,v,i3,rfl,rfl⟩
theorem OH (l:List Nm) (la:Option Addr) (lc:Nat) (m:Mem) (hC:Ck m ad pr E b a c L) (hr:ax m la l.length 1 (strs l)) (hl:l.length<=aw):
  FnH Tryz.prog 160 [.v (.pointer (some ad)),.v (.slice none 0 0),.v (.slice la l.length lc)] ⟨[],[]⟩ m
   fun r H' m' =>ah m m' /\H' =⟨[],[]⟩/\∃a c,r= .v (.slice a (gU E [] l).length c)/\(gU E [] l).length<=c/\ax m' a (gU E [] l).length 1 (strs (gU E [] l)):=by
 have h:=Of (tY:=[.v (.pointer (some ad))]) (uO:=[.v (.slice la l.length lc)]) (el:=9) (sz:=1) (by decide) (fun s hs=>by simp only[List.mem_append,List.mem_singleton] at hs;rcases hs with rfl |rfl<;>exact⟨_,rfl⟩) (C3 (E.length+1) 0 [] l la lc m hC (Vis.nil E) (by simp) hr hl);refine nL (h.mono ?_);rintro r H' m' hm ⟨l1,u,hu,rfl,rfl⟩;exact xE (b:=⟨0,u,9,1,(gU E [] l).length,strs (gU E [] l)⟩) (by simp [cq,gU]) ⟨[],[]⟩ (List.Sublist.refl _) (List.nil_sublist _) fun a c m1 h1 h2 h3=>⟨ae l1 (.inr h1),rfl,a,c,rfl,h2,h3⟩
def Ew (E:List Cd) (out:List Nm) (c:Nm):List Nm:=gU E out (cd E c).ifs
theorem NX (s:Nm) (m:Mem) (hC:Ck m ad pr E b a c L):FnH Tryz.prog 90 [.v (.pointer (some ad)),.v (.string (bs s))] ⟨[],[]⟩ m
  fun r H' m' =>ah m m' /\∃u,r= .vec 0 u/\H' =⟨[],[⟨0,u,9,1,(cH E s).length,strs (cH E s)⟩]⟩:=by
 have hK:(bP E s).foldl (Ew E) []=cH E s:=rfl;have hS:=qX s m hC;have Fs:=ir E s;revert hK hS Fs;generalize cH E s=K
 generalize bP E s=sl
 intro hK hS Fs;refine enter E0 yz Tryz.func90 rfl rfl (by kernel_rfl) rfl ?_ ?_
 ·clear hS;simp only[go_sem]
 ·simp only[go_sem];refine ak (hS.mono ?_);clear hS;rintro r H' m1 aQ ⟨l1,rfl,sa,sc,rfl,h1,h2⟩;simp only[go_sem];refine xA 5 9 1 (by decide) rfl ?_;simp only[go_sem];refine ct yz (fun x:Nat×Nat×List Nm×Mem=>⟨[⟨12,[],.v (.int .i64 x.1)⟩,⟨11,[],.v (.int .i64 sl.length)⟩,⟨10,[],.v (.slice sa sl.length sc)⟩,⟨4,[],.v (.slice none 0 0)⟩,⟨5,[],.vec 0 x.2.1⟩,⟨0,[],.v (.pointer (some ad))⟩],[],[],[⟨0,x.2.1,9,1,x.2.2.1.length,strs x.2.2.1⟩],1,x.2.2.2⟩)
   (fun x=>ah m1 x.2.2.2/\x.1<=sl.length/\Vis E x.2.2.1/\(sl.drop x.1).foldl (Ew E) x.2.2.1=K) (fun x=>sl.length - x.1) (0,0,[],m1) (by kernel_rfl) (fun _ _=>aU rfl) (fun x hx=>hx.1) (fun _=> ?_) ?_ ⟨.inl rfl,aF _,Vis.nil E,hK⟩ ?_
  ·simp only[go_sem]
  ·simp only[go_sem];exact⟨rfl,rfl⟩
  ·rintro⟨j,v,o2,mm⟩ ⟨i1,i2,i4,i6⟩;dsimp only at i1 i2 i4 i6;have hC:=hC.up (ae l1 i1);have hw:=hC.fw;have uu:=i4.len;have eH:=Fs.len;by_cases an:j<sl.length
   ·have hc:((j:Int)<(sl.length:Int))=True:=eq_true (by omega);rw[List.drop_eq_getElem_cons an,List.foldl_cons] at i6;have qK:=aM i1 h2;have aL:=kQ qK an;have av:= @ky _ _ _ _ qK _ an (.string (bs sl[j])) (by unfold strs;rw[List.getElem?_map,List.getElem?_eq_getElem an];rfl);refine Exists.elim (hC.get sl[j]) fun X hX=> ?_
    have bq:=hX.1;have cR:=hX.2.ifs;rw[hX.2.il] at cR;have ih:=C3 (E.length+1) v o2 (cd E sl[j]).ifs X.ia X.ic mm hC i4 (by omega) cR hX.2.ok.il;rw[<- hX.2.il] at ih;have jB:=Ab (l:=(cd E sl[j]).ifs) i4;have i6:(sl.drop (j+1)).foldl (Ew E) (gk E (E.length+1) o2 (cd E sl[j]).ifs)=K:=i6;have jB:Vis E (gk E (E.length+1) o2 (cd E sl[j]).ifs):=jB;simp only[Cc.cs] at bq;clear hX cR;revert ih i6 jB;generalize gk E (E.length+1) o2 (cd E sl[j]).ifs=o3
    intro ih i6 jB;simp only[go_sem,hc,aL,av,bY (j:=0) hC.rd rfl,bY (j:=1) hC.rd rfl,fG hC.rm,nI,↓oq,eV,Cc.cs,bq];refine ak (ih.mono ?_);clear ih;rintro r H' m3 dx ⟨l3,u',hu,rfl,rfl⟩;simp only[go_sem];exact⟨hu,by unfold aB;omega,(j+1,u',o3,m3),⟨⟨by omega,rfl⟩,⟨rfl,rfl,rfl⟩,.inl rfl⟩,⟨ae i1 l3,an,jB,i6⟩,by omega⟩
   ·have hc:((j:Int)<(sl.length:Int))=False:=eq_false (by omega);rw[List.drop_of_length_le (by omega)] at i6;simp only[go_sem,hc];rw[<- i6];exact⟨ae l1 i1,v,rfl,rfl⟩
theorem uS (s:Nm) (m:Mem) (hC:Ck m ad pr E b a c L):FnH Tryz.prog 90 [.v (.pointer (some ad)),.v (.string (bs s))] ⟨[],[]⟩ m
  fun r H' m' =>ah m m' /\H' =⟨[],[]⟩/\∃a c,r= .v (.slice a (cH E s).length c)/\(cH E s).length<=c/\ax m' a (cH E s).length 1 (strs (cH E s)):=by
 refine nL ((NX s m hC).mono ?_);rintro r H' m' hm ⟨l,u,rfl,rfl⟩;exact xE (b:=⟨0,u,9,1,(cH E s).length,strs (cH E s)⟩) (by simp [cq]) ⟨[],[]⟩ (List.Sublist.refl _) (List.nil_sublist _) fun a c m1 h1 h2 h3=>⟨ae l (.inr h1),rfl,a,c,rfl,h2,h3⟩
abbrev EZ:Cfg:=kI (fun _=>false) [(98,Bu)]
theorem yy:cw EZ Tryz.prog:=fz (by kernel_rfl) SG ra
theorem A6 {m:Mem} {a:Option Addr} {l:List Nm} (h:ax m a l.length 1 (strs l)):(∃l',ax m a l.length 1 (strs l'))=True:=eq_true ⟨l,h⟩
theorem M2 (s t:Nm) (m:Mem) (hC:Ck m ad pr E b a c L):FnH Tryz.prog 87 [.v (.pointer (some ad)),.v (.string (bs s)),.v (.string (bs t))] ⟨[],[]⟩ m fun r H' _=>r= .v (.bool (jP E s t))/\H' =⟨[],[]⟩:=by
 have hw:=hC.fw;have hS:=qX s m hC;have hI:=fun m' (hle:ah m m')=>uS s m' (hC.up hle)
 have fe:=(ir E s).len;have jD:=(ld E s).len;have hK:jP E s t=(decide (s=t)||((cls E s).isSome&&(decide (t=aS)||(bP E s).contains t||(cH E s).contains t))):=rfl;revert hK hS hI fe jD;generalize jP E s t=K
 generalize bP E s=sl
 generalize cH E s=il
 intro hS hI fe jD hK;by_cases eG:s=t
 ·rw[aP eG,Bool.true_or] at hK;clear hS hI;refine br yy Tryz.func87 ?_
  ·simp only[go_sem,eG];rw[hK]
 rw[ab eG,Bool.false_or] at hK;cases hc:cls E s with
 |none=>
  rw[hc] at hK;have hf:=hC.none hc;clear hS hI;refine br yy Tryz.func87 ?_
  ·simp only[go_sem,eG,bY (j:=0) hC.rd rfl,bY (j:=1) hC.rd rfl,fG hC.rm,iN,Option.map_none,Option.map_some,cn,forall_eq',false_implies,and_true,true_and,eV,hf];rw[hK];rfl
 |some d=>
  rw[hc] at hK;obtain⟨X,hX⟩:=hC.some hc;have hf:=hX.1;refine enter EZ yy Tryz.func87 rfl rfl (by kernel_rfl) rfl ?_ ?_
  ·clear hS hI;simp only[go_sem]
  ·simp only[go_sem,eG,bY (j:=0) hC.rd rfl,bY (j:=1) hC.rd rfl,fG hC.rm,iN,Option.map_none,Option.map_some,cn,forall_eq',false_implies,and_true,true_and,eV,hf,Cc.cs];have hK:K=(decide (t=aS)||sl.contains t||il.contains t):=by rw[hK];exact Bool.true_and _
   refine⟨fun ho=>ak (hS.mono ?_),fun ho=>by rw[hK,aP (show t=aS from ho)];simp⟩;rw[ab (show ¬t=aS from ho),Bool.false_or] at hK;clear hS;rintro r H' m1 aQ ⟨l1,rfl,sa,sc,rfl,h1,h2⟩;have jF:=A6 h2;have py:=xS h2;have lW:(sl.length<=4611686018427387904)=True:=eq_true (by clear hI;omega);by_cases bg:sl.contains t=true
   ·clear hI;simp only[go_sem,jF,py,lW,bg];rw[hK,bg,Bool.true_or]
   ·have bg:=(Bool.not_eq_true _).mp bg;have hI:=hI m1 l1;simp only[go_sem,jF,py,lW,bg];refine ak (hI.mono ?_);clear hI;rintro r H' m2 aJ ⟨l2,rfl,sa,sc,rfl,g1,g2⟩;have jF:=A6 g2;have py:=xS g2;have lW:(il.length<=4611686018427387904)=True:=eq_true (by omega);simp only[go_sem,jF,py,lW];rw[hK,bg,Bool.false_or]
theorem MR (p:Value) (s t:Nm) (m:Mem) (h:ChkR m p pr E):FnH Tryz.prog 87 [.v p,.v (.string (bs s)),.v (.string (bs t))] ⟨[],[]⟩ m fun r H' _=>r= .v (.bool (jP E s t))/\H' =⟨[],[]⟩:=by
 obtain⟨ad,b,a,c,L,rfl,hC⟩:=h;exact M2 s t m hC
abbrev E2 (pr E:List Cd):Cfg:=kI (fun _=>false) [(87,vB pr E fun s t=> .bool (jP E s t)),(84,fun _=>vQ fun t=> .bool (eM t)),(85,fun _=>tH (.agg ⟨aD ko⟩)),(86,fun _=>yB fun s=> .agg ⟨aD (eY s)⟩)]
theorem Br (pr E:List Cd):cw (E2 pr E) Tryz.prog:=fz (by kernel_rfl) (Dx fun p s t m h=>MR p s t m h) (fz (by kernel_rfl) (fun m aN y hy hB=>DV (fun t m=>GU m t) aN y hy hB m)
 (fz (by kernel_rfl) (fun m aN y hy hB=>AN Hm aN y hy hB m) (fz (by kernel_rfl) (fun m aN y hy hB=>Jt (fun s m=>HM m s) aN y hy hB m) ra)))
theorem rS (a b:Ty):(Ty.eq a b=true)↔(a.dim=b.dim/\a.base=b.base/\a.name=b.name):=by
 unfold Ty.eq;simp only[bw,cS]
theorem vy {a b:Ty} (h:¬a.dim=b.dim\/¬a.base=b.base\/¬a.name=b.name):¬Ty.eq a b=true:=fun e=>by
 have:=(rS a b).1 e;rcases h with h |h |h
 ·exact h this.1
 ·exact h this.2.1
 ·exact h this.2.2
theorem xN {a b:Ty} (h:¬Ty.eq a b=true):Ty.eq a b=false:=(Bool.not_eq_true _).mp h
theorem Ut (t u:Ty) (m:Mem) (hC:Ck m ad pr E b a c L):FnH Tryz.prog 42 [.v (.pointer (some ad)),.v (.agg ⟨aD t⟩),.v (.agg ⟨aD u⟩)] ⟨[],[]⟩ m fun r H' _=>r= .v (.bool (ew E t u))/\H' =⟨[],[]⟩:=by
 have aR:=hC.chk;refine enter (E2 pr E) (Br pr E) Tryz.func42 rfl rfl (by kernel_rfl) rfl ?_ ?_
 ·simp only[go_sem,aD]
 ·simp only[go_sem,aD,aR,dC];refine⟨fun h=> ?_,fun h=> ?_⟩
  ·rw[ew,ai ((rS t u).2 h)]
  ·have e1:=vy h;refine vf (Br pr E) (by kernel_rfl) (by kernel_rfl) (by kernel_rfl) ?_;simp only[go_sem,aD,aR,dC,ko];refine⟨fun h2=> ?_,fun h2=> ?_⟩
   ·rw[ew,aa e1,ai];rcases h2 with (h2 |h2) |h2
    ·rw[show eM t=false from h2];rfl
    ·rw[show eM u=false from h2];simp
    ·rw[(rS u ko).2 h2];simp
   ·have e2:¬(!eM t|| !eM u||Ty.eq u ko)=true:=by
     rw[show eM t=true from h2.1.1,show eM u=true from h2.1.2,xN (vy (b:=ko) h2.2)];simp
    refine vf (Br pr E) (by kernel_rfl) (by kernel_rfl) (by kernel_rfl) ?_;simp only[go_sem,aD,aR,dC,ko,eY];rw[ew,aa e1,aa e2];refine⟨fun h3=> ?_,fun h3=> ?_⟩
    ·rw[ai];rcases h3 with h3 |h3
     ·rw[(rS t ko).2 h3];rfl
     ·rw[(rS u (eY aS)).2 h3];simp
    ·have e3:¬(Ty.eq t ko||Ty.eq u (eY aS))=true:=by
      rw[xN (vy (b:=ko) h3.1),xN (vy (b:=eY aS) h3.2)];simp
     rw[aa e3];refine⟨fun h4=> ?_,fun h4=> ?_⟩
     ·rw[ai];rw[h4.1.1.1,h4.1.1.2,h4.1.2,h4.2];simp
     ·rw[aa]
      ·rfl
      ·intro h5;simp only[bw,cS] at h5;rcases h4 with ((h4 |h4) |h4) |h4
       ·exact h4 h5.1.1.1
       ·exact h4 h5.1.1.2
       ·exact h4 h5.1.2
       ·rw[h5.2] at h4;cases h4
theorem Jb (p:Value) (t u:Ty) (m:Mem) (h:ChkR m p pr E):FnH Tryz.prog 42 [.v p,.v (.agg ⟨aD t⟩),.v (.agg ⟨aD u⟩)] ⟨[],[]⟩ m fun r H' _=>r= .v (.bool (ew E t u))/\H' =⟨[],[]⟩:=by
 obtain⟨ad,b,a,c,L,rfl,hC⟩:=h;exact Ut t u m hC
end
def Bl:List Value:=[.int .i64 0,.int .i64 0,.int .u8 0,.string (bs []),.string (bs [])]
def pR:Option (Nm×Fc)->Value
 |some (o,f)=> .tuple ⟨[.string (bs o),.agg ⟨f.cs⟩,.bool true]⟩
 |none=> .tuple ⟨[.string (bs []),.agg ⟨Bl⟩,.bool false]⟩
def BT {α:Type}:Option α->Option α->Option α
 |some x,_=>some x
 |none,r=>r
theorem JW {α β:Type} (G:α->Option β) (x:α) (r:List α):(x::r).findSome? G=BT (G x) (r.findSome? G):=by
 rw[List.findSome?_cons];cases G x<;>rfl
def rN (n c:Nm) (l:List Fc):Option (Nm×Fc):=(l.find? fun f=>decide (f.name=n)).map fun f=>(c,f)
theorem Ps {n c:Nm} {f:Fc} {r:List Fc} (h:f.name=n):rN n c (f::r)=some (c,f):=by unfold rN;rw[List.find?_cons,aP h];rfl
theorem N1 {n c:Nm} {f:Fc} {r:List Fc} (h:¬f.name=n):rN n c (f::r)=rN n c r:=by unfold rN;rw[List.find?_cons,ab h]
def yo (E:List Cd) (n:Nm) (c:Nm):Option (Nm×Fc):=rN n c (cd E c).fields
section
variable {ad:Addr} {pr E:List Cd} {b:Nat} {a:Option Addr} {c:Nat} {L:List Cc}
theorem HG (s n:Nm) (m:Mem) (hC:Ck m ad pr E b a c L):FnH Tryz.prog 43 [.v (.pointer (some ad)),.v (.string (bs s)),.v (.string (bs n))] ⟨[],[]⟩ m fun r H' _=>r= .v (pR (fk E s n))/\H' =⟨[],[]⟩:=by
 refine ka (R:=fun r H' m' =>(match fk E s n with |some (o,f)=>r= .tup [.v (.string (bs o)),.agg (f.cs.map .v),.v (.bool true)] |none=>r= .tup [.v (.string (bs [])),.agg (Bl.map .v),.v (.bool false)])/\H' =⟨[],[]⟩) ?_ fun r H' m' _ hr=>⟨.v (pR (fk E s n)),fun V=> ?_,rfl,hr.2⟩
 ·have hS:=qX s m hC;have fe:=(ir E s).len;have hK:(bP E s).findSome? (yo E n)=fk E s n:=rfl;revert hS fe hK;generalize fk E s n=K
  generalize bP E s=sl
  intro hS fe hK;refine enter bj aq Tryz.func43 rfl rfl (by kernel_rfl) rfl ?_ ?_
  ·clear hS;simp only[go_sem]
  ·simp only[go_sem];refine ak (hS.mono ?_);clear hS;rintro r H' m1 aQ ⟨l1,rfl,sa,sc,rfl,h1,h2⟩;have hC:=hC.up l1;have hw:=hC.fw;simp only[go_sem];refine ct aq (fun i:Nat=>⟨[⟨17,[],.v (.int .i64 i)⟩,⟨16,[],.v (.int .i64 sl.length)⟩,⟨15,[],.v (.slice sa sl.length sc)⟩,⟨2,[],.v (.string (bs n))⟩,⟨0,[],.v (.pointer (some ad))⟩,⟨6,[],.v (.string (bs []))⟩,⟨7,[],.box 0 0⟩,⟨8,[],.v (.bool false)⟩],[],[⟨0,40,[.v (.int .i64 0),.v (.int .i64 0),.v (.int .u8 0),.v (.string (bs [])),.v (.string (bs []))]⟩],[],1,m1⟩)
    (fun i=>i<=sl.length/\(sl.drop i).findSome? (yo E n)=K) (fun i=>sl.length - i) 0 (by kernel_rfl) (fun _ _=>aU rfl) (fun x hx=> .inl rfl) (fun _=> ?_) ?_ ⟨aF _,hK⟩ ?_
   ·simp only[go_sem]
   ·simp only[go_sem];exact rfl
   ·rintro i ⟨i1,i2⟩;by_cases an:i<sl.length
    ·have hc:((i:Int)<(sl.length:Int))=True:=eq_true (by omega);rw[List.drop_eq_getElem_cons an,JW] at i2;have i2:BT (rN n sl[i] (cd E sl[i]).fields) ((sl.drop (i+1)).findSome? (yo E n))=K:=i2;have aL:=kQ h2 an;have av:= @ky _ _ _ _ h2 _ an (.string (bs sl[i])) (by unfold strs;rw[List.getElem?_map,List.getElem?_eq_getElem an];rfl);refine Exists.elim (hC.get sl[i]) fun X hX=> ?_
     have bq:=hX.1;simp only[Cc.cs] at bq;have lU:=hX.2.fds;have ep:=hX.2.fn;have gC:=hX.2.ok.fn;clear hX;revert lU ep gC i2;generalize (cd E sl[i]).fields=fl
     intro i2 lU ep gC;simp only[go_sem,hc,aL,av,bY (j:=0) hC.rd rfl,bY (j:=1) hC.rd rfl,fG hC.rm,nI,↓oq,eV,Cc.cs,bq];refine ct aq (fun j:Nat=>⟨[⟨29,[],.v (.int .i64 j)⟩,⟨28,[],.v (.int .i64 X.fn)⟩,⟨27,[],.v (.slice X.fa X.fn X.fc)⟩,⟨10,[],.v (.string (bs sl[i]))⟩,⟨17,[],.v (.int .i64 i)⟩,⟨16,[],.v (.int .i64 sl.length)⟩,⟨15,[],.v (.slice sa sl.length sc)⟩,⟨2,[],.v (.string (bs n))⟩,⟨0,[],.v (.pointer (some ad))⟩,⟨6,[],.v (.string (bs []))⟩,⟨7,[],.box 0 0⟩,⟨8,[],.v (.bool false)⟩],[],[⟨0,40,[.v (.int .i64 0),.v (.int .i64 0),.v (.int .u8 0),.v (.string (bs [])),.v (.string (bs []))]⟩],[],1,m1⟩)
      (fun j=>j<=fl.length/\BT (rN n sl[i] (fl.drop j)) ((sl.drop (i+1)).findSome? (yo E n))=K) (fun j=>fl.length - j) 0 (by kernel_rfl) (fun _ _=>aU rfl) (fun x hx=> .inl rfl) (fun _=> ?_) ?_ ⟨aF _,i2⟩ ?_
     ·simp only[go_sem]
     ·simp only[go_sem];exact rfl
     ·rintro j ⟨j1,j2⟩;by_cases iq:j<fl.length
      ·have j5:((j:Int)<(X.fn:Int))=True:=eq_true (by omega);rw[List.drop_eq_getElem_cons iq] at j2;have lV:=dK lU (by omega:j<X.fn);rw[my (f:=Fc.cs) (sz:=5) (fun _=>rfl) iq] at lV;have qO:bO X.fa X.fn (j:Int)=True:=eq_true ⟨by omega,by omega,lV.2⟩;have lS:= @cz _ _ _ 5 lV.1 rfl;simp only[Fc.cs] at lS;by_cases hn:fl[j].name=n
       ·rw[Ps hn] at j2;have j2:some (sl[i],fl[j])=K:=j2;simp only[go_sem,j5,qO,lS,hn];refine bX (.hoist 0 (.hoist 1 (.hoist 2 (.alt 3 [] (.hoist 4 .done) .stop)))) aq (by kernel_rfl) (by kernel_rfl) ?_;simp only[go_sem];subst j2;simp only[Fc.cs,hn];rfl
       ·rw[N1 hn] at j2;simp only[go_sem,j5,qO,lS,hn];exact⟨by unfold aB;unfold aw at gC;omega,j+1,rfl,⟨iq,j2⟩,by omega⟩
      ·have j5:((j:Int)<(X.fn:Int))=False:=eq_false (by omega);rw[List.drop_of_length_le (by omega)] at j2;have j2:(sl.drop (i+1)).findSome? (yo E n)=K:=j2;simp only[go_sem,j5];exact⟨by unfold aB;omega,i+1,rfl,⟨an,j2⟩,by omega⟩
    ·have hc:((i:Int)<(sl.length:Int))=False:=eq_false (by omega);rw[List.drop_of_length_le (by omega)] at i2;subst i2;simp only[go_sem,hc];exact rfl
 ·have h:=hr.1;revert h;cases fk E s n with
  |some x=>
   rintro rfl;show Value.tuple ⟨_⟩=Value.tuple ⟨[_,Value.agg ⟨_⟩,_]⟩;rw[lx];rfl
  |none=>
   rintro rfl;rfl
end
attribute [go_sem] Option.isSome_some Option.isSome_none
theorem Mc.inj {X Y:Mc} (h:X.cs=Y.cs):X=Y:=by
 obtain⟨x1,⟨x2,x3,x4⟩,x5,x6,x7,x8,x9,x10,x11,x12⟩:=X;obtain⟨y1,⟨y2,y3,y4⟩,y5,y6,y7,y8,y9,y10,y11,y12⟩:=Y;simp only[Mc.cs,List.cons.injEq,Value.int.injEq,Value.string.injEq,Value.slice.injEq,Value.bool.injEq,true_and,and_true] at h;obtain⟨h1,h2,h3,h4,h5,⟨h6,h7,h8⟩,h9,nq,h11,h12⟩:=h;have h4:=oM h4;have h5:=oM h5;subst h1 h2 h3 h4 h5 h6 h7 h8 h9 nq h11 h12;rfl
structure MdX (m:Mem) (d:Md) (Y:Mc):Prop where
 fl:Y.fl=d.fl
 res:Y.res=d.res
 name:Y.name=d.name
 hb:Y.hb=d.hb
 pl:Y.pl=d.params.length
 pc:Y.pl<=Y.pc
 l:Y.l=d.body.length
 cp:Y.l<=Y.cp
 ok:MdOk d
 par:ax m Y.pa Y.pl 4 (flat Pc.cs d.params)
 body:∃xs,ax m Y.a Y.l 23 xs/\bG m d.body xs
theorem LR {m:Mem} {d:Md} {Y:Mc} (h:gW m d Y.cs):MdX m d Y:=by
 obtain⟨Z,⟨e,h1,h2,h3,h4⟩,⟨q1,q2,q3,q4⟩,h5,h6,xs,h7,h8⟩:=h;cases Mc.inj e;exact⟨h1,h2,h3,h4,q1,q2,q3,q4,h5,h6,xs,h7,h8⟩
theorem MdX.rep {m:Mem} {d:Md} {Y:Mc} (h:MdX m d Y):gW m d Y.cs:=by
 obtain⟨xs,h7,h8⟩:=h.body;exact⟨Y,⟨rfl,h.fl,h.res,h.name,h.hb⟩,⟨h.pl,h.pc,h.l,h.cp⟩,h.ok,h.par,xs,h7,h8⟩
theorem MdX.up {m m' :Mem} {d:Md} {Y:Mc} (hle:ah m m') (h:MdX m d Y):MdX m' d Y:=LR (lg hle h.rep)
def tX:Mc:=⟨0,⟨0,0,[]⟩,[],none,0,0,false,none,0,0⟩
theorem YM (m:Mem):MdX m mQ tX:=
 ⟨rfl,rfl,rfl,rfl,rfl,aA _,rfl,aA _,⟨by unfold aB;decide,⟨by unfold aB;decide,by decide,aF _⟩,aF _,aF _,fun p hp=>(by cases hp),aF _⟩,⟨rfl,fun h=>absurd h (Nat.lt_irrefl 0)⟩,[],⟨rfl,fun h=>absurd h (Nat.lt_irrefl 0)⟩,trivial⟩
def MdA (m:Mem) (o:Option Md) (Y:Mc):Prop:=match o with
 |some d=>MdX m d Y
 |none=>Y=tX
theorem MdA.x {m:Mem} {o:Option Md} {Y:Mc} (h:MdA m o Y):MdX m (o.getD mQ) Y:=by
 cases o with
 |some d=>exact h
 |none=>rw[show Y=tX from h];exact YM m
theorem MdA.up {m m' :Mem} {o:Option Md} {Y:Mc} (hle:ah m m') (h:MdA m o Y):MdA m' o Y:=by
 cases o with
 |some d=>exact MdX.up hle h
 |none=>exact h
theorem tz {m:Mem} {a:Option Addr} {n:Nat} {l:List Md} {xs:List Value} (h:ax m a n 8 xs) (hn:n=l.length) (hr:eu (gW m) 8 l xs) {k:Nat} (hk:k<l.length):
  ∃Y:Mc,Rd m (bc a (k * 8)) Y.cs/\a≠none/\MdX m l[k] Y:=by
 obtain⟨h1,h2⟩:=dK h (by omega:k<n);have bU:=qd hr hk;obtain⟨Y,e1,e2⟩:=bU;have e:=e1.1;rw[e] at h1;exact⟨Y,h1,h2,LR ⟨Y,⟨rfl,e1.2⟩,e2⟩⟩
def rX (n:Nm) (k:Int) (m:Md):Bool:=decide (m.name=n)&&decide ((m.params.length:Int)=k)
section
variable {ad:Addr} {pr E:List Cd} {b:Nat} {a:Option Addr} {c:Nat} {L:List Cc}
theorem Py (s n:Nm) (k:Int) (m:Mem) (hC:Ck m ad pr E b a c L):FnH Tryz.prog 161 [.v (.pointer (some ad)),.v (.string (bs s)),.v (.string (bs n)),.v (.int .i64 k)] ⟨[],[]⟩ m
  fun r H' m' =>m' =m/\H' =⟨[],[]⟩/\∃Y:Mc,MdA m (cM E s n k) Y/\r= .tup [.agg (Y.cs.map .v),.v (.bool (cM E s n k).isSome)]:=by
 obtain⟨X,bq,hX⟩:=hC.get s;simp only[Cc.cs] at bq;have dR:=hX.ml;have gC:=hX.ok.ml;obtain⟨xs,g1,g2⟩:=hX.mth;have hK:(cd E s).methods.find? (rX n k)=cM E s n k:=rfl;clear hX;revert dR gC g1 g2 hK;generalize cM E s n k=K
 generalize (cd E s).methods=ml
 intro dR gC g1 g2 hK;refine br aq Tryz.func161 ?_
 ·simp only[go_sem,bY (j:=0) hC.rd rfl,bY (j:=1) hC.rd rfl,fG hC.rm,nI,↓oq,eV,Cc.cs,bq];refine ct aq (fun i:Nat=>⟨[⟨20,[],.v (.int .i64 i)⟩,⟨19,[],.v (.int .i64 X.ml)⟩,⟨18,[],.v (.slice X.ma X.ml X.mc)⟩,⟨2,[],.v (.string (bs n))⟩,⟨3,[],.v (.int .i64 k)⟩,⟨8,[],.box 0 0⟩,⟨9,[],.v (.bool false)⟩],[],[⟨0,45,[.v (.int .i64 0),.v (.int .i64 0),.v (.int .u8 0),.v (.string (bs [])),.v (.string (bs [])),.v (.slice none 0 0),.v (.bool false),.v (.slice none 0 0)]⟩],[],1,m⟩)
   (fun i=>i<=ml.length/\(ml.drop i).find? (rX n k)=K) (fun i=>ml.length - i) 0 (by kernel_rfl) (fun _ _=>aU rfl) (fun x hx=> .inl rfl) (fun _=> ?_) ?_ ⟨aF _,hK⟩ ?_
  ·simp only[go_sem]
  ·simp only[go_sem];exact rfl
  ·rintro i ⟨i1,i2⟩;by_cases an:i<ml.length
   ·have hc:((i:Int)<(X.ml:Int))=True:=eq_true (by omega);rw[List.drop_eq_getElem_cons an,List.find?_cons] at i2;refine Exists.elim (tz g1 dR g2 an) fun Y hY=> ?_
    have aL:bO X.ma X.ml (i:Int)=True:=eq_true ⟨by omega,by omega,hY.2.1⟩;have av:= @cz _ _ _ 8 hY.1 rfl;have hn:=hY.2.2.name;have hp:=hY.2.2.pl;simp only[Mc.cs] at av;by_cases h1:Y.name=n
    ·by_cases h2:(Y.pl:Int)=k
     ·have hm:rX n k ml[i]=true:=by unfold rX;rw[<- hn,<- hp,h1,h2];simp
      rw[hm] at i2;have i2:some ml[i]=K:=i2;simp only[go_sem,hc,aL,av,h1,h2];subst i2;refine⟨Y,hY.2.2,?_⟩;simp only[Mc.cs,h1];rfl
     ·have hm:rX n k ml[i]=false:=by unfold rX;rw[<- hn,<- hp,h1,ab h2];simp
      rw[hm] at i2;simp only[go_sem,hc,aL,av,h1,h2];exact⟨by unfold aB;unfold aw at gC;omega,i+1,rfl,⟨an,i2⟩,by omega⟩
    ·have hm:rX n k ml[i]=false:=by unfold rX;rw[<- hn,ab h1];simp
     rw[hm] at i2;simp only[go_sem,hc,aL,av,h1];exact⟨by unfold aB;unfold aw at gC;omega,i+1,rfl,⟨an,i2⟩,by omega⟩
   ·have hc:((i:Int)<(X.ml:Int))=False:=eq_false (by omega);rw[List.drop_of_length_le (by omega)] at i2;have i2:none=K:=i2;simp only[go_sem,hc];subst i2;exact⟨tX,rfl,rfl⟩
theorem uW (s n:Nm) (k:Int) (m:Mem) (hC:Ck m ad pr E b a c L):FnH Tryz.prog 161 [.v (.pointer (some ad)),.v (.string (bs s)),.v (.string (bs n)),.v (.int .i64 k)] ⟨[],[]⟩ m
  fun r H' m' =>m' =m/\H' =⟨[],[]⟩/\∃Y:Mc,MdA m (cM E s n k) Y/\r= .tup [.v (.agg ⟨Y.cs⟩),.v (.bool (cM E s n k).isSome)]:=by
 refine ka (Py s n k m hC) ?_;rintro r H' m' hm ⟨h1,h2,Y,h3,rfl⟩;refine⟨.tup [.v (.agg ⟨Y.cs⟩),.v (.bool (cM E s n k).isSome)],fun V=> ?_,h1,h2,Y,h3,rfl⟩;show Value.tuple ⟨[.agg ⟨Y.cs⟩,_]⟩=Value.tuple ⟨[Value.agg ⟨_⟩,_]⟩;rw[lx]
def MtA (m:Mem) (x:Option (Nm×Md)) (o:Nm) (Y:Mc):Prop:=match x with
 |some (o',d)=>o=o' /\MdX m d Y
 |none=>o=[]/\Y=tX
theorem MtA.up {m m' :Mem} {x:Option (Nm×Md)} {o:Nm} {Y:Mc} (hle:ah m m') (h:MtA m x o Y):MtA m' x o Y:=by
 cases x with
 |some d=>exact⟨h.1,MdX.up hle h.2⟩
 |none=>exact h
def Bb (E:List Cd) (n:Nm) (k:Int) (s:Nm):Option (Nm×Md):=(cM E s n k).map fun m=>(s,m)
theorem Pq (l:List Nm) (la:Option Addr) (lc:Nat) (n:Nm) (k:Int) (m:Mem) (hC:Ck m ad pr E b a c L) (hr:ax m la l.length 1 (strs l)) (hl:l.length<=4000000):
  FnH Tryz.prog 89 [.v (.pointer (some ad)),.v (.slice la l.length lc),.v (.string (bs n)),.v (.int .i64 k)] ⟨[],[]⟩ m
   fun r H' m' =>m' =m/\H' =⟨[],[]⟩/\∃(o:Nm) (Y:Mc),MtA m (eA E l n k) o Y/\r= .tup [.v (.string (bs o)),.agg (Y.cs.map .v),.v (.bool (eA E l n k).isSome)]:=by
 have hK:l.findSome? (Bb E n k)=eA E l n k:=rfl;revert hK;generalize eA E l n k=K
 intro hK;refine br aq Tryz.func89 ?_
 ·simp only[go_sem];refine ct aq (fun i:Nat=>⟨[⟨17,[],.v (.int .i64 i)⟩,⟨16,[],.v (.int .i64 l.length)⟩,⟨15,[],.v (.slice la l.length lc)⟩,⟨0,[],.v (.pointer (some ad))⟩,⟨2,[],.v (.string (bs n))⟩,⟨3,[],.v (.int .i64 k)⟩,⟨8,[],.v (.string (bs []))⟩,⟨9,[],.box 0 0⟩,⟨10,[],.v (.bool false)⟩],[],[⟨0,45,[.v (.int .i64 0),.v (.int .i64 0),.v (.int .u8 0),.v (.string (bs [])),.v (.string (bs [])),.v (.slice none 0 0),.v (.bool false),.v (.slice none 0 0)]⟩],[],1,m⟩)
   (fun i=>i<=l.length/\(l.drop i).findSome? (Bb E n k)=K) (fun i=>l.length - i) 0 (by kernel_rfl) (fun _ _=>aU rfl) (fun x hx=> .inl rfl) (fun _=> ?_) ?_ ⟨aF _,hK⟩ ?_
  ·simp only[go_sem]
  ·simp only[go_sem];exact rfl
  ·rintro i ⟨i1,i2⟩;by_cases an:i<l.length
   ·have hc:((i:Int)<(l.length:Int))=True:=eq_true (by omega);rw[List.drop_eq_getElem_cons an,JW] at i2;have aL:=kQ hr an;have av:= @ky _ _ _ _ hr _ an (.string (bs l[i])) (by unfold strs;rw[List.getElem?_map,List.getElem?_eq_getElem an];rfl);have hD:=uW l[i] n k m hC;have i2:BT ((cM E l[i] n k).map fun m=>(l[i],m)) ((l.drop (i+1)).findSome? (Bb E n k))=K:=i2;revert hD i2;generalize cM E l[i] n k=o
    intro hD i2;simp only[go_sem,hc,aL,av];refine ak (hD.mono ?_);clear hD;rintro r H' m1 aQ ⟨rfl,rfl,Y,h1,rfl⟩;cases o with
    |none=>
     have i2:(l.drop (i+1)).findSome? (Bb E n k)=K:=i2;simp only[go_sem,Mc.cs];exact⟨by unfold aB;omega,i+1,rfl,⟨an,i2⟩,by omega⟩
    |some d=>
     have i2:some (l[i],d)=K:=i2;simp only[go_sem,Mc.cs];refine bX (.hoist 0 (.hoist 1 (.hoist 2 (.alt 3 [] (.hoist 4 .done) .stop)))) aq (by kernel_rfl) (by kernel_rfl) ?_;simp only[go_sem];subst i2;exact⟨l[i],Y,⟨rfl,h1⟩,rfl⟩
   ·have hc:((i:Int)<(l.length:Int))=False:=eq_false (by omega);rw[List.drop_of_length_le (by omega)] at i2;have i2:none=K:=i2;simp only[go_sem,hc];subst i2;exact⟨[],tX,⟨rfl,rfl⟩,rfl⟩
theorem wX (l:List Nm) (la:Option Addr) (lc:Nat) (n:Nm) (k:Int) (m:Mem) (hC:Ck m ad pr E b a c L) (hr:ax m la l.length 1 (strs l)) (hl:l.length<=4000000):
  FnH Tryz.prog 89 [.v (.pointer (some ad)),.v (.slice la l.length lc),.v (.string (bs n)),.v (.int .i64 k)] ⟨[],[]⟩ m
   fun r H' m' =>m' =m/\H' =⟨[],[]⟩/\∃(o:Nm) (Y:Mc),MtA m (eA E l n k) o Y/\r= .tup [.v (.string (bs o)),.v (.agg ⟨Y.cs⟩),.v (.bool (eA E l n k).isSome)]:=by
 refine ka (Pq l la lc n k m hC hr hl) ?_;rintro r H' m' hm ⟨h1,h2,o,Y,h3,rfl⟩;refine⟨.tup [.v (.string (bs o)),.v (.agg ⟨Y.cs⟩),.v (.bool (eA E l n k).isSome)],fun V=> ?_,h1,h2,o,Y,h3,rfl⟩;show Value.tuple ⟨[_,.agg ⟨Y.cs⟩,_]⟩=Value.tuple ⟨[_,Value.agg ⟨_⟩,_]⟩;rw[lx]
theorem Zk {a:Option Addr} {c h:Nat}:gA a c 0 h 1= .slice a h c:=by
 unfold gA;simp only[Nat.sub_zero,Nat.zero_mul];split
 ·rfl
 ·cases a with
  |none=>rfl
  |some ad=>simp [Addr.add]
theorem Zp (sl:List Nm):(if((sl.length:Nat):Int)<1 then((sl.length:Nat):Int) else 1).toNat=(sl.take 1).length:=by
 rw[List.length_take];split<;>omega
theorem Oz {m:Mem} {a:Option Addr} {l:List Nm} (h:ax m a l.length 1 (strs l)) (k:Nat) (hk:k<=l.length):ax m a (l.take k).length 1 (strs (l.take k)):=by
 have hl:(l.take k).length=k:=by rw[List.length_take];omega
 rw[hl];refine⟨by unfold strs;simp;omega,fun h0=> ?_⟩;obtain⟨ad,e,hs,hc⟩:=h.2 (by omega);refine⟨ad,e,hs,fun j hj=> ?_⟩;obtain⟨q1,q2⟩:=hc j (by omega);refine⟨?_,q2⟩;rw[q1];unfold strs;rw[List.getElem?_map,List.getElem?_map,List.getElem?_take,ai (by omega)]
theorem Nx {m:Mem} {a:Option Addr} {l:List Nm} (h:ax m a l.length 1 (strs l)):ax m a (l.take 1).length 1 (strs (l.take 1)):=by
 by_cases h0:l=[]
 ·subst h0;exact⟨rfl,fun h=>absurd h (Nat.lt_irrefl 0)⟩
 ·exact Oz h 1 (List.length_pos_iff.2 h0)
theorem NU (s n:Nm) (k:Int) (m:Mem) (hC:Ck m ad pr E b a c L):FnH Tryz.prog 45 [.v (.pointer (some ad)),.v (.string (bs s)),.v (.string (bs n)),.v (.int .i64 k)] ⟨[],[]⟩ m
  fun r H' m' =>ah m m' /\H' =⟨[],[]⟩/\∃(o:Nm) (Y:Mc),MtA m' (fi E s n k) o Y/\r= .tup [.v (.string (bs o)),.agg (Y.cs.map .v),.v (.bool (fi E s n k).isSome)]:=by
 have hS:=qX s m hC;have fe:=(ir E s).len;have hw:=hC.fw;have jD:=(ld E s).len;have hI:=fun m' (hle:ah m m')=>uS s m' (hC.up hle)
 unfold fi;revert hS fe jD hI;generalize bP E s=sl
 generalize cH E s=il
 intro hS fe jD hI;by_cases hn:n=bB
 ·rw[ai hn];subst hn;have hF:=fun m' (hle:ah m m') sa sc (hr:ax m' sa sl.length 1 (strs sl))=>wX (sl.take 1) sa sc bB k m' (hC.up hle) (Nx hr) (by rw[List.length_take];omega)
  have e1:=Zp sl;clear hI;revert hF e1;generalize eA E (sl.take 1) bB k=K
  intro hF e1;refine enter bj aq Tryz.func45 rfl rfl (by kernel_rfl) rfl ?_ ?_
  ·clear hS;simp only[go_sem]
  ·have hi:(bB=[60,105,110,105,116,62])=True:=eq_true rfl;simp only[go_sem,hi];refine ak (hS.mono ?_);clear hS;rintro r H' m1 aQ ⟨l1,rfl,sa,sc,rfl,h1,h2⟩;have hF:=hF m1 l1 sa sc h2;simp only[go_sem,hi,Zk,e1];refine⟨⟨by omega,by split<;>omega,by split<;>omega⟩,by kernel_rfl,bF (hF.mono ?_)⟩;clear hF;rintro r H' m2 aJ ⟨rfl,rfl,o,Y,g1,rfl⟩;simp only[go_sem,Mc.cs];exact⟨l1,o,Y,g1,rfl⟩
 ·rw[aa hn];have uL:=fun m' (hle:ah m m') sa sc (hr:ax m' sa sl.length 1 (strs sl))=>wX sl sa sc n k m' (hC.up hle) hr (by omega)
  have sM:=fun m' (hle:ah m m') sa sc (hr:ax m' sa il.length 1 (strs il))=>wX il sa sc n k m' (hC.up hle) hr (by omega)
  revert uL sM;generalize eA E sl n k=K1
  generalize eA E il n k=K2
  intro uL sM;refine enter bj aq Tryz.func45 rfl rfl (by kernel_rfl) rfl ?_ ?_
  ·clear hS uL sM hI;simp only[go_sem]
  ·have hi:(n=[60,105,110,105,116,62])=False:=eq_false hn;simp only[go_sem,hi];refine ak (hS.mono ?_);clear hS;rintro r H' m1 aQ ⟨l1,rfl,sa,sc,rfl,h1,h2⟩;have uL:=uL m1 l1 sa sc h2;simp only[go_sem,hi];refine ak (uL.mono ?_);clear uL;rintro r H' m2 aJ ⟨rfl,rfl,o,Y,g1,rfl⟩;cases K1 with
   |some x=>
    clear hI sM;simp only[go_sem,Mc.cs];refine bX (.hoist 0 (.hoist 1 (.hoist 2 (.alt 3 [] (.hoist 4 .done) .stop)))) aq (by kernel_rfl) (by kernel_rfl) ?_;simp only[go_sem];exact⟨l1,o,Y,g1,rfl⟩
   |none=>
    have hI:=hI m2 l1;simp only[go_sem,Mc.cs];refine ak (hI.mono ?_);clear hI;rintro r H' m3 dx ⟨l3,rfl,ia,ic,rfl,h3,h4⟩;have sM:=sM m3 (ae l1 l3) ia ic h4;simp only[go_sem];refine ak (sM.mono ?_);clear sM;rintro r H' m4 iF ⟨rfl,rfl,o2,Y2,g2,rfl⟩;simp only[go_sem,Mc.cs];exact⟨ae l1 l3,o2,Y2,g2,rfl⟩
theorem F9 (s n:Nm) (k:Int) (m:Mem) (hC:Ck m ad pr E b a c L):FnH Tryz.prog 45 [.v (.pointer (some ad)),.v (.string (bs s)),.v (.string (bs n)),.v (.int .i64 k)] ⟨[],[]⟩ m
  fun r H' m' =>ah m m' /\H' =⟨[],[]⟩/\∃(o:Nm) (Y:Mc),MtA m' (fi E s n k) o Y/\r= .tup [.v (.string (bs o)),.v (.agg ⟨Y.cs⟩),.v (.bool (fi E s n k).isSome)]:=by
 refine ka (NU s n k m hC) ?_;rintro r H' m' hm ⟨h1,h2,o,Y,h3,rfl⟩;refine⟨.tup [.v (.string (bs o)),.v (.agg ⟨Y.cs⟩),.v (.bool (fi E s n k).isSome)],fun V=> ?_,h1,h2,o,Y,h3,rfl⟩;show Value.tuple ⟨[_,.agg ⟨Y.cs⟩,_]⟩=Value.tuple ⟨[_,Value.agg ⟨_⟩,_]⟩;rw[lx]
end
theorem Yy:cC Tryz.prog 72=some none:=by kernel_rfl
theorem Y6:aK Tryz.prog 72=1:=by kernel_rfl
attribute [go_sem] Yy Y6
section
variable {ad:Addr} {pr E:List Cd} {b:Nat} {a:Option Addr} {c:Nat} {L:List Cc}
theorem WB {m:Mem} (hC:Ck m ad pr E b a c L):Rd m (bc (some ad) 1) [.map (some b)]:=te hC.rd 1 1 (aA _)
theorem S7 (E:List Cd) (t:Ty):rY E t=(decide (t.dim=0)&&decide (t.base=76)&&hasB (cd E t.name).fl 512):=rfl
theorem Ph (t:Ty) (m:Mem) (hC:Ck m ad pr E b a c L):FnH Tryz.prog 264 [.v (.pointer (some ad)),.v (.agg ⟨aD t⟩)] ⟨[],[]⟩ m fun r H' _=>r= .v (.bool (rY E t))/\H' =⟨[],[]⟩:=by
 obtain⟨X,bq,hX⟩:=hC.get t.name;simp only[Cc.cs] at bq;have gS:=hX.fl;rw[S7,<- gS,hasB];refine enter bj aq Tryz.func264 rfl rfl (by kernel_rfl) rfl ?_ ?_
 ·simp only[go_sem,aD]
 ·simp only[go_sem,aD];refine bX (.hoist 0 (.hoist 1 (.hoist 2 (.hoist 3 (.hoist 4 (.hoist 5 (.hoist 6 (.hoist 7 (.hoist 8 (.hoist 9 (.hoist 10 (.hoist 11 (.hoist 12 (.hoist 13 (.hoist 14 (.hoist 15 (.hoist 16 (.hoist 17 (.hoist 18 (.hoist 19 (.hoist 20 .done))))))))))))))))))))) aq (by kernel_rfl) (by kernel_rfl) ?_;simp only[go_sem,bY (j:=0) hC.rd rfl,bY (j:=1) hC.rd rfl,fG hC.rm,nI,↓oq,eV,Cc.cs,bq];refine⟨_,fun _=>WB hC,kO L,hC.rm,?_⟩;simp only[go_sem,bY (j:=0) hC.rd rfl,bY (j:=1) hC.rd rfl,fG hC.rm,nI,↓oq,eV,Cc.cs,bq]
theorem O5 (s x:Nm) (m:Mem) (hC:Ck m ad pr E b a c L):
  FnH Tryz.prog 276 [.v (.string (bs x)),.box 0 0,.box 1 0] ⟨[⟨0,9,[.v (.string (bs s))]⟩,⟨1,72,[.v (.pointer (some ad))]⟩],[]⟩ m
   fun r H' _=>r= .v (.bool (!decide (x=s)&&jP E x s))/\H' =⟨[⟨0,9,[.v (.string (bs s))]⟩,⟨1,72,[.v (.pointer (some ad))]⟩],[]⟩:=by
 have aR:=hC.chk;refine enter (E2 pr E) (Br pr E) Tryz.func276 rfl rfl (by kernel_rfl) rfl ?_ ?_
 ·simp only[go_sem]
 ·simp only[go_sem,aR]
end
def wi (n:Nat) (P:Nat->Bool) (r:SV):Prop:=(r= .v (.int .i64 (-1))/\∀j,j<n->P j=false)\/∃k,k<n/\r= .v (.int .i64 k)/\P k=true/\∀j,j<k->P j=false
theorem yb {n:Nat} {P:Nat->Bool} (h:∀j,j<n->P j=false):(List.range n).any P=false:=by
 rw[List.any_eq_false];intro j hj;rw[h j (List.mem_range.1 hj)];decide
theorem S8 (g:FuncId) (dY:de Tryz.prog g=true) (c0 c1:List Value) (la:Option Addr) (n lc:Nat) (m:Mem) (hn:n<=4000000000) (cell:Nat->Value) (bW:∀i,i<n->Rd m (bc la i) [cell i]/\la≠none) (P:Nat->Bool)
  (hg:∀i m',i<n->ah m m' ->FnH Tryz.prog g [.v (cell i),.box 0 0,.box 1 0] ⟨[⟨0,9,c0.map .v⟩,⟨1,72,c1.map .v⟩],[]⟩ m' fun r H' _=>r= .v (.bool (P i))/\H' =⟨[⟨0,9,c0.map .v⟩,⟨1,72,c1.map .v⟩],[]⟩):
  FnH Tryz.prog 233 [.v (.slice la n lc),.cl g [0,1]] ⟨[⟨0,9,c0.map .v⟩,⟨1,72,c1.map .v⟩],[]⟩ m fun r H' _=>H' =⟨[⟨0,9,c0.map .v⟩,⟨1,72,c1.map .v⟩],[]⟩/\wi n P r:=by
 refine enter bj aq Tryz.func233 rfl rfl (by kernel_rfl) rfl ?_ ?_
 ·clear hg;simp only[go_sem,bu,bk,bm,bo,bp]
 ·simp only[go_sem,bu,bk,bm,bo,bp];refine ct aq (fun x:Nat×Mem=>⟨[⟨8,[],.v (.int .i64 x.1)⟩,⟨7,[],.v (.int .i64 n)⟩,⟨0,[],.v (.slice la n lc)⟩,⟨1,[],.cl g [0,1]⟩,⟨4,[],.v (.int .i64 0)⟩],[],[⟨0,9,c0.map .v⟩,⟨1,72,c1.map .v⟩],[],2,x.2⟩)
   (fun x=>ah m x.2/\x.1<=n/\∀j,j<x.1->P j=false) (fun x=>n - x.1) (0,m) (by kernel_rfl) (fun _ _=>aU rfl) (fun x hx=>hx.1) (fun _=> ?_) ?_ ⟨.inl rfl,aF _,fun j hj=>absurd hj (Nat.not_lt_zero j)⟩ ?_
  ·clear hg;simp only[go_sem,bu,bk,bm,bo,bp]
  ·clear hg;simp only[go_sem,bu,bk,bm,bo,bp];rfl
  ·rintro⟨i,mm⟩ ⟨q1,q2,q3⟩;dsimp only at q1 q2 q3;by_cases an:i<n
   ·have hc:((i:Int)<(n:Int))=True:=eq_true (by omega);have aL:bO la n (i:Int)=True:=eq_true ⟨by omega,by omega,(bW i an).2⟩;have av:= @Fb _ _ _ (oP q1 (bW i an).1);have cX:=hg i mm an q1;clear hg;cases hp:P i with
    |true=>
     rw[hp] at cX;simp only[go_sem,hc,aL,av,bu,bk,bm,bo,bp];refine⟨dY,bF (cX.mono ?_)⟩;clear cX;rintro r H' m2 aJ ⟨rfl,rfl⟩;simp only[go_sem,bu,bk,bm,bo,bp];exact .inr ⟨i,an,rfl,hp,q3⟩
    |false=>
     rw[hp] at cX;simp only[go_sem,hc,aL,av,bu,bk,bm,bo,bp];refine⟨dY,bF (cX.mono ?_)⟩;clear cX;rintro r H' m2 aJ ⟨rfl,rfl⟩;simp only[go_sem,bu,bk,bm,bo,bp];refine⟨by unfold aB;omega,(i+1,m2),⟨by omega,.inl rfl⟩,⟨ae q1 (.inr aJ),an,fun j hj=> ?_⟩,by omega⟩;rcases Nat.lt_succ_iff_lt_or_eq.1 hj with hj |rfl
     ·exact q3 j hj
     ·exact hp
   ·have hc:((i:Int)<(n:Int))=False:=eq_false (by omega);clear hg;simp only[go_sem,hc,bu,bk,bm,bo,bp];exact .inl ⟨rfl,fun j hj=>q3 j (by omega)⟩
theorem S9 (g:FuncId) (dY:de Tryz.prog g=true) (c0 c1:List Value) (la:Option Addr) (n lc:Nat) (m:Mem) (hn:n<=4000000000) (cell:Nat->Value) (bW:∀i,i<n->Rd m (bc la i) [cell i]/\la≠none) (P:Nat->Bool)
  (hg:∀i m',i<n->ah m m' ->FnH Tryz.prog g [.v (cell i),.box 0 0,.box 1 0] ⟨[⟨0,9,c0.map .v⟩,⟨1,72,c1.map .v⟩],[]⟩ m' fun r H' _=>r= .v (.bool (P i))/\H' =⟨[⟨0,9,c0.map .v⟩,⟨1,72,c1.map .v⟩],[]⟩):
  FnH Tryz.prog 146 [.v (.slice la n lc),.cl g [0,1]] ⟨[⟨0,9,c0.map .v⟩,⟨1,72,c1.map .v⟩],[]⟩ m fun r H' _=>H' =⟨[⟨0,9,c0.map .v⟩,⟨1,72,c1.map .v⟩],[]⟩/\r= .v (.bool ((List.range n).any P)):=by
 have hI:=S8 g dY c0 c1 la n lc m hn cell bW P hg;clear hg;refine enter bj aq Tryz.func146 rfl rfl (by kernel_rfl) rfl ?_ ?_
 ·clear hI;simp only[go_sem,bu,bk,bm,bo,bp]
 ·simp only[go_sem,bu,bk,bm,bo,bp];refine ak (hI.mono ?_);clear hI;rintro r H' m2 aJ ⟨rfl,h |⟨k,h1,rfl,h2,h3⟩⟩
  ·obtain⟨rfl,h⟩:=h;have he:(List.range n).any P=false:=yb h;simp only[go_sem,bu,bk,bm,bo,bp];rw[he];rfl
  ·have he:(List.range n).any P=true:=List.any_eq_true.2 ⟨k,List.mem_range.2 h1,h2⟩;simp only[go_sem,bu,bk,bm,bo,bp];rw[he];exact aP (by omega)
theorem Ta (g:FuncId) (dY:de Tryz.prog g=true) (c0:List Value) (la:Option Addr) (n lc:Nat) (m:Mem) (hn:n<=4000000000) (cell:Nat->Value) (bW:∀i,i<n->Rd m (bc la i) [cell i]/\la≠none) (P:Nat->Bool)
  (hg:∀i m',i<n->ah m m' ->FnH Tryz.prog g [.v (cell i),.box 0 0] ⟨[⟨0,72,c0.map .v⟩],[]⟩ m' fun r H' _=>r= .v (.bool (P i))/\H' =⟨[⟨0,72,c0.map .v⟩],[]⟩):
  FnH Tryz.prog 233 [.v (.slice la n lc),.cl g [0]] ⟨[⟨0,72,c0.map .v⟩],[]⟩ m fun r H' _=>H' =⟨[⟨0,72,c0.map .v⟩],[]⟩/\wi n P r:=by
 refine enter bj aq Tryz.func233 rfl rfl (by kernel_rfl) rfl ?_ ?_
 ·clear hg;simp only[go_sem,bu,bk,bm,bo,bp]
 ·simp only[go_sem,bu,bk,bm,bo,bp];refine ct aq (fun x:Nat×Mem=>⟨[⟨8,[],.v (.int .i64 x.1)⟩,⟨7,[],.v (.int .i64 n)⟩,⟨0,[],.v (.slice la n lc)⟩,⟨1,[],.cl g [0]⟩,⟨4,[],.v (.int .i64 0)⟩],[],[⟨0,72,c0.map .v⟩],[],1,x.2⟩)
   (fun x=>ah m x.2/\x.1<=n/\∀j,j<x.1->P j=false) (fun x=>n - x.1) (0,m) (by kernel_rfl) (fun _ _=>aU rfl) (fun x hx=>hx.1) (fun _=> ?_) ?_ ⟨.inl rfl,aF _,fun j hj=>absurd hj (Nat.not_lt_zero j)⟩ ?_
  ·clear hg;simp only[go_sem,bu,bk,bm,bo,bp]
  ·clear hg;simp only[go_sem,bu,bk,bm,bo,bp];rfl
  ·rintro⟨i,mm⟩ ⟨q1,q2,q3⟩;dsimp only at q1 q2 q3;by_cases an:i<n
   ·have hc:((i:Int)<(n:Int))=True:=eq_true (by omega);have aL:bO la n (i:Int)=True:=eq_true ⟨by omega,by omega,(bW i an).2⟩;have av:= @Fb _ _ _ (oP q1 (bW i an).1);have cX:=hg i mm an q1;clear hg;cases hp:P i with
    |true=>
     rw[hp] at cX;simp only[go_sem,hc,aL,av,bu,bk,bm,bo,bp];refine⟨dY,bF (cX.mono ?_)⟩;clear cX;rintro r H' m2 aJ ⟨rfl,rfl⟩;simp only[go_sem,bu,bk,bm,bo,bp];exact .inr ⟨i,an,rfl,hp,q3⟩
    |false=>
     rw[hp] at cX;simp only[go_sem,hc,aL,av,bu,bk,bm,bo,bp];refine⟨dY,bF (cX.mono ?_)⟩;clear cX;rintro r H' m2 aJ ⟨rfl,rfl⟩;simp only[go_sem,bu,bk,bm,bo,bp];refine⟨by unfold aB;omega,(i+1,m2),⟨by omega,.inl rfl⟩,⟨ae q1 (.inr aJ),an,fun j hj=> ?_⟩,by omega⟩;rcases Nat.lt_succ_iff_lt_or_eq.1 hj with hj |rfl
     ·exact q3 j hj
     ·exact hp
   ·have hc:((i:Int)<(n:Int))=False:=eq_false (by omega);clear hg;simp only[go_sem,hc,bu,bk,bm,bo,bp];exact .inl ⟨rfl,fun j hj=>q3 j (by omega)⟩
theorem Tb (g:FuncId) (dY:de Tryz.prog g=true) (c0:List Value) (la:Option Addr) (n lc:Nat) (m:Mem) (hn:n<=4000000000) (cell:Nat->Value) (bW:∀i,i<n->Rd m (bc la i) [cell i]/\la≠none) (P:Nat->Bool)
  (hg:∀i m',i<n->ah m m' ->FnH Tryz.prog g [.v (cell i),.box 0 0] ⟨[⟨0,72,c0.map .v⟩],[]⟩ m' fun r H' _=>r= .v (.bool (P i))/\H' =⟨[⟨0,72,c0.map .v⟩],[]⟩):
  FnH Tryz.prog 146 [.v (.slice la n lc),.cl g [0]] ⟨[⟨0,72,c0.map .v⟩],[]⟩ m fun r H' _=>H' =⟨[⟨0,72,c0.map .v⟩],[]⟩/\r= .v (.bool ((List.range n).any P)):=by
 have hI:=Ta g dY c0 la n lc m hn cell bW P hg;clear hg;refine enter bj aq Tryz.func146 rfl rfl (by kernel_rfl) rfl ?_ ?_
 ·clear hI;simp only[go_sem,bu,bk,bm,bo,bp]
 ·simp only[go_sem,bu,bk,bm,bo,bp];refine ak (hI.mono ?_);clear hI;rintro r H' m2 aJ ⟨rfl,h |⟨k,h1,rfl,h2,h3⟩⟩
  ·obtain⟨rfl,h⟩:=h;have he:(List.range n).any P=false:=yb h;simp only[go_sem,bu,bk,bm,bo,bp];rw[he];rfl
  ·have he:(List.range n).any P=true:=List.any_eq_true.2 ⟨k,List.mem_range.2 h1,h2⟩;simp only[go_sem,bu,bk,bm,bo,bp];rw[he];exact aP (by omega)
theorem Rg (g:FuncId) (dY:de Tryz.prog g=true) (c0:List Value) (la:Option Addr) (n lc:Nat) (m:Mem) (hn:n<=4000000000) (cell:Nat->List Value) (bW:∀i,i<n->Rd m (bc la (i * 4)) (cell i)/\la≠none/\(cell i).length=4) (P:Nat->Bool)
  (hg:∀i m',i<n->ah m m' ->FnH Tryz.prog g [.v (.agg ⟨cell i⟩),.box 0 0] ⟨[⟨0,9,c0.map .v⟩],[]⟩ m' fun r H' _=>r= .v (.bool (P i))/\H' =⟨[⟨0,9,c0.map .v⟩],[]⟩):
  FnH Tryz.prog 275 [.v (.slice la n lc),.cl g [0]] ⟨[⟨0,9,c0.map .v⟩],[]⟩ m fun r H' _=>H' =⟨[⟨0,9,c0.map .v⟩],[]⟩/\wi n P r:=by
 refine enter bj aq Tryz.func275 rfl rfl (by kernel_rfl) rfl ?_ ?_
 ·clear hg;simp only[go_sem,bu,bk,bm,bo,bp]
 ·simp only[go_sem,bu,bk,bm,bo,bp];refine ct aq (fun x:Nat×Mem=>⟨[⟨8,[],.v (.int .i64 x.1)⟩,⟨7,[],.v (.int .i64 n)⟩,⟨0,[],.v (.slice la n lc)⟩,⟨1,[],.cl g [0]⟩,⟨4,[],.v (.int .i64 0)⟩],[],[⟨0,9,c0.map .v⟩],[],1,x.2⟩)
   (fun x=>ah m x.2/\x.1<=n/\∀j,j<x.1->P j=false) (fun x=>n - x.1) (0,m) (by kernel_rfl) (fun _ _=>aU rfl) (fun x hx=>hx.1) (fun _=> ?_) ?_ ⟨.inl rfl,aF _,fun j hj=>absurd hj (Nat.not_lt_zero j)⟩ ?_
  ·clear hg;simp only[go_sem,bu,bk,bm,bo,bp]
  ·clear hg;simp only[go_sem,bu,bk,bm,bo,bp];rfl
  ·rintro⟨i,mm⟩ ⟨q1,q2,q3⟩;dsimp only at q1 q2 q3;by_cases an:i<n
   ·have hc:((i:Int)<(n:Int))=True:=eq_true (by omega);have aL:bO la n (i:Int)=True:=eq_true ⟨by omega,by omega,(bW i an).2.1⟩;have av:= @cz _ _ _ 4 (oP q1 (bW i an).1) (bW i an).2.2;have cX:=hg i mm an q1;clear hg;cases hp:P i with
    |true=>
     rw[hp] at cX;simp only[go_sem,hc,aL,av,bu,bk,bm,bo,bp];refine⟨dY,bF (cX.mono ?_)⟩;clear cX;rintro r H' m2 aJ ⟨rfl,rfl⟩;simp only[go_sem,bu,bk,bm,bo,bp];exact .inr ⟨i,an,rfl,hp,q3⟩
    |false=>
     rw[hp] at cX;simp only[go_sem,hc,aL,av,bu,bk,bm,bo,bp];refine⟨dY,bF (cX.mono ?_)⟩;clear cX;rintro r H' m2 aJ ⟨rfl,rfl⟩;simp only[go_sem,bu,bk,bm,bo,bp];refine⟨by unfold aB;omega,(i+1,m2),⟨by omega,.inl rfl⟩,⟨ae q1 (.inr aJ),an,fun j hj=> ?_⟩,by omega⟩;rcases Nat.lt_succ_iff_lt_or_eq.1 hj with hj |rfl
     ·exact q3 j hj
     ·exact hp
   ·have hc:((i:Int)<(n:Int))=False:=eq_false (by omega);clear hg;simp only[go_sem,hc,bu,bk,bm,bo,bp];exact .inl ⟨rfl,fun j hj=>q3 j (by omega)⟩
theorem Rh (g:FuncId) (dY:de Tryz.prog g=true) (c0:List Value) (la:Option Addr) (n lc:Nat) (m:Mem) (hn:n<=4000000000) (cell:Nat->List Value) (bW:∀i,i<n->Rd m (bc la (i * 4)) (cell i)/\la≠none/\(cell i).length=4) (P:Nat->Bool)
  (hg:∀i m',i<n->ah m m' ->FnH Tryz.prog g [.v (.agg ⟨cell i⟩),.box 0 0] ⟨[⟨0,9,c0.map .v⟩],[]⟩ m' fun r H' _=>r= .v (.bool (P i))/\H' =⟨[⟨0,9,c0.map .v⟩],[]⟩):
  FnH Tryz.prog 232 [.v (.slice la n lc),.cl g [0]] ⟨[⟨0,9,c0.map .v⟩],[]⟩ m fun r H' _=>H' =⟨[⟨0,9,c0.map .v⟩],[]⟩/\r= .v (.bool ((List.range n).any P)):=by
 have hI:=Rg g dY c0 la n lc m hn cell bW P hg;clear hg;refine enter bj aq Tryz.func232 rfl rfl (by kernel_rfl) rfl ?_ ?_
 ·clear hI;simp only[go_sem,bu,bk,bm,bo,bp]
 ·simp only[go_sem,bu,bk,bm,bo,bp];refine ak (hI.mono ?_);clear hI;rintro r H' m2 aJ ⟨rfl,h |⟨k,h1,rfl,h2,h3⟩⟩
  ·obtain⟨rfl,h⟩:=h;have he:(List.range n).any P=false:=yb h;simp only[go_sem,bu,bk,bm,bo,bp];rw[he];rfl
  ·have he:(List.range n).any P=true:=List.any_eq_true.2 ⟨k,List.mem_range.2 h1,h2⟩;simp only[go_sem,bu,bk,bm,bo,bp];rw[he];exact aP (by omega)
theorem Ri (g:FuncId) (dY:de Tryz.prog g=true) (c0:List Value) (la:Option Addr) (n lc:Nat) (m:Mem) (hn:n<=4000000000) (cell:Nat->List Value) (bW:∀i,i<n->Rd m (bc la (i * 4)) (cell i)/\la≠none/\(cell i).length=4) (P:Nat->Bool)
  (hg:∀i m',i<n->ah m m' ->FnH Tryz.prog g [.v (.agg ⟨cell i⟩),.box 0 0] ⟨[⟨0,95,c0.map .v⟩],[]⟩ m' fun r H' _=>r= .v (.bool (P i))/\H' =⟨[⟨0,95,c0.map .v⟩],[]⟩):
  FnH Tryz.prog 275 [.v (.slice la n lc),.cl g [0]] ⟨[⟨0,95,c0.map .v⟩],[]⟩ m fun r H' _=>H' =⟨[⟨0,95,c0.map .v⟩],[]⟩/\wi n P r:=by
 refine enter bj aq Tryz.func275 rfl rfl (by kernel_rfl) rfl ?_ ?_
 ·clear hg;simp only[go_sem,bu,bk,bm,bo,bp]
 ·simp only[go_sem,bu,bk,bm,bo,bp];refine ct aq (fun x:Nat×Mem=>⟨[⟨8,[],.v (.int .i64 x.1)⟩,⟨7,[],.v (.int .i64 n)⟩,⟨0,[],.v (.slice la n lc)⟩,⟨1,[],.cl g [0]⟩,⟨4,[],.v (.int .i64 0)⟩],[],[⟨0,95,c0.map .v⟩],[],1,x.2⟩)
   (fun x=>ah m x.2/\x.1<=n/\∀j,j<x.1->P j=false) (fun x=>n - x.1) (0,m) (by kernel_rfl) (fun _ _=>aU rfl) (fun x hx=>hx.1) (fun _=> ?_) ?_ ⟨.inl rfl,aF _,fun j hj=>absurd hj (Nat.not_lt_zero j)⟩ ?_
  ·clear hg;simp only[go_sem,bu,bk,bm,bo,bp]
  ·clear hg;simp only[go_sem,bu,bk,bm,bo,bp];rfl
  ·rintro⟨i,mm⟩ ⟨q1,q2,q3⟩;dsimp only at q1 q2 q3;by_cases an:i<n
   ·have hc:((i:Int)<(n:Int))=True:=eq_true (by omega);have aL:bO la n (i:Int)=True:=eq_true ⟨by omega,by omega,(bW i an).2.1⟩;have av:= @cz _ _ _ 4 (oP q1 (bW i an).1) (bW i an).2.2;have cX:=hg i mm an q1;clear hg;cases hp:P i with
    |true=>
     rw[hp] at cX;simp only[go_sem,hc,aL,av,bu,bk,bm,bo,bp];refine⟨dY,bF (cX.mono ?_)⟩;clear cX;rintro r H' m2 aJ ⟨rfl,rfl⟩;simp only[go_sem,bu,bk,bm,bo,bp];exact .inr ⟨i,an,rfl,hp,q3⟩
    |false=>
     rw[hp] at cX;simp only[go_sem,hc,aL,av,bu,bk,bm,bo,bp];refine⟨dY,bF (cX.mono ?_)⟩;clear cX;rintro r H' m2 aJ ⟨rfl,rfl⟩;simp only[go_sem,bu,bk,bm,bo,bp];refine⟨by unfold aB;omega,(i+1,m2),⟨by omega,.inl rfl⟩,⟨ae q1 (.inr aJ),an,fun j hj=> ?_⟩,by omega⟩;rcases Nat.lt_succ_iff_lt_or_eq.1 hj with hj |rfl
     ·exact q3 j hj
     ·exact hp
   ·have hc:((i:Int)<(n:Int))=False:=eq_false (by omega);clear hg;simp only[go_sem,hc,bu,bk,bm,bo,bp];exact .inl ⟨rfl,fun j hj=>q3 j (by omega)⟩
theorem Rj (g:FuncId) (dY:de Tryz.prog g=true) (c0:List Value) (la:Option Addr) (n lc:Nat) (m:Mem) (hn:n<=4000000000) (cell:Nat->List Value) (bW:∀i,i<n->Rd m (bc la (i * 4)) (cell i)/\la≠none/\(cell i).length=4) (P:Nat->Bool)
  (hg:∀i m',i<n->ah m m' ->FnH Tryz.prog g [.v (.agg ⟨cell i⟩),.box 0 0] ⟨[⟨0,95,c0.map .v⟩],[]⟩ m' fun r H' _=>r= .v (.bool (P i))/\H' =⟨[⟨0,95,c0.map .v⟩],[]⟩):
  FnH Tryz.prog 232 [.v (.slice la n lc),.cl g [0]] ⟨[⟨0,95,c0.map .v⟩],[]⟩ m fun r H' _=>H' =⟨[⟨0,95,c0.map .v⟩],[]⟩/\r= .v (.bool ((List.range n).any P)):=by
 have hI:=Ri g dY c0 la n lc m hn cell bW P hg;clear hg;refine enter bj aq Tryz.func232 rfl rfl (by kernel_rfl) rfl ?_ ?_
 ·clear hI;simp only[go_sem,bu,bk,bm,bo,bp]
 ·simp only[go_sem,bu,bk,bm,bo,bp];refine ak (hI.mono ?_);clear hI;rintro r H' m2 aJ ⟨rfl,h |⟨k,h1,rfl,h2,h3⟩⟩
  ·obtain⟨rfl,h⟩:=h;have he:(List.range n).any P=false:=yb h;simp only[go_sem,bu,bk,bm,bo,bp];rw[he];rfl
  ·have he:(List.range n).any P=true:=List.any_eq_true.2 ⟨k,List.mem_range.2 h1,h2⟩;simp only[go_sem,bu,bk,bm,bo,bp];rw[he];exact aP (by omega)
theorem Tc (g:FuncId) (dY:de Tryz.prog g=true) (la:Option Addr) (n lc:Nat) (m:Mem) (hn:n<=4000000000) (cell:Nat->List Value) (bW:∀i,i<n->Rd m (bc la (i * 8)) (cell i)/\la≠none/\(cell i).length=8) (P:Nat->Bool)
  (hg:∀i m',i<n->ah m m' ->FnH Tryz.prog g [.v (.agg ⟨cell i⟩)] ⟨[],[]⟩ m' fun r H' _=>r= .v (.bool (P i))/\H' =⟨[],[]⟩):
  FnH Tryz.prog 235 [.v (.slice la n lc),.v (.func (.func g) ⟨[]⟩ ⟨[]⟩)] ⟨[],[]⟩ m fun r H' _=>H' =⟨[],[]⟩/\wi n P r:=by
 refine enter bj aq Tryz.func235 rfl rfl (by kernel_rfl) rfl ?_ ?_
 ·clear hg;simp only[go_sem,bu,bk,bm,bo,bp]
 ·simp only[go_sem,bu,bk,bm,bo,bp];refine ct aq (fun x:Nat×Mem=>⟨[⟨8,[],.v (.int .i64 x.1)⟩,⟨7,[],.v (.int .i64 n)⟩,⟨0,[],.v (.slice la n lc)⟩,⟨1,[],.v (.func (.func g) ⟨[]⟩ ⟨[]⟩)⟩,⟨4,[],.v (.int .i64 0)⟩],[],[],[],0,x.2⟩)
   (fun x=>ah m x.2/\x.1<=n/\∀j,j<x.1->P j=false) (fun x=>n - x.1) (0,m) (by kernel_rfl) (fun _ _=>aU rfl) (fun x hx=>hx.1) (fun _=> ?_) ?_ ⟨.inl rfl,aF _,fun j hj=>absurd hj (Nat.not_lt_zero j)⟩ ?_
  ·clear hg;simp only[go_sem,bu,bk,bm,bo,bp]
  ·clear hg;simp only[go_sem,bu,bk,bm,bo,bp];rfl
  ·rintro⟨i,mm⟩ ⟨q1,q2,q3⟩;dsimp only at q1 q2 q3;by_cases an:i<n
   ·have hc:((i:Int)<(n:Int))=True:=eq_true (by omega);have aL:bO la n (i:Int)=True:=eq_true ⟨by omega,by omega,(bW i an).2.1⟩;have av:= @cz _ _ _ 8 (oP q1 (bW i an).1) (bW i an).2.2;have cX:=hg i mm an q1;clear hg;cases hp:P i with
    |true=>
     rw[hp] at cX;simp only[go_sem,hc,aL,av,bu,bk,bm,bo,bp];refine⟨dY,bF (cX.mono ?_)⟩;clear cX;rintro r H' m2 aJ ⟨rfl,rfl⟩;simp only[go_sem,bu,bk,bm,bo,bp];exact .inr ⟨i,an,rfl,hp,q3⟩
    |false=>
     rw[hp] at cX;simp only[go_sem,hc,aL,av,bu,bk,bm,bo,bp];refine⟨dY,bF (cX.mono ?_)⟩;clear cX;rintro r H' m2 aJ ⟨rfl,rfl⟩;simp only[go_sem,bu,bk,bm,bo,bp];refine⟨by unfold aB;omega,(i+1,m2),⟨by omega,.inl rfl⟩,⟨ae q1 (.inr aJ),an,fun j hj=> ?_⟩,by omega⟩;rcases Nat.lt_succ_iff_lt_or_eq.1 hj with hj |rfl
     ·exact q3 j hj
     ·exact hp
   ·have hc:((i:Int)<(n:Int))=False:=eq_false (by omega);clear hg;simp only[go_sem,hc,bu,bk,bm,bo,bp];exact .inl ⟨rfl,fun j hj=>q3 j (by omega)⟩
theorem Td (g:FuncId) (dY:de Tryz.prog g=true) (la:Option Addr) (n lc:Nat) (m:Mem) (hn:n<=4000000000) (cell:Nat->List Value) (bW:∀i,i<n->Rd m (bc la (i * 8)) (cell i)/\la≠none/\(cell i).length=8) (P:Nat->Bool)
  (hg:∀i m',i<n->ah m m' ->FnH Tryz.prog g [.v (.agg ⟨cell i⟩)] ⟨[],[]⟩ m' fun r H' _=>r= .v (.bool (P i))/\H' =⟨[],[]⟩):
  FnH Tryz.prog 148 [.v (.slice la n lc),.v (.func (.func g) ⟨[]⟩ ⟨[]⟩)] ⟨[],[]⟩ m fun r H' _=>H' =⟨[],[]⟩/\r= .v (.bool ((List.range n).any P)):=by
 have hI:=Tc g dY la n lc m hn cell bW P hg;clear hg;refine enter bj aq Tryz.func148 rfl rfl (by kernel_rfl) rfl ?_ ?_
 ·clear hI;simp only[go_sem,bu,bk,bm,bo,bp]
 ·simp only[go_sem,bu,bk,bm,bo,bp];refine ak (hI.mono ?_);clear hI;rintro r H' m2 aJ ⟨rfl,h |⟨k,h1,rfl,h2,h3⟩⟩
  ·obtain⟨rfl,h⟩:=h;have he:(List.range n).any P=false:=yb h;simp only[go_sem,bu,bk,bm,bo,bp];rw[he];rfl
  ·have he:(List.range n).any P=true:=List.any_eq_true.2 ⟨k,List.mem_range.2 h1,h2⟩;simp only[go_sem,bu,bk,bm,bo,bp];rw[he];exact aP (by omega)
theorem Te (g:FuncId) (dY:de Tryz.prog g=true) (c0:List Value) (la:Option Addr) (n lc:Nat) (m:Mem) (hn:n<=4000000000) (cell:Nat->List Value) (bW:∀i,i<n->Rd m (bc la (i * 7)) (cell i)/\la≠none/\(cell i).length=7) (P:Nat->Bool)
  (hg:∀i m',i<n->ah m m' ->FnH Tryz.prog g [.v (.agg ⟨cell i⟩),.box 0 0] ⟨[⟨0,9,c0.map .v⟩],[]⟩ m' fun r H' _=>r= .v (.bool (P i))/\H' =⟨[⟨0,9,c0.map .v⟩],[]⟩):
  FnH Tryz.prog 277 [.v (.slice la n lc),.cl g [0]] ⟨[⟨0,9,c0.map .v⟩],[]⟩ m fun r H' _=>H' =⟨[⟨0,9,c0.map .v⟩],[]⟩/\wi n P r:=by
 refine enter bj aq Tryz.func277 rfl rfl (by kernel_rfl) rfl ?_ ?_
 ·clear hg;simp only[go_sem,bu,bk,bm,bo,bp]
 ·simp only[go_sem,bu,bk,bm,bo,bp];refine ct aq (fun x:Nat×Mem=>⟨[⟨8,[],.v (.int .i64 x.1)⟩,⟨7,[],.v (.int .i64 n)⟩,⟨0,[],.v (.slice la n lc)⟩,⟨1,[],.cl g [0]⟩,⟨4,[],.v (.int .i64 0)⟩],[],[⟨0,9,c0.map .v⟩],[],1,x.2⟩)
   (fun x=>ah m x.2/\x.1<=n/\∀j,j<x.1->P j=false) (fun x=>n - x.1) (0,m) (by kernel_rfl) (fun _ _=>aU rfl) (fun x hx=>hx.1) (fun _=> ?_) ?_ ⟨.inl rfl,aF _,fun j hj=>absurd hj (Nat.not_lt_zero j)⟩ ?_
  ·clear hg;simp only[go_sem,bu,bk,bm,bo,bp]
  ·clear hg;simp only[go_sem,bu,bk,bm,bo,bp];rfl
  ·rintro⟨i,mm⟩ ⟨q1,q2,q3⟩;dsimp only at q1 q2 q3;by_cases an:i<n
   ·have hc:((i:Int)<(n:Int))=True:=eq_true (by omega);have aL:bO la n (i:Int)=True:=eq_true ⟨by omega,by omega,(bW i an).2.1⟩;have av:= @cz _ _ _ 7 (oP q1 (bW i an).1) (bW i an).2.2;have cX:=hg i mm an q1;clear hg;cases hp:P i with
    |true=>
     rw[hp] at cX;simp only[go_sem,hc,aL,av,bu,bk,bm,bo,bp];refine⟨dY,bF (cX.mono ?_)⟩;clear cX;rintro r H' m2 aJ ⟨rfl,rfl⟩;simp only[go_sem,bu,bk,bm,bo,bp];exact .inr ⟨i,an,rfl,hp,q3⟩
    |false=>
     rw[hp] at cX;simp only[go_sem,hc,aL,av,bu,bk,bm,bo,bp];refine⟨dY,bF (cX.mono ?_)⟩;clear cX;rintro r H' m2 aJ ⟨rfl,rfl⟩;simp only[go_sem,bu,bk,bm,bo,bp];refine⟨by unfold aB;omega,(i+1,m2),⟨by omega,.inl rfl⟩,⟨ae q1 (.inr aJ),an,fun j hj=> ?_⟩,by omega⟩;rcases Nat.lt_succ_iff_lt_or_eq.1 hj with hj |rfl
     ·exact q3 j hj
     ·exact hp
   ·have hc:((i:Int)<(n:Int))=False:=eq_false (by omega);clear hg;simp only[go_sem,hc,bu,bk,bm,bo,bp];exact .inl ⟨rfl,fun j hj=>q3 j (by omega)⟩
def wB (E:List Cd) (n:Nm) (k:Int) (s:Nm):Bool:=match cM E s n k with
 |some m=> !hasB m.fl 8
 |none=>false
theorem HF {α:Type} (P:α->Bool) (l:List α) {i:Nat} (hi:i<l.length):(l.take (i+1)).filter P=(l.take i).filter P++(if P l[i]=true then[l[i]] else[]):=by
 rw[u4 _ hi,List.filter_append];congr 1
 cases h:P l[i]<;>simp [h]
theorem IX {α:Type} (P:α->Bool) (l:List α) (i:Nat):((l.take i).filter P).length<=l.length:=
 dk (List.length_filter_le _ _) (by rw[List.length_take];omega)
theorem Aw {α:Type} (Q:α->Bool) (z:α) (w:List α):((List.range w.length).any fun i=>Q (w.getD i z))=w.any Q:=by
 rw[Bool.eq_iff_iff,List.any_eq_true,List.any_eq_true];constructor
 ·rintro⟨i,hi,hq⟩;have hi:=List.mem_range.1 hi;refine⟨w[i],List.getElem_mem hi,?_⟩;rwa [List.getD_eq_getElem?_getD,List.getElem?_eq_getElem hi] at hq
 ·rintro⟨x,hx,hq⟩;obtain⟨i,hi,rfl⟩:=List.getElem_of_mem hx;refine⟨i,List.mem_range.2 hi,?_⟩;rwa [List.getD_eq_getElem?_getD,List.getElem?_eq_getElem hi]
theorem OA {l:List Nm} {i:Nat} (hi:i<l.length):(strs l).getD i undef= .string (bs l[i]):=by
 unfold strs;rw[List.getD_eq_getElem?_getD,List.getElem?_map,List.getElem?_eq_getElem hi];rfl
def fB (E:List Cd) (w:List Nm) (s:Nm):Bool:= !(w.any fun t=> !decide (t=s)&&jP E t s)
theorem G9 {m:Mem} {a:Option Addr} {w:List Nm} (h:ax m a w.length 1 (strs w)) {i:Nat} (hi:i<w.length):Rd m (bc a i) [.string (bs (w.getD i []))]/\a≠none:=by
 have cR:=dK h hi;rw[Nat.mul_one] at cR;refine⟨?_,cR.2⟩;have e:((strs w).drop i).take 1=[.string (bs (w.getD i []))]:=by
  unfold strs;rw[<- List.map_drop,<- List.map_take,List.drop_eq_getElem_cons hi,List.take_succ_cons,List.take_zero,List.getD_eq_getElem?_getD,List.getElem?_eq_getElem hi];rfl
 rw[e] at cR;exact cR.1
section
variable {ad:Addr} {pr E:List Cd} {b:Nat} {a:Option Addr} {c:Nat} {L:List Cc}
theorem QP (l:List Nm) (la:Option Addr) (lc:Nat) (n:Nm) (k:Int) (m:Mem) (hC:Ck m ad pr E b a c L) (hr:ax m la l.length 1 (strs l)) (hl:l.length<=1100000):
  FnH Tryz.prog 243 [.v (.pointer (some ad)),.v (.slice la l.length lc),.v (.string (bs n)),.v (.int .i64 k)] ⟨[],[]⟩ m
   fun r H' m' =>ah m m' /\∃i u,r= .vec i u/\H' =⟨[],[⟨i,u,9,1,(gH E l n k).length,strs (gH E l n k)⟩]⟩:=by
 have hW:l.filter (wB E n k)=mC E l n k:=rfl;have hK:(mC E l n k).filter (fun s=> !((mC E l n k).any fun t=> !decide (t=s)&&jP E t s))=gH E l n k:=rfl;have L3:(mC E l n k).length<=l.length:=List.length_filter_le _ _;revert hK hW L3;generalize gH E l n k=K
 generalize mC E l n k=w
 intro hW hK L3;refine br aq Tryz.func243 ?_
 ·simp only[go_sem];refine xA 9 9 1 (by decide) rfl ?_;simp only[go_sem];refine ct aq (fun i:Nat=>⟨[⟨19,[],.v (.int .i64 i)⟩,⟨18,[],.v (.int .i64 l.length)⟩,⟨17,[],.v (.slice la l.length lc)⟩,⟨9,[],.vec 1 ((l.take i).filter (wB E n k)).length⟩,⟨2,[],.v (.string (bs n))⟩,⟨3,[],.v (.int .i64 k)⟩,⟨4,[],.box 0 0⟩,⟨8,[],.v (.slice none 0 0)⟩],[],[⟨0,72,[.v (.pointer (some ad))]⟩],[⟨1,((l.take i).filter (wB E n k)).length,9,1,((l.take i).filter (wB E n k)).length,strs ((l.take i).filter (wB E n k))⟩],2,m⟩)
   (fun i=>i<=l.length) (fun i=>l.length - i) 0 (by kernel_rfl) (fun _ _=>aU rfl) (fun x hx=> .inl rfl) (fun _=> ?_) ?_ (aF _) ?_
  ·simp only[go_sem]
  ·simp only[go_sem];exact⟨⟨rfl,rfl⟩,rfl,rfl,rfl⟩
  ·intro i i1;by_cases an:i<l.length
   ·have hc:((i:Int)<(l.length:Int))=True:=eq_true (by omega);have aL:=kQ hr an;have av:= @ky _ _ _ _ hr _ an (.string (bs l[i])) (by unfold strs;rw[List.getElem?_map,List.getElem?_eq_getElem an];rfl);have hD:=uW l[i] n k m hC;have dI:=HF (wB E n k) l an;have gS:=IX (wB E n k) l i;have nh:wB E n k l[i]=(match cM E l[i] n k with |some m=> !hasB m.fl 8 |none=>false):=rfl;revert hD nh;generalize cM E l[i] n k=o
    intro hD nh;simp only[go_sem,hc,aL,av];refine ak (hD.mono ?_);clear hD;rintro r H' m1 aQ ⟨rfl,rfl,Y,h1,rfl⟩;cases o with
    |none=>
     have nh:wB E n k l[i]=false:=nh;rw[nh,aa (by decide),List.append_nil] at dI;simp only[go_sem,Mc.cs];exact⟨by unfold aB;omega,i+1,⟨⟨by omega,by rw[dI]⟩,by rw[dI],by rw[dI],by rw[dI]⟩,an,by omega⟩
    |some d=>
     have nh:wB E n k l[i]= !hasB d.fl 8:=nh;have ZC:Y.fl=d.fl:=h1.x.fl;rw[<- ZC,hasB,Bool.not_not] at nh;simp only[go_sem,Mc.cs];refine⟨fun h0=> ?_,fun h0=> ?_⟩
     ·rw[aP h0] at nh;rw[nh,ai rfl] at dI;refine⟨jq (by omega) (by decide),by unfold aB;omega,i+1,⟨⟨by omega,?_⟩,?_,?_,?_⟩,an,by omega⟩
      ·rw[dI,aZ];rfl
      ·rw[dI,aZ];rfl
      ·rw[dI,aZ];rfl
      ·rw[dI,Aj]
     ·rw[ab h0] at nh;rw[nh,aa (by decide),List.append_nil] at dI;exact⟨by unfold aB;omega,i+1,⟨⟨by omega,by rw[dI]⟩,by rw[dI],by rw[dI],by rw[dI]⟩,an,by omega⟩
   ·have hc:((i:Int)<(l.length:Int))=False:=eq_false (by omega);have hfw:(l.take i).filter (wB E n k)=w:=by rw[jI (by omega)];exact hW
    simp only[go_sem,hc,hfw];refine xA 14 9 1 (by decide) rfl ?_;simp only[go_sem]
    refine ct aq (fun x:Nat×Mem=>⟨[⟨45,[],.v (.int .i64 x.1)⟩,⟨44,[],.v (.int .i64 w.length)⟩,⟨43,[],.vec 1 w.length⟩,⟨9,[],.vec 1 w.length⟩,⟨14,[],.vec 2 ((w.take x.1).filter (fB E w)).length⟩,⟨4,[],.box 0 0⟩,⟨8,[],.v (.slice none 0 0)⟩],[],[⟨0,72,[.v (.pointer (some ad))]⟩],
     [⟨2,((w.take x.1).filter (fB E w)).length,9,1,((w.take x.1).filter (fB E w)).length,strs ((w.take x.1).filter (fB E w))⟩,⟨1,w.length,9,1,w.length,strs w⟩],3,x.2⟩)
     (fun x=>ah m x.2/\x.1<=w.length) (fun x=>w.length - x.1) (0,m) (by kernel_rfl) (fun _ _=>aU rfl) (fun x hx=>hx.1) (fun _=> ?_) ?_ ⟨.inl rfl,aF _⟩ ?_
    ·simp only[go_sem]
    ·simp only[go_sem];exact⟨⟨rfl,rfl⟩,rfl,rfl,rfl⟩
    ·rintro⟨j,mm⟩ ⟨j1,j2⟩;dsimp only at j1 j2;have hC:=hC.up j1;by_cases iq:j<w.length
     ·have j5:((j:Int)<(w.length:Int))=True:=eq_true (by omega);have hg:=OA iq;have eH:(strs w).length=w.length:=by unfold strs;simp
      have dI:=HF (fB E w) w iq;have gS:=IX (fB E w) w j;have bq:=fun m' (hle:ah mm m') x=>O5 w[j] x m' (hC.up hle)
      have hnn:(0:Int)<=j:=by omega
      simp only[go_sem,j5,hg,eH,iq,hnn];refine⟨by kernel_rfl,fun a1 c1 m1 e1 e2 e3=>bF ((S9 276 (by kernel_rfl) [.string (bs w[j])] [.pointer (some ad)] a1 w.length c1 m1 (by omega) (fun i=> .string (bs (w.getD i []))) (fun i hi=> ?_) (fun i=> !decide (w.getD i []=w[j])&&jP E (w.getD i []) w[j]) (fun i m' hi hle=>bq m' (ae (.inr e1) hle) _)).mono ?_)⟩
      ·have cR:=G9 e3 hi;exact cR
      ·clear bq;rintro r H' m2 aJ ⟨rfl,rfl⟩;have han:((List.range w.length).any fun i=> !decide (w.getD i []=w[j])&&jP E (w.getD i []) w[j])= !fB E w w[j]:=by
        unfold fB;rw[Bool.not_not];exact Aw (fun t=> !decide (t=w[j])&&jP E t w[j]) [] w
       rw[han];have hle:=ae j1 (ae (.inr e1) (.inr aJ));cases Ca:fB E w w[j] with
       |true=>
        rw[Ca,ai rfl] at dI;simp only[go_sem,aG,List.map_nil];refine⟨jq (by omega) (by decide),by unfold aB;omega,(j+1,m2),⟨⟨by omega,?_⟩,⟨?_,?_,?_⟩,.inl rfl⟩,⟨hle,iq⟩,by omega⟩
        ·dsimp only;rw[dI,aZ];rfl
        ·dsimp only;rw[dI,aZ];rfl
        ·dsimp only;rw[dI,aZ];rfl
        ·dsimp only;rw[dI,Aj]
       |false=>
        rw[Ca,aa (by decide),List.append_nil] at dI;simp only[go_sem,aG,List.map_nil];exact⟨by unfold aB;omega,(j+1,m2),⟨⟨by omega,by rw[dI]⟩,⟨by rw[dI],by rw[dI],by rw[dI]⟩,.inl rfl⟩,⟨hle,iq⟩,by omega⟩
     ·have j5:((j:Int)<(w.length:Int))=False:=eq_false (by omega);have hfk:(w.take j).filter (fB E w)=K:=by rw[jI (by omega)];exact hK
      simp only[go_sem,j5,hfk];exact⟨j1,_,_,rfl,rfl⟩
theorem Hr (l:List Nm) (la:Option Addr) (lc:Nat) (n:Nm) (k:Int) (m:Mem) (hC:Ck m ad pr E b a c L) (hr:ax m la l.length 1 (strs l)) (hl:l.length<=1100000):
  FnH Tryz.prog 243 [.v (.pointer (some ad)),.v (.slice la l.length lc),.v (.string (bs n)),.v (.int .i64 k)] ⟨[],[]⟩ m
   fun r H' m' =>ah m m' /\H' =⟨[],[]⟩/\∃a c,r= .v (.slice a (gH E l n k).length c)/\(gH E l n k).length<=c/\ax m' a (gH E l n k).length 1 (strs (gH E l n k)):=by
 refine nL ((QP l la lc n k m hC hr hl).mono ?_);rintro r H' m' hm ⟨l1,i,u,rfl,rfl⟩;exact xE (b:=⟨i,u,9,1,(gH E l n k).length,strs (gH E l n k)⟩) (by simp [cq]) ⟨[],[]⟩ (List.Sublist.refl _) (List.nil_sublist _) fun a c m1 h1 h2 h3=>⟨ae l1 (.inr h1),rfl,a,c,rfl,h2,h3⟩
end
theorem Yu:cC Tryz.prog 87=some (some 9):=by kernel_rfl
theorem Y0:aK Tryz.prog 87=9:=by kernel_rfl
theorem Yc:fP Tryz.prog 87=true:=by kernel_rfl
theorem UF:cU Tryz.prog 87=some [.v (.pointer none),.v (.slice none 0 0),.v (.int .i64 0),.v (.bool false),.v (.bool false),.v (.int .i64 0),.v (.int .u8 0),.v (.string (bs [])),.v (.slice none 0 0)]:=by kernel_rfl
theorem VH:a8 Tryz.prog 87 0=some (0,none,1):=by kernel_rfl
theorem VG:a8 Tryz.prog 87 1=some (1,some 8,8):=by kernel_rfl
theorem Yx:cC Tryz.prog 54=some (some 8):=by kernel_rfl
theorem Y5:aK Tryz.prog 54=8:=by kernel_rfl
theorem Yf:fP Tryz.prog 54=true:=by kernel_rfl
theorem UH:cU Tryz.prog 54=some [.v (.slice none 0 0),.v (.int .i64 0),.v (.bool false),.v (.bool false),.v (.int .i64 0),.v (.int .u8 0),.v (.string (bs [])),.v (.slice none 0 0)]:=by kernel_rfl
theorem VQ:a8 Tryz.prog 54 0=some (0,none,1):=by kernel_rfl
theorem VP:a8 Tryz.prog 54 1=some (1,none,1):=by kernel_rfl
theorem VO:a8 Tryz.prog 54 2=some (2,none,1):=by kernel_rfl
theorem VN:a8 Tryz.prog 54 3=some (3,none,1):=by kernel_rfl
theorem VM:a8 Tryz.prog 54 4=some (4,some 3,3):=by kernel_rfl
theorem VL:a8 Tryz.prog 54 5=some (7,none,1):=by kernel_rfl
attribute [go_sem] Yu Y0 Yc UF VH VG Yx Y5 Yf UH VQ VP VO VN VM VL
def au (ad:Addr) (da:Option Addr) (dc:Nat) (S:Sc) (la:Option Addr) (lc:Nat):List Value:=
 [.pointer (some ad),.slice da S.pr.length dc,.int .i64 S.ci,.bool S.st,.bool S.su,.int .i64 S.res.dim,.int .u8 S.res.base,.string (bs S.res.name),.slice la S.loc.length lc]
structure Tp (m:Mem) (S:Sc) (E:List Cd) (ad:Addr) (da:Option Addr) (dc:Nat) (la:Option Addr) (lc:Nat) (b:Nat) (a:Option Addr) (c:Nat) (L:List Cc):Prop where
 ck:Ck m ad S.pr E b a c L
 pr:gV m S.pr da S.pr.length dc
 ci:S.ci<S.pr.length
 loc:ax m la S.loc.length 4 (flat Pc.cs S.loc)
 lcp:S.loc.length<=lc
 ll:S.loc.length<=2000000000
theorem Tp.up {m m' :Mem} {S:Sc} {E:List Cd} {ad:Addr} {da:Option Addr} {dc:Nat} {la:Option Addr} {lc:Nat} {b:Nat} {a:Option Addr} {c:Nat} {L:List Cc} (hle:ah m m') (h:Tp m S E ad da dc la lc b a c L):Tp m' S E ad da dc la lc b a c L:=
 ⟨h.ck.up hle,nC hle h.pr,h.ci,aM hle h.loc,h.lcp,h.ll⟩
def TpR (m:Mem) (S:Sc) (E:List Cd) (tp:List Value):Prop:=∃ad da dc la lc b a c L,tp=au ad da dc S la lc/\Tp m S E ad da dc la lc b a c L
theorem Tp.r {m:Mem} {S:Sc} {E:List Cd} {ad:Addr} {da:Option Addr} {dc:Nat} {la:Option Addr} {lc:Nat} {b:Nat} {a:Option Addr} {c:Nat} {L:List Cc} (h:Tp m S E ad da dc la lc b a c L):
  TpR m S E [.pointer (some ad),.slice da S.pr.length dc,.int .i64 S.ci,.bool S.st,.bool S.su,.int .i64 S.res.dim,.int .u8 S.res.base,.string (bs S.res.name),.slice la S.loc.length lc]=True:=eq_true ⟨ad,da,dc,la,lc,b,a,c,L,rfl,h⟩
theorem TpR.up {m m' :Mem} {S:Sc} {E:List Cd} {tp:List Value} (hle:ah m m') (h:TpR m S E tp):TpR m' S E tp:=by
 obtain⟨ad,da,dc,la,lc,b,a,c,L,e,h⟩:=h;exact⟨ad,da,dc,la,lc,b,a,c,L,e,h.up hle⟩
theorem lk {m:Mem} {pr:List Cd} {a:Option Addr} {n c:Nat} (h:gV m pr a n c) {i:Nat} (hi:i<pr.length):∃X:Cc,Rd m (bc a (i * 7)) X.cs/\a≠none/\X.name=pr[i].name/\CdX m pr[i] X:=by
 obtain⟨rfl,_,_,xs,h1,h2⟩:=h;obtain⟨X,q1,q2,q3,q4⟩:=K6 h1 h2 hi;exact⟨X,q1,q2,q3,MC q4⟩
section
variable {S:Sc} {E:List Cd} {ad:Addr} {da:Option Addr} {dc:Nat} {la:Option Addr} {lc:Nat} {b:Nat} {a:Option Addr} {c:Nat} {L:List Cc}
theorem Wu (h:S.ci<S.pr.length):cB S=S.pr[S.ci]:=by
 unfold cB;rw[List.getD_eq_getElem?_getD,List.getElem?_eq_getElem h];rfl
theorem Gu (m:Mem) (hT:Tp m S E ad da dc la lc b a c L):FnH Tryz.prog 246 [.v (.agg ⟨au ad da dc S la lc⟩)] ⟨[],[]⟩ m
  fun r H' m' =>m' =m/\H' =⟨[],[]⟩/\∃X:Cc,r= .agg (X.cs.map .v)/\CdX m (cB S) X:=by
 rw[Wu hT.ci];obtain⟨X,h1,h2,h3,h4⟩:=lk hT.pr hT.ci;have aL:bO da S.pr.length (S.ci:Int)=True:=eq_true ⟨by omega,by have:=hT.ci;omega,h2⟩;have av:= @cz _ _ _ 7 h1 rfl;simp only[Cc.cs] at av;refine enter bj aq Tryz.func246 rfl rfl (by kernel_rfl) rfl ?_ ?_
 ·simp only[go_sem,au]
 ·simp only[go_sem,au,aL,av];exact⟨X,rfl,h4⟩
theorem Ct (m:Mem) (hT:Tp m S E ad da dc la lc b a c L):FnH Tryz.prog 246 [.v (.agg ⟨au ad da dc S la lc⟩)] ⟨[],[]⟩ m
  fun r H' m' =>m' =m/\H' =⟨[],[]⟩/\∃X:Cc,r= .v (.agg ⟨X.cs⟩)/\CdX m (cB S) X:=by
 refine ka (Gu m hT) ?_;rintro r H' m' hm ⟨h1,h2,X,rfl,h3⟩;exact⟨.v (.agg ⟨X.cs⟩),fun V=>by show Value.agg ⟨X.cs⟩=Value.agg ⟨_⟩;rw[lx],h1,h2,X,rfl,h3⟩
theorem Uw (o:Nm) (fl:Int) (m:Mem) (hT:Tp m S E ad da dc la lc b a c L):FnH Tryz.prog 262 [.v (.agg ⟨au ad da dc S la lc⟩),.v (.string (bs o)),.v (.int .i64 fl)] ⟨[],[]⟩ m
  fun r H' _=>r= .v (.bool (je S o fl))/\H' =⟨[],[]⟩:=by
 have hK:je S o fl=(!hasB fl 2||decide (o=(cB S).name)):=rfl;rw[hasB,Bool.not_not] at hK;have gg:=Ct m hT;refine enter bj aq Tryz.func262 rfl rfl (by kernel_rfl) rfl ?_ ?_
 ·clear gg;simp only[go_sem,au]
 ·unfold au at gg;simp only[go_sem,au];refine⟨fun h0=>ak ((aC gg fun V=>rfl).mono ?_),fun h0=>by rw[hK,aP h0];rfl⟩;clear gg;rintro r H' m1 aQ ⟨rfl,rfl,X,rfl,hX⟩;simp only[go_sem,Cc.cs];rw[hK,ab h0,Bool.false_or,hX.name]
def yD (S:Sc) (E:List Cd):Mem->List Value->Option (Prop×Value)
 |m,[.agg ⟨tp⟩,.string o,.int .i64 fl]=>some (TpR m S E tp,.bool (je S (tl o) fl))
 |_,_=>none
attribute [go_sem] yD.eq_1
theorem Jv (S:Sc) (E:List Cd):∀m aN y,yD S E m aN=some y->y.1->FnH Tryz.prog 262 (aN.map SV.v) ⟨[],[]⟩ m fun r H' _=>r= .v y.2/\H' =⟨[],[]⟩:=fun m aN y hy hB=>by
 unfold yD at hy;split at hy
 ·rename_i tp o fl;cases hy;obtain⟨ad,da,dc,la,lc,b,a,c,L,rfl,hT⟩:=hB;have:=Uw (tl o) fl m hT;rwa [eW] at this
 ·cases hy
abbrev LB (pr E:List Cd):Cfg:=kI (fun _=>false) [(42,yi pr E fun t u=> .bool (ew E t u))]
theorem EK (pr E:List Cd):cw (LB pr E) Tryz.prog:=fz (by kernel_rfl) (Iq fun p t u m h=>Jb p t u m h) ra
theorem Jj {m:Mem} {a:Option Addr} {n:Nat} {l:List Ty} (h:ax m a n 3 (flat aD l)) (hn:n=l.length) {i:Nat} (hi:i<l.length):Rd m (bc a (i * 3)) (aD l[i])/\a≠none:=by
 have hc:=dK h (by omega:i<n);rwa [my (f:=aD) (sz:=3) (fun _=>rfl) hi] at hc
theorem xD {m:Mem} {a:Option Addr} {n:Nat} {l:List Pc} (h:ax m a n 4 (flat Pc.cs l)) (hn:n=l.length) {i:Nat} (hi:i<l.length):Rd m (bc a (i * 4)) l[i].cs/\a≠none:=by
 have hc:=dK h (by omega:i<n);rwa [my (f:=Pc.cs) (sz:=4) (fun _=>rfl) hi] at hc
theorem Jc (ps:List Pc) (ts:List Ty) (pa ta:Option Addr) (pn pc tn tc:Nat) (m:Mem) (hT:Tp m S E ad da dc la lc b a c L) (hp:ax m pa pn 4 (flat Pc.cs ps)) (hpn:pn=ps.length) (ht:ax m ta tn 3 (flat aD ts)) (Fp:tn=ts.length) (hl:ps.length<=ts.length) (hb:ps.length<=aw):
  FnH Tryz.prog 263 [.v (.agg ⟨au ad da dc S la lc⟩),.v (.slice pa pn pc),.v (.slice ta tn tc)] ⟨[],[]⟩ m fun r H' m' =>m' =m/\H' =⟨[],[]⟩/\r= .v (.int .i64 (iz E ps ts)):=by
 have aR:=hT.ck.chk;generalize hK:iz E ps ts=K
 refine enter (LB S.pr E) (EK S.pr E) Tryz.func263 rfl rfl (by kernel_rfl) rfl ?_ ?_
 ·simp only[go_sem,au]
 ·simp only[go_sem,au];refine ct (EK S.pr E) (fun i:Nat=>⟨[⟨11,[],.v (.int .i64 i)⟩,⟨10,[],.v (.int .i64 pn)⟩,⟨9,[],.v (.slice pa pn pc)⟩,⟨2,[],.v (.slice ta tn tc)⟩,⟨3,[],.box 0 0⟩,⟨6,[],.v (.int .i64 0)⟩],[],[⟨0,87,[.v (.pointer (some ad)),.v (.slice da S.pr.length dc),.v (.int .i64 S.ci),.v (.bool S.st),.v (.bool S.su),.v (.int .i64 S.res.dim),.v (.int .u8 S.res.base),.v (.string (bs S.res.name)),.v (.slice la S.loc.length lc)]⟩],[],1,m⟩)
   (fun i=>i<=ps.length/\iz E (ps.drop i) (ts.drop i)=K) (fun i=>ps.length - i) 0 (by kernel_rfl) (fun _ _=>aU rfl) (fun x hx=> .inl rfl) (fun _=> ?_) ?_ ⟨aF _,hK⟩ ?_
  ·simp only[go_sem]
  ·simp only[go_sem];exact rfl
  ·rintro i ⟨i1,i2⟩;by_cases an:i<ps.length
   ·have hc:((i:Int)<(pn:Int))=True:=eq_true (by omega);have yK:i<ts.length:=by omega
    rw[List.drop_eq_getElem_cons an,List.drop_eq_getElem_cons yK,iz] at i2;have q1:=xD hp hpn an;have q2:=Jj ht Fp yK;have aL:bO pa pn (i:Int)=True:=eq_true ⟨by omega,by omega,q1.2⟩;have Lo:bO ta tn (i:Int)=True:=eq_true ⟨by omega,by omega,q2.2⟩;have av:= @cz _ _ _ 4 q1.1 rfl;have ET:= @cz _ _ _ 3 q2.1 rfl;simp only[Pc.cs] at av;simp only[aD] at ET;simp only[go_sem,hc,aL,Lo,av,ET,aR];refine vf (EK S.pr E) (by kernel_rfl) (by kernel_rfl) (by kernel_rfl) ?_;simp only[go_sem,hc,aL,Lo,av,ET,aR];refine⟨fun h0=> ?_,fun h0=>⟨by unfold aB;unfold aw at hb;omega,i+1,rfl,⟨an,?_⟩,by omega⟩⟩
    ·rw[aa (by rw[show ew E ts[i] ps[i].ty=false from h0];decide)] at i2;exact i2
    ·rw[ai (show ew E ts[i] ps[i].ty=true from h0)] at i2;exact i2
   ·have hc:((i:Int)<(pn:Int))=False:=eq_false (by omega);rw[List.drop_of_length_le (by omega)] at i2;rw[iz] at i2
    ·simp only[go_sem,hc];exact i2
    ·intros;simp at *
end
abbrev E1 (S:Sc) (E:List Cd):Cfg:=kI (fun _=>false) [(262,yD S E)]
theorem Le (S:Sc) (E:List Cd):cw (E1 S E) Tryz.prog:=fz (by kernel_rfl) (Jv S E) ra
structure TsA (m:Mem) (ts:List Ty) (ta:Option Addr) (tn tc:Nat):Prop where
 n:tn=ts.length
 c:tn<=tc
 rd:ax m ta tn 3 (flat aD ts)
theorem TsA.up {m m' :Mem} {ts:List Ty} {ta:Option Addr} {tn tc:Nat} (hle:ah m m') (h:TsA m ts ta tn tc):TsA m' ts ta tn tc:=⟨h.n,h.c,aM hle h.rd⟩
theorem QS {E:List Cd} {s n:Nm} {k:Int} {o:Nm} {d:Md} (h:fi E s n k=some (o,d)):(d.params.length:Int)=k:=by
 have hf:∀(l:List Nm) (x:Nm×Md),eA E l n k=some x->(x.2.params.length:Int)=k:=fun l x hx=>by
  unfold eA at hx;obtain⟨c,hc,e⟩:=List.exists_of_findSome?_eq_some hx;obtain⟨m,h1,h2⟩:=Option.map_eq_some_iff.1 e;subst h2;unfold cM at h1;have:=List.find?_some h1;simp only[bw,cS] at this;exact this.2
 unfold fi at h;split at h
 ·exact hf _ _ h
 ·split at h
  ·rename_i x hx;cases h;exact hf _ _ hx
  ·exact hf _ _ h
section
variable {S:Sc} {E:List Cd} {ad:Addr} {da:Option Addr} {dc:Nat} {la:Option Addr} {lc:Nat} {b:Nat} {a:Option Addr} {c:Nat} {L:List Cc}
theorem DI (s n:Nm) (st:Bool) (ts:List Ty) (ta:Option Addr) (tn tc:Nat) (m:Mem) (hT:Tp m S E ad da dc la lc b a c L) (ht:TsA m ts ta tn tc):
  FnH Tryz.prog 192 [.v (.agg ⟨au ad da dc S la lc⟩),.v (.string (bs s)),.v (.string (bs n)),.v (.bool st),.v (.slice ta tn tc)] ⟨[],[]⟩ m
   fun r H' m' =>ah m m' /\H' =⟨[],[]⟩/\r= .tup [dD (gZ E S s n st ts).1,.v (.int .i64 (gZ E S s n st ts).2)]:=by
 have hM:=F9 s n tn m hT.ck
 have hK:gZ E S s n st ts=(match fi E s n tn with
  |none=>(aj,72)
  |some (o,m)=>if(!je S o m.fl|| !(hasB m.fl 8==st))=true then(aj,72) else if iz E m.params ts=0 then(m.res,0) else(aj,iz E m.params ts)):=by rw[ht.n];rfl
 have hlen:=fun o d (h:fi E s n tn=some (o,d))=>QS h
 revert hM hK hlen;generalize fi E s n tn=M
 generalize gZ E S s n st ts=K
 intro hM hK hlen;refine enter (E1 S E) (Le S E) Tryz.func192 rfl rfl (by kernel_rfl) rfl ?_ ?_
 ·clear hM;simp only[go_sem,au]
 ·simp only[go_sem,au];refine ak (hM.mono ?_);clear hM;rintro r H' m1 aQ ⟨l1,rfl,o,Y,hA,rfl⟩;have hr:=(hT.up l1).r;cases M with
  |none=>
   simp only[go_sem,Mc.cs,hr];rw[hK];exact⟨by kernel_rfl,l1,rfl⟩
  |some x=>
   obtain⟨o',d⟩:=x;obtain⟨rfl,hY⟩:=hA;have hK:K=(if(!je S o d.fl|| !(hasB d.fl 8==st))=true then(aj,72) else if iz E d.params ts=0 then(d.res,0) else(aj,iz E d.params ts)):=hK;have hA:=fun m' (hle:ah m1 m')=>Jc d.params ts Y.pa ta Y.pl Y.pc tn tc m' (hT.up (ae l1 hle)) (aM hle hY.par) hY.pl (ht.up (ae l1 hle)).rd ht.n (by have:=hlen o d rfl;have:=ht.n;omega) hY.ok.pl
   unfold au at hA;simp only[go_sem,Mc.cs,hr];have hb:(!decide (bits .and .i64 Y.fl 8=0))=hasB d.fl 8:=by rw[hY.fl];rfl
   rw[hY.fl] at *;refine⟨by kernel_rfl,fun h0=> ?_,fun h0=> ?_⟩
   ·rw[hK,ai]
    ·exact⟨l1,rfl⟩
    ·rcases h0 with h0 |h0
     ·rw[h0];rfl
     ·rw[show(hasB d.fl 8==st)=false from h0];simp
   ·rw[aa] at hK
    ·refine ak ((aC (hA m1 (.inl rfl)) fun V=>rfl).mono ?_);clear hA;rintro r H' m2 aJ ⟨rfl,rfl,rfl⟩;simp only[go_sem];refine⟨fun h1=> ?_,fun h1=> ?_⟩
     ·rw[aa h1] at hK;rw[hK];exact⟨l1,rfl⟩
     ·rw[ai h1] at hK;rw[hK];dsimp only;rw[<- hY.res];exact⟨l1,rfl⟩
    ·rw[h0.1,show(hasB d.fl 8==st)=true from h0.2];decide
end
theorem HO {α:Type} [Inhabited α] {n:Nat} {Q:Nat->α->Prop} (h:∀i,i<n->∃x,Q i x):∃f:Nat->α,∀i,i<n->Q i (f i):=by
 classical
 exact⟨fun i=>if hi:i<n then(h i hi).choose else default,fun i hi=>by dsimp only;rw[dif_pos hi];exact(h i hi).choose_spec⟩
instance:Inhabited Cc:=⟨⟨0,[],[],none,0,0,none,0,0,none,0,0,none,0,0⟩⟩
instance:Inhabited Mc:=⟨tX⟩
theorem J1 {α:Type} {P:α->Bool}:∀{l:List α} {k:Nat} (hk:k<l.length),P l[k]=true->(∀j (hj:j<k),P (l[j]'(Nat.lt_trans hj hk))=false)->l.find? P=some l[k]
 |x::r,0,_,h1,_=>by rw[List.find?_cons];simp only[List.getElem_cons_zero] at h1;rw[h1];rfl
 |x::r,k+1,hk,h1,h2=>by
  rw[List.find?_cons];have h0:=h2 0 (Nat.succ_pos _);simp only[List.getElem_cons_zero] at h0;rw[h0];exact J1 (l:=r) (k:=k) (by simpa using hk) (by simpa using h1) fun j hj=>by simpa using h2 (j+1) (by omega)
theorem TS {α:Type} {P:α->Bool} {l:List α} (h:∀j (hj:j<l.length),P l[j]=false):l.find? P=none:=by
 rw[List.find?_eq_none];intro x hx;obtain⟨j,hj,rfl⟩:=List.getElem_of_mem hx;rw[h j hj];decide
theorem RD {E:List Cd} {s n:Nm} {k:Int} {d:Md} (h:cM E s n k=some d):(d.params.length:Int)=k:=by
 unfold cM at h;have:=List.find?_some h;simp only[bw,cS] at this;exact this.2
theorem WC {m:Mem} {ad:Addr} {pr E:List Cd} {b:Nat} {a:Option Addr} {c:Nat} {L:List Cc} (hC:Ck m ad pr E b a c L):Rd m (bc (some ad) 0) [.slice a pr.length c]:=te hC.rd 0 1 (aU rfl)
section
variable {S:Sc} {E:List Cd} {ad:Addr} {da:Option Addr} {dc:Nat} {la:Option Addr} {lc:Nat} {b:Nat} {a:Option Addr} {c:Nat} {L:List Cc}
theorem PA (X:Cc) (s:Nm) (m:Mem):FnH Tryz.prog 278 [.v (.agg ⟨X.cs⟩),.box 0 0] ⟨[⟨0,9,[.v (.string (bs s))]⟩],[]⟩ m
  fun r H' _=>r= .v (.bool (decide (X.name=s)))/\H' =⟨[⟨0,9,[.v (.string (bs s))]⟩],[]⟩:=by
 refine enter bj aq Tryz.func278 rfl rfl (by kernel_rfl) rfl ?_ ?_
 ·simp only[go_sem,Cc.cs]
 ·simp only[go_sem,Cc.cs]
theorem Pz (Y:Mc) (m:Mem):FnH Tryz.prog 279 [.v (.agg ⟨Y.cs⟩)] ⟨[],[]⟩ m
  fun r H' _=>r= .v (.bool (decide (Y.name=bB)))/\H' =⟨[],[]⟩:=by
 refine enter bj aq Tryz.func279 rfl rfl (by kernel_rfl) rfl ?_ ?_
 ·simp only[go_sem,Mc.cs]
 ·simp only[go_sem,Mc.cs];rfl
theorem Pj (ml:List Md) (ma:Option Addr) (mn mc:Nat) (xs:List Value) (m:Mem) (h1:ax m ma mn 8 xs) (hn:mn=ml.length) (h2:eu (gW m) 8 ml xs) (hb:ml.length<=aw):
  FnH Tryz.prog 148 [.v (.slice ma mn mc),.v (.func (.func 279) ⟨[]⟩ ⟨[]⟩)] ⟨[],[]⟩ m
   fun r H' _=>H' =⟨[],[]⟩/\r= .v (.bool (ml.any fun m=>decide (m.name=bB))):=by
 obtain⟨f,hf⟩:=HO (n:=ml.length) (Q:=fun i (Y:Mc)=>∃hi:i<ml.length,Rd m (bc ma (i * 8)) Y.cs/\ma≠none/\MdX m ml[i] Y) fun i hi=>by
  obtain⟨Y,q⟩:=tz h1 hn h2 hi;exact⟨Y,hi,q⟩
 refine(Td 279 (by kernel_rfl) ma mn mc m (by unfold aw at hb;omega) (fun i=>(f i).cs) (fun i hi=> ?_) (fun i=>decide ((f i).name=bB)) fun i m' hi hle=>Pz (f i) m').mono ?_
 ·obtain⟨kV,q1,q2,_⟩:=hf i (by omega);exact⟨q1,q2,rfl⟩
 ·rintro r H' m' hm ⟨h3,rfl⟩;refine⟨h3,?_⟩;have e:((List.range mn).any fun i=>decide ((f i).name=bB))=ml.any fun m=>decide (m.name=bB):=by
   rw[hn,<- Aw (fun m:Md=>decide (m.name=bB)) mQ ml];rw[Bool.eq_iff_iff,List.any_eq_true,List.any_eq_true];constructor
   ·rintro⟨i,hi,q⟩;obtain⟨kV,_,_,q3⟩:=hf i (List.mem_range.1 hi);refine⟨i,hi,?_⟩;rw[List.getD_eq_getElem?_getD,List.getElem?_eq_getElem kV];rwa [q3.name] at q
   ·rintro⟨i,hi,q⟩;obtain⟨kV,_,_,q3⟩:=hf i (List.mem_range.1 hi);refine⟨i,hi,?_⟩;rw[List.getD_eq_getElem?_getD,List.getElem?_eq_getElem kV] at q;rw[q3.name];exact q
  rw[e]
theorem Oi (pr:List Cd) (pa:Option Addr) (pn pc:Nat) (s:Nm) (m:Mem) (h:gV m pr pa pn pc):
  FnH Tryz.prog 277 [.v (.slice pa pn pc),.cl 278 [0]] ⟨[⟨0,9,[.v (.string (bs s))]⟩],[]⟩ m
   fun r H' _=>H' =⟨[⟨0,9,[.v (.string (bs s))]⟩],[]⟩/\((r= .v (.int .i64 (-1))/\pr.find? (fun d=>decide (d.name=s))=none)\/∃k,∃hk:k<pr.length,r= .v (.int .i64 k)/\pr.find? (fun d=>decide (d.name=s))=some pr[k]):=by
 have hn:=h.1;obtain⟨f,hf⟩:=HO (n:=pr.length) (Q:=fun i (X:Cc)=>∃hi:i<pr.length,Rd m (bc pa (i * 7)) X.cs/\pa≠none/\X.name=pr[i].name) fun i hi=>by
  obtain⟨X,q1,q2,q3,_⟩:=lk h hi;exact⟨X,hi,q1,q2,q3⟩
 refine(Te 278 (by kernel_rfl) [.string (bs s)] pa pn pc m (by have:=h.2.2.1;unfold aw at this;omega) (fun i=>(f i).cs) (fun i hi=> ?_) (fun i=>decide ((f i).name=s)) fun i m' hi hle=>PA (f i) s m').mono ?_
 ·obtain⟨kV,q1,q2,_⟩:=hf i (by omega);exact⟨q1,q2,rfl⟩
 ·rintro r H' m' hm ⟨h3,h4⟩;refine⟨h3,?_⟩;have hq:∀j (hj:j<pr.length),decide ((f j).name=s)=decide (pr[j].name=s):=fun j hj=>by
   obtain⟨_,_,_,q⟩:=hf j hj;rw[q]
  rcases h4 with ⟨rfl,h4⟩ |⟨k,hk,rfl,h5,h6⟩
  ·exact .inl ⟨rfl,TS fun j hj=>by rw[<- hq j hj];exact h4 j (by omega)⟩
  ·exact .inr ⟨k,by omega,rfl,J1 (by omega) (by rw[<- hq k (by omega)];exact h5) fun j hj=>by rw[<- hq j (by omega)];exact h6 j hj⟩
def K0 (ts:List Ty) (F:Option Cd):Int:=match F with
 |some d=>if ts.length=0/\(d.methods.any fun m=>decide (m.name=bB))=false then 0 else 72
 |none=>72
theorem I4 (s:Nm) (ts:List Ty) (ta:Option Addr) (tn tc:Nat) (m:Mem) (hT:Tp m S E ad da dc la lc b a c L) (ht:TsA m ts ta tn tc):
  FnH Tryz.prog 245 [.v (.agg ⟨au ad da dc S la lc⟩),.v (.string (bs s)),.v (.slice ta tn tc)] ⟨[],[]⟩ m
   fun r H' m' =>ah m m' /\H' =⟨[],[]⟩/\r= .v (.int .i64 (mJ E S s ts)):=by
 have hD:=uW s bB tn m hT.ck;have hC:=hT.ck;have hlen:=fun d (h:cM E s bB tn=some d)=>RD h
 have hK:mJ E S s ts=(match cM E s bB tn with
  |some m=>if je S s m.fl=true then iz E m.params ts else 72
  |none=>match S.pr.find? fun d=>decide (d.name=s) with
   |some d=>if ts.length=0/\(d.methods.any fun m=>decide (m.name=bB))=false then 0 else 72
   |none=>72):=by rw[ht.n];rfl
 have hW:=fun m' (hle:ah m m')=>Oi S.pr a S.pr.length c s m' (hC.up hle).pr
 revert hD hK hlen hW;generalize cM E s bB tn=M
 generalize mJ E S s ts=K
 generalize S.pr.find? (fun d=>decide (d.name=s))=F
 intro hD hlen hK hW;refine enter (E1 S E) (Le S E) Tryz.func245 rfl rfl (by kernel_rfl) rfl ?_ ?_
 ·clear hD hW;simp only[go_sem,au]
 ·simp only[go_sem,au];refine ak ((aC hD fun V=>rfl).mono ?_);clear hD;rintro r H' m1 aQ ⟨rfl,rfl,Y,hA,rfl⟩;cases M with
  |some d=>
   have hK:K=if je S s d.fl=true then iz E d.params ts else 72:=hK
   have hY:MdX m1 d Y:=hA;have hr:=hT.r;clear hW;have hA:=fun m' (hle:ah m1 m')=>Jc d.params ts Y.pa ta Y.pl Y.pc tn tc m' (hT.up hle) (aM hle hY.par) hY.pl (ht.up hle).rd ht.n (by have:=hlen d rfl;have:=ht.n;omega) hY.ok.pl
   unfold au at hA;simp only[go_sem,Mc.cs,hr];refine⟨fun h0=> ?_,fun h0=>ak ((aC (hA m1 (.inl rfl)) fun V=>rfl).mono ?_)⟩
   ·rw[hK,aa];rw[<- hY.fl,h0];decide
   ·clear hA;rintro r H' m2 aJ ⟨rfl,rfl,rfl⟩;simp only[go_sem];rw[hK,ai (by rw[<- hY.fl];exact h0)]
  |none=>
   have hK:K=K0 ts F:=hK;have hW:=hW m1 (.inl rfl);have r7:=GV ad;simp only[go_sem,Mc.cs,bY (j:=0) hC.rd rfl,bY (j:=1) hC.rd rfl,fG hC.rm,iN,Option.map_none,Option.map_some,cn,forall_eq',false_implies,and_true,true_and,eV];refine ak (hW.mono ?_);clear hW;rintro r H' m2 aJ ⟨rfl,⟨rfl,hF⟩ |⟨k,hk,rfl,hF⟩⟩
   ·rw[hF] at hK;have Mg:((0:Int)<= -1)=False:=eq_false (by decide);simp only[go_sem,Mg,false_and,false_implies];refine⟨.slice a S.pr.length c,?_⟩;simp only[go_sem,Mg,false_and,false_implies];exact⟨undef,.inr aJ,hK.symm⟩
   ·rw[hF] at hK;have dJ:=hC.up (.inr aJ);refine Exists.elim (lk dJ.pr hk) fun X hX=> ?_
    have gB:(0:Int)<=k:=by omega
    simp only[go_sem,gB];refine⟨.slice a S.pr.length c,fun _=>WC dJ,?_⟩;simp only[go_sem,gB];refine⟨fun _=>⟨by omega,by omega,hX.2.1⟩,fun _=>of_eq_true (kF hX.1),.slice X.ma X.ml X.mc,fun _=>te hX.1 5 1 (aU rfl),fun h0=>⟨by kernel_rfl,?_⟩,fun h0=> ?_⟩
    ·refine Exists.elim hX.2.2.2.mth fun xs fX=> ?_
     have hI:=Pj S.pr[k].methods X.ma X.ml X.mc xs m2 fX.1 hX.2.2.2.ml fX.2 hX.2.2.2.ok.ml;refine bF (hI.mono ?_);clear hI;rintro r H' m3 dx ⟨rfl,rfl⟩;have hK:K=if ts.length=0/\(S.pr[k].methods.any fun m=>decide (m.name=bB))=false then 0 else 72:=hK
     have Fp:=ht.n;simp only[go_sem,h0,gB];refine⟨fun h1=>⟨ae (.inr aJ) (.inr dx),?_⟩,fun h1=>⟨ae (.inr aJ) (.inr dx),?_⟩⟩
     ·rw[hK,ai ⟨by omega,h1⟩]
     ·rw[hK,aa fun h=>by rw[h.2] at h1;cases h1]
    ·refine⟨.inr aJ,?_⟩;have Fp:=ht.n;rw[hK,K0,aa];rintro⟨h1,_⟩;omega
end
def Lc (E:List Cd) (S:Sc) (n:Nm) (k:Int) (M:Option (Nm×Md)) (fo:Option (Nm×Md)) (ml:List Nm) (C:TR):TR:=
 if(S.st||S.su||hasB (cB S).fl 512)=true then(aj,72) else match M with
  |none=>(aj,72)
  |some (_,m)=>if hasB m.fl 1024=true then(aj,72)
   else if fo.isSome=true then C
   else match ml with
    |[s]=>if((cM E s n k).getD mQ).hb=true then C else(aj,72)
    |_=>(aj,72)
theorem Si (E:List Cd) (S:Sc) (n:Nm) (ts:List Ty) (tn:Nat) (h:tn=ts.length):jo E S n ts=Lc E S n tn (fi E (cB S).super n tn) (eA E (bP E (cB S).super) n tn) (gH E (cH E (cB S).super) n tn) (gZ E S (cB S).super n false ts):=by
 subst h;rfl
section
variable {S:Sc} {E:List Cd} {ad:Addr} {da:Option Addr} {dc:Nat} {la:Option Addr} {lc:Nat} {b:Nat} {a:Option Addr} {c:Nat} {L:List Cc}
theorem Ox (n:Nm) (ts:List Ty) (ta:Option Addr) (tn tc:Nat) (m:Mem) (hT:Tp m S E ad da dc la lc b a c L) (ht:TsA m ts ta tn tc):
  FnH Tryz.prog 194 [.v (.agg ⟨au ad da dc S la lc⟩),.v (.string (bs n)),.v (.slice ta tn tc)] ⟨[],[]⟩ m
   fun r H' m' =>ah m m' /\H' =⟨[],[]⟩/\r= .tup [dD (jo E S n ts).1,.v (.int .i64 (jo E S n ts).2)]:=by
 have hC:=hT.ck;have hw:=hC.fw;have hK:=Si E S n ts tn ht.n;have gg:=Ct m hT;have hM:=fun m' (hle:ah m m')=>F9 (cB S).super n tn m' (hC.up hle)
 have hS:=fun m' (hle:ah m m')=>qX (cB S).super m' (hC.up hle)
 have hI:=fun m' (hle:ah m m')=>uS (cB S).super m' (hC.up hle)
 have hF:=fun m' (hle:ah m m') fa fc (hr:ax m' fa (bP E (cB S).super).length 1 (strs (bP E (cB S).super)))=>wX (bP E (cB S).super) fa fc n tn m' (hC.up hle) hr (by have:=(ir E (cB S).super).len;omega)
 have hO:=fun m' (hle:ah m m') fa fc (hr:ax m' fa (cH E (cB S).super).length 1 (strs (cH E (cB S).super)))=>Hr (cH E (cB S).super) fa fc n tn m' (hC.up hle) hr (by have:=(ld E (cB S).super).len;omega)
 have j8:=fun m' (hle:ah m m')=>DI (cB S).super n false ts ta tn tc m' (hT.up hle) (ht.up hle)
 revert hK hM hS hI hF hO j8;generalize jo E S n ts=K
 generalize fi E (cB S).super n tn=M
 generalize eA E (bP E (cB S).super) n tn=fo
 generalize gH E (cH E (cB S).super) n tn=ml
 generalize bP E (cB S).super=sl
 generalize cH E (cB S).super=il
 generalize gZ E S (cB S).super n false ts=CC
 intro hK hM hS hI hF hO j8;unfold au at gg j8;refine enter bj aq Tryz.func194 rfl rfl (by kernel_rfl) rfl ?_ ?_
 ·clear gg hM hS hI hF hO j8;simp only[go_sem,au]
 ·simp only[go_sem,au];refine ak ((aC gg fun V=>rfl).mono ?_);clear gg;rintro r H' m1 aQ ⟨rfl,rfl,X,rfl,hX⟩;have gS:=hX.fl;have zw:=hX.sup;unfold Lc at hK;rw[<- gS] at hK;rw[<- zw] at hM hS hI j8;have hM:=hM m1 (.inl rfl);simp only[go_sem,Cc.cs];refine⟨fun h0=> ?_,fun h0=>ak (hM.mono ?_)⟩
  ·have e:(S.st||S.su||hasB X.fl 512)=true:=by
    unfold hasB;rcases h0 with (h0 |h0) |h0
    ·rw[h0];rfl
    ·rw[h0];simp
    ·rw[ab h0];simp
   rw[ai e] at hK;rw[hK];rfl
  have hK:=hK.trans (aa (by unfold hasB;rw[h0.1.1,h0.1.2,aP h0.2];decide));clear hM;rintro r H' m2 aJ ⟨l2,rfl,o,Y,hA,rfl⟩;cases M with
  |none=>
   clear hS hI hF hO j8;simp only[go_sem,Mc.cs];rw[hK];exact⟨l2,rfl⟩
  |some x=>
   obtain⟨o',d⟩:=x;obtain⟨_,hY⟩:=hA;dsimp only at hK;rw[<- hY.fl] at hK;by_cases hab:bits .and .i64 Y.fl 1024=0
   ·have hK:=hK.trans (aa (by unfold hasB;rw[aP hab];decide));have hS:=hS m2 l2;simp only[go_sem,Mc.cs,hab];refine bX (.hoist 0 (.hoist 1 (.hoist 2 (.hoist 3 (.hoist 4 (.hoist 5 (.hoist 7 (.hoist 8 (.hoist 9 (.alt 6 [9,8,7,1,0] (.alt 10 [] (.hoist 11 (.hoist 12 (.hoist 13 (.hoist 14 (.alt 15 [14,13,12,11] (.hoist 16 (.alt 17 [14] (.hoist 18 .done) .stop)) .stop))))) (.alt 15 [9,8,7,1,0] (.alt 10 [] (.hoist 11 (.hoist 12 (.hoist 13 (.hoist 14 (.hoist 16 (.alt 17 [14] (.hoist 18 .done) .stop)))))) .stop) .stop)) (.alt 15 [9,8,7,5,4,3,2,1,0] (.alt 6 [9,8,7,1,0] (.alt 10 [] (.hoist 11 (.hoist 12 (.hoist 13 (.hoist 14 (.hoist 16 (.alt 17 [14] (.hoist 18 .done) .stop)))))) .stop) .stop) .stop))))))))))) aq (by kernel_rfl) (by kernel_rfl) ?_;simp only[go_sem,Mc.cs];refine⟨ak (hS.mono ?_),by kernel_rfl,bF (hS.mono ?_)⟩;all_goals
     clear hS;rintro r H' m3 dx ⟨l3,rfl,fa,fc,rfl,g1,g2⟩;have hF:=hF m3 (ae l2 l3) fa fc g2;have qN:=eq_true l3;simp only[go_sem,Mc.cs,qN,and_self];first |refine⟨ak (hF.mono ?_),by kernel_rfl,bF (hF.mono ?_)⟩ |refine ak (hF.mono ?_)
    all_goals
     clear hF;rintro r H' m4 iF ⟨rfl,rfl,o2,Y2,hA2,rfl⟩;by_cases jE:fo.isSome=true
     ·have hK:=hK.trans (ai jE);have j8:=j8 m4 (ae l2 l3);clear hI hO;simp only[go_sem,Mc.cs,jE];refine ak ((aC j8 fun V=>rfl).mono ?_);clear j8;rintro r H' m5 oy ⟨l5,rfl,rfl⟩;simp only[go_sem];rw[hK];exact⟨ae l2 (ae l3 l5),rfl⟩
     ·have hK:=hK.trans (aa jE);have jE:=(Bool.not_eq_true _).mp jE;have hI:=hI m4 (ae l2 l3);simp only[go_sem,Mc.cs,jE];refine bX (.hoist 0 (.hoist 1 (.hoist 2 (.hoist 3 (.hoist 4 (.hoist 5 (.hoist 7 (.hoist 8 (.hoist 9 (.alt 6 [9,8,7,1,0] (.alt 10 [] (.hoist 11 .done) .stop) .stop)))))))))) aq (by kernel_rfl) (by kernel_rfl) ?_;simp only[go_sem,Mc.cs];refine ak (hI.mono ?_);clear hI;rintro r H' m5 oy ⟨l5,rfl,ia,ic,rfl,q1,q2⟩;have hO:=hO m5 (ae l2 (ae l3 l5)) ia ic q2;have hl5:=eq_true l5;simp only[go_sem,Mc.cs,hl5,and_self];refine ak (hO.mono ?_);clear hO;rintro r H' m6 uy ⟨l6,rfl,ja,jc,rfl,w1,w2⟩;have v8:=ae l2 (ae l3 (ae l5 l6));have wG:=eq_true l6;cases ml with
      |nil=>
       have hK:K=(aj,72):=hK;have hc:(((0:Nat):Int)=1)=False:=eq_false (by decide);simp only[go_sem,wG,and_self,hc];rw[hK];exact⟨v8,rfl⟩
      |cons s1 r=>
       cases r with
       |nil=>
        have hD:=uW s1 n tn m6 (hC.up v8);have hK:K=if((cM E s1 n tn).getD mQ).hb=true then CC else(aj,72):=hK
        have aL:bO ja 1 0=True:=eq_true ⟨by decide,by decide,(dK w2 (Nat.zero_lt_one)).2⟩;have av:= @ky _ _ _ _ w2 0 Nat.zero_lt_one (.string (bs s1)) rfl;have j8:=j8 m6 v8;have hc:(((1:Nat):Int)=1)=True:=eq_true rfl;simp only[go_sem,wG,and_self,hc];refine bX (.hoist 0 (.hoist 1 (.hoist 2 (.hoist 3 (.hoist 4 (.hoist 5 (.hoist 6 (.hoist 7 (.alt 8 [] (.hoist 9 (.hoist 10 (.hoist 11 (.alt 12 [11,10,9] (.alt 13 [11] (.hoist 14 .done) .stop) .stop)))) (.alt 12 [7,6,5,4,3,2,1,0] (.alt 8 [] (.hoist 9 (.hoist 10 (.hoist 11 (.alt 13 [11] (.hoist 14 .done) .stop)))) .stop) .stop)))))))))) aq (by kernel_rfl) (by kernel_rfl) ?_;simp only[go_sem,aL,av,wG,and_self];refine⟨ak (hD.mono ?_),by kernel_rfl,bF (hD.mono ?_)⟩;all_goals
         clear hD;rintro r H' m7 sI ⟨rfl,rfl,Y3,hY3,rfl⟩;have hhb:=hY3.x.hb;rw[<- hhb] at hK;by_cases hh:Y3.hb=true
         ·have hK:=hK.trans (ai hh);simp only[go_sem,Mc.cs,hh,fM,and_self];refine ak ((aC j8 fun V=>rfl).mono ?_);clear j8;rintro r H' m8 uw ⟨l8,rfl,rfl⟩;simp only[go_sem];rw[hK];exact⟨ae v8 l8,rfl⟩
         ·have hK:=hK.trans (aa hh);have hh:=(Bool.not_eq_true _).mp hh;clear j8;simp only[go_sem,Mc.cs,hh,fM,and_self];rw[hK];exact⟨v8,rfl⟩
       |cons s2 r=>
        have hK:K=(aj,72):=hK;have hc:((((r.length+1+1:Nat)):Int)=1)=False:=eq_false (by omega);simp only[go_sem,wG,and_self,hc];rw[hK];exact⟨v8,rfl⟩
   ·have hK:=hK.trans (ai (by unfold hasB;rw[ab hab];decide));clear hS hI hF hO j8;simp only[go_sem,Mc.cs,hab];rw[hK];exact⟨l2,rfl⟩
end
abbrev cK (S:Sc) (E:List Cd):Cfg:=kI (fun _=>false) [(42,yi S.pr E fun t u=> .bool (ew E t u)),(84,fun _=>vQ fun t=> .bool (eM t)),
 (191,fun _=>tH (.agg ⟨aD b8⟩)),(196,fun _=>tH (.agg ⟨aD dT⟩)),(85,fun _=>tH (.agg ⟨aD ko⟩)),(86,fun _=>yB fun s=> .agg ⟨aD (eY s)⟩),
 (190,fun _=>Bt),(159,vR S.pr E fun t=> .bool (cu E t)),(264,vR S.pr E fun t=> .bool (rY E t)),(193,fun _=>vQ fun t=> .string (bs (o7 t))),
 (262,yD S E),(43,vB S.pr E fun s n=>pR (fk E s n))]
theorem bI (S:Sc) (E:List Cd):cw (cK S E) Tryz.prog:=
 fz (by kernel_rfl) (Iq fun p t u m h=>Jb p t u m h) (fz (by kernel_rfl) (fun m aN y hy hB=>DV (fun t m=>GU m t) aN y hy hB m)
 (fz (by kernel_rfl) (fun m aN y hy hB=>AN Rc aN y hy hB m) (fz (by kernel_rfl) (fun m aN y hy hB=>AN O9 aN y hy hB m) (fz (by kernel_rfl) (fun m aN y hy hB=>AN Hm aN y hy hB m)
 (fz (by kernel_rfl) (fun m aN y hy hB=>Jt (fun s m=>HM m s) aN y hy hB m) (fz (by kernel_rfl) (fun m aN y hy hB=>SF (fun b t m=>Q9 m b t) aN y hy hB m)
 (fz (by kernel_rfl) (DW fun p t m h=>GS p t m h) (fz (by kernel_rfl) (DW fun p t m h=>by obtain⟨ad,b,a,c,L,rfl,hC⟩:=h;exact Ph t m hC) (fz (by kernel_rfl) (fun m aN y hy hB=>DV (fun t m=>O7 m t) aN y hy hB m)
 (fz (by kernel_rfl) (Jv S E) (fz (by kernel_rfl) (Dx fun p s n m h=>by obtain⟨ad,b,a,c,L,rfl,hC⟩:=h;exact HG s n m hC) ra)))))))))))
section
variable {S:Sc} {E:List Cd} {ad:Addr} {da:Option Addr} {dc:Nat} {la:Option Addr} {lc:Nat} {b:Nat} {a:Option Addr} {c:Nat} {L:List Cc}
theorem RR (op:Nm) (t u:Ty) (m:Mem) (hT:Tp m S E ad da dc la lc b a c L):
  FnH Tryz.prog 197 [.v (.agg ⟨au ad da dc S la lc⟩),.v (.string (bs op)),.v (.agg ⟨aD t⟩),.v (.agg ⟨aD u⟩)] ⟨[],[]⟩ m
   fun r H' m' =>m' =m/\H' =⟨[],[]⟩/\r= .tup [dD (gw E op t u).1,.v (.int .i64 (gw E op t u).2)]:=by
 have aR:=hT.ck.chk;refine enter (cK S E) (bI S E) Tryz.func197 rfl rfl (by kernel_rfl) rfl ?_ ?_
 ·simp only[go_sem,au,aD]
 ·simp only[go_sem,au,aD];refine vf (bI S E) (by kernel_rfl) (by kernel_rfl) (by kernel_rfl) ?_;by_cases q0:op=[43]
  ·have d0:decide (op=[43])=true:=aP q0;have d1:decide (op=[45])=false:=ab (by rw[q0];decide);have d2:decide (op=[42])=false:=ab (by rw[q0];decide);have d3:decide (op=[47])=false:=ab (by rw[q0];decide);have d4:decide (op=[37])=false:=ab (by rw[q0];decide);have d5:decide (op=[60])=false:=ab (by rw[q0];decide);have d6:decide (op=[60,61])=false:=ab (by rw[q0];decide);have d7:decide (op=[62])=false:=ab (by rw[q0];decide);have d8:decide (op=[62,61])=false:=ab (by rw[q0];decide);have d9:decide (op=[61,61])=false:=ab (by rw[q0];decide);have d10:decide (op=[33,61])=false:=ab (by rw[q0];decide);simp only[go_sem,aD,aR,dC,b8,dT,d0,d1,d2,d3,d4,d5,d6,d7,d8,d9,d10];rw[gw,ai (by simp [q0])];rfl
  have d0:decide (op=[43])=false:=ab q0;by_cases q1:op=[45]
  ·have d1:decide (op=[45])=true:=aP q1;have d2:decide (op=[42])=false:=ab (by rw[q1];decide);have d3:decide (op=[47])=false:=ab (by rw[q1];decide);have d4:decide (op=[37])=false:=ab (by rw[q1];decide);have d5:decide (op=[60])=false:=ab (by rw[q1];decide);have d6:decide (op=[60,61])=false:=ab (by rw[q1];decide);have d7:decide (op=[62])=false:=ab (by rw[q1];decide);have d8:decide (op=[62,61])=false:=ab (by rw[q1];decide);have d9:decide (op=[61,61])=false:=ab (by rw[q1];decide);have d10:decide (op=[33,61])=false:=ab (by rw[q1];decide);simp only[go_sem,aD,aR,dC,b8,dT,d0,d1,d2,d3,d4,d5,d6,d7,d8,d9,d10];rw[gw,ai (by simp [q1])];rfl
  have d1:decide (op=[45])=false:=ab q1;by_cases q2:op=[42]
  ·have d2:decide (op=[42])=true:=aP q2;have d3:decide (op=[47])=false:=ab (by rw[q2];decide);have d4:decide (op=[37])=false:=ab (by rw[q2];decide);have d5:decide (op=[60])=false:=ab (by rw[q2];decide);have d6:decide (op=[60,61])=false:=ab (by rw[q2];decide);have d7:decide (op=[62])=false:=ab (by rw[q2];decide);have d8:decide (op=[62,61])=false:=ab (by rw[q2];decide);have d9:decide (op=[61,61])=false:=ab (by rw[q2];decide);have d10:decide (op=[33,61])=false:=ab (by rw[q2];decide);simp only[go_sem,aD,aR,dC,b8,dT,d0,d1,d2,d3,d4,d5,d6,d7,d8,d9,d10];rw[gw,ai (by simp [q2])];rfl
  have d2:decide (op=[42])=false:=ab q2;by_cases q3:op=[47]
  ·have d3:decide (op=[47])=true:=aP q3;have d4:decide (op=[37])=false:=ab (by rw[q3];decide);have d5:decide (op=[60])=false:=ab (by rw[q3];decide);have d6:decide (op=[60,61])=false:=ab (by rw[q3];decide);have d7:decide (op=[62])=false:=ab (by rw[q3];decide);have d8:decide (op=[62,61])=false:=ab (by rw[q3];decide);have d9:decide (op=[61,61])=false:=ab (by rw[q3];decide);have d10:decide (op=[33,61])=false:=ab (by rw[q3];decide);simp only[go_sem,aD,aR,dC,b8,dT,d0,d1,d2,d3,d4,d5,d6,d7,d8,d9,d10];rw[gw,ai (by simp [q3])];rfl
  have d3:decide (op=[47])=false:=ab q3;by_cases q4:op=[37]
  ·have d4:decide (op=[37])=true:=aP q4;have d5:decide (op=[60])=false:=ab (by rw[q4];decide);have d6:decide (op=[60,61])=false:=ab (by rw[q4];decide);have d7:decide (op=[62])=false:=ab (by rw[q4];decide);have d8:decide (op=[62,61])=false:=ab (by rw[q4];decide);have d9:decide (op=[61,61])=false:=ab (by rw[q4];decide);have d10:decide (op=[33,61])=false:=ab (by rw[q4];decide);simp only[go_sem,aD,aR,dC,b8,dT,d0,d1,d2,d3,d4,d5,d6,d7,d8,d9,d10];rw[gw,ai (by simp [q4])];rfl
  have d4:decide (op=[37])=false:=ab q4;by_cases q5:op=[60]
  ·have d5:decide (op=[60])=true:=aP q5;have d6:decide (op=[60,61])=false:=ab (by rw[q5];decide);have d7:decide (op=[62])=false:=ab (by rw[q5];decide);have d8:decide (op=[62,61])=false:=ab (by rw[q5];decide);have d9:decide (op=[61,61])=false:=ab (by rw[q5];decide);have d10:decide (op=[33,61])=false:=ab (by rw[q5];decide);simp only[go_sem,aD,aR,dC,b8,dT,d0,d1,d2,d3,d4,d5,d6,d7,d8,d9,d10];rw[gw,aa (by rw[q5];decide),ai (by simp [q5])];rfl
  have d5:decide (op=[60])=false:=ab q5;by_cases q6:op=[60,61]
  ·have d6:decide (op=[60,61])=true:=aP q6;have d7:decide (op=[62])=false:=ab (by rw[q6];decide);have d8:decide (op=[62,61])=false:=ab (by rw[q6];decide);have d9:decide (op=[61,61])=false:=ab (by rw[q6];decide);have d10:decide (op=[33,61])=false:=ab (by rw[q6];decide);simp only[go_sem,aD,aR,dC,b8,dT,d0,d1,d2,d3,d4,d5,d6,d7,d8,d9,d10];rw[gw,aa (by rw[q6];decide),ai (by simp [q6])];rfl
  have d6:decide (op=[60,61])=false:=ab q6;by_cases q7:op=[62]
  ·have d7:decide (op=[62])=true:=aP q7;have d8:decide (op=[62,61])=false:=ab (by rw[q7];decide);have d9:decide (op=[61,61])=false:=ab (by rw[q7];decide);have d10:decide (op=[33,61])=false:=ab (by rw[q7];decide);simp only[go_sem,aD,aR,dC,b8,dT,d0,d1,d2,d3,d4,d5,d6,d7,d8,d9,d10];rw[gw,aa (by rw[q7];decide),ai (by simp [q7])];rfl
  have d7:decide (op=[62])=false:=ab q7;by_cases q8:op=[62,61]
  ·have d8:decide (op=[62,61])=true:=aP q8;have d9:decide (op=[61,61])=false:=ab (by rw[q8];decide);have d10:decide (op=[33,61])=false:=ab (by rw[q8];decide);simp only[go_sem,aD,aR,dC,b8,dT,d0,d1,d2,d3,d4,d5,d6,d7,d8,d9,d10];rw[gw,aa (by rw[q8];decide),ai (by simp [q8])];rfl
  have d8:decide (op=[62,61])=false:=ab q8;by_cases q9:op=[61,61]
  ·have d9:decide (op=[61,61])=true:=aP q9;have d10:decide (op=[33,61])=false:=ab (by rw[q9];decide);simp only[go_sem,aD,aR,dC,b8,dT,d0,d1,d2,d3,d4,d5,d6,d7,d8,d9,d10];rw[gw,aa (by rw[q9];decide),aa (by rw[q9];decide),ai (by simp [q9])];rfl
  have d9:decide (op=[61,61])=false:=ab q9;by_cases q10:op=[33,61]
  ·have d10:decide (op=[33,61])=true:=aP q10;simp only[go_sem,aD,aR,dC,b8,dT,d0,d1,d2,d3,d4,d5,d6,d7,d8,d9,d10];rw[gw,aa (by rw[q10];decide),aa (by rw[q10];decide),ai (by simp [q10])];rfl
  have d10:decide (op=[33,61])=false:=ab q10;simp only[go_sem,aD,aR,dC,b8,dT,d0,d1,d2,d3,d4,d5,d6,d7,d8,d9,d10];refine bX (.hoist 0 (.alt 1 [0] (.hoist 2 (.hoist 3 (.hoist 4 (.alt 5 [4] (.hoist 6 (.hoist 7 (.alt 8 [7,6,4] (.alt 9 [] (.hoist 10 (.hoist 11 (.alt 12 [] (.hoist 13 .done) .stop))) .stop) .stop))) .stop)))) .stop)) (bI S E) (by kernel_rfl) (by kernel_rfl) ?_;simp only[go_sem,aD,aR,dC,b8,dT,d0,d1,d2,d3,d4,d5,d6,d7,d8,d9,d10];rw[gw,aa (by simp [q0,q1,q2,q3,q4]),aa (by simp [q5,q6,q7,q8]),aa (by simp [q9,q10])];rfl
end
section
variable {S:Sc} {E:List Cd} {ad:Addr} {da:Option Addr} {dc:Nat} {la:Option Addr} {lc:Nat} {b:Nat} {a:Option Addr} {c:Nat} {L:List Cc}
theorem HR (X:Nd) (t:Ty) (m:Mem) (hT:Tp m S E ad da dc la lc b a c L):
  FnH Tryz.prog 198 [.v (.agg ⟨au ad da dc S la lc⟩),.v (.agg ⟨X.cs⟩),.v (.agg ⟨aD t⟩)] ⟨[],[]⟩ m
   fun r H' m' =>m' =m/\H' =⟨[],[]⟩/\r= .tup [dD (kJ E X.k X.ty t).1,.v (.int .i64 (kJ E X.k X.ty t).2)]:=by
 have aR:=hT.ck.chk;cases hk:cu E X.ty with
 |false=>
  refine enter (cK S E) (bI S E) Tryz.func198 rfl rfl (by kernel_rfl) rfl ?_ ?_
  ·simp only[go_sem,au,aD,Nd.cs]
  ·simp only[go_sem,au,aD,Nd.cs,aR,hk];rw[kJ,aa (by rw[hk];decide)];first |done |rfl
 |true=>
  refine enter (cK S E) (bI S E) Tryz.func198 rfl rfl (by kernel_rfl) rfl ?_ ?_
  ·simp only[go_sem,au,aD,Nd.cs]
  ·simp only[go_sem,au,aD,Nd.cs,aR,hk];refine⟨fun h=> ?_,fun h=> ?_⟩
   ·rw[kJ,ai hk,ai h];first |done |rfl
   ·rw[kJ,ai hk,aa h];first |done |rfl
theorem Q0 (X:Nd) (m:Mem) (hT:Tp m S E ad da dc la lc b a c L):
  FnH Tryz.prog 199 [.v (.agg ⟨au ad da dc S la lc⟩),.v (.agg ⟨X.cs⟩)] ⟨[],[]⟩ m
   fun r H' m' =>m' =m/\H' =⟨[],[]⟩/\r= .tup [dD (jW S X.k).1,.v (.int .i64 (jW S X.k).2)]:=by
 have aR:=hT.ck.chk;have gg:=Ct m hT;unfold au at gg;by_cases q1:X.k=1
 ·have d1:decide (X.k=1)=true:=aP q1;clear gg;refine enter (cK S E) (bI S E) Tryz.func199 rfl rfl (by kernel_rfl) rfl ?_ ?_
  ·simp only[go_sem,au,Nd.cs]
  ·simp only[go_sem,au,Nd.cs,d1,aD];rw[jW,ai q1];first |done |rfl
 have d1:decide (X.k=1)=false:=ab q1;by_cases q2:X.k=2
 ·have d2:decide (X.k=2)=true:=aP q2;clear gg;refine enter (cK S E) (bI S E) Tryz.func199 rfl rfl (by kernel_rfl) rfl ?_ ?_
  ·simp only[go_sem,au,Nd.cs]
  ·simp only[go_sem,au,Nd.cs,d1,d2,aD];rw[jW,aa q1,ai q2];first |done |rfl
 have d2:decide (X.k=2)=false:=ab q2;by_cases q3:X.k=3
 ·have d3:decide (X.k=3)=true:=aP q3;clear gg;refine enter (cK S E) (bI S E) Tryz.func199 rfl rfl (by kernel_rfl) rfl ?_ ?_
  ·simp only[go_sem,au,Nd.cs]
  ·simp only[go_sem,au,Nd.cs,d1,d2,d3,aD];rw[jW,aa q1,aa q2,ai q3];first |done |rfl
 have d3:decide (X.k=3)=false:=ab q3;by_cases q4:X.k=4
 ·have d4:decide (X.k=4)=true:=aP q4;clear gg;refine enter (cK S E) (bI S E) Tryz.func199 rfl rfl (by kernel_rfl) rfl ?_ ?_
  ·simp only[go_sem,au,Nd.cs]
  ·simp only[go_sem,au,Nd.cs,d1,d2,d3,d4,aD];rw[jW,aa q1,aa q2,aa q3,ai q4];first |done |rfl
 have d4:decide (X.k=4)=false:=ab q4;refine enter (cK S E) (bI S E) Tryz.func199 rfl rfl (by kernel_rfl) rfl ?_ ?_
 ·clear gg;simp only[go_sem,au,Nd.cs]
 ·simp only[go_sem,au,Nd.cs,d1,d2,d3,d4,aD];refine⟨fun h0=> ?_,fun h0=>ak ((aC gg fun V=>rfl).mono ?_)⟩
  ·rw[jW,aa q1,aa q2,aa q3,aa q4,ai (by rw[Bool.or_eq_true];exact h0)];first |done |rfl
  clear gg;rintro r H' m1 aQ ⟨rfl,rfl,Y,rfl,hY⟩;simp only[go_sem,Cc.cs,aD];rw[jW,aa q1,aa q2,aa q3,aa q4,aa (by rw[h0.1,h0.2];decide),<- hY.name];first |done |rfl
end
section
variable {S:Sc} {E:List Cd} {ad:Addr} {da:Option Addr} {dc:Nat} {la:Option Addr} {lc:Nat} {b:Nat} {a:Option Addr} {c:Nat} {L:List Cc}
theorem lq {m:Mem} {ts:List Ty} {ta:Option Addr} {tn tc:Nat} (ht:TsA m ts ta tn tc) {i:Nat} (h0:i<ts.length):(bO ta tn (i:Int)=True)/\Rd m (bc ta (i * 3)) (aD (ts.getD i aj)):=by
 have h:=Jj ht.rd ht.n h0;refine⟨eq_true ⟨by omega,by have:=ht.n;omega,h.2⟩,?_⟩;rw[List.getD_eq_getElem?_getD,List.getElem?_eq_getElem h0];exact h.1
def tL (l:List Pc) (s:Nm):TR:=match l.find? fun p=>decide (p.name=s) with
 |some p=>(p.ty,0)
 |none=>(aj,72)
theorem QV {p:Pc} {r:List Pc} {s:Nm} (h:p.name=s):tL (p::r) s=(p.ty,0):=by unfold tL;rw[List.find?_cons,aP h]
theorem Pb {p:Pc} {r:List Pc} {s:Nm} (h:¬p.name=s):tL (p::r) s=tL r s:=by unfold tL;rw[List.find?_cons,ab h]
theorem S4 (X:Nd) (ta:Option Addr) (tn tc:Nat) (ts:List Ty) (m:Mem) (hT:Tp m S E ad da dc la lc b a c L) (hk:X.k=6):
  FnH Tryz.prog 189 [.v (.agg ⟨au ad da dc S la lc⟩),.v (.agg ⟨X.cs⟩),.v (.slice ta tn tc)] ⟨[],[]⟩ m
   fun r H' m' =>m' =m/\H' =⟨[],[]⟩/\r= .tup [dD (fC E S X.k X.s X.c ts).1,.v (.int .i64 (fC E S X.k X.s X.c ts).2)]:=by
 have hK:tL S.loc X.s=fC E S X.k X.s X.c ts:=by rw[fC,ai hk];rfl
 revert hK;generalize fC E S X.k X.s X.c ts=K
 intro hK;have d6:decide (X.k=6)=true:=aP hk;refine enter (cK S E) (bI S E) Tryz.func189 rfl rfl (by kernel_rfl) rfl ?_ ?_
 ·simp only[go_sem,au,Nd.cs]
 ·simp only[go_sem,au,Nd.cs,d6]
  refine ct (bI S E) (fun i:Nat=>⟨[⟨21,[],.v (.int .i64 i)⟩,⟨20,[],.v (.int .i64 S.loc.length)⟩,⟨19,[],.v (.slice la S.loc.length lc)⟩,⟨4,[],.box 1 0⟩,⟨6,[],.box 2 0⟩,⟨7,[],.v (.int .i64 0)⟩],[],
   [⟨2,35,[.v (.int .i64 0),.v (.int .u8 0),.v (.string (bs []))]⟩,⟨1,57,[.v (.int .i64 X.k),.v (.int .i64 X.n),.v (.string (bs X.s)),.v (.string (bs X.c)),.v (.int .i64 X.ty.dim),.v (.int .u8 X.ty.base),.v (.string (bs X.ty.name)),.v (.slice X.a X.l X.cp)]⟩],[],3,m⟩)
   (fun i=>i<=S.loc.length/\tL (S.loc.drop i) X.s=K) (fun i=>S.loc.length - i) 0 (by kernel_rfl) (fun _ _=>aU rfl) (fun x hx=> .inl rfl) (fun _=> ?_) ?_ ⟨aF _,hK⟩ ?_
  ·simp only[go_sem]
  ·simp only[go_sem];first |done |rfl
  ·rintro i ⟨i1,i2⟩;by_cases an:i<S.loc.length
   ·have hc:((i:Int)<(S.loc.length:Int))=True:=eq_true (by omega);rw[List.drop_eq_getElem_cons an] at i2;have q1:=xD hT.loc rfl an;have aL:bO la S.loc.length (i:Int)=True:=eq_true ⟨by omega,by omega,q1.2⟩;have av:= @cz _ _ _ 4 q1.1 rfl;have nj:=hT.ll;simp only[Pc.cs] at av;by_cases hn:S.loc[i].name=X.s
    ·rw[QV hn] at i2;simp only[go_sem,hc,aL,av,hn];rw[<- i2]
    ·rw[Pb hn] at i2;have B9:decide (S.loc[i].name=X.s)=false:=ab hn;simp only[go_sem,hc,aL,av,B9];exact⟨by unfold aB;omega,i+1,rfl,⟨an,i2⟩,by omega⟩
   ·have hc:((i:Int)<(S.loc.length:Int))=False:=eq_false (by omega);rw[List.drop_of_length_le (by omega)] at i2;simp only[go_sem,hc];rw[<- i2];rfl
theorem JG (X:Nd) (ta:Option Addr) (tn tc:Nat) (ts:List Ty) (m:Mem) (hT:Tp m S E ad da dc la lc b a c L) (ht:TsA m ts ta tn tc) (hk:¬X.k=6) (h0:X.k=7->0<ts.length) (h8:X.k=7\/X.k=8):
  FnH Tryz.prog 189 [.v (.agg ⟨au ad da dc S la lc⟩),.v (.agg ⟨X.cs⟩),.v (.slice ta tn tc)] ⟨[],[]⟩ m
   fun r H' m' =>m' =m/\H' =⟨[],[]⟩/\r= .tup [dD (fC E S X.k X.s X.c ts).1,.v (.int .i64 (fC E S X.k X.s X.c ts).2)]:=by
 have aR:=hT.ck.chk;have hr:=hT.r;have d6:decide (X.k=6)=false:=ab hk;by_cases h7:X.k=7
 ·have d7:decide (X.k=7)=true:=aP h7;have d8:decide (X.k=8)=false:=ab (by omega);obtain⟨q1,q2⟩:=lq ht (h0 h7);have av:= @cz _ _ _ 3 q2 rfl;simp only[aD] at av;have hK:fC E S X.k X.s X.c ts=(if eM (ts.getD 0 aj)=true then lL E S false (o7 (ts.getD 0 aj)) X.s else(aj,73)):=by rw[fC,aa hk,ai h7]
  rw[hK];generalize hz:ts.getD 0 aj=z
  rw[hz] at av;have q1:bO ta tn 0=True:=q1;unfold lL;cases jE:fk E (o7 z) X.s with
  |none=>
   refine enter (cK S E) (bI S E) Tryz.func189 rfl rfl (by kernel_rfl) rfl ?_ ?_
   ·simp only[go_sem,au,Nd.cs]
   ·simp only[go_sem,au,Nd.cs,d6,d7,d8,q1,av,aR,hr,jE,pR,Bl];refine⟨fun h=> ?_,fun h=>⟨by kernel_rfl,?_⟩⟩
    ·rw[aa (by rw[show eM z=false from h];decide)];first |done |rfl
    ·rw[ai (show eM z=true from h)];first |done |rfl
  |some x=>
   obtain⟨o,f⟩:=x;refine enter (cK S E) (bI S E) Tryz.func189 rfl rfl (by kernel_rfl) rfl ?_ ?_
   ·simp only[go_sem,au,Nd.cs]
   ·simp only[go_sem,au,Nd.cs,d6,d7,d8,q1,av,aR,hr,jE,pR,Fc.cs];refine⟨fun h=> ?_,fun h=> ?_⟩
    ·rw[aa (by rw[show eM z=false from h];decide)];first |done |rfl
    ·rw[ai (show eM z=true from h)];refine⟨by kernel_rfl,fun h1=> ?_,fun h1=> ?_⟩
     ·rw[ai (show(hasB f.fl 8==false)=false\/je S o f.fl=false from h1)];first |done |rfl
     ·have e:¬((hasB f.fl 8==false)=false\/je S o f.fl=false):=by
       rw[show(hasB f.fl 8==false)=true from h1.1,h1.2];decide
      rw[aa e];first |done |rfl
 ·have d7:decide (X.k=7)=false:=ab h7;have d8:decide (X.k=8)=true:=aP (by omega);have hK:fC E S X.k X.s X.c ts=lL E S true X.c X.s:=by rw[fC,aa hk,aa h7]
  rw[hK];unfold lL;cases jE:fk E X.c X.s with
  |none=>
   refine enter (cK S E) (bI S E) Tryz.func189 rfl rfl (by kernel_rfl) rfl ?_ ?_
   ·simp only[go_sem,au,Nd.cs]
   ·simp only[go_sem,au,Nd.cs,d6,d7,d8,aR,hr,jE,pR,Bl];exact⟨by kernel_rfl,rfl⟩
  |some x=>
   obtain⟨o,f⟩:=x;refine enter (cK S E) (bI S E) Tryz.func189 rfl rfl (by kernel_rfl) rfl ?_ ?_
   ·simp only[go_sem,au,Nd.cs]
   ·simp only[go_sem,au,Nd.cs,d6,d7,d8,aR,hr,jE,pR,Fc.cs];refine⟨by kernel_rfl,fun h1=> ?_,fun h1=> ?_⟩
    ·rw[ai (show(hasB f.fl 8==true)=false\/je S o f.fl=false from h1)];first |done |rfl
    ·have e:¬((hasB f.fl 8==true)=false\/je S o f.fl=false):=by
      rw[show(hasB f.fl 8==true)=true from h1.1,h1.2];decide
     rw[aa e];first |done |rfl
end
section
variable {S:Sc} {E:List Cd} {ad:Addr} {da:Option Addr} {dc:Nat} {la:Option Addr} {lc:Nat} {b:Nat} {a:Option Addr} {c:Nat} {L:List Cc}
theorem Uu (X:Nd) (ta:Option Addr) (tn tc:Nat) (ts:List Ty) (m:Mem) (hT:Tp m S E ad da dc la lc b a c L) (ht:TsA m ts ta tn tc) (hk:X.k=14) (h0:0<ts.length) (hd: -1000<=X.ty.dim/\X.ty.dim<=1000):
  FnH Tryz.prog 195 [.v (.agg ⟨au ad da dc S la lc⟩),.v (.agg ⟨X.cs⟩),.v (.slice ta tn tc)] ⟨[],[]⟩ m
   fun r H' m' =>ah m m' /\H' =⟨[],[]⟩/\r= .tup [dD (gX E S X.k X.c X.ty ts).1,.v (.int .i64 (gX E S X.k X.c X.ty ts).2)]:=by
 have aR:=hT.ck.chk;have d14:decide (X.k=14)=true:=aP hk;have r9:aB (X.ty.dim+1)=True:=eq_true (by unfold aB;omega);obtain⟨q1,q2⟩:=lq ht h0;have q1:bO ta tn 0=True:=q1;have av:= @cz _ _ _ 3 q2 rfl;simp only[aD] at av;have hK:gX E S X.k X.c X.ty ts=(if cu E X.ty=true then eC (Ty.eq (ts.getD 0 aj) b8&&decide (X.ty.dim<8)) ⟨X.ty.dim+1,X.ty.base,X.ty.name⟩ else(aj,72)):=by rw[gX,ai hk]
 rw[hK];generalize hz:ts.getD 0 aj=z
 rw[hz] at av;cases uz:cu E X.ty with
 |false=>
  rw[aa (by decide)];refine enter (cK S E) (bI S E) Tryz.func195 rfl rfl (by kernel_rfl) rfl ?_ ?_
  ·simp only[go_sem,au,Nd.cs]
  ·simp only[go_sem,au,Nd.cs,d14,aR,uz];first |done |exact⟨fM m▸trivial,rfl⟩ |exact rfl
 |true=>
  rw[ai rfl];refine enter (cK S E) (bI S E) Tryz.func195 rfl rfl (by kernel_rfl) rfl ?_ ?_
  ·simp only[go_sem,au,Nd.cs]
  ·simp only[go_sem,au,Nd.cs,d14,aR,uz,r9];refine bX (.hoist 0 (.hoist 1 (.hoist 2 (.hoist 11 (.alt 3 [11,2,1,0] (.hoist 4 (.hoist 5 (.hoist 6 (.hoist 7 (.hoist 8 (.hoist 9 (.hoist 10 (.alt 12 [] (.hoist 13 (.hoist 14 (.alt 15 [] (.hoist 16 .done) .stop))) .stop)))))))) .stop))))) (bI S E) (by kernel_rfl) (by kernel_rfl) ?_;simp only[go_sem,aD,q1,av,dC,b8,r9];first |done |rfl
theorem SR (X:Nd) (ta:Option Addr) (tn tc:Nat) (ts:List Ty) (m:Mem) (hT:Tp m S E ad da dc la lc b a c L) (ht:TsA m ts ta tn tc) (hk:¬X.k=14):
  FnH Tryz.prog 195 [.v (.agg ⟨au ad da dc S la lc⟩),.v (.agg ⟨X.cs⟩),.v (.slice ta tn tc)] ⟨[],[]⟩ m
   fun r H' m' =>ah m m' /\H' =⟨[],[]⟩/\r= .tup [dD (gX E S X.k X.c X.ty ts).1,.v (.int .i64 (gX E S X.k X.c X.ty ts).2)]:=by
 have hC:=hT.ck;have d14:decide (X.k=14)=false:=ab hk
 have hK:gX E S X.k X.c X.ty ts=(match cls E X.c with
  |none=>(aj,72)
  |some d=>if hasB d.fl 1536=true then(aj,73) else(eY X.c,mJ E S X.c ts)):=by rw[gX,aa hk];rfl
 have hN:=I4 X.c ts ta tn tc m hT ht;revert hK hN;generalize gX E S X.k X.c X.ty ts=K
 generalize mJ E S X.c ts=CC
 intro hK hN;unfold au at hN;cases hc:cls E X.c with
 |none=>
  rw[hc] at hK;have hf:=hC.none hc;clear hN;refine enter (cK S E) (bI S E) Tryz.func195 rfl rfl (by kernel_rfl) rfl ?_ ?_
  ·simp only[go_sem,au,Nd.cs]
  ·simp only[go_sem,au,Nd.cs,d14];refine bX (.hoist 0 (.hoist 1 (.hoist 2 (.hoist 3 (.hoist 4 (.hoist 5 (.hoist 6 (.hoist 7 (.hoist 8 (.hoist 9 (.hoist 10 (.alt 11 [10,9,8,7,6,5,4,3,2,1,0] (.alt 12 [10] (.hoist 13 .done) .stop) .stop)))))))))))) (bI S E) (by kernel_rfl) (by kernel_rfl) ?_;simp only[go_sem,bY (j:=0) hC.rd rfl,bY (j:=1) hC.rd rfl,fG hC.rm,iN,Option.map_none,Option.map_some,cn,forall_eq',false_implies,and_true,true_and,eV,hf];rw[hK];first |done |rfl
 |some d=>
  rw[hc] at hK;obtain⟨Y,hY⟩:=hC.some hc;have hf:=hY.1;refine enter (cK S E) (bI S E) Tryz.func195 rfl rfl (by kernel_rfl) rfl ?_ ?_
  ·clear hN;simp only[go_sem,au,Nd.cs]
  ·simp only[go_sem,au,Nd.cs,d14];refine bX (.hoist 0 (.hoist 1 (.hoist 2 (.hoist 3 (.hoist 4 (.hoist 5 (.hoist 6 (.hoist 7 (.hoist 8 (.hoist 9 (.hoist 10 (.alt 11 [10,9,8,7,6,5,4,3,2,1,0] (.alt 12 [10] (.hoist 13 .done) .stop) .stop)))))))))))) (bI S E) (by kernel_rfl) (by kernel_rfl) ?_;simp only[go_sem,bY (j:=0) hC.rd rfl,bY (j:=1) hC.rd rfl,fG hC.rm,iN,Option.map_none,Option.map_some,cn,forall_eq',false_implies,and_true,true_and,eV,hf,Cc.cs];have gS:=hY.2.fl;have hK:K=if hasB d.fl 1536=true then(aj,73) else(eY X.c,CC):=hK
   rw[<- gS] at hK;refine⟨fun h0=> ?_,fun h0=> ?_⟩
   ·rw[hK,ai (by unfold hasB;rw[ab h0];rfl)];first |done |rfl
   ·have hK:=hK.trans (aa (by unfold hasB;rw[aP h0];decide));refine bX (.hoist 0 (.hoist 1 (.hoist 3 (.hoist 4 (.hoist 5 (.hoist 6 (.alt 2 [6,5,4,3] (.alt 7 [] (.alt 8 [] (.hoist 9 .done) .stop) .stop) .stop))))))) (bI S E) (by kernel_rfl) (by kernel_rfl) ?_;simp only[go_sem,aD];refine ak ((aC hN fun V=>rfl).mono ?_);clear hN;rintro r H' m1 aQ ⟨l1,rfl,rfl⟩;have bE:=eq_true l1;simp only[go_sem,aD,bE,and_self];rw[hK];first |done |rfl
end
section
variable {S:Sc} {E:List Cd} {ad:Addr} {da:Option Addr} {dc:Nat} {la:Option Addr} {lc:Nat} {b:Nat} {a:Option Addr} {c:Nat} {L:List Cc}
theorem ql {m:Mem} {x:Value} {t:Ty} (h:Rd m x (aD t)) {K:Value->Prop}:(∃c,Rd m (vr x 0) [c]/\K c)=K (.int .i64 t.dim):=pS h (j:=0) rfl
theorem Wy (X:Nd) (ta:Option Addr) (tn tc:Nat) (ts:List Ty) (m:Mem) (hT:Tp m S E ad da dc la lc b a c L) (ht:TsA m ts ta tn tc) (hk:X.k=6):
  FnH Tryz.prog 104 [.v (.agg ⟨au ad da dc S la lc⟩),.v (.agg ⟨X.cs⟩),.v (.slice ta tn tc)] ⟨[],[]⟩ m
   fun r H' m' =>ah m m' /\H' =⟨[],[]⟩/\r= .tup [dD (bf E S X.k X.s X.c X.ty ts).1,.v (.int .i64 (bf E S X.k X.s X.c X.ty ts).2)]:=by
 have aR:=hT.ck.chk;have hr:=hT.r;have hK:bf E S X.k X.s X.c X.ty ts=fC E S X.k X.s X.c ts:=by rw[bf,ai (by omega)]
 have d6:decide (X.k=6)=true:=aP hk;have d7:decide (X.k=7)=false:=ab (by omega);have d8:decide (X.k=8)=false:=ab (by omega);have d9:decide (X.k=9)=false:=ab (by omega);have d19:decide (X.k=19)=false:=ab (by omega);have d10:decide (X.k=10)=false:=ab (by omega);have d11:decide (X.k=11)=false:=ab (by omega);have d12:decide (X.k=12)=false:=ab (by omega);have d13:decide (X.k=13)=false:=ab (by omega);have d14:decide (X.k=14)=false:=ab (by omega);have d15:decide (X.k=15)=false:=ab (by omega);have d16:decide (X.k=16)=false:=ab (by omega);have d17:decide (X.k=17)=false:=ab (by omega);have d18:decide (X.k=18)=false:=ab (by omega);have d20:decide (X.k=20)=false:=ab (by omega);have d21:decide (X.k=21)=false:=ab (by omega);rw[hK];have hN:=S4 X ta tn tc ts m hT hk;unfold au at hN;revert hN;generalize fC E S X.k X.s X.c ts=K
 intro hN;refine enter (cK S E) (bI S E) Tryz.func104 rfl rfl (by kernel_rfl) rfl ?_ ?_
 ·clear hN;simp only[go_sem,au,Nd.cs]
 ·simp only[go_sem,au,Nd.cs,d6,d7,d8,d9,d19,d10,d11,d12,d13,d14,d15,d16,d17,d18,d20,d21,aR,hr];refine ak ((aC hN fun V=>rfl).mono ?_);clear hN;rintro r H' m1 aQ ⟨rfl,rfl,rfl⟩;simp only[go_sem,fM,and_self]
theorem Wx (X:Nd) (ta:Option Addr) (tn tc:Nat) (ts:List Ty) (m:Mem) (hT:Tp m S E ad da dc la lc b a c L) (ht:TsA m ts ta tn tc) (hk:X.k=7) (h0:0<ts.length):
  FnH Tryz.prog 104 [.v (.agg ⟨au ad da dc S la lc⟩),.v (.agg ⟨X.cs⟩),.v (.slice ta tn tc)] ⟨[],[]⟩ m
   fun r H' m' =>ah m m' /\H' =⟨[],[]⟩/\r= .tup [dD (bf E S X.k X.s X.c X.ty ts).1,.v (.int .i64 (bf E S X.k X.s X.c X.ty ts).2)]:=by
 have aR:=hT.ck.chk;have hr:=hT.r;have hK:bf E S X.k X.s X.c X.ty ts=fC E S X.k X.s X.c ts:=by rw[bf,ai (by omega)]
 have d6:decide (X.k=6)=false:=ab (by omega);have d7:decide (X.k=7)=true:=aP hk;have d8:decide (X.k=8)=false:=ab (by omega);have d9:decide (X.k=9)=false:=ab (by omega);have d19:decide (X.k=19)=false:=ab (by omega);have d10:decide (X.k=10)=false:=ab (by omega);have d11:decide (X.k=11)=false:=ab (by omega);have d12:decide (X.k=12)=false:=ab (by omega);have d13:decide (X.k=13)=false:=ab (by omega);have d14:decide (X.k=14)=false:=ab (by omega);have d15:decide (X.k=15)=false:=ab (by omega);have d16:decide (X.k=16)=false:=ab (by omega);have d17:decide (X.k=17)=false:=ab (by omega);have d18:decide (X.k=18)=false:=ab (by omega);have d20:decide (X.k=20)=false:=ab (by omega);have d21:decide (X.k=21)=false:=ab (by omega);rw[hK];have hN:=JG X ta tn tc ts m hT ht (by omega) (fun _=>h0) (by omega);unfold au at hN;revert hN;generalize fC E S X.k X.s X.c ts=K
 intro hN;refine enter (cK S E) (bI S E) Tryz.func104 rfl rfl (by kernel_rfl) rfl ?_ ?_
 ·clear hN;simp only[go_sem,au,Nd.cs]
 ·simp only[go_sem,au,Nd.cs,d6,d7,d8,d9,d19,d10,d11,d12,d13,d14,d15,d16,d17,d18,d20,d21,aR,hr];refine ak ((aC hN fun V=>rfl).mono ?_);clear hN;rintro r H' m1 aQ ⟨rfl,rfl,rfl⟩;simp only[go_sem,fM,and_self]
theorem Ww (X:Nd) (ta:Option Addr) (tn tc:Nat) (ts:List Ty) (m:Mem) (hT:Tp m S E ad da dc la lc b a c L) (ht:TsA m ts ta tn tc) (hk:X.k=8):
  FnH Tryz.prog 104 [.v (.agg ⟨au ad da dc S la lc⟩),.v (.agg ⟨X.cs⟩),.v (.slice ta tn tc)] ⟨[],[]⟩ m
   fun r H' m' =>ah m m' /\H' =⟨[],[]⟩/\r= .tup [dD (bf E S X.k X.s X.c X.ty ts).1,.v (.int .i64 (bf E S X.k X.s X.c X.ty ts).2)]:=by
 have aR:=hT.ck.chk;have hr:=hT.r;have hK:bf E S X.k X.s X.c X.ty ts=fC E S X.k X.s X.c ts:=by rw[bf,ai (by omega)]
 have d6:decide (X.k=6)=false:=ab (by omega);have d7:decide (X.k=7)=false:=ab (by omega);have d8:decide (X.k=8)=true:=aP hk;have d9:decide (X.k=9)=false:=ab (by omega);have d19:decide (X.k=19)=false:=ab (by omega);have d10:decide (X.k=10)=false:=ab (by omega);have d11:decide (X.k=11)=false:=ab (by omega);have d12:decide (X.k=12)=false:=ab (by omega);have d13:decide (X.k=13)=false:=ab (by omega);have d14:decide (X.k=14)=false:=ab (by omega);have d15:decide (X.k=15)=false:=ab (by omega);have d16:decide (X.k=16)=false:=ab (by omega);have d17:decide (X.k=17)=false:=ab (by omega);have d18:decide (X.k=18)=false:=ab (by omega);have d20:decide (X.k=20)=false:=ab (by omega);have d21:decide (X.k=21)=false:=ab (by omega);rw[hK];have hN:=JG X ta tn tc ts m hT ht (by omega) (fun h=>absurd h (by omega)) (by omega);unfold au at hN;revert hN;generalize fC E S X.k X.s X.c ts=K
 intro hN;refine enter (cK S E) (bI S E) Tryz.func104 rfl rfl (by kernel_rfl) rfl ?_ ?_
 ·clear hN;simp only[go_sem,au,Nd.cs]
 ·simp only[go_sem,au,Nd.cs,d6,d7,d8,d9,d19,d10,d11,d12,d13,d14,d15,d16,d17,d18,d20,d21,aR,hr];refine ak ((aC hN fun V=>rfl).mono ?_);clear hN;rintro r H' m1 aQ ⟨rfl,rfl,rfl⟩;simp only[go_sem,fM,and_self]
theorem Uj (X:Nd) (ta:Option Addr) (tn tc:Nat) (ts:List Ty) (m:Mem) (hT:Tp m S E ad da dc la lc b a c L) (ht:TsA m ts ta tn tc) (hk:X.k=11):
  FnH Tryz.prog 104 [.v (.agg ⟨au ad da dc S la lc⟩),.v (.agg ⟨X.cs⟩),.v (.slice ta tn tc)] ⟨[],[]⟩ m
   fun r H' m' =>ah m m' /\H' =⟨[],[]⟩/\r= .tup [dD (bf E S X.k X.s X.c X.ty ts).1,.v (.int .i64 (bf E S X.k X.s X.c X.ty ts).2)]:=by
 have aR:=hT.ck.chk;have hr:=hT.r;have hK:bf E S X.k X.s X.c X.ty ts=gZ E S X.c X.s true ts:=by rw[bf,aa (by omega),aa (by omega),aa (by omega),aa (by omega),ai (by omega)]
 have d6:decide (X.k=6)=false:=ab (by omega);have d7:decide (X.k=7)=false:=ab (by omega);have d8:decide (X.k=8)=false:=ab (by omega);have d9:decide (X.k=9)=false:=ab (by omega);have d19:decide (X.k=19)=false:=ab (by omega);have d10:decide (X.k=10)=false:=ab (by omega);have d11:decide (X.k=11)=true:=aP hk;have d12:decide (X.k=12)=false:=ab (by omega);have d13:decide (X.k=13)=false:=ab (by omega);have d14:decide (X.k=14)=false:=ab (by omega);have d15:decide (X.k=15)=false:=ab (by omega);have d16:decide (X.k=16)=false:=ab (by omega);have d17:decide (X.k=17)=false:=ab (by omega);have d18:decide (X.k=18)=false:=ab (by omega);have d20:decide (X.k=20)=false:=ab (by omega);have d21:decide (X.k=21)=false:=ab (by omega);rw[hK];have hN:=DI X.c X.s true ts ta tn tc m hT ht;unfold au at hN;revert hN;generalize gZ E S X.c X.s true ts=K
 intro hN;refine enter (cK S E) (bI S E) Tryz.func104 rfl rfl (by kernel_rfl) rfl ?_ ?_
 ·clear hN;simp only[go_sem,au,Nd.cs]
 ·simp only[go_sem,au,Nd.cs,d6,d7,d8,d9,d19,d10,d11,d12,d13,d14,d15,d16,d17,d18,d20,d21,aR,hr];refine ak ((aC hN fun V=>rfl).mono ?_);clear hN;rintro r H' m1 aQ ⟨l1,rfl,rfl⟩;have bE:=eq_true l1;simp only[go_sem,bE,and_self]
theorem Ui (X:Nd) (ta:Option Addr) (tn tc:Nat) (ts:List Ty) (m:Mem) (hT:Tp m S E ad da dc la lc b a c L) (ht:TsA m ts ta tn tc) (hk:X.k=12):
  FnH Tryz.prog 104 [.v (.agg ⟨au ad da dc S la lc⟩),.v (.agg ⟨X.cs⟩),.v (.slice ta tn tc)] ⟨[],[]⟩ m
   fun r H' m' =>ah m m' /\H' =⟨[],[]⟩/\r= .tup [dD (bf E S X.k X.s X.c X.ty ts).1,.v (.int .i64 (bf E S X.k X.s X.c X.ty ts).2)]:=by
 have aR:=hT.ck.chk;have hr:=hT.r;have hK:bf E S X.k X.s X.c X.ty ts=jo E S X.s ts:=by rw[bf,aa (by omega),aa (by omega),aa (by omega),aa (by omega),aa (by omega),ai (by omega)]
 have d6:decide (X.k=6)=false:=ab (by omega);have d7:decide (X.k=7)=false:=ab (by omega);have d8:decide (X.k=8)=false:=ab (by omega);have d9:decide (X.k=9)=false:=ab (by omega);have d19:decide (X.k=19)=false:=ab (by omega);have d10:decide (X.k=10)=false:=ab (by omega);have d11:decide (X.k=11)=false:=ab (by omega);have d12:decide (X.k=12)=true:=aP hk;have d13:decide (X.k=13)=false:=ab (by omega);have d14:decide (X.k=14)=false:=ab (by omega);have d15:decide (X.k=15)=false:=ab (by omega);have d16:decide (X.k=16)=false:=ab (by omega);have d17:decide (X.k=17)=false:=ab (by omega);have d18:decide (X.k=18)=false:=ab (by omega);have d20:decide (X.k=20)=false:=ab (by omega);have d21:decide (X.k=21)=false:=ab (by omega);rw[hK];have hN:=Ox X.s ts ta tn tc m hT ht;unfold au at hN;revert hN;generalize jo E S X.s ts=K
 intro hN;refine enter (cK S E) (bI S E) Tryz.func104 rfl rfl (by kernel_rfl) rfl ?_ ?_
 ·clear hN;simp only[go_sem,au,Nd.cs]
 ·simp only[go_sem,au,Nd.cs,d6,d7,d8,d9,d19,d10,d11,d12,d13,d14,d15,d16,d17,d18,d20,d21,aR,hr];refine ak ((aC hN fun V=>rfl).mono ?_);clear hN;rintro r H' m1 aQ ⟨l1,rfl,rfl⟩;have bE:=eq_true l1;simp only[go_sem,bE,and_self]
theorem Uh (X:Nd) (ta:Option Addr) (tn tc:Nat) (ts:List Ty) (m:Mem) (hT:Tp m S E ad da dc la lc b a c L) (ht:TsA m ts ta tn tc) (hk:X.k=13):
  FnH Tryz.prog 104 [.v (.agg ⟨au ad da dc S la lc⟩),.v (.agg ⟨X.cs⟩),.v (.slice ta tn tc)] ⟨[],[]⟩ m
   fun r H' m' =>ah m m' /\H' =⟨[],[]⟩/\r= .tup [dD (bf E S X.k X.s X.c X.ty ts).1,.v (.int .i64 (bf E S X.k X.s X.c X.ty ts).2)]:=by
 have aR:=hT.ck.chk;have hr:=hT.r;have hK:bf E S X.k X.s X.c X.ty ts=gX E S X.k X.c X.ty ts:=by rw[bf,aa (by omega),aa (by omega),aa (by omega),aa (by omega),aa (by omega),aa (by omega),ai (by omega)]
 have d6:decide (X.k=6)=false:=ab (by omega);have d7:decide (X.k=7)=false:=ab (by omega);have d8:decide (X.k=8)=false:=ab (by omega);have d9:decide (X.k=9)=false:=ab (by omega);have d19:decide (X.k=19)=false:=ab (by omega);have d10:decide (X.k=10)=false:=ab (by omega);have d11:decide (X.k=11)=false:=ab (by omega);have d12:decide (X.k=12)=false:=ab (by omega);have d13:decide (X.k=13)=true:=aP hk;have d14:decide (X.k=14)=false:=ab (by omega);have d15:decide (X.k=15)=false:=ab (by omega);have d16:decide (X.k=16)=false:=ab (by omega);have d17:decide (X.k=17)=false:=ab (by omega);have d18:decide (X.k=18)=false:=ab (by omega);have d20:decide (X.k=20)=false:=ab (by omega);have d21:decide (X.k=21)=false:=ab (by omega);rw[hK];have hN:=SR X ta tn tc ts m hT ht (by omega);unfold au at hN;revert hN;generalize gX E S X.k X.c X.ty ts=K
 intro hN;refine enter (cK S E) (bI S E) Tryz.func104 rfl rfl (by kernel_rfl) rfl ?_ ?_
 ·clear hN;simp only[go_sem,au,Nd.cs]
 ·simp only[go_sem,au,Nd.cs,d6,d7,d8,d9,d19,d10,d11,d12,d13,d14,d15,d16,d17,d18,d20,d21,aR,hr];refine ak ((aC hN fun V=>rfl).mono ?_);clear hN;rintro r H' m1 aQ ⟨l1,rfl,rfl⟩;have bE:=eq_true l1;simp only[go_sem,bE,and_self]
theorem Ug (X:Nd) (ta:Option Addr) (tn tc:Nat) (ts:List Ty) (m:Mem) (hT:Tp m S E ad da dc la lc b a c L) (ht:TsA m ts ta tn tc) (hk:X.k=14) (h0:0<ts.length) (hd: -1000<=X.ty.dim/\X.ty.dim<=1000):
  FnH Tryz.prog 104 [.v (.agg ⟨au ad da dc S la lc⟩),.v (.agg ⟨X.cs⟩),.v (.slice ta tn tc)] ⟨[],[]⟩ m
   fun r H' m' =>ah m m' /\H' =⟨[],[]⟩/\r= .tup [dD (bf E S X.k X.s X.c X.ty ts).1,.v (.int .i64 (bf E S X.k X.s X.c X.ty ts).2)]:=by
 have aR:=hT.ck.chk;have hr:=hT.r;have hK:bf E S X.k X.s X.c X.ty ts=gX E S X.k X.c X.ty ts:=by rw[bf,aa (by omega),aa (by omega),aa (by omega),aa (by omega),aa (by omega),aa (by omega),ai (by omega)]
 have d6:decide (X.k=6)=false:=ab (by omega);have d7:decide (X.k=7)=false:=ab (by omega);have d8:decide (X.k=8)=false:=ab (by omega);have d9:decide (X.k=9)=false:=ab (by omega);have d19:decide (X.k=19)=false:=ab (by omega);have d10:decide (X.k=10)=false:=ab (by omega);have d11:decide (X.k=11)=false:=ab (by omega);have d12:decide (X.k=12)=false:=ab (by omega);have d13:decide (X.k=13)=false:=ab (by omega);have d14:decide (X.k=14)=true:=aP hk;have d15:decide (X.k=15)=false:=ab (by omega);have d16:decide (X.k=16)=false:=ab (by omega);have d17:decide (X.k=17)=false:=ab (by omega);have d18:decide (X.k=18)=false:=ab (by omega);have d20:decide (X.k=20)=false:=ab (by omega);have d21:decide (X.k=21)=false:=ab (by omega);rw[hK];have hN:=Uu X ta tn tc ts m hT ht hk h0 hd;unfold au at hN;revert hN;generalize gX E S X.k X.c X.ty ts=K
 intro hN;refine enter (cK S E) (bI S E) Tryz.func104 rfl rfl (by kernel_rfl) rfl ?_ ?_
 ·clear hN;simp only[go_sem,au,Nd.cs]
 ·simp only[go_sem,au,Nd.cs,d6,d7,d8,d9,d19,d10,d11,d12,d13,d14,d15,d16,d17,d18,d20,d21,aR,hr];refine ak ((aC hN fun V=>rfl).mono ?_);clear hN;rintro r H' m1 aQ ⟨l1,rfl,rfl⟩;have bE:=eq_true l1;simp only[go_sem,bE,and_self]
end
section
variable {S:Sc} {E:List Cd} {ad:Addr} {da:Option Addr} {dc:Nat} {la:Option Addr} {lc:Nat} {b:Nat} {a:Option Addr} {c:Nat} {L:List Cc}
theorem Ub (X:Nd) (ta:Option Addr) (tn tc:Nat) (ts:List Ty) (m:Mem) (hT:Tp m S E ad da dc la lc b a c L) (ht:TsA m ts ta tn tc) (hk:X.k=19) (h0:0<ts.length):
  FnH Tryz.prog 104 [.v (.agg ⟨au ad da dc S la lc⟩),.v (.agg ⟨X.cs⟩),.v (.slice ta tn tc)] ⟨[],[]⟩ m
   fun r H' m' =>ah m m' /\H' =⟨[],[]⟩/\r= .tup [dD (bf E S X.k X.s X.c X.ty ts).1,.v (.int .i64 (bf E S X.k X.s X.c X.ty ts).2)]:=by
 have aR:=hT.ck.chk;have hr:=hT.r;have hK:bf E S X.k X.s X.c X.ty ts=eC (decide (0<(ts.getD 0 aj).dim)) b8:=by rw[bf,aa (by omega),aa (by omega),ai (by omega)]
 have d6:decide (X.k=6)=false:=ab (by omega);have d7:decide (X.k=7)=false:=ab (by omega);have d8:decide (X.k=8)=false:=ab (by omega);have d9:decide (X.k=9)=false:=ab (by omega);have d19:decide (X.k=19)=true:=aP hk;have d10:decide (X.k=10)=false:=ab (by omega);have d11:decide (X.k=11)=false:=ab (by omega);have d12:decide (X.k=12)=false:=ab (by omega);have d13:decide (X.k=13)=false:=ab (by omega);have d14:decide (X.k=14)=false:=ab (by omega);have d15:decide (X.k=15)=false:=ab (by omega);have d16:decide (X.k=16)=false:=ab (by omega);have d17:decide (X.k=17)=false:=ab (by omega);have d18:decide (X.k=18)=false:=ab (by omega);have d20:decide (X.k=20)=false:=ab (by omega);have d21:decide (X.k=21)=false:=ab (by omega);rw[hK];obtain⟨q1,q2⟩:=lq ht h0;have q1:bO ta tn 0=True:=q1;have av:= @cz _ _ _ 3 q2 rfl;simp only[aD] at av;have dG:= @ql _ _ _ q2;have dQ:mI (bc ta 0)=True:=kF q2;have q2:Rd m (bc ta 0) (aD (ts.getD 0 aj)):=q2;revert av dG q2;generalize ts.getD 0 aj=z
 intro av dG q2;refine enter (cK S E) (bI S E) Tryz.func104 rfl rfl (by kernel_rfl) rfl ?_ ?_
 ·simp only[go_sem,au,Nd.cs]
 ·simp only[go_sem,au,Nd.cs,d6,d7,d8,d9,d19,d10,d11,d12,d13,d14,d15,d16,d17,d18,d20,d21,aR,hr];refine bX (.hoist 0 (.hoist 1 (.hoist 2 (.hoist 3 (.hoist 4 (.alt 5 [4,3,2,1,0] (.alt 6 [] (.hoist 7 (.hoist 8 (.alt 9 [] (.hoist 10 .done) .stop))) .stop) .stop)))))) (bI S E) (by kernel_rfl) (by kernel_rfl) ?_;simp only[go_sem,q1,dQ,av,dG,dC,b8,dT,aD,aR,hr,fM,and_self];first |done |rfl
theorem Ua (X:Nd) (ta:Option Addr) (tn tc:Nat) (ts:List Ty) (m:Mem) (hT:Tp m S E ad da dc la lc b a c L) (ht:TsA m ts ta tn tc) (hk:X.k=20) (h0:0<ts.length):
  FnH Tryz.prog 104 [.v (.agg ⟨au ad da dc S la lc⟩),.v (.agg ⟨X.cs⟩),.v (.slice ta tn tc)] ⟨[],[]⟩ m
   fun r H' m' =>ah m m' /\H' =⟨[],[]⟩/\r= .tup [dD (bf E S X.k X.s X.c X.ty ts).1,.v (.int .i64 (bf E S X.k X.s X.c X.ty ts).2)]:=by
 have aR:=hT.ck.chk;have hr:=hT.r;have hK:bf E S X.k X.s X.c X.ty ts=eC (Ty.eq (ts.getD 0 aj) dT) b8:=by rw[bf,aa (by omega),aa (by omega),aa (by omega),aa (by omega),aa (by omega),aa (by omega),aa (by omega),aa (by omega),aa (by omega),aa (by omega),ai (by omega)]
 have d6:decide (X.k=6)=false:=ab (by omega);have d7:decide (X.k=7)=false:=ab (by omega);have d8:decide (X.k=8)=false:=ab (by omega);have d9:decide (X.k=9)=false:=ab (by omega);have d19:decide (X.k=19)=false:=ab (by omega);have d10:decide (X.k=10)=false:=ab (by omega);have d11:decide (X.k=11)=false:=ab (by omega);have d12:decide (X.k=12)=false:=ab (by omega);have d13:decide (X.k=13)=false:=ab (by omega);have d14:decide (X.k=14)=false:=ab (by omega);have d15:decide (X.k=15)=false:=ab (by omega);have d16:decide (X.k=16)=false:=ab (by omega);have d17:decide (X.k=17)=false:=ab (by omega);have d18:decide (X.k=18)=false:=ab (by omega);have d20:decide (X.k=20)=true:=aP hk;have d21:decide (X.k=21)=false:=ab (by omega);rw[hK];obtain⟨q1,q2⟩:=lq ht h0;have q1:bO ta tn 0=True:=q1;have av:= @cz _ _ _ 3 q2 rfl;simp only[aD] at av;have dG:= @ql _ _ _ q2;have dQ:mI (bc ta 0)=True:=kF q2;have q2:Rd m (bc ta 0) (aD (ts.getD 0 aj)):=q2;revert av dG q2;generalize ts.getD 0 aj=z
 intro av dG q2;refine enter (cK S E) (bI S E) Tryz.func104 rfl rfl (by kernel_rfl) rfl ?_ ?_
 ·simp only[go_sem,au,Nd.cs]
 ·simp only[go_sem,au,Nd.cs,d6,d7,d8,d9,d19,d10,d11,d12,d13,d14,d15,d16,d17,d18,d20,d21,aR,hr];refine bX (.hoist 0 (.hoist 1 (.hoist 2 (.alt 3 [2,1,0] (.hoist 4 (.alt 5 [4,2,1,0] (.alt 6 [] (.hoist 7 (.hoist 8 (.alt 9 [] (.hoist 10 .done) .stop))) .stop) .stop)) .stop)))) (bI S E) (by kernel_rfl) (by kernel_rfl) ?_;simp only[go_sem,q1,dQ,av,dG,dC,b8,dT,aD,aR,hr,fM,and_self];first |done |rfl
theorem T9 (X:Nd) (ta:Option Addr) (tn tc:Nat) (ts:List Ty) (m:Mem) (hT:Tp m S E ad da dc la lc b a c L) (ht:TsA m ts ta tn tc) (hk:X.k=21) (h0:0<ts.length):
  FnH Tryz.prog 104 [.v (.agg ⟨au ad da dc S la lc⟩),.v (.agg ⟨X.cs⟩),.v (.slice ta tn tc)] ⟨[],[]⟩ m
   fun r H' m' =>ah m m' /\H' =⟨[],[]⟩/\r= .tup [dD (bf E S X.k X.s X.c X.ty ts).1,.v (.int .i64 (bf E S X.k X.s X.c X.ty ts).2)]:=by
 have aR:=hT.ck.chk;have hr:=hT.r;have hK:bf E S X.k X.s X.c X.ty ts=eC (Ty.eq (ts.getD 0 aj) b8) dT:=by rw[bf,aa (by omega),aa (by omega),aa (by omega),aa (by omega),aa (by omega),aa (by omega),aa (by omega),aa (by omega),aa (by omega),aa (by omega),aa (by omega),ai (by omega)]
 have d6:decide (X.k=6)=false:=ab (by omega);have d7:decide (X.k=7)=false:=ab (by omega);have d8:decide (X.k=8)=false:=ab (by omega);have d9:decide (X.k=9)=false:=ab (by omega);have d19:decide (X.k=19)=false:=ab (by omega);have d10:decide (X.k=10)=false:=ab (by omega);have d11:decide (X.k=11)=false:=ab (by omega);have d12:decide (X.k=12)=false:=ab (by omega);have d13:decide (X.k=13)=false:=ab (by omega);have d14:decide (X.k=14)=false:=ab (by omega);have d15:decide (X.k=15)=false:=ab (by omega);have d16:decide (X.k=16)=false:=ab (by omega);have d17:decide (X.k=17)=false:=ab (by omega);have d18:decide (X.k=18)=false:=ab (by omega);have d20:decide (X.k=20)=false:=ab (by omega);have d21:decide (X.k=21)=true:=aP hk;rw[hK];obtain⟨q1,q2⟩:=lq ht h0;have q1:bO ta tn 0=True:=q1;have av:= @cz _ _ _ 3 q2 rfl;simp only[aD] at av;have dG:= @ql _ _ _ q2;have dQ:mI (bc ta 0)=True:=kF q2;have q2:Rd m (bc ta 0) (aD (ts.getD 0 aj)):=q2;revert av dG q2;generalize ts.getD 0 aj=z
 intro av dG q2;refine enter (cK S E) (bI S E) Tryz.func104 rfl rfl (by kernel_rfl) rfl ?_ ?_
 ·simp only[go_sem,au,Nd.cs]
 ·simp only[go_sem,au,Nd.cs,d6,d7,d8,d9,d19,d10,d11,d12,d13,d14,d15,d16,d17,d18,d20,d21,aR,hr];refine bX (.hoist 0 (.hoist 1 (.hoist 2 (.alt 3 [2,1,0] (.hoist 4 (.alt 5 [4,2,1,0] (.alt 6 [] (.hoist 7 (.hoist 8 (.alt 9 [] (.hoist 10 .done) .stop))) .stop) .stop)) .stop)))) (bI S E) (by kernel_rfl) (by kernel_rfl) ?_;simp only[go_sem,q1,dQ,av,dG,dC,b8,dT,aD,aR,hr,fM,and_self];first |done |rfl
theorem Uf (X:Nd) (ta:Option Addr) (tn tc:Nat) (ts:List Ty) (m:Mem) (hT:Tp m S E ad da dc la lc b a c L) (ht:TsA m ts ta tn tc) (hk:X.k=15) (h0:0<ts.length):
  FnH Tryz.prog 104 [.v (.agg ⟨au ad da dc S la lc⟩),.v (.agg ⟨X.cs⟩),.v (.slice ta tn tc)] ⟨[],[]⟩ m
   fun r H' m' =>ah m m' /\H' =⟨[],[]⟩/\r= .tup [dD (bf E S X.k X.s X.c X.ty ts).1,.v (.int .i64 (bf E S X.k X.s X.c X.ty ts).2)]:=by
 have aR:=hT.ck.chk;have hr:=hT.r;have hK:bf E S X.k X.s X.c X.ty ts=eC (Ty.eq (ts.getD 0 aj) b8||(decide (X.s=[45])&&Ty.eq (ts.getD 0 aj) dT)) (ts.getD 0 aj):=by rw[bf,aa (by omega),aa (by omega),aa (by omega),aa (by omega),aa (by omega),aa (by omega),aa (by omega),ai (by omega)]
 have d6:decide (X.k=6)=false:=ab (by omega);have d7:decide (X.k=7)=false:=ab (by omega);have d8:decide (X.k=8)=false:=ab (by omega);have d9:decide (X.k=9)=false:=ab (by omega);have d19:decide (X.k=19)=false:=ab (by omega);have d10:decide (X.k=10)=false:=ab (by omega);have d11:decide (X.k=11)=false:=ab (by omega);have d12:decide (X.k=12)=false:=ab (by omega);have d13:decide (X.k=13)=false:=ab (by omega);have d14:decide (X.k=14)=false:=ab (by omega);have d15:decide (X.k=15)=true:=aP hk;have d16:decide (X.k=16)=false:=ab (by omega);have d17:decide (X.k=17)=false:=ab (by omega);have d18:decide (X.k=18)=false:=ab (by omega);have d20:decide (X.k=20)=false:=ab (by omega);have d21:decide (X.k=21)=false:=ab (by omega);rw[hK];obtain⟨q1,q2⟩:=lq ht h0;have q1:bO ta tn 0=True:=q1;have av:= @cz _ _ _ 3 q2 rfl;simp only[aD] at av;have dG:= @ql _ _ _ q2;have dQ:mI (bc ta 0)=True:=kF q2;have q2:Rd m (bc ta 0) (aD (ts.getD 0 aj)):=q2;revert av dG q2;generalize ts.getD 0 aj=z
 intro av dG q2;refine enter (cK S E) (bI S E) Tryz.func104 rfl rfl (by kernel_rfl) rfl ?_ ?_
 ·simp only[go_sem,au,Nd.cs]
 ·simp only[go_sem,au,Nd.cs,d6,d7,d8,d9,d19,d10,d11,d12,d13,d14,d15,d16,d17,d18,d20,d21,aR,hr];refine bX (.hoist 0 (.hoist 1 (.hoist 2 (.hoist 17 (.hoist 18 (.hoist 19 (.alt 3 [19,18,17,2,1,0] (.hoist 4 (.hoist 5 (.hoist 6 (.hoist 7 (.hoist 8 (.hoist 9 (.hoist 10 (.hoist 11 (.hoist 12 (.alt 13 [12,11,10,19,18,17] (.hoist 14 (.hoist 15 (.hoist 16 (.alt 20 [] (.hoist 21 (.hoist 22 (.alt 23 [] (.hoist 24 .done) .stop))) .stop)))) .stop)))))))))) .stop))))))) (bI S E) (by kernel_rfl) (by kernel_rfl) ?_;simp only[go_sem,q1,dQ,av,dG,dC,b8,dT,aD,aR,hr,fM,and_self];refine⟨aD z,fun _=>⟨q2,rfl⟩,?_⟩;simp only[go_sem,q1,dQ,av,dG,dC,b8,dT,aD,aR,hr,fM,and_self];first |done |rfl
theorem Ue (X:Nd) (ta:Option Addr) (tn tc:Nat) (ts:List Ty) (m:Mem) (hT:Tp m S E ad da dc la lc b a c L) (ht:TsA m ts ta tn tc) (hk:X.k=16) (h1:1<ts.length):
  FnH Tryz.prog 104 [.v (.agg ⟨au ad da dc S la lc⟩),.v (.agg ⟨X.cs⟩),.v (.slice ta tn tc)] ⟨[],[]⟩ m
   fun r H' m' =>ah m m' /\H' =⟨[],[]⟩/\r= .tup [dD (bf E S X.k X.s X.c X.ty ts).1,.v (.int .i64 (bf E S X.k X.s X.c X.ty ts).2)]:=by
 have aR:=hT.ck.chk;have hr:=hT.r;have hK:bf E S X.k X.s X.c X.ty ts=gw E X.s (ts.getD 0 aj) (ts.getD 1 aj):=by rw[bf,aa (by omega),aa (by omega),aa (by omega),aa (by omega),aa (by omega),aa (by omega),aa (by omega),aa (by omega),ai (by omega)]
 have d6:decide (X.k=6)=false:=ab (by omega);have d7:decide (X.k=7)=false:=ab (by omega);have d8:decide (X.k=8)=false:=ab (by omega);have d9:decide (X.k=9)=false:=ab (by omega);have d19:decide (X.k=19)=false:=ab (by omega);have d10:decide (X.k=10)=false:=ab (by omega);have d11:decide (X.k=11)=false:=ab (by omega);have d12:decide (X.k=12)=false:=ab (by omega);have d13:decide (X.k=13)=false:=ab (by omega);have d14:decide (X.k=14)=false:=ab (by omega);have d15:decide (X.k=15)=false:=ab (by omega);have d16:decide (X.k=16)=true:=aP hk;have d17:decide (X.k=17)=false:=ab (by omega);have d18:decide (X.k=18)=false:=ab (by omega);have d20:decide (X.k=20)=false:=ab (by omega);have d21:decide (X.k=21)=false:=ab (by omega);rw[hK];have h0:0<ts.length:=by omega
 obtain⟨q1,q2⟩:=lq ht h0;have q1:bO ta tn 0=True:=q1;have av:= @cz _ _ _ 3 q2 rfl;simp only[aD] at av;have dG:= @ql _ _ _ q2;have dQ:mI (bc ta 0)=True:=kF q2;have q2:Rd m (bc ta 0) (aD (ts.getD 0 aj)):=q2;obtain⟨q3,q4⟩:=lq ht h1;have q3:bO ta tn 1=True:=q3;have pd:= @cz _ _ _ 3 q4 rfl;simp only[aD] at pd;have hN:=RR X.s (ts.getD 0 aj) (ts.getD 1 aj) m hT;unfold au at hN;revert av dG pd hN;generalize ts.getD 0 aj=z
 generalize ts.getD 1 aj=w
 intro av dG pd hN;refine enter (cK S E) (bI S E) Tryz.func104 rfl rfl (by kernel_rfl) rfl ?_ ?_
 ·clear hN;simp only[go_sem,au,Nd.cs]
 ·simp only[go_sem,au,Nd.cs,d6,d7,d8,d9,d19,d10,d11,d12,d13,d14,d15,d16,d17,d18,d20,d21,aR,hr];refine bX (.hoist 0 (.hoist 1 (.hoist 2 (.hoist 3 (.hoist 4 (.hoist 5 (.hoist 6 (.hoist 7 (.hoist 8 (.alt 9 [] (.hoist 10 (.hoist 11 (.alt 12 [] (.hoist 13 .done) .stop))) .stop)))))))))) (bI S E) (by kernel_rfl) (by kernel_rfl) ?_;simp only[go_sem,q1,q3,av,pd,aD,aR,hr];refine ak ((aC hN fun V=>rfl).mono ?_);clear hN;rintro r H' m1 aQ ⟨rfl,rfl,rfl⟩;simp only[go_sem,fM,and_self];first |done |rfl
theorem Ud (X:Nd) (ta:Option Addr) (tn tc:Nat) (ts:List Ty) (m:Mem) (hT:Tp m S E ad da dc la lc b a c L) (ht:TsA m ts ta tn tc) (hk:X.k=17) (h0:0<ts.length):
  FnH Tryz.prog 104 [.v (.agg ⟨au ad da dc S la lc⟩),.v (.agg ⟨X.cs⟩),.v (.slice ta tn tc)] ⟨[],[]⟩ m
   fun r H' m' =>ah m m' /\H' =⟨[],[]⟩/\r= .tup [dD (bf E S X.k X.s X.c X.ty ts).1,.v (.int .i64 (bf E S X.k X.s X.c X.ty ts).2)]:=by
 have aR:=hT.ck.chk;have hr:=hT.r;have hK:bf E S X.k X.s X.c X.ty ts=kJ E X.k X.ty (ts.getD 0 aj):=by rw[bf,aa (by omega),aa (by omega),aa (by omega),aa (by omega),aa (by omega),aa (by omega),aa (by omega),aa (by omega),aa (by omega),ai (by omega)]
 have d6:decide (X.k=6)=false:=ab (by omega);have d7:decide (X.k=7)=false:=ab (by omega);have d8:decide (X.k=8)=false:=ab (by omega);have d9:decide (X.k=9)=false:=ab (by omega);have d19:decide (X.k=19)=false:=ab (by omega);have d10:decide (X.k=10)=false:=ab (by omega);have d11:decide (X.k=11)=false:=ab (by omega);have d12:decide (X.k=12)=false:=ab (by omega);have d13:decide (X.k=13)=false:=ab (by omega);have d14:decide (X.k=14)=false:=ab (by omega);have d15:decide (X.k=15)=false:=ab (by omega);have d16:decide (X.k=16)=false:=ab (by omega);have d17:decide (X.k=17)=true:=aP hk;have d18:decide (X.k=18)=false:=ab (by omega);have d20:decide (X.k=20)=false:=ab (by omega);have d21:decide (X.k=21)=false:=ab (by omega);rw[hK];obtain⟨q1,q2⟩:=lq ht h0;have q1:bO ta tn 0=True:=q1;have av:= @cz _ _ _ 3 q2 rfl;simp only[aD] at av;have dG:= @ql _ _ _ q2;have dQ:mI (bc ta 0)=True:=kF q2;have q2:Rd m (bc ta 0) (aD (ts.getD 0 aj)):=q2;have hN:=HR X (ts.getD 0 aj) m hT;unfold au at hN;revert av dG hN;generalize ts.getD 0 aj=z
 intro av dG hN;refine enter (cK S E) (bI S E) Tryz.func104 rfl rfl (by kernel_rfl) rfl ?_ ?_
 ·clear hN;simp only[go_sem,au,Nd.cs]
 ·simp only[go_sem,au,Nd.cs,d6,d7,d8,d9,d19,d10,d11,d12,d13,d14,d15,d16,d17,d18,d20,d21,aR,hr];refine bX (.hoist 0 (.hoist 1 (.hoist 2 (.hoist 3 (.hoist 4 (.alt 5 [] (.hoist 6 (.hoist 7 (.alt 8 [] (.hoist 9 .done) .stop))) .stop)))))) (bI S E) (by kernel_rfl) (by kernel_rfl) ?_;simp only[go_sem,q1,av,aD,aR,hr];refine ak ((aC hN fun V=>rfl).mono ?_);clear hN;rintro r H' m1 aQ ⟨rfl,rfl,rfl⟩;simp only[go_sem,fM,and_self];first |done |rfl
theorem Uc (X:Nd) (ta:Option Addr) (tn tc:Nat) (ts:List Ty) (m:Mem) (hT:Tp m S E ad da dc la lc b a c L) (ht:TsA m ts ta tn tc) (hk:X.k=18) (h0:0<ts.length):
  FnH Tryz.prog 104 [.v (.agg ⟨au ad da dc S la lc⟩),.v (.agg ⟨X.cs⟩),.v (.slice ta tn tc)] ⟨[],[]⟩ m
   fun r H' m' =>ah m m' /\H' =⟨[],[]⟩/\r= .tup [dD (bf E S X.k X.s X.c X.ty ts).1,.v (.int .i64 (bf E S X.k X.s X.c X.ty ts).2)]:=by
 have aR:=hT.ck.chk;have hr:=hT.r;have hK:bf E S X.k X.s X.c X.ty ts=kJ E X.k X.ty (ts.getD 0 aj):=by rw[bf,aa (by omega),aa (by omega),aa (by omega),aa (by omega),aa (by omega),aa (by omega),aa (by omega),aa (by omega),aa (by omega),ai (by omega)]
 have d6:decide (X.k=6)=false:=ab (by omega);have d7:decide (X.k=7)=false:=ab (by omega);have d8:decide (X.k=8)=false:=ab (by omega);have d9:decide (X.k=9)=false:=ab (by omega);have d19:decide (X.k=19)=false:=ab (by omega);have d10:decide (X.k=10)=false:=ab (by omega);have d11:decide (X.k=11)=false:=ab (by omega);have d12:decide (X.k=12)=false:=ab (by omega);have d13:decide (X.k=13)=false:=ab (by omega);have d14:decide (X.k=14)=false:=ab (by omega);have d15:decide (X.k=15)=false:=ab (by omega);have d16:decide (X.k=16)=false:=ab (by omega);have d17:decide (X.k=17)=false:=ab (by omega);have d18:decide (X.k=18)=true:=aP hk;have d20:decide (X.k=20)=false:=ab (by omega);have d21:decide (X.k=21)=false:=ab (by omega);rw[hK];obtain⟨q1,q2⟩:=lq ht h0;have q1:bO ta tn 0=True:=q1;have av:= @cz _ _ _ 3 q2 rfl;simp only[aD] at av;have dG:= @ql _ _ _ q2;have dQ:mI (bc ta 0)=True:=kF q2;have q2:Rd m (bc ta 0) (aD (ts.getD 0 aj)):=q2;have hN:=HR X (ts.getD 0 aj) m hT;unfold au at hN;revert av dG hN;generalize ts.getD 0 aj=z
 intro av dG hN;refine enter (cK S E) (bI S E) Tryz.func104 rfl rfl (by kernel_rfl) rfl ?_ ?_
 ·clear hN;simp only[go_sem,au,Nd.cs]
 ·simp only[go_sem,au,Nd.cs,d6,d7,d8,d9,d19,d10,d11,d12,d13,d14,d15,d16,d17,d18,d20,d21,aR,hr];refine bX (.hoist 0 (.hoist 1 (.hoist 2 (.hoist 3 (.hoist 4 (.alt 5 [] (.hoist 6 (.hoist 7 (.alt 8 [] (.hoist 9 .done) .stop))) .stop)))))) (bI S E) (by kernel_rfl) (by kernel_rfl) ?_;simp only[go_sem,q1,av,aD,aR,hr];refine ak ((aC hN fun V=>rfl).mono ?_);clear hN;rintro r H' m1 aQ ⟨rfl,rfl,rfl⟩;simp only[go_sem,fM,and_self];first |done |rfl
end
theorem PT {m:Mem} {a:Option Addr} {n c sz:Nat} {xs:List Value} (h:ax m a n sz xs) {l:Nat} (hl:l<=n) (hc:n<=c):ax m (if c=l then a else a.map (·.add (l * sz))) (n - l) sz (xs.drop (l * sz)):=by
 refine⟨by rw[gh,h.1,Nat.sub_mul],fun h0=> ?_⟩;rw[aa (by omega)];obtain⟨ad,rfl,hs,bW⟩:=h.2 (by omega);obtain⟨e1,e2,e3⟩:=kD ad (l * sz) hs;have hm:(n - l) * sz=n * sz - l * sz:=Nat.sub_mul ..;have aJ:l * sz<=n * sz:=Nat.mul_le_mul_right _ hl;refine⟨ad.add (l * sz),rfl,e3,fun j hj=> ?_⟩;obtain⟨q1,q2⟩:=bW (l * sz+j) (by omega);have zC:(ad.add (l * sz)).add j=ad.add (l * sz+j):=Addr.add_add ad (l * sz) j;rw[zC,q1,List.getElem?_drop];refine⟨rfl,?_⟩;rw[e1,e2];omega
theorem TsA.tail {m:Mem} {ts:List Ty} {ta:Option Addr} {tn tc:Nat} (h:TsA m ts ta tn tc) (h0:0<ts.length):TsA m ts.tail (if tc=1 then ta else ta.map (·.add (1 * 3))) (tn - 1) (tc - 1):=by
 refine⟨by rw[List.length_tail,h.n],by have:=h.c;omega,?_⟩;have hr:=PT h.rd (l:=1) (by have:=h.n;omega) h.c;cases ts with
 |nil=>cases h0
 |cons t r=>
  have e:(flat aD (t::r)).drop (1 * 3)=flat aD r:=rfl;rw[e] at hr;exact hr
section
variable {S:Sc} {E:List Cd} {ad:Addr} {da:Option Addr} {dc:Nat} {la:Option Addr} {lc:Nat} {b:Nat} {a:Option Addr} {c:Nat} {L:List Cc}
theorem Wv (X:Nd) (ta:Option Addr) (tn tc:Nat) (ts:List Ty) (m:Mem) (hT:Tp m S E ad da dc la lc b a c L) (ht:TsA m ts ta tn tc) (hk:X.k=9) (h1:1<ts.length) (r9:aB ((ts.getD 0 aj).dim - 1)=True):
  FnH Tryz.prog 104 [.v (.agg ⟨au ad da dc S la lc⟩),.v (.agg ⟨X.cs⟩),.v (.slice ta tn tc)] ⟨[],[]⟩ m
   fun r H' m' =>ah m m' /\H' =⟨[],[]⟩/\r= .tup [dD (bf E S X.k X.s X.c X.ty ts).1,.v (.int .i64 (bf E S X.k X.s X.c X.ty ts).2)]:=by
 have aR:=hT.ck.chk;have hr:=hT.r;have hK:bf E S X.k X.s X.c X.ty ts=eC (decide (0<(ts.getD 0 aj).dim)&&Ty.eq (ts.getD 1 aj) b8) ⟨(ts.getD 0 aj).dim - 1,(ts.getD 0 aj).base,(ts.getD 0 aj).name⟩:=by rw[bf,aa (by omega),ai (by omega)]
 have d6:decide (X.k=6)=false:=ab (by omega);have d7:decide (X.k=7)=false:=ab (by omega);have d8:decide (X.k=8)=false:=ab (by omega);have d9:decide (X.k=9)=true:=aP hk;have d19:decide (X.k=19)=false:=ab (by omega);have d10:decide (X.k=10)=false:=ab (by omega);have d11:decide (X.k=11)=false:=ab (by omega);have d12:decide (X.k=12)=false:=ab (by omega);have d13:decide (X.k=13)=false:=ab (by omega);have d14:decide (X.k=14)=false:=ab (by omega);have d15:decide (X.k=15)=false:=ab (by omega);have d16:decide (X.k=16)=false:=ab (by omega);have d17:decide (X.k=17)=false:=ab (by omega);have d18:decide (X.k=18)=false:=ab (by omega);have d20:decide (X.k=20)=false:=ab (by omega);have d21:decide (X.k=21)=false:=ab (by omega);rw[hK];have h0:0<ts.length:=by omega
 obtain⟨q1,q2⟩:=lq ht h0;have q1:bO ta tn 0=True:=q1;have av:= @cz _ _ _ 3 q2 rfl;simp only[aD] at av;have dG:= @ql _ _ _ q2;have dQ:mI (bc ta 0)=True:=kF q2;have q2:Rd m (bc ta 0) (aD (ts.getD 0 aj)):=q2;obtain⟨q3,q4⟩:=lq ht h1;have q3:bO ta tn 1=True:=q3;have pd:= @cz _ _ _ 3 q4 rfl;simp only[aD] at pd;have q4:Rd m (bc ta 3) (aD (ts.getD 1 aj)):=q4;revert av dG pd q2 q4 r9;generalize ts.getD 0 aj=z
 generalize ts.getD 1 aj=w
 intro r9 av dG q2 pd q4;refine enter (cK S E) (bI S E) Tryz.func104 rfl rfl (by kernel_rfl) rfl ?_ ?_
 ·simp only[go_sem,au,Nd.cs]
 ·simp only[go_sem,au,Nd.cs,d6,d7,d8,d9,d19,d10,d11,d12,d13,d14,d15,d16,d17,d18,d20,d21,aR,hr];simp only[go_sem,q1,dQ,av,dG,r9,aD];refine bX (.hoist 0 (.hoist 1 (.hoist 2 (.hoist 3 (.hoist 4 (.hoist 5 (.hoist 6 (.hoist 7 (.hoist 8 (.hoist 12 (.alt 9 [12,8,7,6] (.hoist 10 (.hoist 11 (.alt 13 [] (.hoist 14 (.hoist 15 (.alt 16 [] (.hoist 17 .done) .stop))) .stop))) .stop))))))))))) (bI S E) (by kernel_rfl) (by kernel_rfl) ?_;simp only[go_sem,q1,q3,dQ,av,dG,pd,r9,dC,b8,dT,aD,aR,hr,fM,and_self];refine⟨aD w,fun _=>⟨q4,rfl⟩,?_⟩;simp only[go_sem,q1,q3,dQ,av,dG,pd,r9,dC,b8,dT,aD,aR,hr,fM,and_self];first |done |rfl
theorem Uk (X:Nd) (ta:Option Addr) (tn tc:Nat) (ts:List Ty) (m:Mem) (hT:Tp m S E ad da dc la lc b a c L) (ht:TsA m ts ta tn tc) (hk:X.k=10) (h0:0<ts.length):
  FnH Tryz.prog 104 [.v (.agg ⟨au ad da dc S la lc⟩),.v (.agg ⟨X.cs⟩),.v (.slice ta tn tc)] ⟨[],[]⟩ m
   fun r H' m' =>ah m m' /\H' =⟨[],[]⟩/\r= .tup [dD (bf E S X.k X.s X.c X.ty ts).1,.v (.int .i64 (bf E S X.k X.s X.c X.ty ts).2)]:=by
 have aR:=hT.ck.chk;have hr:=hT.r;have hK:bf E S X.k X.s X.c X.ty ts=(if eM (ts.getD 0 aj)=true then gZ E S (o7 (ts.getD 0 aj)) X.s false ts.tail else(aj,73)):=by rw[bf,aa (by omega),aa (by omega),aa (by omega),ai (by omega)]
 have d6:decide (X.k=6)=false:=ab (by omega);have d7:decide (X.k=7)=false:=ab (by omega);have d8:decide (X.k=8)=false:=ab (by omega);have d9:decide (X.k=9)=false:=ab (by omega);have d19:decide (X.k=19)=false:=ab (by omega);have d10:decide (X.k=10)=true:=aP hk;have d11:decide (X.k=11)=false:=ab (by omega);have d12:decide (X.k=12)=false:=ab (by omega);have d13:decide (X.k=13)=false:=ab (by omega);have d14:decide (X.k=14)=false:=ab (by omega);have d15:decide (X.k=15)=false:=ab (by omega);have d16:decide (X.k=16)=false:=ab (by omega);have d17:decide (X.k=17)=false:=ab (by omega);have d18:decide (X.k=18)=false:=ab (by omega);have d20:decide (X.k=20)=false:=ab (by omega);have d21:decide (X.k=21)=false:=ab (by omega);rw[hK];obtain⟨q1,q2⟩:=lq ht h0;have q1:bO ta tn 0=True:=q1;have av:= @cz _ _ _ 3 q2 rfl;simp only[aD] at av;have dG:= @ql _ _ _ q2;have dQ:mI (bc ta 0)=True:=kF q2;have q2:Rd m (bc ta 0) (aD (ts.getD 0 aj)):=q2;have hN:=DI (o7 (ts.getD 0 aj)) X.s false ts.tail _ _ _ m hT (ht.tail h0);have eH:((1:Int)<=tn)=True:=eq_true (by have:=ht.n;omega);have htc:=ht.c;unfold au at hN;revert av dG hN q2;generalize ts.getD 0 aj=z
 generalize ts.tail=tt
 intro av dG q2 hN;refine enter (cK S E) (bI S E) Tryz.func104 rfl rfl (by kernel_rfl) rfl ?_ ?_
 ·clear hN;simp only[go_sem,au,Nd.cs]
 ·simp only[go_sem,au,Nd.cs,d6,d7,d8,d9,d19,d10,d11,d12,d13,d14,d15,d16,d17,d18,d20,d21,aR,hr];simp only[go_sem,q1,av,aD,aR,hr];refine⟨fun h=> ?_,fun h=> ?_⟩
  ·rw[aa (by rw[h];decide)];first |done |rfl
  ·rw[ai h];refine bX (.hoist 0 (.hoist 1 (.hoist 2 (.hoist 3 (.hoist 5 (.hoist 6 (.hoist 7 (.hoist 8 (.alt 4 [8,7,6,5,0] (.alt 9 [] (.hoist 10 (.hoist 11 (.alt 12 [] (.hoist 13 .done) .stop))) .stop) .stop))))))))) (bI S E) (by kernel_rfl) (by kernel_rfl) ?_;simp only[go_sem,q1,av,aD,aR,hr,eH];refine⟨⟨by omega,by omega⟩,by kernel_rfl,bF ((aC hN fun V=>rfl).mono ?_)⟩;clear hN;rintro r H' m1 aQ ⟨l1,rfl,rfl⟩;have bE:=eq_true l1;simp only[go_sem,bE,and_self];first |done |rfl
theorem xy (X:Nd) (ta:Option Addr) (tn tc:Nat) (ts:List Ty) (m:Mem) (hT:Tp m S E ad da dc la lc b a c L) (ht:TsA m ts ta tn tc) (hk:X.k<=5):
  FnH Tryz.prog 104 [.v (.agg ⟨au ad da dc S la lc⟩),.v (.agg ⟨X.cs⟩),.v (.slice ta tn tc)] ⟨[],[]⟩ m
   fun r H' m' =>ah m m' /\H' =⟨[],[]⟩/\r= .tup [dD (bf E S X.k X.s X.c X.ty ts).1,.v (.int .i64 (bf E S X.k X.s X.c X.ty ts).2)]:=by
 have aR:=hT.ck.chk;have hr:=hT.r;have hK:bf E S X.k X.s X.c X.ty ts=jW S X.k:=by rw[bf,aa (by omega),aa (by omega),aa (by omega),aa (by omega),aa (by omega),aa (by omega),aa (by omega),aa (by omega),aa (by omega),aa (by omega),aa (by omega),aa (by omega)]
 have d6:decide (X.k=6)=false:=ab (by omega);have d7:decide (X.k=7)=false:=ab (by omega);have d8:decide (X.k=8)=false:=ab (by omega);have d9:decide (X.k=9)=false:=ab (by omega);have d19:decide (X.k=19)=false:=ab (by omega);have d10:decide (X.k=10)=false:=ab (by omega);have d11:decide (X.k=11)=false:=ab (by omega);have d12:decide (X.k=12)=false:=ab (by omega);have d13:decide (X.k=13)=false:=ab (by omega);have d14:decide (X.k=14)=false:=ab (by omega);have d15:decide (X.k=15)=false:=ab (by omega);have d16:decide (X.k=16)=false:=ab (by omega);have d17:decide (X.k=17)=false:=ab (by omega);have d18:decide (X.k=18)=false:=ab (by omega);have d20:decide (X.k=20)=false:=ab (by omega);have d21:decide (X.k=21)=false:=ab (by omega);rw[hK];have hN:=Q0 X m hT;unfold au at hN;revert hN;generalize jW S X.k=K
 intro hN;refine enter (cK S E) (bI S E) Tryz.func104 rfl rfl (by kernel_rfl) rfl ?_ ?_
 ·clear hN;simp only[go_sem,au,Nd.cs]
 ·simp only[go_sem,au,Nd.cs,d6,d7,d8,d9,d19,d10,d11,d12,d13,d14,d15,d16,d17,d18,d20,d21,aR,hr];refine ak ((aC hN fun V=>rfl).mono ?_);clear hN;rintro r H' m1 aQ ⟨rfl,rfl,rfl⟩;simp only[go_sem,fM,and_self];first |done |rfl
end
def dH (t:Ty):Prop:= -9223372036854775808<t.dim/\t.dim<=9223372036854775807
def dr (E:List Cd):Prop:=∀d∈E,(∀f∈d.fields,dH f.ty)/\∀m∈d.methods,dH m.res
def dO (l:List Pc):Prop:=∀p∈l,dH p.ty
theorem gv:dH aj:=⟨by decide,by decide⟩
theorem EY (s:Nm):dH (eY s):=⟨(by decide:(-9223372036854775808:Int)<0),(by decide:(0:Int)<=9223372036854775807)⟩
theorem tU:dH b8:=⟨by decide,by decide⟩
theorem Lw:dH dT:=⟨by decide,by decide⟩
theorem dn {p:Prop} [Decidable p] {a b:TR} (ha:p->dH a.1) (hb:¬p->dH b.1):dH (if p then a else b).1:=by
 split
 ·rename_i h;exact ha h
 ·rename_i h;exact hb h
theorem od {ok:Bool} {t:Ty} (h:ok=true->dH t):dH (eC ok t).1:=by
 unfold eC;exact dn h fun _=>gv
theorem Kc {E:List Cd} (hE:dr E) (s:Nm):(∀f∈(cd E s).fields,dH f.ty)/\∀m∈(cd E s).methods,dH m.res:=by
 unfold cd;cases h:cls E s with
 |none=>exact⟨(fun f hf=>nomatch hf),(fun m hm=>nomatch hm)⟩
 |some d=>exact hE d (List.mem_of_find?_eq_some h)
theorem QT {E:List Cd} (hE:dr E) {s n:Nm} {k:Int} {o:Nm} {d:Md} (h:fi E s n k=some (o,d)):dH d.res:=by
 have hf:∀(l:List Nm) (x:Nm×Md),eA E l n k=some x->dH x.2.res:=fun l x hx=>by
  unfold eA at hx;obtain⟨c,hc,e⟩:=List.exists_of_findSome?_eq_some hx;obtain⟨m,h1,h2⟩:=Option.map_eq_some_iff.1 e;subst h2;exact(Kc hE c).2 _ (List.mem_of_find?_eq_some h1)
 unfold fi at h;split at h
 ·exact hf _ _ h
 ·split at h
  ·rename_i x hx;cases h;exact hf _ _ hx
  ·exact hf _ _ h
section
variable {E:List Cd} {S:Sc}
theorem AD (hE:dr E) (s n:Nm) (st:Bool) (ts:List Ty):dH (gZ E S s n st ts).1:=by
 unfold gZ;split
 ·exact gv
 ·rename_i o m h;exact dn (fun _=>gv) fun _=>dn (fun _=>QT hE h) fun _=>gv
theorem Oy (hE:dr E) (n:Nm) (ts:List Ty):dH (jo E S n ts).1:=by
 unfold jo;refine dn (fun _=>gv) fun _=> ?_
 split
 ·exact gv
 ·refine dn (fun _=>gv) fun _=>dn (fun _=>AD hE ..) fun _=> ?_
  split
  ·exact dn (fun _=>AD hE ..) fun _=>gv
  ·exact gv
theorem JX (hE:dr E) (st:Bool) (c s:Nm):dH (lL E S st c s).1:=by
 unfold lL;split
 ·exact gv
 ·rename_i o f h;refine dn (fun _=>gv) fun _=> ?_
  unfold fk at h;obtain⟨c',hc,e⟩:=List.exists_of_findSome?_eq_some h;obtain⟨m,h1,h2⟩:=Option.map_eq_some_iff.1 e;cases h2;exact(Kc hE _).1 _ (List.mem_of_find?_eq_some h1)
theorem IP {ts:List Ty} (h:∀t∈ts,dH t) (i:Nat):dH (ts.getD i aj):=by
 rw[List.getD_eq_getElem?_getD];cases e:ts[i]? with
 |none=>exact gv
 |some t=>exact h t (List.mem_of_getElem? e)
theorem RJ (hE:dr E) (hS:dO S.loc) {k:Int} {s c:Nm} {ty:Ty} {ts:List Ty} (dw:dH ty) (ht:∀t∈ts,dH t):dH (bf E S k s c ty ts).1:=by
 have h0:=IP ht 0;unfold bf;refine dn (fun _=> ?_) fun _=>dn (fun _=>od fun h=> ?_) fun _=>dn (fun _=>od fun _=>tU) fun _=>dn (fun _=>dn (fun _=>AD hE ..) fun _=>gv) fun _=>dn (fun _=>AD hE ..) fun _=>dn (fun _=>Oy hE ..) fun _=>dn (fun _=> ?_) fun _=>dn (fun _=>od fun _=>h0) fun _=>dn (fun _=> ?_) fun _=>dn (fun _=> ?_) fun _=>dn (fun _=>od fun _=>tU) fun _=>dn (fun _=>od fun _=>Lw) fun _=> ?_
 ·unfold fC;refine dn (fun _=> ?_) fun _=>dn (fun _=>dn (fun _=>JX hE ..) fun _=>gv) fun _=>JX hE ..
  split
  ·rename_i p h;exact hS _ (List.mem_of_find?_eq_some h)
  ·exact gv
 ·simp only[bw,cS] at h;exact⟨by dsimp only;omega,by have:=h0.2;dsimp only;omega⟩
 ·unfold gX;refine dn (fun _=>dn (fun _=>od fun h=> ?_) fun _=>gv) fun _=> ?_
  ·simp only[bw,cS] at h;exact⟨by have:=dw.1;dsimp only;omega,by dsimp only;omega⟩
  ·split
   ·exact gv
   ·exact dn (fun _=>gv) fun _=>EY _
 ·unfold gw;exact dn (fun _=>od fun _=>h0) fun _=>dn (fun _=>od fun _=>tU) fun _=>dn (fun _=>od fun _=>tU) fun _=>od fun _=>tU
 ·unfold kJ;refine dn (fun _=>od fun _=> ?_) fun _=>gv
  split
  ·exact tU
  ·exact dw
 ·unfold jW;exact dn (fun _=>tU) fun _=>dn (fun _=>Lw) fun _=>dn (fun _=>EY _) fun _=>dn (fun _=>⟨by decide,by decide⟩) fun _=>dn (fun _=>gv) fun _=>EY _
end
theorem ID {k n:Int} {s c:Nm} {ty:Ty} {l:Nat} (h:qb k n s c ty.dim ty.base ty.name l=true):0<=ty.dim/\ty.dim<=8:=by
 unfold qb at h;simp only[bw] at h;have h2:=h.2;split at h2
 ·simp only[bw] at h2;have h3:=h2.1;unfold iK pN at h3;simp only[bw] at h3;have h4:=h3.1.1;split at h4
  ·cases h4
  ·omega
 ·simp only[bw,cS] at h2;omega
section
variable {S:Sc} {E:List Cd} {ad:Addr} {da:Option Addr} {dc:Nat} {la:Option Addr} {lc:Nat} {b:Nat} {a:Option Addr} {c:Nat} {L:List Cc}
theorem RI (X:Nd) (ta:Option Addr) (tn tc:Nat) (ts:List Ty) (m:Mem) (hT:Tp m S E ad da dc la lc b a c L) (ht:TsA m ts ta tn tc) (hv:qb X.k X.n X.s X.c X.ty.dim X.ty.base X.ty.name ts.length=true) (hd:∀t∈ts,dH t):
  FnH Tryz.prog 104 [.v (.agg ⟨au ad da dc S la lc⟩),.v (.agg ⟨X.cs⟩),.v (.slice ta tn tc)] ⟨[],[]⟩ m
   fun r H' m' =>ah m m' /\H' =⟨[],[]⟩/\r= .tup [dD (bf E S X.k X.s X.c X.ty ts).1,.v (.int .i64 (bf E S X.k X.s X.c X.ty ts).2)]:=by
 have hdm:=ID hv;have h0:=IP hd 0;have hi:aB ((ts.getD 0 aj).dim - 1)=True:=eq_true ⟨by have:=h0.1;omega,by have:=h0.2;omega⟩;unfold qb at hv;simp only[bw,cS] at hv;have hk:=kinds hv.1.1.1.1.1;have hlo:=hv.1.1.1.1.2;clear hv;have hs:∀k:Int,X.k=k->(kg k).2.2.2.1<=(ts.length:Int):=fun k e=>by rw[<- e];exact hlo
 rcases hk with h |h |h |h |h |h |h |h |h |h |h |h |h |h |h |h |h |h |h |h |h<;>have hq:=hs _ h<;>simp only[kg,reduceIte,Int.reduceEq,or_false,or_true,false_or,true_or,or_self] at hq
 ·exact xy X ta tn tc ts m hT ht (by omega)
 ·exact xy X ta tn tc ts m hT ht (by omega)
 ·exact xy X ta tn tc ts m hT ht (by omega)
 ·exact xy X ta tn tc ts m hT ht (by omega)
 ·exact xy X ta tn tc ts m hT ht (by omega)
 ·exact Wy X ta tn tc ts m hT ht h
 ·exact Wx X ta tn tc ts m hT ht h (by omega)
 ·exact Ww X ta tn tc ts m hT ht h
 ·exact Wv X ta tn tc ts m hT ht h (by omega) hi
 ·exact Uk X ta tn tc ts m hT ht h (by omega)
 ·exact Uj X ta tn tc ts m hT ht h
 ·exact Ui X ta tn tc ts m hT ht h
 ·exact Uh X ta tn tc ts m hT ht h
 ·exact Ug X ta tn tc ts m hT ht h (by omega) (by omega)
 ·exact Uf X ta tn tc ts m hT ht h (by omega)
 ·exact Ue X ta tn tc ts m hT ht h (by omega)
 ·exact Ud X ta tn tc ts m hT ht h (by omega)
 ·exact Uc X ta tn tc ts m hT ht h (by omega)
 ·exact Ub X ta tn tc ts m hT ht h (by omega)
 ·exact Ua X ta tn tc ts m hT ht h (by omega)
 ·exact T9 X ta tn tc ts m hT ht h (by omega)
end
theorem U5 {n b:Nat} (hn:n<=2000002) (hb:b<=1000):room n b:=by
 have:n * b<=2000002 * 1000:=Nat.mul_le_mul hn hb;exact⟨by omega,by unfold maxLen;omega⟩
theorem lr (m:Mem) (z:Nat):ax m none 0 z []:=⟨by simp,fun h=>absurd h (by decide)⟩
theorem QI {R' :SV->Hp->Mem->Prop} {bx:List Bx} {vc:List Vc} {m' :Mem} {k u:Nat} {x:Value} {b:Vc} (hb:cq vc k u=some b)
  (h:∀(a:Option Addr) (c:Nat) (m1:Mem),m'.le m1->b.n<=c->ax m1 a b.n b.sz b.xs->R' (.tup [.v (.slice a b.n c),.v x]) ⟨[],[]⟩ m1):sn R' (.tup [.vec k u,.v x]) ⟨bx,vc⟩ m' :=
 .inr ⟨fun z=> .tup [z,.v x],k,u,b,⟨[],[]⟩,hb,rfl,fun V v e=>by subst e;rfl,List.nil_sublist _,List.nil_sublist _,h⟩
theorem TW {m:Mem} {l:List Ex} {xs:List Value} {a:Option Addr} {n:Nat} (hr:ax m a n 8 xs) (hn:n=l.length) (cF:dB m l xs) {i:Nat} (hi:i<l.length):∃X:Nd,Rd m (bc a (i * 8)) X.cs/\a≠none/\aW m l[i] X.cs:=by
 have hc:=dK hr (by omega:i<n);have he:=tk cF hi;obtain⟨X,hX⟩:=ri he;rw[hX] at hc he;exact⟨X,hc.1,hc.2,he⟩
def Cp (m:Mem) (x:TR) (r:SV) (H' :Hp) (m' :Mem):Prop:=ah m m' /\H' =⟨[],[]⟩/\r= .tup [dD x.1,.v (.int .i64 x.2)]
def LF (m:Mem) (x:List Ty×Int) (r:SV) (H' :Hp) (m' :Mem):Prop:=ah m m' /\H' =⟨[],[]⟩/\∃a c,TsA m' x.1 a x.1.length c/\r= .tup [.v (.slice a x.1.length c),.v (.int .i64 x.2)]
section
variable {S:Sc} {E:List Cd} {ad:Addr} {da:Option Addr} {dc:Nat} {la:Option Addr} {lc:Nat} {b:Nat} {a:Option Addr} {c:Nat} {L:List Cc}
theorem Jx (l:List Ex) (xs:List Value) (ea:Option Addr) (n cp:Nat) (m:Mem) (hT:Tp m S E ad da dc la lc b a c L) (hr:ax m ea n 8 xs) (hn:n=l.length) (hb:n<=aw) (cF:dB m l xs)
  (hI:∀e∈l,∀cs m',ah m m' ->aW m' e cs->FnH Tryz.prog 53 [.v (.agg ⟨au ad da dc S la lc⟩),.v (.agg ⟨cs⟩)] ⟨[],[]⟩ m' (Cp m' (bJ E S e))):
  FnH Tryz.prog 103 [.v (.agg ⟨au ad da dc S la lc⟩),.v (.slice ea n cp)] ⟨[],[]⟩ m (LF m (bS E S l)):=by
 refine nL ?_;have qT:(if(bS E S (l.drop 0)).2=0 then(([]:List Ty)++(bS E S (l.drop 0)).1,(0:Int)) else([],(bS E S (l.drop 0)).2))=bS E S l:=by
  rw[List.drop_zero];split
  ·rename_i h;rw[List.nil_append,<- h]
  ·cases l with
   |nil=>rfl
   |cons e r=>
    rw[bS] at *;split
    ·split
     ·rename_i h1 h2 h3;rw[ai h2,ai h3] at h1;exact absurd rfl h1
     ·rfl
    ·rfl
 revert qT;generalize bS E S l=K
 intro qT;refine enter bj aq Tryz.func103 rfl rfl (by kernel_rfl) rfl ?_ ?_
 ·clear hI;simp only[go_sem,au]
 ·unfold au at hI;simp only[go_sem,au];refine xA 6 35 3 (by decide) rfl ?_;simp only[go_sem];refine ct aq (fun y:Nat×List Ty×Mem=>⟨[⟨6,[],.vec 1 y.2.1.length⟩,⟨13,[],.v (.int .i64 y.1)⟩,⟨12,[],.v (.int .i64 n)⟩,⟨11,[],.v (.slice ea n cp)⟩,⟨2,[],.box 0 0⟩],[],[⟨0,87,[.v (.pointer (some ad)),.v (.slice da S.pr.length dc),.v (.int .i64 S.ci),.v (.bool S.st),.v (.bool S.su),.v (.int .i64 S.res.dim),.v (.int .u8 S.res.base),.v (.string (bs S.res.name)),.v (.slice la S.loc.length lc)]⟩],[⟨1,y.2.1.length,35,3,y.2.1.length,flat aD y.2.1⟩],2,y.2.2⟩)
   (fun y=>ah m y.2.2/\y.1<=n/\y.2.1.length=y.1/\(if(bS E S (l.drop y.1)).2=0 then(y.2.1++(bS E S (l.drop y.1)).1,(0:Int)) else([],(bS E S (l.drop y.1)).2))=K) (fun y=>n - y.1) (0,[],m) (by kernel_rfl) (fun _ _=>aU rfl) (fun y hy=>hy.1) (fun _=> ?_) ?_ ⟨.inl rfl,aF _,rfl,qT⟩ ?_
  ·clear hI;simp only[go_sem]
  ·clear hI;simp only[go_sem];exact⟨rfl,rfl⟩
  ·rintro⟨i,acc,mm⟩ ⟨q1,q2,q3,q4⟩;dsimp only at q1 q2 q3 q4;by_cases an:i<l.length
   ·have hc:((i:Int)<(n:Int))=True:=eq_true (by omega);rw[List.drop_eq_getElem_cons an,bS] at q4;have hI:=hI l[i] (List.getElem_mem an);refine Exists.elim (TW (aM q1 hr) hn (wY q1 cF) an) fun X hX=> ?_
    have aL:bO ea n (i:Int)=True:=eq_true ⟨by omega,by omega,hX.2.1⟩;have av:= @cz _ _ _ 8 hX.1 rfl;simp only[Nd.cs] at av;have hI:=hI X.cs mm q1 hX.2.2;revert hI q4;generalize bJ E S l[i]=x
    generalize hy:bS E S (l.drop (i+1))=y
    intro q4 hI;simp only[go_sem,hc,aL,av];refine ak ((aC hI fun V=>rfl).mono ?_);clear hI;rintro r H' m2 aJ ⟨l1,rfl,rfl⟩;by_cases hz:x.2=0
    ·have q4:(if y.2=0 then((acc++[x.1])++y.1,(0:Int)) else([],y.2))=K:=by
      rw[<- q4,ai hz];by_cases hw:y.2=0
      ·rw[ai hw,ai hw,ai rfl,List.append_assoc];rfl
      ·rw[aa hw,aa hw,aa hw]
     simp only[go_sem,hz];refine⟨U5 (by unfold aw at hb;omega) (by decide),by unfold aw at hb;unfold aB;omega,(i+1,acc++[x.1],m2),⟨⟨by rw[aZ];rfl,rfl⟩,⟨by rw[aZ];rfl,by rw[aZ];rfl,by rw[xg];rfl⟩,.inl rfl⟩,⟨ae q1 (ae (.inr aJ) (.inl rfl)),by omega,by rw[aZ,q3];rfl,?_⟩,by omega⟩;dsimp only;rw[hy];exact q4
    ·have q4:(([]:List Ty),x.2)=K:=by
      rw[<- q4,aa hz,aa hz]
     simp only[go_sem,hz];subst q4;exact .inl ⟨ae q1 (.inr aJ),rfl,none,0,⟨rfl,aA _,lr m2 3⟩,rfl⟩
   ·have hc:((i:Int)<(n:Int))=False:=eq_false (by omega);rw[List.drop_of_length_le (by omega),bS,ai rfl,List.append_nil] at q4;clear hI;simp only[go_sem,hc];subst q4;exact QI (b:=⟨1,acc.length,35,3,acc.length,flat aD acc⟩) (by simp [cq]) fun a c m1 h1 h2 h3=>⟨ae q1 (.inr h1),rfl,a,c,⟨rfl,h2,h3⟩,rfl⟩
mutual
theorem Ov (hE:dr E) (hS:dO S.loc):∀e:Ex,cY e=true->dH (bJ E S e).1
 | .mk k n s c ty es,h=>by
  rw[cY,bw] at h;have hd:=ID h.1;rw[bJ];exact dn (fun _=>dn (fun _=>RJ hE hS ⟨by omega,by omega⟩ (Dn hE hS es h.2)) fun _=>gv) fun _=>gv
theorem Dn (hE:dr E) (hS:dO S.loc):∀l:List Ex,kE l=true->∀t∈(bS E S l).1,dH t
 |[],_,t,ht=>by rw[bS] at ht;cases ht
 |e::r,h,t,ht=>by
  rw[kE,bw] at h;rw[bS] at ht;split at ht
  ·split at ht
   ·rcases List.mem_cons.1 ht with rfl |ht
    ·exact Ov hE hS e h.1
    ·exact Dn hE hS r h.2 t ht
   ·cases ht
  ·cases ht
end
theorem H5:∀l:List Ex,(bS E S l).2=0->(bS E S l).1.length=l.length
 |[],_=>by rw[bS];rfl
 |e::r,h=>by
  rw[bS] at h ⊢;split at h
  ·rename_i h1;rw[ai h1];split at h
   ·rename_i h2;rw[ai h2];simp only[cQ,H5 r h2]
   ·rename_i h2;exact absurd h h2
  ·rename_i h1;exact absurd h h1
theorem IZ (hE:dr E) (hS:dO S.loc):∀(h:Nat) (e:Ex) (cs:List Value) (m:Mem),eL e<=h->Tp m S E ad da dc la lc b a c L->aW m e cs->cY e=true->
  FnH Tryz.prog 53 [.v (.agg ⟨au ad da dc S la lc⟩),.v (.agg ⟨cs⟩)] ⟨[],[]⟩ m (Cp m (bJ E S e))
 |0,.mk k n s c ty args,cs,m,hd,_,_,_=>by simp [eL] at hd
 |h+1,.mk k n s c ty args,cs,m,hd,hT,he,hv=>by
  obtain⟨X,rfl,rfl,rfl,rfl,rfl,rfl,hl,bN,hn,xs,hr,cF⟩:=rh he;simp only[eL] at hd;rw[cY,bw] at hv;have hO:=Jx args xs X.a X.l X.cp m hT hr hl hn cF fun y hy bh m' hle r1=>IZ hE hS h y bh m' (by have:=CW hy;omega) (hT.up hle) r1 (Cv hv.2 y hy)
  have hC:=fun(ta:Option Addr) (tc:Nat) (m' :Mem) (hle:ah m m') (h0:(bS E S args).2=0) (ht:TsA m' (bS E S args).1 ta (bS E S args).1.length tc)=>RI X ta (bS E S args).1.length tc (bS E S args).1 m' (hT.up hle) ht (by rw[H5 args h0];exact hv.1) (Dn hE hS args hv.2)
  have hR:=(bJ.eq_1 E S X.k X.n X.s X.c X.ty args).symm;revert hO hC hR;generalize bJ E S (.mk X.k X.n X.s X.c X.ty args)=R
  generalize bS E S args=K
  generalize bf E S X.k X.s X.c X.ty K.1=x
  unfold au;intro hO hC hR;refine enter bj aq Tryz.func53 rfl rfl (by kernel_rfl) rfl ?_ ?_
  ·clear hO hC;simp only[go_sem,Nd.cs]
  ·simp only[go_sem,Nd.cs];refine ak ((aC hO fun V=>rfl).mono ?_);clear hO;rintro r H' m1 aQ ⟨l1,rfl,ta,tc,ht,rfl⟩;by_cases hz:K.2=0
   ·have hC:=hC ta tc m1 l1 hz ht;rw[ai hz] at hR;simp only[go_sem,hz];refine ak ((aC hC fun V=>rfl).mono ?_);clear hC;rintro r H' m2 aJ ⟨l2,rfl,rfl⟩;by_cases hw:x.2=0
    ·rw[ai hw] at hR;subst hR;simp only[go_sem,hw];exact⟨ae l1 (ae l2 (.inl rfl)),rfl,by rw[hw]⟩
    ·rw[aa hw] at hR;subst hR;simp only[go_sem,hw];exact⟨ae l1 (ae l2 (.inl rfl)),rfl,rfl⟩
   ·clear hC;rw[aa hz] at hR;subst hR;simp only[go_sem,hz];exact⟨l1,rfl,rfl⟩
theorem sX (hE:dr E) (hS:dO S.loc) (e:Ex) (cs:List Value) (m:Mem) (hT:Tp m S E ad da dc la lc b a c L) (he:aW m e cs) (hv:cY e=true):
  FnH Tryz.prog 53 [.v (.agg ⟨au ad da dc S la lc⟩),.v (.agg ⟨cs⟩)] ⟨[],[]⟩ m (Cp m (bJ E S e)):=
 IZ hE hS _ e cs m (aA _) hT he hv
theorem MX (hE:dr E) (hS:dO S.loc) (l:List Ex) (xs:List Value) (ea:Option Addr) (n cp:Nat) (m:Mem) (hT:Tp m S E ad da dc la lc b a c L) (hr:ax m ea n 8 xs) (hn:n=l.length) (hb:n<=aw) (cF:dB m l xs) (hv:kE l=true):
  FnH Tryz.prog 103 [.v (.agg ⟨au ad da dc S la lc⟩),.v (.slice ea n cp)] ⟨[],[]⟩ m (LF m (bS E S l)):=
 Jx l xs ea n cp m hT hr hn hb cF fun y hy bh m' hle r1=>sX hE hS y bh m' (hT.up hle) r1 (Cv hv y hy)
end
theorem CM:∀(l:List St) (h:0<l.length),iQ l=vz (l[l.length - 1]'(by omega))
 |[s],_=>by rw[iQ];rfl
 |s::t::r,_=>by
  rw[iQ,CM (t::r) (Nat.succ_pos _)];rfl
theorem DQ {m:Mem} {l:List St} {xs:List Value} {a:Option Addr} {n:Nat} (hr:ax m a n 23 xs) (hn:n=l.length) (cF:bG m l xs) {i:Nat} (hi:i<l.length):∃X:Sd,Rd m (bc a (i * 23)) X.cs/\a≠none/\eg m l[i] X.cs:=by
 have hc:=dK hr (by omega:i<n);have he:=ru cF hi;obtain⟨X,hX⟩:=Dp he;rw[hX] at hc he;exact⟨X,hc.1,hc.2,he⟩
theorem Sd.cs_inj {x y:Sd} (h:x.cs=y.cs):x.k=y.k/\x.a=y.a/\x.l=y.l/\x.cp=y.cp/\x.b=y.b/\x.l2=y.l2/\x.cp2=y.cp2:=by
 simp only[Sd.cs,List.cons.injEq,Value.int.injEq,Value.slice.injEq,true_and,and_true] at h;obtain⟨h1,h2⟩:=h;refine⟨h1,?_⟩;simp_all
theorem AA:∀(h:Nat) (l:List St) (xs:List Value) (a:Option Addr) (n c:Nat) (m:Mem),b9 l<=h->ax m a n 23 xs->n=l.length->bG m l xs->n<=aw->
  FnH Tryz.prog 30 [.v (.slice a n c)] ⟨[],[]⟩ m fun r H' _=>r= .v (.bool (iQ l))/\H' =⟨[],[]⟩
 |0,s::r,xs,a,n,c,m,hd,_,_,_,_=>by
  cases s;simp only[b9,fN] at hd;omega
 |h,[],xs,a,n,c,m,hd,hr,hn,hs,hb=>by
  subst hn;refine br aq Tryz.func30 ?_
  ·simp only[go_sem,mb];exact⟨fun _=>rfl,fun h=>absurd rfl h⟩
 |h+1,s0::r0,xs,a,n,c,m,hd,hr,hn,hs,hb=>by
  have h0:0<(s0::r0).length:=Nat.succ_pos _;rw[CM _ h0];have an:(s0::r0).length - 1<(s0::r0).length:=by omega
  have uE:=dk (qY (List.getElem_mem an)) hd;obtain⟨X,Ce,hX2,FJ⟩:=DQ hr hn hs an;revert FJ uE;generalize (s0::r0)[(s0::r0).length - 1]=s
  intro uE FJ;cases s with
  |mk k nm ty tg ex body alt=>
   obtain⟨x,hxx,rfl,rfl,rfl,p1,p2,p3,p4,p5,p6,p7,ys,zs,p8,p9,j0,jz⟩:=u7 FJ;obtain⟨e1,e2,e3,e4,e5,e6,e7⟩:=Sd.cs_inj hxx;rw[<- e2,<- e3] at p8;rw[<- e5,<- e6] at p9;rw[<- e3] at p3;rw[<- e6] at p5;rw[<- e1];simp only[fN] at uE;have lW:=p7.l;have Mr:=p7.l2;have hB:=AA h body ys X.a X.l X.cp m (by omega) p8 p3 j0 (by omega);have hA:=fun m' (hle:ah m m')=>AA h alt zs X.b X.l2 X.cp2 m' (by omega) (aM hle p9) p5 (cG hle jz) (by omega)
   have hR:=vz.eq_1 X.k x.name x.ty tg ex body alt;have cv:(n=0)=False:=eq_false (by omega);have tP:((n:Int)=0)=False:=eq_false (by omega);have fv:aB ((n:Int) - 1)=True:=eq_true (by unfold aw at hb;unfold aB;omega);have qL:aB (((s0::r0).length - 1:Nat):Int)=True:=eq_true (by unfold aw at hb;unfold aB;omega);have nS:((n:Int) - 1)=(((s0::r0).length - 1:Nat):Int):=by omega
   have aL:bO a n ((((s0::r0).length - 1:Nat):Int))=True:=eq_true ⟨by omega,by omega,hX2⟩;have av:= @cz _ _ _ 23 Ce rfl;simp only[Sd.cs] at av;revert hR hB hA qL aL av nS;generalize vz (.mk X.k x.name x.ty tg ex body alt)=R
   generalize iQ body=B
   generalize iQ alt=A
   generalize (s0::r0).length - 1=i
   intro hB hA hR qL nS aL av;by_cases h6:X.k=6
   ·have d6:decide (X.k=6)=true:=aP (by omega);have d7:decide (X.k=7)=false:=ab (by omega);have d10:decide (X.k=10)=false:=ab (by omega);have d9:decide (X.k=9)=false:=ab (by omega);have d4:decide (X.k=4)=false:=ab (by omega);have d8:decide (X.k=8)=false:=ab (by omega);clear hA hB;rw[ai (by omega)] at hR;refine br aq Tryz.func30 ?_
    ·simp only[go_sem,cv,tP,fv,qL,nS,aL,av,d6,d7,d10,d9,d4,d8];first |exact hR.symm |trace_state
   ·skip
    by_cases h7:X.k=7
    ·have d6:decide (X.k=6)=false:=ab (by omega);have d7:decide (X.k=7)=true:=aP (by omega);have d10:decide (X.k=10)=false:=ab (by omega);have d9:decide (X.k=9)=false:=ab (by omega);have d4:decide (X.k=4)=false:=ab (by omega);have d8:decide (X.k=8)=false:=ab (by omega);clear hA hB;rw[ai (by omega)] at hR;refine br aq Tryz.func30 ?_
     ·simp only[go_sem,cv,tP,fv,qL,nS,aL,av,d6,d7,d10,d9,d4,d8];first |exact hR.symm |trace_state
    ·skip
     by_cases nq:X.k=10
     ·have d6:decide (X.k=6)=false:=ab (by omega);have d7:decide (X.k=7)=false:=ab (by omega);have d10:decide (X.k=10)=true:=aP (by omega);have d9:decide (X.k=9)=false:=ab (by omega);have d4:decide (X.k=4)=false:=ab (by omega);have d8:decide (X.k=8)=false:=ab (by omega);clear hA;rw[aa (by omega),ai (by omega)] at hR;refine enter bj aq Tryz.func30 rfl rfl (by kernel_rfl) rfl ?_ ?_
      ·clear hB;simp only[go_sem]
      ·simp only[go_sem,cv,tP,fv,qL,nS,aL,av,d6,d7,d10,d9,d4,d8];refine ak (hB.mono ?_);clear hB;rintro r H' m1 aQ ⟨rfl,rfl⟩;simp only[go_sem];first |exact hR.symm |trace_state
     ·skip
      by_cases h9:X.k=9
      ·have d6:decide (X.k=6)=false:=ab (by omega);have d7:decide (X.k=7)=false:=ab (by omega);have d10:decide (X.k=10)=false:=ab (by omega);have d9:decide (X.k=9)=true:=aP (by omega);have d4:decide (X.k=4)=false:=ab (by omega);have d8:decide (X.k=8)=false:=ab (by omega);clear hA;rw[aa (by omega),ai (by omega)] at hR;refine enter bj aq Tryz.func30 rfl rfl (by kernel_rfl) rfl ?_ ?_
       ·clear hB;simp only[go_sem]
       ·simp only[go_sem,cv,tP,fv,qL,nS,aL,av,d6,d7,d10,d9,d4,d8];refine ak (hB.mono ?_);clear hB;rintro r H' m1 aQ ⟨rfl,rfl⟩;simp only[go_sem];first |exact hR.symm |trace_state
      ·skip
       by_cases h4:X.k=4
       ·have d6:decide (X.k=6)=false:=ab (by omega);have d7:decide (X.k=7)=false:=ab (by omega);have d10:decide (X.k=10)=false:=ab (by omega);have d9:decide (X.k=9)=false:=ab (by omega);have d4:decide (X.k=4)=true:=aP (by omega);have d8:decide (X.k=8)=false:=ab (by omega);rw[aa (by omega),aa (by omega),ai (by omega)] at hR;refine enter bj aq Tryz.func30 rfl rfl (by kernel_rfl) rfl ?_ ?_
        ·clear hA hB;simp only[go_sem]
        ·simp only[go_sem,cv,tP,fv,qL,nS,aL,av,d6,d7,d10,d9,d4,d8];refine ak (hB.mono ?_);clear hB;rintro r H' m1 aQ ⟨rfl,rfl⟩;have hA:=hA m1 (.inr aQ);cases B with
         |false=>
          clear hA;simp only[go_sem];exact hR.symm
         |true=>
          simp only[go_sem];refine ak (hA.mono ?_);clear hA;rintro r H' m2 aJ ⟨rfl,rfl⟩;simp only[go_sem];exact hR.symm
       ·skip
        by_cases h8:X.k=8
        ·have d6:decide (X.k=6)=false:=ab (by omega);have d7:decide (X.k=7)=false:=ab (by omega);have d10:decide (X.k=10)=false:=ab (by omega);have d9:decide (X.k=9)=false:=ab (by omega);have d4:decide (X.k=4)=false:=ab (by omega);have d8:decide (X.k=8)=true:=aP (by omega);rw[aa (by omega),aa (by omega),ai (by omega)] at hR;refine enter bj aq Tryz.func30 rfl rfl (by kernel_rfl) rfl ?_ ?_
         ·clear hA hB;simp only[go_sem]
         ·simp only[go_sem,cv,tP,fv,qL,nS,aL,av,d6,d7,d10,d9,d4,d8];refine ak (hB.mono ?_);clear hB;rintro r H' m1 aQ ⟨rfl,rfl⟩;have hA:=hA m1 (.inr aQ);cases B with
          |false=>
           clear hA;simp only[go_sem];exact hR.symm
          |true=>
           simp only[go_sem];refine ak (hA.mono ?_);clear hA;rintro r H' m2 aJ ⟨rfl,rfl⟩;simp only[go_sem];exact hR.symm
        ·have d6:decide (X.k=6)=false:=ab (by omega);have d7:decide (X.k=7)=false:=ab (by omega);have d10:decide (X.k=10)=false:=ab (by omega);have d9:decide (X.k=9)=false:=ab (by omega);have d4:decide (X.k=4)=false:=ab (by omega);have d8:decide (X.k=8)=false:=ab (by omega);clear hA hB;rw[aa (by omega),aa (by omega),aa (by omega)] at hR;refine br aq Tryz.func30 ?_
         ·simp only[go_sem,cv,tP,fv,qL,nS,aL,av,d6,d7,d10,d9,d4,d8];first |exact hR.symm |trace_state
theorem Rk (p:Pc) (s:Nm) (m:Mem):FnH Tryz.prog 272 [.v (.agg ⟨p.cs⟩),.box 0 0] ⟨[⟨0,9,[.v (.string (bs s))]⟩],[]⟩ m
  fun r H' _=>r= .v (.bool (decide (p.name=s)))/\H' =⟨[⟨0,9,[.v (.string (bs s))]⟩],[]⟩:=by
 refine enter bj aq Tryz.func272 rfl rfl (by kernel_rfl) rfl ?_ ?_
 ·simp only[go_sem,Pc.cs]
 ·simp only[go_sem,Pc.cs]
section
variable {S:Sc} {E:List Cd} {ad:Addr} {da:Option Addr} {dc:Nat} {la:Option Addr} {lc:Nat} {b:Nat} {a:Option Addr} {c:Nat} {L:List Cc}
theorem RY (s:Nm) (m:Mem) (hT:Tp m S E ad da dc la lc b a c L):
  FnH Tryz.prog 232 [.v (.slice la S.loc.length lc),.cl 272 [0]] ⟨[⟨0,9,[.v (.string (bs s))]⟩],[]⟩ m
   fun r H' _=>H' =⟨[⟨0,9,[.v (.string (bs s))]⟩],[]⟩/\r= .v (.bool (xY S s)):=by
 have zP:Pc:=⟨aj,[]⟩;refine(Rh 272 (by kernel_rfl) [.string (bs s)] la S.loc.length lc m (by have:=hT.ll;omega) (fun i=>(S.loc.getD i zP).cs) (fun i hi=> ?_) (fun i=>decide ((S.loc.getD i zP).name=s)) fun i m' hi hle=>Rk _ s m').mono ?_
 ·have h:=xD hT.loc rfl hi;rw[List.getD_eq_getElem?_getD,List.getElem?_eq_getElem hi];exact⟨h.1,h.2,rfl⟩
 ·rintro r H' m' hm ⟨h3,rfl⟩;refine⟨h3,?_⟩;rw[Aw (fun p:Pc=>decide (p.name=s)) zP S.loc];rfl
theorem Tf (s:Nm) (m:Mem) (hT:Tp m S E ad da dc la lc b a c L):FnH Tryz.prog 222 [.v (.agg ⟨au ad da dc S la lc⟩),.v (.string (bs s))] ⟨[],[]⟩ m
  fun r H' _=>r= .v (.bool (xY S s))/\H' =⟨[],[]⟩:=by
 have hA:=RY s m hT;refine enter bj aq Tryz.func222 rfl rfl (by kernel_rfl) rfl ?_ ?_
 ·clear hA;simp only[go_sem,au]
 ·simp only[go_sem,au];refine ak (hA.mono ?_);clear hA;rintro r H' m1 aQ ⟨rfl,rfl⟩;simp only[go_sem]
theorem C2 (hE:dr E) (hS:dO S.loc) (e:Ex) (X:Nd) (t:Ty) (m:Mem) (hT:Tp m S E ad da dc la lc b a c L) (he:aW m e X.cs) (hv:cY e=true):
  FnH Tryz.prog 122 [.v (.agg ⟨au ad da dc S la lc⟩),.v (.agg ⟨X.cs⟩),.v (.agg ⟨aD t⟩)] ⟨[],[]⟩ m
   fun r H' m' =>ah m m' /\H' =⟨[],[]⟩/\r= .v (.int .i64 (ib E S e t)):=by
 have hX:=sX hE hS e X.cs m hT he hv;have hR:ib E S e t=if(bJ E S e).2=0/\ew E (bJ E S e).1 t=false then 73 else(bJ E S e).2:=rfl
 revert hX hR;generalize ib E S e t=R
 generalize bJ E S e=x
 unfold au;intro hX hR;refine enter (cK S E) (bI S E) Tryz.func122 rfl rfl (by kernel_rfl) rfl ?_ ?_
 ·clear hX;simp only[go_sem,Nd.cs,aD]
 ·simp only[go_sem,Nd.cs,aD];refine ak ((aC hX fun V=>rfl).mono ?_);clear hX;rintro r H' m1 aQ ⟨l1,rfl,rfl⟩;have aR:=(hT.up l1).ck.chk;have bE:=eq_true l1;by_cases hz:x.2=0
  ·simp only[go_sem,hz,aR,bE,and_self,aD];exact⟨fun h=>by rw[hR,ai ⟨hz,h⟩],fun h=>by rw[hR,aa (fun q=>by rw[show ew E x.1 t=true from h] at q;cases q.2),hz]⟩
  ·rw[aa (fun h=>hz h.1)] at hR;subst hR;simp only[go_sem,hz,aR,bE,and_self,aD]
theorem Jh (X:Sd) (m:Mem) (hT:Tp m S E ad da dc la lc b a c L):
  FnH Tryz.prog 121 [.v (.agg ⟨au ad da dc S la lc⟩),.v (.agg ⟨X.cs⟩)] ⟨[],[]⟩ m
   fun r H' m' =>ah m m' /\H' =⟨[],[]⟩/\r= .v (.int .i64 (fR E S X.ty X.name)):=by
 have hH:=fun m' (hle:ah m m')=>Tf X.name m' (hT.up hle)
 have hR:fR E S X.ty X.name=if(!cu E X.ty||xY S X.name)=true then 72 else 0:=rfl
 have aR:=hT.ck.chk;revert hH hR;generalize fR E S X.ty X.name=R
 generalize xY S X.name=B
 unfold au;intro hH hR;refine enter (cK S E) (bI S E) Tryz.func121 rfl rfl (by kernel_rfl) rfl ?_ ?_
 ·clear hH;simp only[go_sem,Sd.cs]
 ·simp only[go_sem,Sd.cs,aR];refine⟨fun h=> ?_,fun h=> ?_⟩
  ·have h:cu E X.ty=true:=h;rw[h] at hR;refine ak ((aC (hH m (.inl rfl)) fun V=>rfl).mono ?_);clear hH;rintro r H' m1 aQ ⟨rfl,rfl⟩;have bE:ah m m1=True:=eq_true (.inr aQ);cases B with
   |false=>
    simp only[go_sem,bE,and_self];exact hR.symm
   |true=>
    simp only[go_sem,bE,and_self];exact hR.symm
  ·clear hH;have h:cu E X.ty=false:=h;rw[h] at hR;have bE:ah m m=True:=eq_true (.inl rfl);first |exact hR.symm |exact⟨.inl rfl,hR.symm⟩
end
end Go.Proofs.YtmdokbohofchgaaGreatDoor.E

/- Several texts in one: AstXg, AstVc, AstVd, AstVe, AstPh, AstVi, AstPj, AstPk, AstPl, AstVl, AstVf, AstVg, AstVh, AstRb, AstRp, AstRc, AstRd, AstRs, AstTa, AstTb, AstTc, AstTd, AstTh, AstTi, AstRe. -/
import Derived.Test.YtimddhkipjedcaaGreatDoorMrg6
set_option linter.unusedSimpArgs false
set_option linter.unusedVariables false
set_option maxHeartbeats 4000000
set_option maxRecDepth 20000
namespace Go.Proofs.YtimddhkipjedcaaGreatDoor.E
open Go
/-! Depths against sizes. -/
mutual
theorem OI:∀(s:St),eQ s<=iD s/\pC s<=iD s
 | .mk k nm ty tg ex body alt=>by
  have h1:=A9 body;have h2:=A9 alt;have h3:=yY tg;have h4:=yY ex;have h5:xP ex<=b6 ex:=by cases ex;simp [xP,b6]
  simp only[eQ,pC,iD];constructor
  ·omega
  ·split<;>omega
theorem A9:∀(l:List St),dq l<=dD l/\ee l<=dD l
 |[]=>by simp [dq,ee]
 |e::r=>by
  have h1:=OI e;have h2:=A9 r;simp only[dq,ee,dD];omega
end
theorem PU:∀(l:List Md),kB l<=(l.map nb).sum/\kC l<=(l.map nb).sum
 |[]=>by simp [kB,kC]
 |e::r=>by
  have h1:=A9 e.body;have h2:=PU r;simp only[kB,kC,bN,List.sum_cons,nb];omega
theorem aa1 {d:Cd} (h:eH d<=1048576):CdB d:=by
 have h1:=A9 d.init;have h2:=PU d.methods;simp only[eH] at h;exact⟨by simp only[av];omega,by simp only[av];omega,by simp only[av];omega,by simp only[av];omega⟩
theorem zu {α:Type} {f:α->Nat}:∀{l:List α},∀x∈l,f x<=(l.map f).sum
 |[],x,hx=>by cases hx
 |y::r,x,hx=>by
  simp only[bN,List.sum_cons];rcases List.mem_cons.1 hx with rfl |hx
  ·omega
  ·have:=zu (f:=f) x hx;omega
theorem Pn {l:List Cd} (h:(l.map eH).sum<=1048576):∀d∈l,CdB d:=fun d hd=>aa1 (cZ (zu (f:=eH) d hd) h)
theorem akF:od Tryz.prog 59=136:=by kernel_rfl
@[reducible] def Lm (en:Int) (s:PSt):Bx:=⟨1,62,[.vec 0 0,.v (.int .i64 s.i),.v (.int .i64 en),.v (.bool s.fl),.v (.int .i64 s.off)]⟩
@[reducible] def Ks (ts:List Tk):Vc:=⟨0,0,50,4,ts.length,cv ts⟩
attribute [go_sem] akF Lm Ks
noncomputable def jd (t:List UInt8):List Cd×Int×Int:=
 if(aU t).2.2=0 then(match kR [] (aU t).1 with
  | .error r=>([],tu t.length r,71)
  | .ok x=>if(eZ [] x.1).2=0 then(x.1,0,0) else([],0,(eZ [] x.1).2))
 else([],(aU t).2.1,(aU t).2.2)
abbrev akV (x:List Cd×Int×Int) (m:Mem):SV->Hp->Mem->Prop:=fun r H' m' =>ae m m' /\∃(a:Option Addr) (n c:Nat),r= .tup [.v (.slice a n c),.v (.int .i64 x.2.1),.v (.int .i64 x.2.2)]/\qk m' x.1 a n c/\H' =⟨[],[]⟩
theorem GlobX.upM {m m' :Mem} (h:GlobX m) (hm:ae m m'):GlobX m' :=by
 rcases hm with rfl |hm
 ·exact h
 ·exact h.up hm
theorem Q4 {R' :SV->Hp->Mem->Prop} {bx:List Bx} {vc:List Vc} {m' :Mem} {k u:Nat} {x y:Value} {b:Vc} (hb:eU vc k u=some b)
  (h:∀(a:Option Addr) (c:Nat) (m1:Mem),m'.le m1->b.n<=c->aZ m1 a b.n b.sz b.xs->R' (.tup [.v (.slice a b.n c),.v x,.v y]) ⟨[],[]⟩ m1):Gp R' (.tup [.vec k u,.v x,.v y]) ⟨bx,vc⟩ m' :=
 .inr ⟨fun z=> .tup [z,.v x,.v y],k,u,b,⟨[],[]⟩,hb,rfl,fun V v e=>by subst e;rfl,List.nil_sublist _,List.nil_sublist _,h⟩
theorem H6 (m:Mem):qk m [] none 0 0:=⟨rfl,au _,aG _,[],fH m 7,trivial⟩
theorem ahi (l:List Tk):∀x r,DE l= .ok (x,r)->r.length<l.length:=fun x r h=>by
 have g:=(S5 l).good;rw[jP (UC l)] at g;exact(g.ok x r h).2 rfl
theorem aa0 {m:Mem} {x:Cc} {d:Cd} (h:ki m d x.cs):nJ (ki m) 7 [d] x.cs:=⟨h,trivial⟩
theorem H5 (t:List UInt8) (m:Mem) (hg:GlobX m) (ht:t.length<=4611686018427387904):FnH Tryz.prog 10 [.v (.string (bs t))] ⟨[],[]⟩ m (akV (jd t) m):=by
 have hk:=fun m' (h:ae m m')=>Hb t m' (by rcases h with rfl |h;exact hg;exact hg.up h) ht
 have hT:=I4 t;by_cases h0:(aU t).2.2=0
 ·have h1:=Jc ht (hk m (.inl rfl)) h0
  have e0:jd t=(match kR [] (aU t).1 with
   | .error r=>([],tu t.length r,71)
   | .ok x=>if(eZ [] x.1).2=0 then(x.1,0,0) else([],0,(eZ [] x.1).2)):=ah h0
  refine ph (aR aB Tryz.func10 ?_)
  ·simp only[go_sem];refine ab (h1.mono ?_);clear h1;rintro r H' m1 aN ⟨l1,rfl,rfl⟩;simp only[go_sem];refine⟨fun h=>absurd trivial h,?_⟩;refine zr 8 59 7 (by decide) rfl ?_;refine du aB (fun y:PSt×List Cd×List Value×Nat×Mem=>⟨[⟨5,[],.box 1 0⟩,⟨8,[],.vec 2 y.2.2.2.1⟩],[],[Lm t.length y.1],[⟨2,y.2.2.2.1,59,7,y.2.1.length,y.2.2.1⟩,Ks (aU t).1],40,y.2.2.2.2⟩)
    (fun y=>ae m1 y.2.2.2.2/\Inv (aU t).1 y.1/\y.2.1.length<=y.1.i+(if y.1.fl=true then 1 else 0)/\y.2.2.1.length=y.2.1.length * 7/\nJ (ki y.2.2.2.2) 7 y.2.1 y.2.2.1/\∀a s',Res (aU t).1 t.length y.1 (kR y.2.1 ((aU t).1.drop y.1.i)) a s' ->Res (aU t).1 t.length ⟨0,false,0⟩ (kR [] (aU t).1) a s')
    (fun y=>if y.1.fl=true then 0 else(aU t).1.length - y.1.i+1) (⟨0,false,0⟩,[],[],0,m1) (fun _ _=>dv rfl) (fun y hy=>hy.1) ?_ ?_ ?_
   ·simp only[go_sem];exact rfl
   ·exact⟨.inl rfl,⟨aG _,fun h=>(by cases h)⟩,aG _,rfl,trivial,fun a s' h=>h⟩
   ·rintro⟨s4,ds,xs,u,m4⟩ ⟨q1,q2,q3,q4,q5,q6⟩;dsimp only at q1 q2 q3 q4 q5 q6;have hl:=hT.len;have dG:=q2.le;have hm:=If (en:=t.length) (s:=s4) hT m4;by_cases hi:s4.i<(aU t).1.length
    ·have hf:=q2.nfl hi;rw[eF hi] at hm;have hb:=fun m' =>YO (en:=t.length) hT q2 m'
     rw[af (by rw[hf];decide)] at q3;simp only[go_sem];refine ab (hm.mono ?_);clear hm;rintro r H' m5 cO ⟨rfl,rfl,rfl⟩;simp only[go_sem];refine ab ((hb m5).mono ?_);clear hb;rintro r H' m6 eo ⟨l6,x6,d6,s6,rfl,hd6,rfl,hR6⟩;have tE:=hR6.mono;have fS:=mS hR6 hf (ahi _);have yD:=hR6.inv.le;simp only[go_sem];refine⟨j5 (by omega) (by decide),(s6,ds++[d6],xs++x6.cs,u+1,m6),⟨rfl,⟨rfl,rfl,rfl⟩,⟨rfl,by simp,rfl⟩,.inl rfl⟩,⟨aa q1 l6,hR6.inv,?_,by simp only[aI,iB,q4,Cc.cs,aL,bh];omega,JF (l2:=[d6]) (aa0 hd6) q4 (vX (fun _ _=>qa l6) q5),fun a s' h=>q6 a s' ?_⟩,?_⟩
     ·dsimp only;rw[aI,iB];rcases fS with h |h
      ·rw[ah h];omega
      ·omega
     ·rw[Pq,af (fun h=>by have:=congrArg List.length h;rw[dI] at this;simp at this;omega)];exact aX hR6 h
     ·dsimp only;rw[af (by rw[hf];decide:¬s4.fl=true)];rcases fS with h |h
      ·rw[ah h];omega
      ·split<;>omega
    ·rw[di hi] at hm;have nT:(aU t).1.drop s4.i=[]:=List.drop_eq_nil_of_le (by omega);have cN:Res (aU t).1 t.length ⟨0,false,0⟩ (kR [] (aU t).1) ds s4:=by
      refine q6 _ _ ?_;by_cases hf:s4.fl=true
      ·exact BU ds q2 hf
      ·rw[Pq,ah nT,<- nT];exact cJ _ q2
     simp only[go_sem];refine ab (hm.mono ?_);clear hm;rintro r H' m5 cO ⟨rfl,rfl,rfl⟩;simp only[go_sem];refine⟨fun hf=> ?_,fun hf=> ?_⟩
     ·refine bO (.hoist 0 (.hoist 1 (.hoist 2 (.hoist 3 (.hoist 4 (.hoist 5 (.hoist 6 .done))))))) aB (by kernel_rfl) (by kernel_rfl) ?_;simp only[go_sem];have e:jd t=([],s4.off,71):=by
       cases hK:kR [] (aU t).1 with
       |ok p=>
        obtain⟨x,r⟩:=p;have:=(cN.ok rfl x r hK).2.1;rw[hf] at this;cases this
       |error r=>
        rw[e0,hK,(cN.er rfl r hK).2]
      rw[e];exact .inl ⟨aa l1 q1,none,0,0,rfl,H6 _,rfl⟩
     ·refine⟨by kernel_rfl,fun a c m6 w1 w2 w3=>bo ?_⟩;have hK:kR [] (aU t).1= .ok (ds,[]):=by
       cases hK:kR [] (aU t).1 with
       |error r=>
        have:=(cN.er rfl r hK).1;rw[hf] at this;cases this
       |ok p=>
        obtain⟨x,r⟩:=p;obtain⟨k1,k2,k3⟩:=cN.ok rfl x r hK;rw[k1,k3,nT]
      have eD:(ds.map eH).sum<=1048576:=by
       have:=Po (aU t).1 ds [] hK;have:=xo t;dsimp only at *;omega
      rw[hK] at e0;have aT:qk m6 ds a ds.length c:=⟨rfl,w2,by unfold av;have:=xo t;have hb:(if s4.fl=true then 1 else 0)<=1:=(by split<;>decide);omega,xs,w3,vX (fun _ _=>qa (.inr w1)) q5⟩;have hc:=NM ds a ds.length c m6 (hg.upM (aa l1 (aa q1 (.inr w1)))).1 (Pn eD) aT;refine hc.mono ?_;clear hc;rintro r H' m7 ft ⟨l7,rfl,rfl⟩;simp only[go_sem];have u0:ds.length<=av:=aT.2.2.1;refine⟨fun tS=> ?_,fun tS=> ?_⟩
      ·have e:jd t=([],0,(eZ [] ds).2):=by rw[e0];exact af tS
       rw[e];exact .inl ⟨aa l1 (aa q1 (aa (.inr w1) l7)),none,0,0,rfl,H6 _,rfl⟩
      ·have e:jd t=(ds,0,0):=by rw[e0];exact ah tS
       rw[e];exact Q4 (b:=⟨2,u,59,7,ds.length,xs⟩) (by simp [eU]) fun a8 c8 m8 x1 x2 x3=>⟨aa l1 (aa q1 (aa (.inr w1) (aa l7 (.inr x1)))),a8,ds.length,c8,rfl,⟨rfl,x2,u0,xs,x3,vX (fun _ _=>qa (aa (.inr w1) (aa l7 (.inr x1)))) q5⟩,rfl⟩
 ·have h1:=Jd ht (hk m (.inl rfl)) h0;have e0:jd t=([],(aU t).2.1,(aU t).2.2):=af h0;rw[e0];refine aR aB Tryz.func10 ?_
  ·simp only[go_sem];refine ab (h1.mono ?_);clear h1;rintro r H' m1 aN ⟨l1,rfl,rfl⟩;simp only[go_sem];refine⟨fun _=>⟨l1,none,0,0,rfl,H6 m1,rfl⟩,fun h=>absurd h h0⟩
def qx (b:List St):Cd:=⟨0,[65],lv,[],[],[],b⟩
noncomputable def vP (t:List UInt8):List St×Int×Int:=
 if(aU t).2.2=0 then(match pI [] (aU t).1 with
  | .error r=>([],tu t.length r,71)
  | .ok x=>if(eZ [] [qx x.1]).2=0 then(x.1,0,0) else([],0,(eZ [] [qx x.1]).2))
 else([],(aU t).2.1,(aU t).2.2)
def Um (m:Mem) (l:List St) (a:Option Addr) (n c:Nat):Prop:=n=l.length/\n<=c/\n<=av/\∃xs,aZ m a n 23 xs/\bZ m l xs
theorem I2 (m:Mem):Um m [] none 0 0:=⟨rfl,au _,aG _,[],fH m 23,iQ _ _⟩
abbrev ak0 (x:List St×Int×Int) (m:Mem):SV->Hp->Mem->Prop:=fun r H' m' =>ae m m' /\∃(a:Option Addr) (n c:Nat),r= .tup [.v (.slice a n c),.v (.int .i64 x.2.1),.v (.int .i64 x.2.2)]/\Um m' x.1 a n c/\H' =⟨[],[]⟩
theorem aa4 (t:List UInt8) (m:Mem) (hg:GlobX m) (ht:t.length<=4611686018427387904):FnH Tryz.prog 15 [.v (.string (bs t))] ⟨[],[]⟩ m (ak0 (vP t) m):=by
 have hk:=fun m' (h:ae m m')=>Hb t m' (by rcases h with rfl |h;exact hg;exact hg.up h) ht
 have hT:=I4 t;by_cases h0:(aU t).2.2=0
 ·have h1:=Jc ht (hk m (.inl rfl)) h0
  have e0:vP t=(match pI [] (aU t).1 with
   | .error r=>([],tu t.length r,71)
   | .ok x=>if(eZ [] [qx x.1]).2=0 then(x.1,0,0) else([],0,(eZ [] [qx x.1]).2)):=ah h0
  refine ph (aR aB Tryz.func15 ?_)
  ·simp only[go_sem];refine ab (h1.mono ?_);clear h1;rintro r H' m1 aN ⟨l1,rfl,rfl⟩;simp only[go_sem];refine⟨fun h=>absurd trivial h,?_⟩;refine zr 8 73 23 (by decide) rfl ?_;refine du aB (fun y:PSt×List St×List Value×Nat×Mem=>⟨[⟨5,[],.box 1 0⟩,⟨8,[],.vec 2 y.2.2.2.1⟩],[],[Lm t.length y.1],[⟨2,y.2.2.2.1,73,23,y.2.1.length,y.2.2.1⟩,Ks (aU t).1],40,y.2.2.2.2⟩)
    (fun y=>ae m1 y.2.2.2.2/\Inv (aU t).1 y.1/\y.2.1.length<=y.1.i+(if y.1.fl=true then 1 else 0)/\y.2.2.1.length=y.2.1.length * 23/\bZ y.2.2.2.2 y.2.1 y.2.2.1/\∀a s',Res (aU t).1 t.length y.1 (pI y.2.1 ((aU t).1.drop y.1.i)) a s' ->Res (aU t).1 t.length ⟨0,false,0⟩ (pI [] (aU t).1) a s')
    (fun y=>if y.1.fl=true then 0 else(aU t).1.length - y.1.i+1) (⟨0,false,0⟩,[],[],0,m1) (fun _ _=>dv rfl) (fun y hy=>hy.1) ?_ ?_ ?_
   ·simp only[go_sem];exact rfl
   ·exact⟨.inl rfl,⟨aG _,fun h=>(by cases h)⟩,aG _,rfl,iQ _ _,fun a s' h=>h⟩
   ·rintro⟨s4,ds,xs,u,m4⟩ ⟨q1,q2,q3,q4,q5,q6⟩;dsimp only at q1 q2 q3 q4 q5 q6;have hl:=hT.len;have dG:=q2.le;have hm:=If (en:=t.length) (s:=s4) hT m4;by_cases hi:s4.i<(aU t).1.length
    ·have hf:=q2.nfl hi;rw[eF hi] at hm;have hb:=fun m' =>stw (en:=t.length) hT q2 m'
     rw[af (by rw[hf];decide)] at q3;simp only[go_sem];refine ab (hm.mono ?_);clear hm;rintro r H' m5 cO ⟨rfl,rfl,rfl⟩;simp only[go_sem];refine ab ((hb m5).mono ?_);clear hb;rintro r H' m6 eo ⟨l6,x6,d6,s6,rfl,hd6,rfl,hR6⟩;have tE:=hR6.mono;have fS:=mS hR6 hf (QG _);have yD:=hR6.inv.le;simp only[go_sem];refine⟨j5 (by omega) (by decide),(s6,ds++[d6],xs++x6.cs,u+1,m6),⟨rfl,⟨rfl,rfl,rfl⟩,⟨rfl,by simp,rfl⟩,.inl rfl⟩,⟨aa q1 l6,hR6.inv,?_,by simp only[aI,iB,q4,Sd.cs,aL,bh];omega,Iz hd6 q4 (sP l6 q5),fun a s' h=>q6 a s' ?_⟩,?_⟩
     ·dsimp only;rw[aI,iB];rcases fS with h |h
      ·rw[ah h];omega
      ·omega
     ·rw[QL,af (fun h=>by have:=congrArg List.length h;rw[dI] at this;simp at this;omega)];exact aX hR6 h
     ·dsimp only;rw[af (by rw[hf];decide:¬s4.fl=true)];rcases fS with h |h
      ·rw[ah h];omega
      ·split<;>omega
    ·rw[di hi] at hm;have nT:(aU t).1.drop s4.i=[]:=List.drop_eq_nil_of_le (by omega);have cN:Res (aU t).1 t.length ⟨0,false,0⟩ (pI [] (aU t).1) ds s4:=by
      refine q6 _ _ ?_;by_cases hf:s4.fl=true
      ·exact BU ds q2 hf
      ·rw[QL,ah nT,<- nT];exact cJ _ q2
     simp only[go_sem];refine ab (hm.mono ?_);clear hm;rintro r H' m5 cO ⟨rfl,rfl,rfl⟩;simp only[go_sem];refine⟨fun hf=> ?_,fun hf=> ?_⟩
     ·refine bO (.hoist 0 (.hoist 1 (.hoist 2 (.hoist 3 (.hoist 4 (.hoist 5 (.hoist 6 .done))))))) aB (by kernel_rfl) (by kernel_rfl) ?_;simp only[go_sem];have e:vP t=([],s4.off,71):=by
       cases hK:pI [] (aU t).1 with
       |ok p=>
        obtain⟨x,r⟩:=p;have:=(cN.ok rfl x r hK).2.1;rw[hf] at this;cases this
       |error r=>
        rw[e0,hK,(cN.er rfl r hK).2]
      rw[e];exact .inl ⟨aa l1 q1,none,0,0,rfl,(I2 _),rfl⟩
     ·intro a c m6 w1 w2 w3;refine⟨by kernel_rfl,fun a9 c9 m7 v1 v2 v3=>bo ?_⟩;have hK:pI [] (aU t).1= .ok (ds,[]):=by
       cases hK:pI [] (aU t).1 with
       |error r=>
        have:=(cN.er rfl r hK).1;rw[hf] at this;cases this
       |ok p=>
        obtain⟨x,r⟩:=p;obtain⟨k1,k2,k3⟩:=cN.ok rfl x r hK;rw[k1,k3,nT]
      have eD:([qx ds].map eH).sum<=1048576:=by
       have:=abH (aU t).1 ds [] hK;have:=xo t;simp only[bN,List.map_nil,List.sum_cons,List.sum_nil,eH,qx,bh] at *;omega
      rw[hK] at e0;have u0:ds.length<=av:=by unfold av;have:=xo t;have hb:(if s4.fl=true then 1 else 0)<=1:=(by split<;>decide);omega
      have Dq:CdOk (qx ds):=⟨(⟨by decide,by decide⟩:aF 0),(by decide:([65]:List UInt8).length<=av),(by decide:lv.length<=av),aG _,fun s hs=>(by cases hs),aG _,fun s hs=>(by cases hs),aG _,u0⟩;have hcd:ki m7 (qx ds) (Cc.cs ⟨0,[65],lv,none,0,0,none,0,0,none,0,0,a,ds.length,c⟩):=
       ⟨_,⟨rfl,rfl,rfl,rfl⟩,⟨rfl,au _,rfl,au _,rfl,au _,rfl,w2⟩,Dq,fH _ _,fH _ _,[],xs,fH _ _,trivial,ax (.inr v1) w3,sP (aa (.inr w1) (.inr v1)) q5⟩
      have aT:qk m7 [qx ds] a9 1 c9:=⟨rfl,v2,by decide,_,v3,⟨hcd,trivial⟩⟩;have hc:=NM [qx ds] a9 1 c9 m7 (hg.upM (aa l1 (aa q1 (aa (.inr w1) (.inr v1))))).1 (Pn eD) aT;refine hc.mono ?_;clear hc;rintro r H' m8 ix ⟨l8,rfl,rfl⟩;simp only[go_sem];refine⟨fun tS=> ?_,fun tS=> ?_⟩
      ·have e:vP t=([],0,(eZ [] [qx ds]).2):=by rw[e0];exact af tS
       rw[e];exact .inl ⟨aa l1 (aa q1 (aa (.inr w1) (aa (.inr v1) l8))),none,0,0,rfl,I2 _,rfl⟩
      ·have e:vP t=(ds,0,0):=by rw[e0];exact ah tS
       rw[e];exact Q4 (b:=⟨2,u,73,23,ds.length,xs⟩) (by simp [eU]) fun a8 c8 mz x1 x2 x3=>⟨aa l1 (aa q1 (aa (.inr w1) (aa (.inr v1) (aa l8 (.inr x1))))),a8,ds.length,c8,rfl,⟨rfl,x2,u0,xs,x3,sP (aa (.inr w1) (aa (.inr v1) (aa l8 (.inr x1)))) q5⟩,rfl⟩
 ·have h1:=Jd ht (hk m (.inl rfl)) h0;have e0:vP t=([],(aU t).2.1,(aU t).2.2):=af h0;rw[e0];refine aR aB Tryz.func15 ?_
  ·simp only[go_sem];refine ab (h1.mono ?_);clear h1;rintro r H' m1 aN ⟨l1,rfl,rfl⟩;simp only[go_sem];refine⟨fun _=>⟨l1,none,0,0,rfl,(I2 _),rfl⟩,fun h=>absurd h h0⟩
noncomputable def nD (t:List UInt8):Ex×Int×Int:=
 if(aU t).2.2=0 then(match pK (aU t).1 with
  | .error r=>(zE,tu t.length r,71)
  | .ok x=>if bG x.1=true then(if 24<b6 x.1 then(zE,0,9) else(x.1,0,0)) else(zE,0,4))
 else(zE,(aU t).2.1,(aU t).2.2)
abbrev akW (x:Ex×Int×Int) (m:Mem):SV->Hp->Mem->Prop:=fun r H' m' =>ae m m' /\∃(y:Nd),r= .tup [.agg y.svs,.v (.int .i64 x.2.1),.v (.int .i64 x.2.2)]/\bJ m' x.1 y.cs/\H' =⟨[],[]⟩
theorem El (t:List UInt8) (m:Mem) (hg:GlobX m) (ht:t.length<=4611686018427387904):FnH Tryz.prog 13 [.v (.string (bs t))] ⟨[],[]⟩ m (akW (nD t) m):=by
 have hk:=fun m' (h:ae m m')=>Hb t m' (hg.upM h) ht
 have hT:=I4 t;have hl:=xo t;have hz:∀m',bJ m' zE (Nd.cs ⟨0,0,[],[],ai,none,0,0⟩):=fun m' =>uy ⟨by decide,by decide⟩ ⟨by decide,by decide⟩ (aG _) (aG _) gi
 by_cases h0:(aU t).2.2=0
 ·have h1:=Jc ht (hk m (.inl rfl)) h0
  have e0:nD t=(match pK (aU t).1 with
   | .error r=>(zE,tu t.length r,71)
   | .ok x=>if bG x.1=true then(if 24<b6 x.1 then(zE,0,9) else(x.1,0,0)) else(zE,0,4)):=ah h0
  have GX:Inv (aU t).1 ⟨0,false,0⟩:=⟨aG _,fun h=>(by cases h)⟩;have hE:∀m' :Mem,FnH Tryz.prog 31 [.box 0 0,.v (.int .i64 0)] (pH (aU t).1 t.length ⟨0,false,0⟩) m' (gN (aU t).1 t.length ⟨0,false,0⟩ (dZ 0 (aU t).1) m'):=(tY hT GX).expr 0 (by decide);refine aR aB Tryz.func13 ?_
  ·simp only[go_sem];refine ab (h1.mono ?_);clear h1;rintro r H' m1 aN ⟨l1,rfl,rfl⟩;simp only[go_sem];refine⟨fun h=>absurd trivial h,by kernel_rfl,bo ((hE m1).mono ?_)⟩;clear hE;rintro r H' m2 aH ⟨l2,x,e,s2,rfl,hx,rfl,hR⟩;have tR:=If (en:=t.length) (s:=s2) hT m2;have LJ:=fun m' =>Be (aU t).1 t.length s2 m' hT.l8
   simp only[go_sem];by_cases hi:s2.i<(aU t).1.length
   ·rw[eF hi] at tR;have cN:Res (aU t).1 t.length ⟨0,false,0⟩ (pK (aU t).1) e (kA (aU t).1 t.length s2):=by
     refine aX hR ?_;rw[af (fun h=>by have:=congrArg List.length h;rw[dI] at this;simp at this;omega)];exact EB _ hR.inv
    refine ab (tR.mono ?_);clear tR;rintro r H' m3 bI ⟨rfl,rfl,rfl⟩;simp only[go_sem];refine ab ((LJ m3).mono ?_);clear LJ;rintro r H' m4 cT ⟨rfl,rfl,rfl⟩;simp only[go_sem];refine⟨fun hf=> ?_,fun hf=> ?_⟩
    ·refine bO (.hoist 0 (.hoist 1 (.hoist 2 (.hoist 3 (.hoist 4 (.alt 5 [4,3,2,1] (.hoist 6 (.hoist 7 .done)) .stop)))))) aB (by kernel_rfl) (by kernel_rfl) ?_;simp only[go_sem];have e1:nD t=(zE,(kA (aU t).1 t.length s2).off,71):=by
      cases hK:pK (aU t).1 with
      |ok p=>
       obtain⟨y,r⟩:=p;have:=(cN.ok rfl y r hK).2.1;rw[hf] at this;cases this
      |error r=>rw[e0,hK,(cN.er rfl r hK).2]
     rw[e1];exact⟨(aa l1 l2),⟨0,0,[],[],ai,none,0,0⟩,rfl,hz _,rfl⟩
    ·rw[Bv] at hf;cases hf
   ·rw[di hi] at tR;have nT:(aU t).1.drop s2.i=[]:=List.drop_eq_nil_of_le (by omega);have cN:Res (aU t).1 t.length ⟨0,false,0⟩ (pK (aU t).1) e s2:=by
     refine aX hR ?_;by_cases hf:s2.fl=true
     ·exact BU e hR.inv hf
     ·rw[ah nT,<- nT];exact cJ _ hR.inv
    refine ab (tR.mono ?_);clear tR LJ;rintro r H' m3 bI ⟨e3,rfl,rfl⟩;have l3:ae m2 m3:= .inl e3.symm;simp only[go_sem];refine⟨fun hf=> ?_,fun hf=> ?_⟩
    ·refine bO (.hoist 0 (.hoist 1 (.hoist 2 (.hoist 3 (.hoist 4 (.alt 5 [4,3,2,1] (.hoist 6 (.hoist 7 .done)) .stop)))))) aB (by kernel_rfl) (by kernel_rfl) ?_;simp only[go_sem];have e1:nD t=(zE,(s2).off,71):=by
      cases hK:pK (aU t).1 with
      |ok p=>
       obtain⟨y,r⟩:=p;have:=(cN.ok rfl y r hK).2.1;rw[hf] at this;cases this
      |error r=>rw[e0,hK,(cN.er rfl r hK).2]
     rw[e1];exact⟨(aa l1 (aa l2 l3)),⟨0,0,[],[],ai,none,0,0⟩,rfl,hz _,rfl⟩
    ·have hK:pK (aU t).1= .ok (e,[]):=by
      cases hK:pK (aU t).1 with
      |error r=>
       have:=(cN.er rfl r hK).1;rw[hf] at this;cases this
      |ok p=>
       obtain⟨y,r⟩:=p;obtain⟨k1,k2,k3⟩:=cN.ok rfl y r hK;rw[k1,k3,nT]
     have aj1:b6 e<=av:=by
      have h1:=aaH (aU t).1;cases hE:dZ 0 (aU t).1 with
      |error r=>rw[pK,hE] at hK;cases hK
      |ok p=>
       obtain⟨y,r⟩:=p;obtain⟨k1,_,_⟩:=hR.ok rfl y r hE;have:=h1 y r hE;have:=yY e;rw[<- k1] at *;unfold av;omega
     rw[hK] at e0;have hv:=aQ (jT:=[.agg x.svs]) (p6 _ e x.cs m3 (au _) (hg.upM (aa l1 (aa l2 l3))).1 (bw l3 hx)) (fun V=>rfl);refine ab (hv.mono ?_);clear hv;rintro r H' m4 cT ⟨l4,rfl,rfl⟩;simp only[go_sem];refine⟨fun hv=> ?_,fun hv=> ?_⟩
     ·have e1:nD t=(zE,0,4):=by rw[e0];exact af (by rw[hv];decide)
      rw[e1];exact⟨aa (aa l1 (aa l2 l3)) l4,⟨0,0,[],[],ai,none,0,0⟩,rfl,hz _,rfl⟩
     ·have hd:=aQ (jT:=[.agg x.svs]) (Bi _ e x.cs m4 (au _) aj1 (bw (aa l3 l4) hx)) (fun V=>rfl);refine ab (hd.mono ?_);clear hd;rintro r H' m5 cO ⟨l5,rfl,rfl⟩;simp only[go_sem];have e1:nD t=if 24<b6 e then(zE,0,9) else(e,0,0):=by rw[e0];exact ah hv
      refine⟨fun hd=> ?_,fun hd=> ?_⟩
      ·rw[e1,ah (by omega)];exact⟨aa (aa l1 (aa l2 l3)) (aa l4 l5),⟨0,0,[],[],ai,none,0,0⟩,rfl,hz _,rfl⟩
      ·rw[e1,af (by omega)];exact⟨aa (aa l1 (aa l2 l3)) (aa l4 l5),x,rfl,bw (aa l3 (aa l4 l5)) hx,rfl⟩
 ·have h1:=Jd ht (hk m (.inl rfl)) h0;have e0:nD t=(zE,(aU t).2.1,(aU t).2.2):=af h0;rw[e0];refine aR aB Tryz.func13 ?_
  ·simp only[go_sem];refine ab (h1.mono ?_);clear h1;rintro r H' m1 aN ⟨l1,rfl,rfl⟩;simp only[go_sem];refine⟨fun _=>⟨l1,⟨0,0,[],[],ai,none,0,0⟩,rfl,hz _,rfl⟩,fun h=>absurd h h0⟩
def sT (t:Tk):Tk:=⟨t.k,t.s,t.n,0⟩
def sl (l:List Tk):List Tk:=l.map sT
def ms {α:Type}:PR α->PR α
 | .ok x=> .ok (x.1,sl x.2)
 | .error r=> .error (sl r)
theorem ib (l:List Tk):(sl l).tail=sl l.tail:=by cases l<;>rfl
theorem fI (s:List UInt8) (l:List Tk):az s (sl l)=az s l:=by cases l<;>rfl
theorem Fq (l:List Tk):gO (sl l)=gO l:=by cases l<;>rfl
theorem xG (l:List Tk):j3 (sl l)=j3 l:=by cases l<;>rfl
theorem aeA (l:List Tk):sC (sl l)=sC l:=by cases l<;>rfl
theorem IP (l:List Tk):gj (sl l)=gj l:=by simp only[gj,Fq,xG]
theorem Ru (l:List Tk):kg (sl l)=kg l:=by simp only[kg,Fq,xG]
theorem ack (n:Nat) (l:List Tk):iU n (sl l)=iU n l:=by simp only[iU,Fq,xG]
theorem adf (l:List Tk):lq (sl l)=lq l:=by simp only[lq,fI,ib,IP]
theorem Sc (l:List Tk):(sl l).length=l.length:=List.length_map ..
theorem cC {α β:Type} {K:PR α} {k k' :α->List Tk->PR β} (h:∀x r,k x (sl r)=ms (k' x r)):an (ms K) k=ms (an K k'):=by
 cases K with
 |error r=>rfl
 |ok p=>exact h p.1 p.2
theorem ik {α:Type} {s:List UInt8} {l:List Tk} {k k' :List Tk->PR α} (h:k (sl l.tail)=ms (k' l.tail)):aV s (sl l) k=ms (aV s l k'):=by
 unfold aV;rw[fI,ib];split
 ·exact h
 ·rfl
theorem de {α:Type} {p:Prop} [Decidable p] {a b a' b' :PR α} (h1:a=ms a') (h2:b=ms b'):(if p then a else b)=ms (if p then a' else b'):=by
 split
 ·exact h1
 ·exact h2
theorem xI (l:List Tk):fy (sl l)=ms (fy l):=by
 unfold fy;rw[IP,xG,ib];exact de rfl rfl
theorem s9 (l:List Tk):cY (sl l)=ms (cY l):=by
 unfold cY;rw[Ru,xG,ib];exact de rfl rfl
theorem RY (l:List Tk):jl (sl l)=ms (jl l):=by
 unfold jl;rw[fI,fI,ib,xI];exact de rfl (de rfl (cC fun x r=>rfl))
theorem RL:∀(f:Nat) (t:Ty) (l:List Tk),jF f t (sl l)=ms (jF f t l)
 |0,t,l=>rfl
 |f+1,t,l=>by
  rw[jF,jF,fI,ib];exact de (ik (by exact RL f _ _)) rfl
theorem So:∀(f:Nat) (t:Ty) (l:List Tk),iF f t (sl l)=ms (iF f t l)
 |0,t,l=>rfl
 |f+1,t,l=>by
  rw[iF,iF,fI,ib];exact de (ik (by exact So f _ _)) rfl
theorem zJ (l:List Tk):eV (sl l)=ms (eV l):=by
 unfold eV;rw[RY];exact cC fun t r=>by rw[Sc];exact RL _ _ _
structure SlE (f:Nat):Prop where
 expr:∀n l,cw f n (sl l)=ms (cw f n l)
 loop:∀n e l,fR f n e (sl l)=ms (fR f n e l)
 unary:∀l,gJ f (sl l)=ms (gJ f l)
 post:∀e l,fY f e (sl l)=ms (fY f e l)
 args:∀l,gB f (sl l)=ms (gB f l)
 more:∀acc l,kf f acc (sl l)=ms (kf f acc l)
 paren:∀l,fj f (sl l)=ms (fj f l)
 operand:∀l,gZ f (sl l)=ms (gZ f l)
 key:∀l,jo f (sl l)=ms (jo f l)
theorem Uu:∀f,SlE f
 |0=>⟨fun _ _=>rfl,fun _ _ _=>rfl,fun _=>rfl,fun _ _=>rfl,fun _=>rfl,fun _ _=>rfl,fun _=>rfl,fun _=>rfl,fun _=>rfl⟩
 |f+1=>by
  have ih:=Uu f;refine⟨fun n l=> ?_,fun n e l=> ?_,fun l=> ?_,fun e l=> ?_,fun l=> ?_,fun acc l=> ?_,fun l=> ?_,fun l=> ?_,fun l=> ?_⟩
  ·rw[cw,cw,ih.unary,ih.expr];exact de rfl (cC fun e r=>ih.loop _ _ _)
  ·rw[fR,fR,ack,fI,fI,xG,ib,ih.expr,zJ];exact de (cC fun x r=>ih.loop _ _ _) (de (cC fun t r=>ih.loop _ _ _) (de (cC fun t r=>ih.loop _ _ _) rfl))
  ·rw[gJ,gJ,fI,fI,ib,ih.unary,ih.operand];exact de (cC fun x r=>rfl) (de (cC fun x r=>rfl) (cC fun e r=>ih.post _ _))
  ·rw[fY,fY,fI,fI,ib,s9,ih.expr];refine de (cC fun s r=> ?_) (de (cC fun i r=>ik (ih.post _ _)) rfl);rw[fI,ih.args,ih.post];exact de (cC fun es r2=>ih.post _ _) rfl
  ·rw[gB,gB];refine ik ?_;rw[fI,ib,ih.expr];exact de rfl (cC fun e r=>ih.more _ _)
  ·rw[kf,kf,fI,ib,ih.expr];exact de (cC fun e r=>ih.more _ _) (ik rfl)
  ·rw[fj,fj];refine ik ?_;rw[ih.expr];exact cC fun e r=>ik rfl
  ·rw[gZ,gZ,Fq,aeA,xG,Ru,IP,fI,ib,s9,xI,ih.paren,ih.key];refine de rfl (de rfl (de rfl (de (cC fun s r=>rfl) (de (cC fun c r=>ik ?_) (de rfl rfl)))));rw[s9];refine cC fun s r3=> ?_
   rw[fI,ih.args];exact de (cC fun es r4=>rfl) rfl
  ·rw[jo,jo];simp only[fI,ib,RY,ih.paren];refine de rfl (de rfl (de (ik ?_) (de (cC fun t r=> ?_) (de (cC fun e r=>rfl) (de (cC fun e r=>rfl) (de (cC fun e r=>rfl) rfl))))))
   ·rw[s9];refine cC fun s r2=> ?_
    rw[ih.args];exact cC fun es r3=>rfl
   ·rw[fI,ih.args];refine de (cC fun es r2=>rfl) (ik ?_);rw[Sc,So];refine cC fun t2 r3=> ?_
    rw[ih.expr];exact cC fun e r4=>ik rfl
structure SlS (f:Nat):Prop where
 block:∀l,dL f (sl l)=ms (dL f l)
 stmts:∀acc l,j6 f acc (sl l)=ms (j6 f acc l)
 stmt:∀l,gk f (sl l)=ms (gk f l)
theorem Gr:∀f,SlS f
 |0=>⟨fun _=>rfl,fun _ _=>rfl,fun _=>rfl⟩
 |f+1=>by
  have ih:=Gr f;have ie:=Uu f;refine⟨fun l=> ?_,fun acc l=> ?_,fun l=> ?_⟩
  ·rw[dL,dL];exact ik (ih.stmts _ _)
  ·rw[j6,j6,fI,ib,ih.stmt];exact de rfl (cC fun s r=>ih.stmts _ _)
  ·rw[gk,gk];simp only[fI,ib,ie.paren,ie.expr,ih.block,ie.args,zJ,adf]
   refine de (cC fun e r=> ?_) (de (cC fun e r=> ?_) (de (de rfl (cC fun e r=>ik rfl)) (de (cC fun e r=>ik rfl) (de (cC fun b r=>ik (ik ?_)) (de (cC fun e r=> ?_)
    (de (cC fun b r=>rfl) (de (cC fun es r=>ik rfl) (de (cC fun t r=> ?_) (cC fun e r=> ?_)))))))))
   ·rw[ih.block];refine cC fun b r2=> ?_
    rw[fI,ib,ih.block];exact de (cC fun a r3=>rfl) rfl
   ·rw[ih.block];exact cC fun b r2=>rfl
   ·rw[zJ];refine cC fun t r4=> ?_
    rw[s9];refine cC fun s r5=>ik ?_
    rw[ih.block];exact cC fun a r7=>rfl
   ·rw[ih.block];exact cC fun b r2=>rfl
   ·rw[s9];refine cC fun s r2=>ik ?_
    rw[ie.expr];exact cC fun e r4=>ik rfl
   ·rw[fI,ib,ie.expr];exact de (cC fun x r2=>ik rfl) (ik rfl)
theorem E5:∀(q:List (Int×List UInt8)) (fl:Int) (l:List Tk),bM q fl (sl l)=((bM q fl l).1,sl (bM q fl l).2)
 |[],fl,l=>rfl
 |p::q,fl,l=>by
  rw[bM,bM,fI,ib];split
  ·exact E5 q _ _
  ·exact E5 q _ _
theorem Pt:∀(f:Nat) (acc:List Pc) (l:List Tk),jg f acc (sl l)=ms (jg f acc l)
 |0,_,_=>rfl
 |f+1,acc,l=>by
  rw[jg,jg,fI,ib,zJ];refine de (cC fun t r=> ?_) (ik rfl);rw[s9];exact cC fun s r2=>Pt f _ _
theorem Oa (f:Nat) (l:List Tk):o9 f (sl l)=ms (o9 f l):=by
 unfold o9;refine ik ?_;rw[fI,ib,zJ];refine de rfl (cC fun t r=> ?_);rw[s9];exact cC fun s r3=>Pt f _ _
theorem QQ (f:Nat) (d:Cd) (fl:Int) (t:Ty) (s:List UInt8) (l:List Tk):oA f d fl t s (sl l)=ms (oA f d fl t s l):=by
 unfold oA;rw[Oa];refine cC fun ps r=> ?_
 rw[fI,ib,(Gr f).block];exact de rfl (cC fun b r2=>rfl)
theorem Yx (f:Nat) (d:Cd) (fl:Int) (l:List Tk):lJ f d fl (sl l)=ms (lJ f d fl l):=by
 unfold lJ;rw[fI,fI,fI,ib,(Gr f).block,Oa,s9,zJ];refine de (cC fun b r=>rfl) (de (cC fun ps r=> ?_) (de (cC fun s r=>QQ _ _ _ _ _ _) (cC fun t r=> ?_)))
 ·rw[(Gr f).block];exact cC fun b r2=>rfl
 ·rw[s9];refine cC fun s r2=> ?_
  rw[fI,ib,QQ];exact de rfl rfl
theorem Rl:∀(f:Nat) (d:Cd) (l:List Tk),fZ f d (sl l)=ms (fZ f d l)
 |0,_,_=>rfl
 |f+1,d,l=>by
  rw[fZ,fZ,fI,ib,E5,Yx];exact de rfl (cC fun e r=>Rl f _ _)
theorem Qq:∀(f:Nat) (acc:List (List UInt8)) (l:List Tk),j8 f acc (sl l)=ms (j8 f acc l)
 |0,_,_=>rfl
 |f+1,acc,l=>by
  rw[j8,j8,fI,ib,xI];exact de (cC fun s r=>Qq f _ _) rfl
theorem SJ (f:Nat) (w:List UInt8) (l:List Tk):nq f w (sl l)=ms (nq f w l):=by
 unfold nq;rw[fI,ib,xI];exact de (cC fun s r=>Qq f _ _) rfl
theorem acq (f:Nat) (l:List Tk):pB f (sl l)=ms (pB f l):=by
 unfold pB;simp only[E5,fI,ib,xI];refine de (cC fun n r=> ?_) (ik ?_)
 ·rw[SJ];exact cC fun is r2=>ik rfl
 ·rw[xI];refine cC fun n r2=>ik ?_
  rw[xI];refine cC fun sp r4=> ?_
  rw[SJ];exact cC fun is r5=>ik rfl
theorem Q1:∀(f:Nat) (acc:List Cd) (l:List Tk),kQ f acc (sl l)=ms (kQ f acc l)
 |0,_,_=>rfl
 |f+1,acc,l=>by
  have e:(sl l=[])=(l=[]):=by cases l<;>simp [sl]
  rw[kQ,kQ];simp only[e];refine de rfl ?_;have hc:tZ f (sl l)=ms (tZ f l):=by
   unfold tZ;rw[acq];exact cC fun d r=>Rl f _ _
  rw[hc];exact cC fun d r=>Q1 f _ _
theorem aec {α:Type} {g:Nat->PR α} {K:PR α} (h:bD g K):bD (fun f=>ms (g f)) (ms K):=by
 obtain⟨F,hF⟩:=h;exact⟨F,fun f hf=>by simp only[hF f hf]⟩
theorem Pp (acc:List Cd) (l:List Tk):kR acc (sl l)=ms (kR acc l):=by
 refine jP ?_;have:=aec (FG acc l);simp only[<- Q1] at this;exact this
theorem QM:∀{a b:List Tk},xK a b=true->sl a=sl b
 |[],[],_=>rfl
 |[],_::_,h=>by cases h
 |_::_,[],h=>by cases h
 |x::a,y::b,h=>by
  simp only[xK,aD,bt] at h;obtain⟨⟨⟨h1,h2⟩,h3⟩,h4⟩:=h;have ih:=QM h4;show sT x::sl a=sT y::sl b;rw[ih,sT,sT,h1,h2,h3]
theorem ab8 {α:Type} {K K' :PR α} (h:ms K=ms K'):(∃r r',K= .error r/\K' = .error r')\/∃x r r',K= .ok (x,r)/\K' = .ok (x,r'):=by
 cases K with
 |error r=>
  cases K' with
  |error r' =>exact .inl ⟨r,r',rfl,rfl⟩
  |ok p=>cases h
 |ok p=>
  cases K' with
  |error r' =>cases h
  |ok p' =>
   obtain⟨x,r⟩:=p;obtain⟨x',r'⟩:=p';simp only[ms,Except.ok.injEq,Prod.mk.injEq] at h;obtain⟨rfl,_⟩:=h;exact .inr ⟨x,r,r',rfl,rfl⟩
section
variable {t:Tk} {a b:List Tk}
end
theorem abF (acc:List Cd):Sf (kR acc):=fun l=>(Pm _ acc l (au _)).good
section
variable {t:Tk} {a b:List Tk}
end
theorem SA:∀(f gY pos:Nat) (l:List UInt8),(jH f gY pos l).2.2≠70->(jH f gY pos l).2.1=0
 |0,_,_,_,_=>rfl
 |f+1,gY,pos,l,h=>by
  simp only[jH] at h ⊢;split at h
  ·rename_i h1;rw[ah h1]
  ·rename_i h1;rw[af h1];split at h
   ·rename_i h2;rw[ah h2]
   ·rename_i h2;rw[af h2];split at h
    ·simp at h
    ·have ih:=SA f (gY+1);unfold qo at h ⊢;split at h
     ·rename_i h3;rw[ah h3];exact ih _ _ (by rw[h3];decide)
     ·rename_i h3;rw[af h3];exact ih _ _ h
theorem abx (s:List UInt8):0<=(aU s).2.1/\(aU s).2.1<=s.length:=by
 have hb:=aby s;refine⟨hb.1,?_⟩;by_cases h:(aU s).2.2=70
 ·have:=hb.2.1 h;omega
 ·have:(aU s).2.1=0:=by
   by_cases hs:s.length<=20000
   ·rw[AY hs] at h ⊢;exact SA _ _ _ _ h
   ·have e:aU s=([],0,8):=ah (by omega);rw[e]
  omega
theorem ad3 {s:List UInt8} {r:List Tk} (h:r<:+(aU s).1):0<=tu s.length r/\tu s.length r<=s.length:=by
 cases r with
 |nil=>exact⟨Int.natCast_nonneg _,Int.le_refl _⟩
 |cons t a=>
  have hi:=adI (s:=s) t (h.subset (bY ..));exact⟨hi.lo,Int.le_of_lt hi.hi⟩
theorem Wv {s:List UInt8} (h:(jd s).2.2≠0):(jd s).1=[]/\0<=(jd s).2.1/\(jd s).2.1<=s.length:=by
 have hp:=abx s;unfold jd at h ⊢;by_cases h0:(aU s).2.2=0
 ·simp only[ah h0] at h ⊢;cases hK:kR [] (aU s).1 with
  |ok x=>
   rw[hK] at h;simp only at h ⊢;split at h
   ·exact absurd rfl h
   ·rename_i h1;rw[af h1];exact⟨rfl,Int.le_refl _,Int.natCast_nonneg _⟩
  |error r=>exact⟨rfl,ad3 ((abF [] (aU s).1).er r hK)⟩
 ·simp only[af h0];exact⟨trivial,hp⟩
theorem Xg {s:List UInt8} (h:(jd s).2.2=0):(jd s).2.1=0/\(eZ [] (jd s).1).2=0/\((jd s).1.map eH).sum<=1048576:=by
 unfold jd at h ⊢;by_cases h0:(aU s).2.2=0
 ·simp only[ah h0] at h ⊢;cases hK:kR [] (aU s).1 with
  |ok x=>
   rw[hK] at h;simp only at h ⊢;split at h
   ·rename_i h1;rw[ah h1];refine⟨rfl,h1,?_⟩;obtain⟨x,r⟩:=x;have:=Po (aU s).1 x r hK;have:=xo s;dsimp only at *;omega
   ·rename_i h1;exact absurd h h1
  |error r=>rw[hK] at h;exact absurd (show(71:Int)=0 from h) (by decide)
 ·simp only[af h0] at h;exact absurd h h0
theorem acj {ts:List Tk} (hT:eT qA ts) (h:(lM ts).2=0):(aU (lM ts).1).2.2=0/\sl (aU (lM ts).1).1=sl ts:=by
 obtain⟨AE,e1,e2⟩:=aak (fun x hx=>(hT x hx).2) h;rw[e1];exact⟨rfl,QM e2⟩
theorem canon {l:List Cd} (hw:∀d∈l,wA d) (hz:(l.map eH).sum<=1048576) (hf:(oN l).2=0):jd (oN l).1=(l,0,0):=by
 have hc:(eZ [] l).2=0:=Classical.byContradiction fun h=>by rw[oN,af h] at hf;exact h hf
 rw[oN,ah hc] at hf ⊢;obtain⟨e1,e2⟩:=acj (QZ hw hz hc).2 hf;have h1:=Sz (FG [] (mh l)) (Q2 l [] hw fun d hd=>(EM hc d hd).1);have h2:ms (kR [] (aU (lM (mh l)).1).1)=ms (kR [] (mh l)):=by rw[<- Pp,<- Pp,e2]
 rw[h1] at h2;unfold jd;rw[ah e1];rcases ab8 h2 with ⟨_,_,_,h⟩ |⟨x,r,r',e3,e4⟩
 ·cases h
 ·rw[e3];cases e4;show(if(eZ [] ([]++l)).2=0 then([]++l,0,0) else([],0,(eZ [] ([]++l)).2))=(l,0,0);rw[List.nil_append,ah hc]
theorem zA {α:Type} {g:Nat->PR α} {K:PR α} (F:Nat) (h:∀f,g (f+F)=K):jU g=K:=jP ⟨F,fun f hf=>by
 have:=h (f - F)
 rwa [Nat.sub_add_cancel hf] at this⟩
def w1:List UInt8:=[97,32,43,32,98,32,42,32,45,32,99]
def w2:List UInt8:=[120,32,105,115,32,65,32,61,61,32,49]
def w3:List UInt8:=[97,32,43]
def w4:List UInt8:=[97,32,43,32,41,32,98]
def w5:List UInt8:=[99,108,97,115,115,32,65,32,101,120,116,101,110,100,115,32,66]
def w6:List UInt8:=[49,32,61,32,50,32,59]
def loc (s:List UInt8):Ex:= .mk 6 0 s [] ai []
def v1:Ex:= .mk 16 0 [43] [] ai [loc [97],.mk 16 0 [42] [] ai [loc [98],.mk 15 0 [45] [] ai [loc [99]]]]
def v2:Ex:= .mk 16 0 [61,61] [] ai [.mk 18 0 [] [] ⟨0,76,[65]⟩ [loc [120]],.mk 1 1 [] [] ai []]
def t1:List Tk:=[⟨1,[97],0,0⟩,⟨6,[43],0,2⟩,⟨1,[98],0,4⟩,⟨6,[42],0,6⟩,⟨6,[45],0,8⟩,⟨1,[99],0,10⟩]
def t2:List Tk:=[⟨1,[120],0,0⟩,⟨2,[105,115],0,2⟩,⟨1,[65],0,5⟩,⟨6,[61,61],0,7⟩,⟨3,[],1,10⟩]
def t3:List Tk:=[⟨1,[97],0,0⟩,⟨6,[43],0,2⟩]
def t4:List Tk:=[⟨1,[97],0,0⟩,⟨6,[43],0,2⟩,⟨6,[41],0,4⟩,⟨1,[98],0,6⟩]
def t5:List Tk:=[⟨2,[99,108,97,115,115],0,0⟩,⟨1,[65],0,6⟩,⟨2,[101,120,116,101,110,100,115],0,8⟩,⟨1,[66],0,16⟩]
def t6:List Tk:=[⟨3,[],1,0⟩,⟨6,[61],0,2⟩,⟨3,[],2,4⟩,⟨6,[59],0,6⟩]
def s6:List St:=[.mk 2 [] ai (.mk 1 1 [] [] ai []) (.mk 1 2 [] [] ai []) [] []]
theorem tk1:aU w1=(t1,0,0):=by kernel_rfl
theorem tk2:aU w2=(t2,0,0):=by kernel_rfl
theorem tk3:aU w3=(t3,0,0):=by kernel_rfl
theorem tk4:aU w4=(t4,0,0):=by kernel_rfl
theorem tk5:aU w5=(t5,0,0):=by kernel_rfl
theorem tk6:aU w6=(t6,0,0):=by kernel_rfl
theorem kx1:dZ 0 t1= .ok (v1,[]):=zA 60 fun f=>by kernel_rfl
theorem kx2:dZ 0 t2= .ok (v2,[]):=zA 60 fun f=>by kernel_rfl
theorem kx3:dZ 0 t3= .error []:=zA 60 fun f=>by kernel_rfl
theorem kx4:dZ 0 t4= .error [⟨6,[41],0,4⟩,⟨1,[98],0,6⟩]:=zA 60 fun f=>by kernel_rfl
theorem kx5:kR [] t5= .error []:=zA 60 fun f=>by kernel_rfl
theorem kx6:pI [] t6= .ok (s6,[]):=zA 60 fun f=>by kernel_rfl
theorem ajc:nD w1=(v1,0,0):=by
 have hv:bG v1=true:=by kernel_rfl
 have hd:¬24<b6 v1:=by rw[show b6 v1=4 by kernel_rfl];decide
 unfold nD pK;rw[tk1,ah rfl];dsimp only;rw[kx1];simp only[an,ah,hv,af hd]
theorem ajb:nD w2=(v2,0,0):=by
 have hv:bG v2=true:=by kernel_rfl
 have hd:¬24<b6 v2:=by rw[show b6 v2=3 by kernel_rfl];decide
 unfold nD pK;rw[tk2,ah rfl];dsimp only;rw[kx2];simp only[an,ah,hv,af hd]
theorem aja:nD w3=(zE,3,71):=by
 unfold nD pK;rw[tk3,ah rfl];dsimp only;rw[kx3];rfl
theorem ai9:nD w4=(zE,4,71):=by
 unfold nD pK;rw[tk4,ah rfl];dsimp only;rw[kx4];rfl
theorem ai8:jd w5=([],17,71):=by
 unfold jd;rw[tk5,ah rfl];dsimp only;rw[kx5];rfl
theorem ai7:vP w6=([],0,4):=by
 have hc:(eZ [] [qx s6]).2=4:=by kernel_rfl
 unfold vP;rw[tk6,ah rfl];dsimp only;rw[kx6];dsimp only;rw[hc];rfl
theorem Bf {m:Mem} {k n:Int} {s c:List UInt8} {ty:Ty} {es:List Ex} {y:Nd} (h:bJ m (.mk k n s c ty es) y.cs):∃(a:Option Addr) (cp:Nat) (xs:List Value),y.svs=Nd.svs ⟨k,n,s,c,ty,a,es.length,cp⟩/\y.cs=Nd.cs ⟨k,n,s,c,ty,a,es.length,cp⟩/\es.length<=cp/\aZ m a es.length 8 xs/\dY m es xs:=by
 simp only[bJ] at h;obtain⟨a,cp,xs,h1,h2,h3,h4,h5⟩:=h;refine⟨a,cp,xs,?_,h1,h2,h3,h5⟩;clear h3 h4 h5;simp only[Nd.cs,aK,List.cons.injEq,Value.int.injEq,Value.string.injEq,Value.slice.injEq,true_and,and_true] at h1;obtain⟨e1,e2,e3,e4,e5,e6,e7,e8,e9,jc⟩:=h1;simp only[Nd.svs,e1,e2,e3,e4,e5,e6,e7,e8,e9,jc]
theorem Jm {m:Mem} {e1 e2:Ex} {xs:List Value} (hl:xs.length=2 * 8) (h:dY m [e1,e2] xs):∃y1 y2:Nd,xs=y1.cs++y2.cs/\bJ m e1 y1.cs/\bJ m e2 y2.cs:=by
 simp only[dY,and_true] at h;obtain⟨y1,h1⟩:=o5 h.1;obtain⟨y2,h2⟩:=o5 h.2;have e:(xs.drop 8).take 8=xs.drop 8:=fi (by rw[dI];omega);refine⟨y1,y2,?_,by rw[<- h1];exact h.1,by rw[<- h2];exact h.2⟩;rw[<- h1,<- h2,e,List.take_append_drop]
theorem abq (m:Mem) (hg:GlobX m):FnH Tryz.prog 13 [.v (.string (bs w1))] ⟨[],[]⟩ m fun r H' m' =>ae m m' /\∃(a b d:Option Addr) (cp cq cr:Nat) (z1 u1:Nd),r= .tup [.agg (Nd.svs ⟨16,0,[43],[],ai,a,2,cp⟩),.v (.int .i64 0),.v (.int .i64 0)]/\
  aZ m' a 2 8 (z1.cs++Nd.cs ⟨16,0,[42],[],ai,b,2,cq⟩)/\aZ m' b 2 8 (u1.cs++Nd.cs ⟨15,0,[45],[],ai,d,1,cr⟩)/\H' =⟨[],[]⟩:=by
 have h:=El w1 m hg (by decide);rw[ajc] at h;refine h.mono ?_;rintro r H' m' hm ⟨l1,y,rfl,hy,rfl⟩;obtain⟨a,cp,xs,ey,_,bg,hr,hs⟩:=Bf hy;obtain⟨z1,z2,rfl,tJ,vk⟩:=Jm hr.1 hs;obtain⟨b,cq,xs2,_,ez,wU,lC,tM⟩:=Bf vk;obtain⟨u1,u2,rfl,hu1,hu2⟩:=Jm lC.1 tM;obtain⟨d,cr,xs3,_,eu,LL,hr3,hs3⟩:=Bf hu2;rw[ez] at hr;rw[eu] at lC;exact⟨l1,a,b,d,cp,cq,cr,z1,u1,by rw[ey];rfl,hr,lC,rfl⟩
theorem abp (m:Mem) (hg:GlobX m):FnH Tryz.prog 13 [.v (.string (bs w2))] ⟨[],[]⟩ m fun r H' m' =>ae m m' /\∃(a b:Option Addr) (cp cq:Nat) (z2:Nd),r= .tup [.agg (Nd.svs ⟨16,0,[61,61],[],ai,a,2,cp⟩),.v (.int .i64 0),.v (.int .i64 0)]/\
  aZ m' a 2 8 (Nd.cs ⟨18,0,[],[],⟨0,76,[65]⟩,b,1,cq⟩++z2.cs)/\H' =⟨[],[]⟩:=by
 have h:=El w2 m hg (by decide);rw[ajb] at h;refine h.mono ?_;rintro r H' m' hm ⟨l1,y,rfl,hy,rfl⟩;obtain⟨a,cp,xs,ey,_,bg,hr,hs⟩:=Bf hy;obtain⟨z1,z2,rfl,tJ,vk⟩:=Jm hr.1 hs;obtain⟨b,cq,xs2,_,ez,wU,lC,tM⟩:=Bf tJ;rw[ez] at hr;exact⟨l1,a,b,cp,cq,z2,by rw[ey];rfl,hr,rfl⟩
theorem BV {m:Mem} {x:Value} {cs:List Value} (h:Rd m x cs):J2 x:=by obtain⟨a,rfl,_⟩:=h;exact⟨a,rfl⟩
theorem WK (m:Mem) (hg:GlobX m):FnH Tryz.prog 9 [] ⟨[],[]⟩ m fun r H' m' =>ae m m' /\r= .v (.bool true)/\H' =⟨[],[]⟩:=by
 have h1:=fun m' (h:ae m m')=>abq m' (hg.upM h)
 have h2:=fun m' (h:ae m m')=>abp m' (hg.upM h)
 have h3:=fun m' (h:ae m m')=>El w3 m' (hg.upM h) (by decide)
 have h4:=fun m' (h:ae m m')=>El w4 m' (hg.upM h) (by decide)
 have h5:=fun m' (h:ae m m')=>H5 w5 m' (hg.upM h) (by decide)
 have h6:=fun m' (h:ae m m')=>aa4 w6 m' (hg.upM h) (by decide)
 rw[aja] at h3;rw[ai9] at h4;rw[ai8] at h5;rw[ai7] at h6;refine aR aB Tryz.func9 ?_
 ·simp only[go_sem];refine ab ((h1 m (.inl rfl)).mono ?_);clear h1;rintro r H' m1 aN ⟨l1,a,b,d,cp,cq,cr,z1,u1,rfl,hr,lC,rfl⟩;simp only[go_sem];refine ab ((h2 m1 l1).mono ?_);clear h2;rintro r H' m2 aH ⟨l2,a',b',cp',cq',z2,rfl,hr3,rfl⟩;simp only[go_sem];refine ab ((h3 m2 (aa l1 l2)).mono ?_);clear h3;rintro r H' m3 bI ⟨l3,y3,rfl,wK,rfl⟩;simp only[go_sem];refine ab ((h4 m3 (aa (aa l1 l2) l3)).mono ?_);clear h4;rintro r H' m4 cT ⟨l4,y4,rfl,hy4,rfl⟩;simp only[go_sem];refine ab ((h5 m4 (aa (aa (aa l1 l2) l3) l4)).mono ?_);clear h5;rintro r H' m5 cO ⟨l5,a5,n5,c5,rfl,hp5,rfl⟩;simp only[go_sem];refine ab ((h6 m5 (aa (aa (aa (aa l1 l2) l3) l4) l5)).mono ?_);clear h6;rintro r H' m6 eo ⟨l6,a6,n6,c6,rfl,hp6,rfl⟩;simp only[go_sem];have u1:ae m1 m6:=aa l2 (aa l3 (aa l4 (aa l5 l6)));have u2:ae m2 m6:=aa l3 (aa l4 (aa l5 l6));have hA:=dA (ax u1 hr) (i:=1) (by decide);have DB:Rd m6 (cM a 8) (Nd.cs ⟨16,0,[42],[],ai,b,2,cq⟩):=hA.1;have Vj:Rd m6 (vJ (cM a 8) 7) [.slice b 2 cq]:=gK DB 7 1 (by simp [Nd.cs]);have hA2:Rd m6 (vJ (cM a 8) 2) [.string (bs [42])]:=gK DB 2 1 (by simp [Nd.cs]);have hB:=dA (ax u1 lC) (i:=1) (by decide);have Vi:Rd m6 (cM b 8) (Nd.cs ⟨15,0,[45],[],ai,d,1,cr⟩):=hB.1;have jM:Rd m6 (vJ (cM b 8) 0) [.int .i64 15]:=gK Vi 0 1 (by simp [Nd.cs]);have hC:=dA (ax u2 hr3) (i:=0) (by decide);have Vh:Rd m6 (cM a' 0) (Nd.cs ⟨18,0,[],[],⟨0,76,[65]⟩,b',1,cq'⟩):=hC.1;have hC0:Rd m6 (vJ (cM a' 0) 0) [.int .i64 18]:=gK Vh 0 1 (by simp [Nd.cs]);refine⟨fun _=>⟨by decide,by decide,hA.2⟩,fun _=>BV DB,.slice b 2 cq,fun _=>Vj,?_⟩
  simp only[go_sem];refine⟨fun h=>(by simp at h),fun h=>⟨⟨by decide,by decide,hA.2⟩,BV DB,.string (bs [42]),hA2,?_⟩⟩;simp only[go_sem];refine⟨⟨by decide,by decide,hA.2⟩,BV DB,.slice b 2 cq,Vj,?_⟩;simp only[go_sem];refine⟨⟨by decide,by decide,hB.2⟩,BV Vi,.int .i64 15,jM,?_⟩;simp only[go_sem];refine⟨⟨by decide,by decide,hC.2⟩,BV Vh,.int .i64 18,hC0,?_⟩;simp only[go_sem];exact aa l1 u1
theorem SE:∀(s:List UInt8),(∀c∈s,c.toNat≠47)->Lib.indexByte s 47= -1
 |[],_=>rfl
 |b::l,h=>by
  have hb:(b==47)=false:=by
   rw[beq_eq_false_iff_ne];intro e;exact h b (bY ..) (by rw[e];rfl)
  have ih:=SE l fun c hc=>h c (bR _ hc)
  simp [Lib.indexByte,hb,ih]
theorem SF:∀(s:List UInt8),(∃c∈s,c.toNat=47)->0<=Lib.indexByte s 47
 |[],h=>by obtain⟨c,hc,_⟩:=h;cases hc
 |b::l,h=>by
  unfold Lib.indexByte;split
  ·exact Int.le_refl _
  ·rename_i hb;have:∃c∈l,c.toNat=47:=by
    obtain⟨c,hc,he⟩:=h;rcases List.mem_cons.1 hc with rfl |hc
    ·exact absurd (beq_iff_eq.2 (UInt8.toNat_inj.1 (he.trans rfl))) hb
    ·exact⟨c,hc,he⟩
   have ih:=SF l this;split
   ·rename_i h1;have:=eq_of_beq h1;omega
   ·omega
theorem abW {s:List UInt8} (h:∃c∈s,c.toNat=47):ox s=false:=by
 obtain⟨c,hc,he⟩:=h;cases s with
 |nil=>cases hc
 |cons b r=>
  rcases List.mem_cons.1 hc with rfl |hc
  ·simp [ox,dU,he]
  ·have:r.all rz=false:=by
    rw[List.all_eq_false];exact⟨c,hc,by simp [rz,dU,eG,he]⟩
   rw[ox,this,Bool.and_false]
theorem XA (s:List UInt8):py s=(decide (s=eI)||decide (s=zD)||(decide (s.length<=64)&&ox s)):=by
 rw[py,fJ];by_cases h:∃c∈s,c.toNat=47
 ·have h1:=SF s h;have h2:decide (Lib.indexByte s 47<0)=false:=di (by omega);rw[abW h,h2,Bool.and_false,Bool.and_false]
 ·have h2:∀c∈s,c.toNat≠47:=fun c hc he=>h ⟨c,hc,he⟩
  rw[SE s h2,Rh s h2];simp
theorem X9 (s:List UInt8) (m:Mem) (hs:BL s):FnH Tryz.prog 213 [.v (.string (bs s))] ⟨[],[]⟩ m fun r H' _=>r= .v (.bool (py s))/\H' =⟨[],[]⟩:=by
 refine aR Ll Tryz.func213 ?_
 ·simp only[go_sem];rw[XA];have e:decide ((s.length:Int)<=64)=decide (s.length<=64):=by rw[decide_eq_decide];omega
  rw[e];exact⟨fun _=>hs,rfl⟩
abbrev cfR:Cfg:=gC (fun _=>false) [(213,fr BL fun s=> .bool (py s)),(107,fr BL fun s=> .bool (dd s))]
theorem puR:dt cfR Tryz.prog:=pure_cons (by kernel_rfl) (fL X9) (pure_cons (by kernel_rfl) (fL AZ) pure_nil)
theorem Hn (s:List UInt8) (m:Mem) (hs:BL s):FnH Tryz.prog 163 [.v (.string (bs s))] ⟨[],[]⟩ m fun r H' _=>r= .v (.bool (dn s))/\H' =⟨[],[]⟩:=by
 refine aR puR Tryz.func163 ?_
 ·simp only[go_sem];have e:∀u:UInt8,((u.toNat:Int)=60)=(u=60):=fun u=>propext ⟨fun h=>UInt8.toNat_inj.1 (by have:(60:UInt8).toNat=60:=rfl;omega),fun h=>by rw[h];rfl⟩
  simp only[e];refine⟨hs,fun h=>⟨by omega,by have:=P4 h;omega⟩,fun _=>hs,fun h=>ab ((Ha m).mono ?_),fun h=> ?_⟩
  ·rintro r H' m' hm ⟨rfl,rfl,rfl⟩;simp only[go_sem];refine⟨by kernel_rfl,fun a c m1 aN hc bU=>bo ((Bu gw s a 28 c m1 bU (by omega)).mono ?_)⟩;rintro r H' m' aH ⟨rfl,rfl⟩;have h1:=h.1.1;have h2:=h.1.2;have h3:=h.2;generalize hb:gw.contains s=kb
   simp only[go_sem];rw[dn,h1,h3,hb,eF h2];rfl
  ·rw[dn];rcases h with (h |h) |h
   ·simp [h]
   ·have:decide (s.getD 0 0≠60)=false:=by rw[h];rfl
    rw[this];simp
   ·simp [h]
abbrev akk:Cfg:=gC (fun _=>false) [(170,fr BL fun s=> .bool (fJ s))]
theorem aje:dt akk Tryz.prog:=pure_cons (by kernel_rfl) (fL MH) pure_nil
theorem Wc (d b:Int) (s:List UInt8) (m:Mem) (hs:BL s):FnH Tryz.prog 214 [.v (.agg ⟨[.int .i64 d,.int .u8 b,.string (bs s)]⟩)] ⟨[],[]⟩ m fun r H' _=>r= .v (.bool (o7 d b s))/\H' =⟨[],[]⟩:=by
 refine aR aje Tryz.func214 ?_
 ·simp only[go_sem];refine⟨fun h=>by simp only[o7,ah h],fun h=> ?_⟩;have h0:¬(d<0\/8<d):=fun h' =>h'.elim h.1 h.2
  simp only[o7,af h0];refine⟨fun h1=>⟨fun _=>by simp [h1],fun n=>absurd h1 n⟩,fun h1=>⟨fun h2=>by simp [h2],fun h2=>⟨fun h3=>by simp [h3,Bool.and_comm],fun h3=>⟨fun h4=>⟨hs,by simp [h4]⟩,fun h4=>by simp [h1,h2,h3,h4]⟩⟩⟩⟩
abbrev akj:Cfg:=gC (fun _=>false) [(214,rX o7),(107,fr BL fun s=> .bool (dd s))]
theorem ajd:dt akj Tryz.prog:=pure_cons (by kernel_rfl) (vI Wc) (pure_cons (by kernel_rfl) (fL AZ) pure_nil)
theorem Hk (d b:Int) (s:List UInt8) (m:Mem) (hs:BL s):FnH Tryz.prog 164 [.v (.agg ⟨[.int .i64 d,.int .u8 b,.string (bs s)]⟩)] ⟨[],[]⟩ m fun r H' _=>r= .v (.bool (dw d b s))/\H' =⟨[],[]⟩:=by
 refine aR ajd Tryz.func164 ?_
 ·simp only[go_sem];refine⟨hs,fun _=>hs,?_⟩;simp [dw]
theorem WY (s:List UInt8) (m:Mem) (_:BL s):FnH Tryz.prog 165 [.v (.string (bs s))] ⟨[],[]⟩ m fun r H' _=>r= .v (.bool (opsL.contains s))/\H' =⟨[],[]⟩:=by
 refine aR aB Tryz.func165 ?_
 ·simp only[go_sem];refine⟨by kernel_rfl,fun a c m1 hm hc hr=>bo ((Bu opsL s a 19 c m1 hr (by omega)).mono ?_)⟩;rintro r H' m' aH ⟨rfl,rfl⟩;generalize opsL.contains s=kb
  simp only[go_sem]
theorem Wi (s:List UInt8) (m:Mem) (hs:BL s):FnH Tryz.prog 162 [.v (.string (bs s))] ⟨[],[]⟩ m fun r H' _=>r= .v (.bool (nC s))/\H' =⟨[],[]⟩:=by
 refine aR qD Tryz.func162 ?_
 ·simp only[go_sem];refine du qD (fun k:Nat=>⟨[⟨0,[],.v (.string (bs s))⟩,⟨3,[],.v (.int .i64 k)⟩],[],[],[],0,m⟩)
   (fun k=>k<=s.length/\(s.take k).all pn=true) (fun k=>s.length - k) 0 (fun _ _=>au _) (fun _ _=> .inl rfl) ?_ ?_ ?_
  ·simp only[go_sem];rfl
  ·simp
  ·rintro k ⟨hk,hp⟩;simp only[go_sem];refine⟨fun ay=> ?_,fun cg=> ?_⟩
   ·have cB:k<s.length:=by omega
    have hd:=drop_at cB;refine⟨⟨by omega,ay⟩,fun _=>⟨by omega,ay⟩,fun _=>⟨by omega,ay⟩,fun h=> ?_,fun h=>⟨by unfold aF;have:s.length<=4611686018427387904:=hs;omega,k+1,by omega,⟨by omega,?_⟩,by omega⟩⟩
    ·have hb:pn (s.getD k 0)=false:=by
      simp only[pn,Bool.or_eq_false_iff,Bool.and_eq_false_iff,decide_eq_false_iff_not];exact⟨by omega,by omega⟩
     have:s.all pn=false:=by
      rw[<- List.take_append_drop k s,List.all_append,hd,List.all_cons,hb];simp
     rw[nC,this,Bool.false_and]
    ·have hb:pn (s.getD k 0)=true:=by
      simp only[pn,Bool.or_eq_true,aD,bt];omega
     rw[List.take_succ_eq_append_getElem cB,List.all_append,hp,List.all_cons];have e:s.getD k 0=s[k]:=by rw[List.getD_eq_getElem?_getD,List.getElem?_eq_getElem cB];rfl
     rw[e] at hb;simp [hb]
   ·rw[fi (by omega)] at hp;rw[nC,hp,Bool.true_and,decide_eq_decide];omega
theorem Ty.eq_s (x:Ty):Ty.eq x x=true:=by simp [Ty.eq]
mutual
theorem oE:∀(e:Ex),iA e e=true
 | .mk k n s c ty args=>by rw[iA,Ty.eq_s,S2 args];simp
theorem S2:∀(l:List Ex),ly l l=true
 |[]=>by simp only[ly]
 |e::r=>by rw[ly,oE e,S2 r];rfl
end
mutual
theorem agZ:∀(e:St),dh e e=true
 | .mk k nm ty tg ex body alt=>by rw[dh,Ty.eq_s,oE,oE,oz body,oz alt];simp
theorem oz:∀(l:List St),gn l l=true
 |[]=>by simp only[gn]
 |e::r=>by rw[gn,agZ e,oz r];rfl
end
theorem rC (e:Ex):iA e zE=jj e:=by
 cases e with
 |mk k n s c ty args=>
  have:ly args []=decide (args.length=0):=by cases args<;>simp [ly]
  simp only[zE,iA,jj,ji,this];grind
theorem ra (l:List St):gn l []=decide (l.length=0):=by cases l<;>simp [gn]
def lg (nm:List UInt8) (ty:Ty) (t:Bool):Bool:=if t=true then dw ty.dim ty.base ty.name&&dn nm else Ty.eq ty ai&&decide (nm=[])
def jf (nm:List UInt8) (ty:Ty) (tg:Ex) (body alt:List St) (t t2 a b:Bool):Bool:=
 lg nm ty t&&(t2||jj tg)&&(a||decide (body.length=0))&&(b||decide (alt.length=0))&&eB false body&&eB false alt
def iu (k:Int) (nm:List UInt8) (ty:Ty) (tg ex:Ex) (body alt:List St):Bool:=
 if k=1 then jf nm ty tg body alt true false false false&&bG ex
 else if k=2 then jf nm ty tg body alt false true false false&&bG ex&&bG tg&&(decide (tg.k=6)||decide (tg.k=7)||decide (tg.k=8)||decide (tg.k=9))
 else if k=3 then jf nm ty tg body alt false false false false&&bG ex&&(decide (ex.k=10)||decide (ex.k=11)||decide (ex.k=12)||decide (ex.k=13))
 else if k=4 then jf nm ty tg body alt false false true true&&bG ex
 else if k=5\/k=9 then jf nm ty tg body alt false false true false&&bG ex
 else if k=6 then jf nm ty tg body alt false false false false&&(jj ex||bG ex)
 else if k=7 then jf nm ty tg body alt false false false false&&bG ex
 else if k=8 then jf nm ty tg body alt true false true true&&jj ex
 else if k=10 then jf nm ty tg body alt false false true false&&jj ex
 else if k=11 then jf nm ty tg body alt false false false false&&mW ex
 else false
theorem NN (l:List St) (h:decide (l.length=0)=true) (b:Bool):eB b l=true:=by
 cases l with
 |nil=>simp [eB,b9]
 |cons a r=>simp at h
theorem Sa (k:Int) (nm:List UInt8) (ty:Ty) (tg ex:Ex) (body alt:List St):fv (.mk k nm ty tg ex body alt)=iu k nm ty tg ex body alt:=by
 have h1:=NN body;have h2:=NN alt;rw[fv];change (iq k nm ty tg ex (eB false body&&eB false alt)&&_)=_
 generalize hb:eB false body=b1
 generalize ha:eB false alt=b2
 by_cases k1:k=1
 ·subst k1;simp only[iu,iq,jR,jf,lg,if_true,dh,oE,rC,ra,oz,Ty.eq_s,hb,ha,ao];grind
 by_cases k2:k=2
 ·subst k2;simp only[iu,iq,jR,jf,lg,if_true,if_false,Int.reduceEq,dh,oE,rC,ra,oz,Ty.eq_s,hb,ha,ao,mR];grind
 by_cases k3:k=3
 ·subst k3;simp only[iu,iq,jR,jf,lg,if_true,if_false,or_false,Int.reduceEq,dh,oE,rC,ra,oz,Ty.eq_s,hb,ha,ao,nh];grind
 by_cases k4:k=4
 ·subst k4;simp only[iu,iq,jR,jf,lg,if_true,if_false,or_false,true_or,Int.reduceEq,dh,oE,rC,ra,oz,Ty.eq_s,hb,ha,ao];grind
 by_cases k5:k=5
 ·subst k5;simp only[iu,iq,jR,jf,lg,if_true,if_false,or_false,true_or,or_true,Int.reduceEq,dh,oE,rC,ra,oz,Ty.eq_s,hb,ha,ao];grind
 by_cases k6:k=6
 ·subst k6;simp only[iu,iq,jR,jf,lg,if_true,if_false,or_false,true_or,or_true,Int.reduceEq,dh,oE,rC,ra,oz,Ty.eq_s,hb,ha,ao];grind
 by_cases k7:k=7
 ·subst k7;simp only[iu,iq,jR,jf,lg,if_true,if_false,or_false,true_or,or_true,Int.reduceEq,dh,oE,rC,ra,oz,Ty.eq_s,hb,ha,ao];grind
 by_cases k8:k=8
 ·subst k8;simp only[iu,iq,jR,jf,lg,if_true,if_false,or_false,true_or,or_true,Int.reduceEq,dh,oE,rC,ra,oz,Ty.eq_s,hb,ha,ao];grind
 by_cases k9:k=9
 ·subst k9;simp only[iu,iq,jR,jf,lg,if_true,if_false,or_false,true_or,or_true,Int.reduceEq,dh,oE,rC,ra,oz,Ty.eq_s,hb,ha,ao];grind
 by_cases k10:k=10
 ·subst k10;simp only[iu,iq,jR,jf,lg,if_true,if_false,or_false,true_or,or_true,Int.reduceEq,dh,oE,rC,ra,oz,Ty.eq_s,hb,ha,ao];grind
 by_cases k11:k=11
 ·subst k11;simp only[iu,iq,jR,jf,lg,if_true,if_false,or_false,true_or,or_true,Int.reduceEq,dh,oE,rC,ra,oz,Ty.eq_s,hb,ha,ao];grind
 simp only[iu,iq,k1,k2,k3,k4,k5,k6,k7,k8,k9,k10,k11,if_false,or_false,Bool.false_and]
def fM (u:List UInt8) (n:Int) (s c:List UInt8) (ty:Ty):Bool:=(u.contains 78||decide (n=0))&&(u.contains 83||decide (s=[]))&&(u.contains 67||decide (c=[]))&&(u.contains 84||Ty.eq ty ai)
def FE (k n:Int) (s c:List UInt8) (ty:Ty) (l:Nat):Bool:=
 if k=1 then fM [78] n s c ty&&decide ((l:Int)=0)&&decide (0<=n)&&decide (n<2147483648)
 else if k=2 then fM [78] n s c ty&&decide ((l:Int)=0)&&decide (0<=n)
 else if k=3 then fM [83] n s c ty&&decide ((l:Int)=0)&&nC s
 else if k=4\/k=5 then fM [] n s c ty&&decide ((l:Int)=0)
 else if k=6 then fM [83] n s c ty&&decide ((l:Int)=0)&&dn s
 else if k=7 then fM [83] n s c ty&&decide ((l:Int)=1)&&dn s
 else if k=8 then fM [83,67] n s c ty&&decide ((l:Int)=0)&&dn s&&dd c
 else if k=9 then fM [] n s c ty&&decide ((l:Int)=2)
 else if k=10 then fM [83] n s c ty&&decide (1<=(l:Int))&&decide ((l:Int)<=17)&&dn s
 else if k=11 then fM [83,67] n s c ty&&decide ((l:Int)<=16)&&dn s&&dd c
 else if k=12 then fM [83] n s c ty&&decide ((l:Int)<=16)&&dn s
 else if k=13 then fM [67] n s c ty&&decide ((l:Int)<=16)&&dd c
 else if k=14 then fM [84] n s c ty&&decide ((l:Int)=1)&&dw ty.dim ty.base ty.name&&decide (ty.dim<8)
 else if k=15 then fM [83] n s c ty&&decide ((l:Int)=1)&&(decide (s=[45])||decide (s=[33]))
 else if k=16 then fM [83] n s c ty&&decide ((l:Int)=2)&&opsL.contains s
 else if k=17\/k=18 then fM [84] n s c ty&&decide ((l:Int)=1)&&dw ty.dim ty.base ty.name
 else if k=19\/k=20\/k=21 then fM [] n s c ty&&decide ((l:Int)=1)
 else false
theorem ab2 (k n:Int) (s c:List UInt8) (ty:Ty) (l:Nat):FE k n s c ty l=mu k n s c ty.dim ty.base ty.name l:=by
 have h1:fM [78] n s c ty=(decide (s=[])&&decide (c=[])&&Ty.eq ty ai):=by simp [fM]
 have h2:fM [83] n s c ty=(decide (n=0)&&decide (c=[])&&Ty.eq ty ai):=by simp [fM]
 have h3:fM [] n s c ty=(decide (n=0)&&decide (s=[])&&decide (c=[])&&Ty.eq ty ai):=by simp [fM]
 have h4:fM [83,67] n s c ty=(decide (n=0)&&Ty.eq ty ai):=by simp [fM]
 have h5:fM [67] n s c ty=(decide (n=0)&&decide (s=[])&&Ty.eq ty ai):=by simp [fM]
 have h6:fM [84] n s c ty=(decide (n=0)&&decide (s=[])&&decide (c=[])):=by simp [fM]
 have ht:Ty.eq ty ai=(decide (ty.dim=0)&&(decide (ty.base=0)&&decide (ty.name=[]))):=rfl;by_cases hk:isKind k=true
 ·have fm:=kinds hk;rw[mu,hk];generalize hg1:nC s=g1
  generalize wQ:opsL.contains s=g2
  generalize hg3:dn s=g3
  generalize hg4:dd c=g4
  generalize hg5:dw ty.dim ty.base ty.name=g5
  rcases fm with rfl |rfl |rfl |rfl |rfl |rfl |rfl |rfl |rfl |rfl |rfl |rfl |rfl |rfl |rfl |rfl |rfl |rfl |rfl |rfl |rfl<;>
   simp only[FE,eP,nR,Int.reduceEq,if_true,if_false,or_true,or_false,true_or,false_or,h1,h2,h3,h4,h5,h6,hg1,wQ,hg3,hg4,hg5,ht,Bool.false_eq_true,Bool.true_and]<;>grind
 ·rw[Bool.not_eq_true] at hk;rw[mu,hk];have:∀j:Int,1<=j->j<=21->¬k=j:=fun j h1 h2 h=>by rw[h] at hk;simp [isKind,h1,h2] at hk
  simp only[FE,this 1 (by decide) (by decide),this 2 (by decide) (by decide),this 3 (by decide) (by decide),this 4 (by decide) (by decide),this 5 (by decide) (by decide),this 6 (by decide) (by decide),this 7 (by decide) (by decide),this 8 (by decide) (by decide),this 9 (by decide) (by decide),this 10 (by decide) (by decide),this 11 (by decide) (by decide),this 12 (by decide) (by decide),this 13 (by decide) (by decide),this 14 (by decide) (by decide),this 15 (by decide) (by decide),this 16 (by decide) (by decide),this 17 (by decide) (by decide),this 18 (by decide) (by decide),this 19 (by decide) (by decide),this 20 (by decide) (by decide),this 21 (by decide) (by decide),or_false,if_false,Bool.false_and]
theorem Zx {u:List UInt8} {c:UInt8} {k:Nat} (h:k<u.length):(u.take (k+1)).contains c=((u.take k).contains c||decide (u.getD k 0=c)):=by
 have e:u.getD k 0=u[k]:=by rw[List.getD_eq_getElem?_getD,List.getElem?_eq_getElem h];rfl
 rw[List.take_succ_eq_append_getElem h,e];simp only[List.contains_eq_mem,List.mem_append,List.mem_singleton,Bool.decide_or,eq_comm]
theorem Ff (d c:UInt8):decide (d=c)=decide ((d.toNat:Int)=(c.toNat:Int)):=by
 rw[decide_eq_decide];exact⟨fun e=>by rw[e],fun e=>UInt8.toNat_inj.1 (by omega)⟩
theorem YT (k n:Int) (s c:List UInt8) (ty:Ty) (sl:Value) (u:List UInt8) (m:Mem) (fF:sl.oneCell' =true) (hu:u.length<=4):
  FnH Tryz.prog 161 [.v (.agg ⟨aK k n s c ty sl⟩),.v (.string (bs u))] ⟨[],[]⟩ m fun r H' _=>r= .v (.bool (fM u n s c ty))/\H' =⟨[],[]⟩:=by
 refine enter gP aB Tryz.func161 rfl rfl (by kernel_rfl) rfl ?_ ?_
 ·simp only[go_sem,aK]
 ·simp only[go_sem,aK];refine ei aB (fun k' :Nat=>⟨[⟨1,[],.v (.string (bs u))⟩,⟨2,[],.box 0 0⟩,⟨5,[],.v (.bool ((u.take k').contains 78))⟩,⟨6,[],.v (.bool ((u.take k').contains 83))⟩,⟨7,[],.v (.bool ((u.take k').contains 67))⟩,⟨8,[],.v (.bool ((u.take k').contains 84))⟩,⟨9,[],.v (.int .i64 k')⟩],[],[⟨0,33,(aK k n s c ty sl).map .v⟩],[],1,m⟩)
   (fun k' =>k' <=u.length) (fun k' =>u.length - k') 0 (by kernel_rfl) (fun _ _=>au _) (fun _ _=> .inl rfl) (fun _=> ?_) ?_ ?_ ?_
  ·simp only[go_sem,aK]
  ·simp only[go_sem,aK];simp
  ·exact aG _
  ·intro k' hk;simp only[go_sem,aK,qn];have hc:k' <u.length->∀c,(u.take (k' +1)).contains c=((u.take k').contains c||decide (u.getD k' 0=c)):=fun h c=>Zx h
   generalize u.getD k' 0=d at hc ⊢
   have C5:decide (d=78)=decide ((d.toNat:Int)=78):=Ff d 78;have C4:decide (d=83)=decide ((d.toNat:Int)=83):=Ff d 83;have C6:decide (d=67)=decide ((d.toNat:Int)=67):=Ff d 67;have C3:decide (d=84)=decide ((d.toNat:Int)=84):=Ff d 84;refine⟨fun ay=> ?_,fun cg=> ?_⟩
   ·have hc:=hc (by omega);exact⟨by omega,fun h1=>⟨by unfold aF;omega,k' +1,⟨by rw[hc,C5];simp [h1],by rw[hc,C4];simp [h1],by rw[hc,C6];simp [h1],by rw[hc,C3];simp [h1],by simp⟩,by omega,by omega⟩,fun n1=>⟨fun h2=>⟨by unfold aF;omega,k' +1,⟨by rw[hc,C5];simp [n1,h2],by rw[hc,C4];simp [n1,h2],by rw[hc,C6];simp [n1,h2],by rw[hc,C3];simp [n1,h2],by simp⟩,by omega,by omega⟩,fun n2=>⟨fun h3=>⟨by unfold aF;omega,k' +1,⟨by rw[hc,C5];simp [n1,n2,h3],by rw[hc,C4];simp [n1,n2,h3],by rw[hc,C6];simp [n1,n2,h3],by rw[hc,C3];simp [n1,n2,h3],by simp⟩,by omega,by omega⟩,fun n3=>⟨fun h4=>⟨by unfold aF;omega,k' +1,⟨by rw[hc,C5];simp [n1,n2,n3,h4],by rw[hc,C4];simp [n1,n2,n3,h4],by rw[hc,C6];simp [n1,n2,n3,h4],by rw[hc,C3];simp [n1,n2,n3,h4],by simp⟩,by omega,by omega⟩,fun n4=>⟨by unfold aF;omega,k' +1,⟨by rw[hc,C5];simp [n1,n2,n3,n4],by rw[hc,C4];simp [n1,n2,n3,n4],by rw[hc,C6];simp [n1,n2,n3,n4],by rw[hc,C3];simp [n1,n2,n3,n4],by simp⟩,by omega,by omega⟩⟩⟩⟩⟩
   ·rw[fi (by omega)];rfl
def FC:List Value->Option (Prop×Value)
 |[.agg ⟨[.int .i64 _,.int .i64 n,.string s,.string c,.int .i64 d,.int .u8 b,.string nm,sl]⟩,.string u]=>some (sl.oneCell' =true/\(tl u).length<=4,.bool (fM (tl u) n (tl s) (tl c) ⟨d,b,tl nm⟩))
 |_=>none
attribute [go_sem] FC.eq_1
theorem ZT:qp Tryz.prog 161 FC:=fun fe y hy hB m=>by
 unfold FC at hy;split at hy
 ·rename_i k n s c d b nm sl u;cases hy;have:=YT k n (tl s) (tl c) ⟨d,b,tl nm⟩ sl (tl u) m hB.1 hB.2;simp only[aK,oG] at this;exact this
 ·cases hy
abbrev DF:Cfg:=gC (fun _=>false) [(161,FC),(162,fr BL fun s=> .bool (nC s)),(163,fr BL fun s=> .bool (dn s)),(107,fr BL fun s=> .bool (dd s)),(164,rX dw),(165,fr BL fun s=> .bool (opsL.contains s))]
theorem AF:dt DF Tryz.prog:=pure_cons (by kernel_rfl) ZT (pure_cons (by kernel_rfl) (fL Wi) (pure_cons (by kernel_rfl) (fL Hn) (pure_cons (by kernel_rfl) (fL AZ) (pure_cons (by kernel_rfl) (vI Hk) (pure_cons (by kernel_rfl) (fL WY) pure_nil)))))
theorem abI (k n:Int) (s c:List UInt8) (ty:Ty) (a:Option Addr) (l cp:Nat) (m:Mem) (hs:BL s) (hc:BL c) (hn:BL ty.name) (hk:isKind k=true):
  FnH Tryz.prog 72 [.v (.agg ⟨aK k n s c ty (.slice a l cp)⟩)] ⟨[],[]⟩ m fun r H' _=>r= .v (.bool (FE k n s c ty l))/\H' =⟨[],[]⟩:=by
 rcases kinds hk with h |h |h |h |h |h |h |h |h |h |h |h |h |h |h |h |h |h |h |h |h<;>subst h<;>refine enter DF AF Tryz.func72 rfl rfl (by kernel_rfl) rfl (by simp only[go_sem,aK]) ?_<;>
  simp only[go_sem,aK,Int.reduceEq,ao,aq]
 all_goals first |rfl |exact⟨fun _=>hs,rfl⟩ |exact⟨fun _=>hc,rfl⟩ |exact⟨fun _=>hn,rfl⟩ |exact⟨fun _=>hs,fun _=>hc,rfl⟩
theorem ZG (k n:Int) (s c:List UInt8) (ty:Ty) (a:Option Addr) (l cp:Nat) (m:Mem) (e:∀j:Int,1<=j->j<=21->(k=j)=False):
  FnH Tryz.prog 72 [.v (.agg ⟨aK k n s c ty (.slice a l cp)⟩)] ⟨[],[]⟩ m fun r H' _=>r= .v (.bool false)/\H' =⟨[],[]⟩:=by
 have e1:=e 1 (by decide) (by decide);have e2:=e 2 (by decide) (by decide);have e3:=e 3 (by decide) (by decide);have e4:=e 4 (by decide) (by decide);have e5:=e 5 (by decide) (by decide);have e6:=e 6 (by decide) (by decide);have e7:=e 7 (by decide) (by decide);have e8:=e 8 (by decide) (by decide);have e9:=e 9 (by decide) (by decide);have jc:=e 10 (by decide) (by decide);have lW:=e 11 (by decide) (by decide);have Mn:=e 12 (by decide) (by decide);have Mm:=e 13 (by decide) (by decide);have Ml:=e 14 (by decide) (by decide);have Mk:=e 15 (by decide) (by decide);have Mj:=e 16 (by decide) (by decide);have Mi:=e 17 (by decide) (by decide);have Mh:=e 18 (by decide) (by decide);have Mg:=e 19 (by decide) (by decide);have Mf:=e 20 (by decide) (by decide);have Me:=e 21 (by decide) (by decide);refine enter DF AF Tryz.func72 rfl rfl (by kernel_rfl) rfl ?_ ?_
 ·simp only[go_sem,aK]
 ·simp only[go_sem,aK,e1,e2,e3,e4,e5,e6,e7,e8,e9,jc,lW,Mn,Mm,Ml,Mk,Mj,Mi,Mh,Mg,Mf,Me,aq]
theorem WZ (k n:Int) (s c:List UInt8) (ty:Ty) (a:Option Addr) (l cp:Nat) (m:Mem) (hs:BL s) (hc:BL c) (hn:BL ty.name):
  FnH Tryz.prog 72 [.v (.agg ⟨aK k n s c ty (.slice a l cp)⟩)] ⟨[],[]⟩ m fun r H' _=>r= .v (.bool (mu k n s c ty.dim ty.base ty.name l))/\H' =⟨[],[]⟩:=by
 by_cases hk:isKind k=true
 ·rw[<- ab2];exact abI k n s c ty a l cp m hs hc hn hk
 ·rw[Bool.not_eq_true] at hk;have e0:mu k n s c ty.dim ty.base ty.name l=false:=by rw[mu,hk];rfl
  rw[e0];exact ZG k n s c ty a l cp m fun j h1 h2=>eq_false fun h=>by rw[h] at hk;simp [isKind,h1,h2] at hk
theorem Hf:∀{l:List Ex} {i:Nat} (hi:i<l.length),gg (l.take (i+1))=(gg (l.take i)&&bG l[i])
 |[],_,hi=>absurd hi (Nat.not_lt_zero _)
 |e::r,0,_=>by simp [gg]
 |e::r,i+1,hi=>by
  have:=Hf (l:=r) (i:=i) (by simpa using hi);simp only[List.take_succ_cons,gg,this,List.getElem_cons_succ,Bool.and_assoc]
theorem Na {l:List Ex} {i:Nat} (hi:i<l.length) (h:bG l[i]=false):gg l=false:=by
 cases hv:gg l with
 |false=>rfl
 |true=>rw[xa hv _ (List.getElem_mem hi)] at h;cases h
theorem D5:∀(h:Nat) (e:Ex) (cs:List Value) (m:Mem),b6 e<=h->bJ m e cs->aJ 36 [.v (.agg ⟨cs⟩)] m (.bool (bG e))
 |0,.mk k n s c ty args,cs,m,hd,_=>by simp [b6] at hd
 |h+1,.mk k n s c ty args,cs,m,hd,he=>by
  simp only[bJ] at he;obtain⟨a,cp,xs,rfl,bg,hr,ar,eE⟩:=he;have hn:=ar.2.2.2.2.2;simp only[b6] at hd;have hN:=fun m' =>WZ k n s c ty a args.length cp m' (cZ ar.2.2.1 (by decide)) (cZ ar.2.2.2.1 (by decide)) (cZ ar.2.2.2.2.1.2.2 (by decide))
  refine enter gP aB Tryz.func36 rfl rfl (by kernel_rfl) rfl ?_ ?_
  ·simp only[go_sem,aK]
  ·simp only[go_sem,aK];refine ei aB (fun x:Nat×Mem=>⟨[⟨1,[],.box 0 0⟩,⟨3,[],.v (.int .i64 x.1)⟩],[],[⟨0,33,(aK k n s c ty (.slice a args.length cp)).map .v⟩],[],1,x.2⟩)
    (fun x=>ae m x.2/\x.1<=args.length/\gg (args.take x.1)=true) (fun x=>args.length - x.1) (0,m) (by kernel_rfl) (fun _ _=>au _) (fun x hx=>hx.1) (fun _=> ?_) ?_ ?_ ?_
   ·simp only[go_sem,aK]
   ·simp only[go_sem,aK];rfl
   ·exact⟨.inl rfl,aG _,by simp [gg]⟩
   ·rintro⟨i,mm⟩ ⟨h1,h2,h3⟩;simp only at h1 h2 h3;have hx:∀(hi:i<args.length),∃x:Nd,Rd mm (cM a (i * 8)) x.cs/\a≠none/\aJ 36 [.v (.agg ⟨x.cs⟩)] mm (.bool (bG args[i])):=fun hi=>by
     have aT:=bw h1 (rv eE hi);obtain⟨x,hx⟩:=o5 aT;have bU:=dA (ax h1 hr) hi;rw[hx] at aT bU;exact⟨x,bU.1,bU.2,D5 h args[i] x.cs mm (by have:=zh hi;omega) aT⟩
    simp only[go_sem,aK];refine⟨fun ay=> ?_,fun cg=> ?_⟩
    ·clear hN;refine Exists.elim (hx (by clear hx;omega)) fun x bP=>⟨⟨by clear hx bP;omega,ay,bP.2.1⟩,x.cs,⟨bP.1,rfl⟩,?_⟩
     clear hx;have ha:=bP.2.2;simp only[go_sem,Nd.cs,aK];refine ab ((aQ ha (fun V=>rfl)).mono ?_);clear bP ha;rintro r H' m2 aH ⟨aY,rfl,rfl⟩;simp only[go_sem,aK];have hi:i<args.length:=by omega
     refine⟨fun hv=>⟨aa h1 aY,?_⟩,fun hv=>⟨by unfold aF;simp only[av] at hn;omega,(i+1,m2),⟨by simp,.inl rfl⟩,⟨aa h1 aY,by simp only;omega,?_⟩,by simp only;omega⟩⟩
     ·rw[bG,Na hi hv,Bool.and_false]
     ·simp only;rw[Hf hi,h3,hv];rfl
    ·clear hx;refine ab ((aQ (hN mm) (fun V=>rfl)).mono ?_);clear hN;rintro r H' m2 aH ⟨rfl,rfl⟩;simp only[go_sem];refine⟨aa h1 (.inr aH),?_⟩;rw[fi (by omega)] at h3;rw[bG,h3,Bool.and_true]
theorem HJ:∀(h:Nat) (e:Ex) (cs:List Value) (m:Mem),b6 e<=h->h<=av->bJ m e cs->aJ 37 [.v (.agg ⟨cs⟩)] m (.int .i64 (b6 e))
 |0,.mk k n s c ty args,cs,m,hd,_,_=>by simp [b6] at hd
 |h+1,.mk k n s c ty args,cs,m,hd,hb,he=>by
  simp only[bJ] at he;obtain⟨a,cp,xs,rfl,bg,hr,ar,eE⟩:=he;have hn:=ar.2.2.2.2.2;simp only[b6] at hd;refine enter gP aB Tryz.func37 rfl rfl (by kernel_rfl) rfl ?_ ?_
  ·simp only[go_sem,aK]
  ·simp only[go_sem,aK];refine ei aB (fun x:Nat×Mem=>⟨[⟨1,[],.box 0 0⟩,⟨3,[],.v (.int .i64 (kN (args.take x.1)))⟩,⟨4,[],.v (.int .i64 x.1)⟩],[],[⟨0,33,(aK k n s c ty (.slice a args.length cp)).map .v⟩],[],1,x.2⟩)
    (fun x=>ae m x.2/\x.1<=args.length) (fun x=>args.length - x.1) (0,m) (by kernel_rfl) (fun _ _=>au _) (fun x hx=>hx.1) (fun _=> ?_) ?_ ?_ ?_
   ·simp only[go_sem,aK]
   ·simp only[go_sem,aK];exact⟨rfl,rfl⟩
   ·exact⟨.inl rfl,aG _⟩
   ·rintro⟨i,mm⟩ ⟨h1,h2⟩;simp only at h1 h2;have hx:∀(hi:i<args.length),∃x:Nd,Rd mm (cM a (i * 8)) x.cs/\a≠none/\aJ 37 [.v (.agg ⟨x.cs⟩)] mm (.int .i64 (b6 args[i])):=fun hi=>by
     have aT:=bw h1 (rv eE hi);obtain⟨x,hx⟩:=o5 aT;have bU:=dA (ax h1 hr) hi;rw[hx] at aT bU;exact⟨x,bU.1,bU.2,HJ h args[i] x.cs mm (by have:=zh hi;omega) (by omega) aT⟩
    simp only[go_sem,aK];refine⟨fun ay=> ?_,fun cg=> ?_⟩
    ·refine Exists.elim (hx (by clear hx;omega)) fun x bP=>⟨⟨by clear hx bP;omega,ay,bP.2.1⟩,x.cs,⟨bP.1,rfl⟩,?_⟩
     clear hx;have ha:=bP.2.2;simp only[go_sem,Nd.cs,aK];refine ab ((aQ ha (fun V=>rfl)).mono ?_);clear bP ha;rintro r H' m2 aH ⟨aY,rfl,rfl⟩;simp only[go_sem,aK];have hi:i<args.length:=by omega
     have ld:=Ea hi;refine⟨by unfold aF;simp only[av] at hn;omega,(i+1,m2),⟨⟨?_,by simp⟩,.inl rfl⟩,⟨aa h1 aY,by simp only;omega⟩,by simp only;omega⟩;simp only;rw[ld];split<;>omega
    ·clear hx;have:args.take i=args:=fi (by omega);rw[this];simp only[b6];exact⟨by unfold aF;simp only[av] at hb;omega,h1,by omega⟩
theorem TN (n:Int) (s c:List UInt8) (ty:Ty):fM [] n s c ty=(decide (n=0)&&decide (s=[])&&decide (c=[])&&Ty.eq ty ai):=by simp [fM]
theorem zero_eq (k n:Int) (s c:List UInt8) (ty:Ty) (l:Nat):(decide (k=0)&&fM [] n s c ty&&decide ((l:Int)=0))=ji k n s c ty l:=by
 rw[TN,ji];grind
theorem ZA (k n:Int) (s c:List UInt8) (ty:Ty) (l:Nat):(decide (k=0)&&fM [] n s c ty&&decide ((l:Int)<=16))=(ji k n s c ty 0&&decide (l<=16)):=by
 rw[TN,ji];grind
theorem WX (k n:Int) (s c:List UInt8) (ty:Ty) (a:Option Addr) (l cp:Nat) (m:Mem):FnH Tryz.prog 215 [.v (.agg ⟨aK k n s c ty (.slice a l cp)⟩)] ⟨[],[]⟩ m fun r H' _=>r= .v (.bool (ji k n s c ty l))/\H' =⟨[],[]⟩:=by
 refine enter DF AF Tryz.func215 rfl rfl (by kernel_rfl) rfl ?_ ?_
 ·simp only[go_sem,aK]
 ·simp only[go_sem,aK];exact zero_eq k n s c ty l
def Ck:List Value->Option (Prop×Value)
 |[.agg ⟨[.int .i64 k,.int .i64 n,.string s,.string c,.int .i64 d,.int .u8 b,.string nm,.slice _ l _]⟩]=>some (True,.bool (ji k n (tl s) (tl c) ⟨d,b,tl nm⟩ l))
 |_=>none
attribute [go_sem] Ck.eq_1
theorem Pl:qp Tryz.prog 215 Ck:=fun fe y hy _ m=>by
 unfold Ck at hy;split at hy
 ·rename_i k n s c d b nm a l cp;cases hy;have:=WX k n (tl s) (tl c) ⟨d,b,tl nm⟩ a l cp m;simp only[aK,oG] at this;exact this
 ·cases hy
theorem Wd (k:Int) (nm:List UInt8) (ty:Ty) (c5 c6 c7 c8 c9 vu Mu c12 DJ DI yI Mt Ms Mr Mq c20 c21 sF:Value) (t:Bool) (m:Mem) (h1:BL nm) (h2:BL ty.name):
  FnH Tryz.prog 243 [.v (.agg ⟨[.int .i64 k,.string (bs nm),.int .i64 ty.dim,.int .u8 ty.base,.string (bs ty.name),c5,c6,c7,c8,c9,vu,Mu,c12,DJ,DI,yI,Mt,Ms,Mr,Mq,c20,c21,sF]⟩),.v (.bool t)] ⟨[],[]⟩ m fun r H' _=>r= .v (.bool (lg nm ty t))/\H' =⟨[],[]⟩:=by
 refine aR AF Tryz.func243 ?_
 ·simp only[go_sem,qn];exact⟨fun h=>⟨h2,fun _=>h1,by rw[lg,ah h]⟩,fun h=>by rw[lg,af (by simp [h])];rfl⟩
def Fj:List Value->Option (Prop×Value)
 |[.agg ⟨[.int .i64 _,.string s,.int .i64 d,.int .u8 b,.string nm,_,_,_,_,_,_,_,_,_,_,_,_,_,_,_,_,_,_]⟩,.bool t]=>some (BL (tl s)/\BL (tl nm),.bool (lg (tl s) ⟨d,b,tl nm⟩ t))
 |_=>none
attribute [go_sem] Fj.eq_1
theorem Yk:qp Tryz.prog 243 Fj:=fun fe y hy hB m=>by
 unfold Fj at hy;split at hy
 ·rename_i k s d b nm c5 c6 c7 c8 c9 vu Mu c12 DJ DI yI Mt Ms Mr Mq c20 c21 sF t;cases hy;have:=Wd k (tl s) ⟨d,b,tl nm⟩ c5 c6 c7 c8 c9 vu Mu c12 DJ DI yI Mt Ms Mr Mq c20 c21 sF t m hB.1 hB.2;simp only[oG] at this;exact this
 ·cases hy
abbrev oY:Cfg:=gC (fun _=>false) [(215,Ck),(243,Fj)]
theorem pQ:dt oY Tryz.prog:=pure_cons (by kernel_rfl) Pl (pure_cons (by kernel_rfl) Yk pure_nil)
theorem W4 (e:Ex) (cs:List Value) (m:Mem) (he:bJ m e cs):aJ 219 [.v (.agg ⟨cs⟩)] m (.bool (mW e)):=by
 cases e with
 |mk k n s c ty args=>
  simp only[bJ] at he;obtain⟨a,cp,xs,rfl,bg,hr,ar,eE⟩:=he;have hn:=ar.2.2.2.2.2;refine enter DF AF Tryz.func219 rfl rfl (by kernel_rfl) rfl ?_ ?_
  ·simp only[go_sem,aK]
  ·simp only[go_sem,aK];refine ei AF (fun x:Nat×Mem=>⟨[⟨1,[],.box 0 0⟩,⟨3,[],.v (.int .i64 x.1)⟩],[],[⟨0,33,(aK k n s c ty (.slice a args.length cp)).map .v⟩],[],1,x.2⟩)
    (fun x=>ae m x.2/\x.1<=args.length/\gg (args.take x.1)=true) (fun x=>args.length - x.1) (0,m) (by kernel_rfl) (fun _ _=>au _) (fun x hx=>hx.1) (fun _=> ?_) ?_ ?_ ?_
   ·simp only[go_sem,aK]
   ·simp only[go_sem,aK];rfl
   ·exact⟨.inl rfl,aG _,by simp [gg]⟩
   ·rintro⟨i,mm⟩ ⟨h1,h2,h3⟩;simp only at h1 h2 h3;have hx:∀(hi:i<args.length),∃x:Nd,Rd mm (cM a (i * 8)) x.cs/\a≠none/\aJ 36 [.v (.agg ⟨x.cs⟩)] mm (.bool (bG args[i])):=fun hi=>by
     have aT:=bw h1 (rv eE hi);obtain⟨x,hx⟩:=o5 aT;have bU:=dA (ax h1 hr) hi;rw[hx] at aT bU;exact⟨x,bU.1,bU.2,D5 _ args[i] x.cs mm (au _) aT⟩
    simp only[go_sem,aK];refine⟨fun ay=> ?_,fun cg=> ?_⟩
    ·refine Exists.elim (hx (by clear hx;omega)) fun x bP=>⟨⟨by clear hx bP;omega,ay,bP.2.1⟩,x.cs,⟨bP.1,rfl⟩,?_⟩
     clear hx;have ha:=bP.2.2;simp only[go_sem,Nd.cs,aK];refine ab ((aQ ha (fun V=>rfl)).mono ?_);clear bP ha;rintro r H' m2 aH ⟨aY,rfl,rfl⟩;simp only[go_sem,aK];have hi:i<args.length:=by omega
     refine⟨fun hv=>⟨aa h1 aY,?_⟩,fun hv=>⟨by unfold aF;simp only[av] at hn;omega,(i+1,m2),⟨by simp,.inl rfl⟩,⟨aa h1 aY,by simp only;omega,?_⟩,by simp only;omega⟩⟩
     ·rw[mW,Na hi hv,Bool.and_false]
     ·simp only;rw[Hf hi,h3,hv];rfl
    ·clear hx;rw[fi (by omega)] at h3;refine⟨h1,?_⟩;rw[mW,h3,Bool.and_true];exact ZA k n s c ty args.length
theorem Ho (sup:Bool) (l:List St) (a:Option Addr) (n c:Nat) (xs:List Value) (m:Mem) (hl:n=l.length) (hr:aZ m a n 23 xs) (hs:bZ m l xs) (hn:n<=av)
  (hV:∀e∈l,∀cs m',ae m m' ->fK m' e cs->aJ 172 [.v (.agg ⟨cs⟩)] m' (.bool (fv e))):
  aJ 108 [.v (.slice a n c),.v (.bool sup)] m (.bool (eB sup l)):=by
 refine aR aB Tryz.func108 ?_
 ·simp only[go_sem];refine du aB (fun x:Nat×Mem=>⟨[⟨0,[],.v (.slice a n c)⟩,⟨1,[],.v (.bool sup)⟩,⟨5,[],.v (.int .i64 x.1)⟩],[],[],[],0,x.2⟩)
    (fun x=>ae m x.2/\x.1<=n/\b9 sup (l.take x.1)=true) (fun x=>n - x.1) (0,m) (fun _ _=>au _) (fun x hx=>hx.1) ?_ ?_ ?_
  ·simp only[go_sem];rfl
  ·exact⟨.inl rfl,aG _,by simp [b9]⟩
  ·rintro⟨k,mm⟩ ⟨h1,h2,h3⟩;simp only at h1 h2 h3;have hy:∀(hk:k<l.length),∃X:Sd,(Rd mm (cM a (k * 23)) X.cs/\a≠none)/\X.k=l[k].k/\aJ 172 [.v (.agg ⟨X.cs⟩)] mm (.bool (fv l[k])):=fun hk=>by
    have aT:=sL h1 (qc hs hk);have LB:∃X:Sd,(xs.drop (k * 23)).take 23=X.cs/\X.k=l[k].k:=by
     cases lE:l[k] with
     |mk k' nm ty tg ex body alt=>
      rw[lE] at aT;obtain⟨X,e1,e2,_⟩:=qX aT;exact⟨X,e1,e2⟩
    obtain⟨X,e1,e2⟩:=LB;have r1:=dA (ax h1 hr) (by omega:k<n);rw[e1] at r1 aT;exact⟨X,r1,e2,hV _ (List.getElem_mem hk) _ _ h1 aT⟩
   clear hV;simp only[go_sem];refine⟨fun ay=> ?_,fun cg=>⟨h1,?_⟩⟩
   ·have hk:k<l.length:=by clear hy;omega
    refine Exists.elim (hy hk) fun X br=>⟨⟨by clear hy br;omega,ay,br.1.2⟩,iT br.1.1,.int .i64 X.k,gK br.1.1 0 1 (dv rfl),?_⟩
    clear hy;have iM:=br.2.1;have ha:=br.2.2;have hr1:=br.1.1;have hrn:=br.1.2;clear br;simp only[go_sem,Sd.cs,Nd.cs];refine⟨fun _=>⟨by omega,ay,hrn⟩,X.cs,fun _=>⟨hr1,rfl⟩,fun hc=>ab (ha.mono ?_),fun hc=>⟨h1,?_⟩⟩
    ·clear ha;have hb:oP sup k l[k]=fv l[k]:=by
      rw[iM] at hc;rcases hc with hc |hc
      ·simp [oP,hc]
      ·have:k=0:=by omega
       simp [oP,hc.1,this]
     rintro r H' m2 aH ⟨aY,rfl,rfl⟩;simp only[go_sem];refine⟨fun hv=>⟨aa h1 aY,?_⟩,fun hv=>⟨by unfold aF;simp only[av] at hn;omega,(k+1,m2),⟨by simp,.inl rfl⟩,⟨aa h1 aY,by simp only;omega,?_⟩,by simp only;omega⟩⟩
     ·rw[eB,DY hk (by rw[hb];exact hv),Bool.and_false]
     ·simp only;rw[DP hk,h3,hb,hv];rfl
    ·clear ha;rw[iM] at hc;rw[eB,DY hk,Bool.and_false];rcases hc.2 with h0 |h0
     ·simp [oP,hc.1,h0]
     ·have:¬k=0:=by omega
      simp [oP,hc.1,this]
   ·clear hy;rw[fi (by omega)] at h3;rw[eB,h3,Bool.and_true,decide_eq_decide];omega
theorem Wh (X:Sd) (tg ex:Ex) (body alt:List St) (t t2 b1 b2:Bool) (m:Mem) (h1:BL X.name) (h2:BL X.ty.name) (df:bJ m tg X.tg.cs) (hl:X.l=body.length) (ck:X.l2=alt.length)
  (hB:∀m',ae m m' ->aJ 108 [.v (.slice X.a X.l X.cp),.v (.bool false)] m' (.bool (eB false body)))
  (hA:∀m',ae m m' ->aJ 108 [.v (.slice X.b X.l2 X.cp2),.v (.bool false)] m' (.bool (eB false alt))):
  aJ 218 [.v (.agg ⟨X.cs⟩),.v (.bool t),.v (.bool t2),.v (.bool b1),.v (.bool b2)] m (.bool (jf X.name X.ty tg body alt t t2 b1 b2)):=by
 have hz:jj tg=ji X.tg.k X.tg.n X.tg.s X.tg.c X.tg.ty X.tg.l:=by
  cases tg with
  |mk k n s c ty args=>
   obtain⟨y,hy,e1,e2,e3,e4,e5,e6,_⟩:=qZ df;rw[zN hy,e1,e2,e3,e4,e5,e6];rfl
 refine enter oY pQ Tryz.func218 rfl rfl (by kernel_rfl) rfl ?_ ?_
 ·simp only[go_sem,Sd.cs,Nd.cs]
 ·simp only[go_sem,Sd.cs,Nd.cs];have e0:jf X.name X.ty tg body alt t t2 b1 b2=(lg X.name X.ty t&&(t2||jj tg)&&(b1||decide (body.length=0))&&(b2||decide (alt.length=0))&&eB false body&&eB false alt):=rfl;refine⟨⟨h1,h2⟩,fun hc=>ab ((hB m (.inl rfl)).mono ?_),fun hc=> ?_⟩
  ·have q:(lg X.name X.ty t&&(t2||jj tg)&&(b1||decide (body.length=0))&&(b2||decide (alt.length=0)))=true:=by
    rw[hz,<- hl,<- ck];simp only[aD,Bool.or_eq_true,bt];exact⟨⟨⟨hc.1.1.1,hc.1.1.2⟩,Or.elim hc.1.2 .inl fun h=> .inr (by omega)⟩,Or.elim hc.2 .inl fun h=> .inr (by omega)⟩
   rw[e0,q];clear hB e0 q;rintro r H' m1 aN ⟨l1,rfl,rfl⟩;simp only[go_sem];refine⟨fun hb=>ab ((hA m1 l1).mono ?_),fun hb=>⟨l1,by rw[hb];rfl⟩⟩;clear hA;rintro r H' m2 aH ⟨l2,rfl,rfl⟩;simp only[go_sem];exact⟨aa l1 l2,by rw[hb];rfl⟩
  ·clear hA hB;rw[e0,hz,<- hl,<- ck];rcases hc with ((h |h) |h) |h
   ·have h' :lg X.name X.ty t=false:=h;rw[h'];rfl
   ·have h' :ji X.tg.k X.tg.n X.tg.s X.tg.c X.tg.ty X.tg.l=false:=h.2;rw[h',h.1];simp
   ·have h' :decide (X.l=0)=false:=di (by omega);rw[h',h.1];simp
   ·have h' :decide (X.l2=0)=false:=di (by omega);rw[h',h.1];simp
theorem aiY (nm:List UInt8) (ty:Ty) (tN eN:Nd) (a:Option Addr) (l cp:Nat) (b:Option Addr) (l2 cp2:Nat) (m:Mem) (sB:Bool) (hS:aJ 218 [.v (.agg ⟨Sd.cs ⟨1,nm,ty,tN,eN,a,l,cp,b,l2,cp2⟩⟩),.v (.bool true),.v (.bool false),.v (.bool false),.v (.bool false)] m (.bool sB)) (xB:Bool) (hX:∀m',ae m m' ->aJ 36 [.v (.agg ⟨eN.cs⟩)] m' (.bool xB)):aJ 172 [.v (.agg ⟨Sd.cs ⟨1,nm,ty,tN,eN,a,l,cp,b,l2,cp2⟩⟩)] m (.bool (sB&&xB)):=by
 refine enter oY pQ Tryz.func172 rfl rfl (by kernel_rfl) rfl ?_ ?_
 ·simp only[go_sem,Sd.cs,Nd.cs,Int.reduceEq,ao,aq]
 ·simp only[go_sem,Sd.cs,Nd.cs,Int.reduceEq,ao,aq];refine ab ((aQ hS (fun V=>rfl)).mono ?_);clear hS;rintro r H' m1 aN ⟨l1,rfl,rfl⟩;simp only[go_sem,Sd.cs,Nd.cs,Int.reduceEq,ao,aq];refine⟨fun c=>ab ((aQ (hX m1 l1) (fun V=>rfl)).mono ?_),fun c=>⟨l1,by rw[c];rfl⟩⟩;clear hX;rintro r H' m2 aH ⟨dS,rfl,rfl⟩;simp only[go_sem,Sd.cs,Nd.cs,Int.reduceEq,ao,aq];exact⟨aa l1 dS,by rw[c];rfl⟩
theorem aiX (nm:List UInt8) (ty:Ty) (tN eN:Nd) (a:Option Addr) (l cp:Nat) (b:Option Addr) (l2 cp2:Nat) (m:Mem) (sB:Bool) (hS:aJ 218 [.v (.agg ⟨Sd.cs ⟨2,nm,ty,tN,eN,a,l,cp,b,l2,cp2⟩⟩),.v (.bool false),.v (.bool true),.v (.bool false),.v (.bool false)] m (.bool sB)) (xB:Bool) (hX:∀m',ae m m' ->aJ 36 [.v (.agg ⟨eN.cs⟩)] m' (.bool xB)) (tB:Bool) (hT:∀m',ae m m' ->aJ 36 [.v (.agg ⟨tN.cs⟩)] m' (.bool tB)):aJ 172 [.v (.agg ⟨Sd.cs ⟨2,nm,ty,tN,eN,a,l,cp,b,l2,cp2⟩⟩)] m (.bool (sB&&xB&&tB&&(decide (tN.k=6)||decide (tN.k=7)||decide (tN.k=8)||decide (tN.k=9)))):=by
 refine enter oY pQ Tryz.func172 rfl rfl (by kernel_rfl) rfl ?_ ?_
 ·simp only[go_sem,Sd.cs,Nd.cs,Int.reduceEq,ao,aq]
 ·simp only[go_sem,Sd.cs,Nd.cs,Int.reduceEq,ao,aq];refine ab ((aQ hS (fun V=>rfl)).mono ?_);clear hS;rintro r H' m1 aN ⟨l1,rfl,rfl⟩;simp only[go_sem,Sd.cs,Nd.cs,Int.reduceEq,ao,aq];refine⟨fun c=>ab ((aQ (hX m1 l1) (fun V=>rfl)).mono ?_),fun c=>⟨l1,by rw[c];rfl⟩⟩;clear hX;rintro r H' m2 aH ⟨dS,rfl,rfl⟩;simp only[go_sem,Sd.cs,Nd.cs,Int.reduceEq,ao,aq];have k2:=aa l1 dS;refine⟨fun c2=>ab ((aQ (hT m2 k2) (fun V=>rfl)).mono ?_),fun c2=>⟨k2,by rw[c,c2];rfl⟩⟩;clear hT;rintro r H' m3 bI ⟨l3',rfl,rfl⟩;simp only[go_sem,Sd.cs,Nd.cs,Int.reduceEq,ao,aq];exact⟨aa k2 l3',by rw[c,c2];rfl⟩
theorem aiW (nm:List UInt8) (ty:Ty) (tN eN:Nd) (a:Option Addr) (l cp:Nat) (b:Option Addr) (l2 cp2:Nat) (m:Mem) (sB:Bool) (hS:aJ 218 [.v (.agg ⟨Sd.cs ⟨3,nm,ty,tN,eN,a,l,cp,b,l2,cp2⟩⟩),.v (.bool false),.v (.bool false),.v (.bool false),.v (.bool false)] m (.bool sB)) (xB:Bool) (hX:∀m',ae m m' ->aJ 36 [.v (.agg ⟨eN.cs⟩)] m' (.bool xB)):aJ 172 [.v (.agg ⟨Sd.cs ⟨3,nm,ty,tN,eN,a,l,cp,b,l2,cp2⟩⟩)] m (.bool (sB&&xB&&(decide (eN.k=10)||decide (eN.k=11)||decide (eN.k=12)||decide (eN.k=13)))):=by
 refine enter oY pQ Tryz.func172 rfl rfl (by kernel_rfl) rfl ?_ ?_
 ·simp only[go_sem,Sd.cs,Nd.cs,Int.reduceEq,ao,aq]
 ·simp only[go_sem,Sd.cs,Nd.cs,Int.reduceEq,ao,aq];refine ab ((aQ hS (fun V=>rfl)).mono ?_);clear hS;rintro r H' m1 aN ⟨l1,rfl,rfl⟩;simp only[go_sem,Sd.cs,Nd.cs,Int.reduceEq,ao,aq];refine⟨fun c=>ab ((aQ (hX m1 l1) (fun V=>rfl)).mono ?_),fun c=>⟨l1,by rw[c];rfl⟩⟩;clear hX;rintro r H' m2 aH ⟨dS,rfl,rfl⟩;simp only[go_sem,Sd.cs,Nd.cs,Int.reduceEq,ao,aq];exact⟨aa l1 dS,by rw[c];rfl⟩
theorem aiV (nm:List UInt8) (ty:Ty) (tN eN:Nd) (a:Option Addr) (l cp:Nat) (b:Option Addr) (l2 cp2:Nat) (m:Mem) (sB:Bool) (hS:aJ 218 [.v (.agg ⟨Sd.cs ⟨4,nm,ty,tN,eN,a,l,cp,b,l2,cp2⟩⟩),.v (.bool false),.v (.bool false),.v (.bool true),.v (.bool true)] m (.bool sB)) (xB:Bool) (hX:∀m',ae m m' ->aJ 36 [.v (.agg ⟨eN.cs⟩)] m' (.bool xB)):aJ 172 [.v (.agg ⟨Sd.cs ⟨4,nm,ty,tN,eN,a,l,cp,b,l2,cp2⟩⟩)] m (.bool (sB&&xB)):=by
 refine enter oY pQ Tryz.func172 rfl rfl (by kernel_rfl) rfl ?_ ?_
 ·simp only[go_sem,Sd.cs,Nd.cs,Int.reduceEq,ao,aq]
 ·simp only[go_sem,Sd.cs,Nd.cs,Int.reduceEq,ao,aq];refine ab ((aQ hS (fun V=>rfl)).mono ?_);clear hS;rintro r H' m1 aN ⟨l1,rfl,rfl⟩;simp only[go_sem,Sd.cs,Nd.cs,Int.reduceEq,ao,aq];refine⟨fun c=>ab ((aQ (hX m1 l1) (fun V=>rfl)).mono ?_),fun c=>⟨l1,by rw[c];rfl⟩⟩;clear hX;rintro r H' m2 aH ⟨dS,rfl,rfl⟩;simp only[go_sem,Sd.cs,Nd.cs,Int.reduceEq,ao,aq];exact⟨aa l1 dS,by rw[c];rfl⟩
theorem aiU (nm:List UInt8) (ty:Ty) (tN eN:Nd) (a:Option Addr) (l cp:Nat) (b:Option Addr) (l2 cp2:Nat) (m:Mem) (sB:Bool) (hS:aJ 218 [.v (.agg ⟨Sd.cs ⟨5,nm,ty,tN,eN,a,l,cp,b,l2,cp2⟩⟩),.v (.bool false),.v (.bool false),.v (.bool true),.v (.bool false)] m (.bool sB)) (xB:Bool) (hX:∀m',ae m m' ->aJ 36 [.v (.agg ⟨eN.cs⟩)] m' (.bool xB)):aJ 172 [.v (.agg ⟨Sd.cs ⟨5,nm,ty,tN,eN,a,l,cp,b,l2,cp2⟩⟩)] m (.bool (sB&&xB)):=by
 refine enter oY pQ Tryz.func172 rfl rfl (by kernel_rfl) rfl ?_ ?_
 ·simp only[go_sem,Sd.cs,Nd.cs,Int.reduceEq,ao,aq]
 ·simp only[go_sem,Sd.cs,Nd.cs,Int.reduceEq,ao,aq];refine ab ((aQ hS (fun V=>rfl)).mono ?_);clear hS;rintro r H' m1 aN ⟨l1,rfl,rfl⟩;simp only[go_sem,Sd.cs,Nd.cs,Int.reduceEq,ao,aq];refine⟨fun c=>ab ((aQ (hX m1 l1) (fun V=>rfl)).mono ?_),fun c=>⟨l1,by rw[c];rfl⟩⟩;clear hX;rintro r H' m2 aH ⟨dS,rfl,rfl⟩;simp only[go_sem,Sd.cs,Nd.cs,Int.reduceEq,ao,aq];exact⟨aa l1 dS,by rw[c];rfl⟩
theorem aiT (nm:List UInt8) (ty:Ty) (tN eN:Nd) (a:Option Addr) (l cp:Nat) (b:Option Addr) (l2 cp2:Nat) (m:Mem) (sB:Bool) (hS:aJ 218 [.v (.agg ⟨Sd.cs ⟨6,nm,ty,tN,eN,a,l,cp,b,l2,cp2⟩⟩),.v (.bool false),.v (.bool false),.v (.bool false),.v (.bool false)] m (.bool sB)) (xB:Bool) (hX:∀m',ae m m' ->aJ 36 [.v (.agg ⟨eN.cs⟩)] m' (.bool xB)):aJ 172 [.v (.agg ⟨Sd.cs ⟨6,nm,ty,tN,eN,a,l,cp,b,l2,cp2⟩⟩)] m (.bool (sB&&(ji eN.k eN.n eN.s eN.c eN.ty eN.l||xB))):=by
 refine enter oY pQ Tryz.func172 rfl rfl (by kernel_rfl) rfl ?_ ?_
 ·simp only[go_sem,Sd.cs,Nd.cs,Int.reduceEq,ao,aq]
 ·simp only[go_sem,Sd.cs,Nd.cs,Int.reduceEq,ao,aq];refine ab ((aQ hS (fun V=>rfl)).mono ?_);clear hS;rintro r H' m1 aN ⟨l1,rfl,rfl⟩;simp only[go_sem,Sd.cs,Nd.cs,Int.reduceEq,ao,aq];refine⟨fun c=>⟨fun z=>ab ((aQ (hX m1 l1) (fun V=>rfl)).mono ?_),fun z=>⟨l1,?_⟩⟩,fun c=>⟨l1,by rw[c];rfl⟩⟩
  ·clear hX;have z:ji eN.k eN.n eN.s eN.c eN.ty eN.l=false:=z;rintro r H' m2 aH ⟨dS,rfl,rfl⟩;simp only[go_sem,Sd.cs,Nd.cs,Int.reduceEq,ao,aq];exact⟨aa l1 dS,by rw[c,z];rfl⟩
  ·have z:ji eN.k eN.n eN.s eN.c eN.ty eN.l=true:=z;rw[c,z];rfl
theorem aiS (nm:List UInt8) (ty:Ty) (tN eN:Nd) (a:Option Addr) (l cp:Nat) (b:Option Addr) (l2 cp2:Nat) (m:Mem) (sB:Bool) (hS:aJ 218 [.v (.agg ⟨Sd.cs ⟨7,nm,ty,tN,eN,a,l,cp,b,l2,cp2⟩⟩),.v (.bool false),.v (.bool false),.v (.bool false),.v (.bool false)] m (.bool sB)) (xB:Bool) (hX:∀m',ae m m' ->aJ 36 [.v (.agg ⟨eN.cs⟩)] m' (.bool xB)):aJ 172 [.v (.agg ⟨Sd.cs ⟨7,nm,ty,tN,eN,a,l,cp,b,l2,cp2⟩⟩)] m (.bool (sB&&xB)):=by
 refine enter oY pQ Tryz.func172 rfl rfl (by kernel_rfl) rfl ?_ ?_
 ·simp only[go_sem,Sd.cs,Nd.cs,Int.reduceEq,ao,aq]
 ·simp only[go_sem,Sd.cs,Nd.cs,Int.reduceEq,ao,aq];refine ab ((aQ hS (fun V=>rfl)).mono ?_);clear hS;rintro r H' m1 aN ⟨l1,rfl,rfl⟩;simp only[go_sem,Sd.cs,Nd.cs,Int.reduceEq,ao,aq];refine⟨fun c=>ab ((aQ (hX m1 l1) (fun V=>rfl)).mono ?_),fun c=>⟨l1,by rw[c];rfl⟩⟩;clear hX;rintro r H' m2 aH ⟨dS,rfl,rfl⟩;simp only[go_sem,Sd.cs,Nd.cs,Int.reduceEq,ao,aq];exact⟨aa l1 dS,by rw[c];rfl⟩
theorem aiR (nm:List UInt8) (ty:Ty) (tN eN:Nd) (a:Option Addr) (l cp:Nat) (b:Option Addr) (l2 cp2:Nat) (m:Mem) (sB:Bool) (hS:aJ 218 [.v (.agg ⟨Sd.cs ⟨8,nm,ty,tN,eN,a,l,cp,b,l2,cp2⟩⟩),.v (.bool true),.v (.bool false),.v (.bool true),.v (.bool true)] m (.bool sB)):aJ 172 [.v (.agg ⟨Sd.cs ⟨8,nm,ty,tN,eN,a,l,cp,b,l2,cp2⟩⟩)] m (.bool (sB&&ji eN.k eN.n eN.s eN.c eN.ty eN.l)):=by
 refine enter oY pQ Tryz.func172 rfl rfl (by kernel_rfl) rfl ?_ ?_
 ·simp only[go_sem,Sd.cs,Nd.cs,Int.reduceEq,ao,aq]
 ·simp only[go_sem,Sd.cs,Nd.cs,Int.reduceEq,ao,aq];refine ab ((aQ hS (fun V=>rfl)).mono ?_);clear hS;rintro r H' m1 aN ⟨l1,rfl,rfl⟩;simp only[go_sem,Sd.cs,Nd.cs,Int.reduceEq,ao,aq];exact l1
theorem aiQ (nm:List UInt8) (ty:Ty) (tN eN:Nd) (a:Option Addr) (l cp:Nat) (b:Option Addr) (l2 cp2:Nat) (m:Mem) (sB:Bool) (hS:aJ 218 [.v (.agg ⟨Sd.cs ⟨9,nm,ty,tN,eN,a,l,cp,b,l2,cp2⟩⟩),.v (.bool false),.v (.bool false),.v (.bool true),.v (.bool false)] m (.bool sB)) (xB:Bool) (hX:∀m',ae m m' ->aJ 36 [.v (.agg ⟨eN.cs⟩)] m' (.bool xB)):aJ 172 [.v (.agg ⟨Sd.cs ⟨9,nm,ty,tN,eN,a,l,cp,b,l2,cp2⟩⟩)] m (.bool (sB&&xB)):=by
 refine enter oY pQ Tryz.func172 rfl rfl (by kernel_rfl) rfl ?_ ?_
 ·simp only[go_sem,Sd.cs,Nd.cs,Int.reduceEq,ao,aq]
 ·simp only[go_sem,Sd.cs,Nd.cs,Int.reduceEq,ao,aq];refine ab ((aQ hS (fun V=>rfl)).mono ?_);clear hS;rintro r H' m1 aN ⟨l1,rfl,rfl⟩;simp only[go_sem,Sd.cs,Nd.cs,Int.reduceEq,ao,aq];refine⟨fun c=>ab ((aQ (hX m1 l1) (fun V=>rfl)).mono ?_),fun c=>⟨l1,by rw[c];rfl⟩⟩;clear hX;rintro r H' m2 aH ⟨dS,rfl,rfl⟩;simp only[go_sem,Sd.cs,Nd.cs,Int.reduceEq,ao,aq];exact⟨aa l1 dS,by rw[c];rfl⟩
theorem afQ (nm:List UInt8) (ty:Ty) (tN eN:Nd) (a:Option Addr) (l cp:Nat) (b:Option Addr) (l2 cp2:Nat) (m:Mem) (sB:Bool) (hS:aJ 218 [.v (.agg ⟨Sd.cs ⟨10,nm,ty,tN,eN,a,l,cp,b,l2,cp2⟩⟩),.v (.bool false),.v (.bool false),.v (.bool true),.v (.bool false)] m (.bool sB)):aJ 172 [.v (.agg ⟨Sd.cs ⟨10,nm,ty,tN,eN,a,l,cp,b,l2,cp2⟩⟩)] m (.bool (sB&&ji eN.k eN.n eN.s eN.c eN.ty eN.l)):=by
 refine enter oY pQ Tryz.func172 rfl rfl (by kernel_rfl) rfl ?_ ?_
 ·simp only[go_sem,Sd.cs,Nd.cs,Int.reduceEq,ao,aq]
 ·simp only[go_sem,Sd.cs,Nd.cs,Int.reduceEq,ao,aq];refine ab ((aQ hS (fun V=>rfl)).mono ?_);clear hS;rintro r H' m1 aN ⟨l1,rfl,rfl⟩;simp only[go_sem,Sd.cs,Nd.cs,Int.reduceEq,ao,aq];exact l1
theorem afP (nm:List UInt8) (ty:Ty) (tN eN:Nd) (a:Option Addr) (l cp:Nat) (b:Option Addr) (l2 cp2:Nat) (m:Mem) (sB:Bool) (hS:aJ 218 [.v (.agg ⟨Sd.cs ⟨11,nm,ty,tN,eN,a,l,cp,b,l2,cp2⟩⟩),.v (.bool false),.v (.bool false),.v (.bool false),.v (.bool false)] m (.bool sB)) (xB:Bool) (hX:∀m',ae m m' ->aJ 219 [.v (.agg ⟨eN.cs⟩)] m' (.bool xB)):aJ 172 [.v (.agg ⟨Sd.cs ⟨11,nm,ty,tN,eN,a,l,cp,b,l2,cp2⟩⟩)] m (.bool (sB&&xB)):=by
 refine enter oY pQ Tryz.func172 rfl rfl (by kernel_rfl) rfl ?_ ?_
 ·simp only[go_sem,Sd.cs,Nd.cs,Int.reduceEq,ao,aq]
 ·simp only[go_sem,Sd.cs,Nd.cs,Int.reduceEq,ao,aq];refine ab ((aQ hS (fun V=>rfl)).mono ?_);clear hS;rintro r H' m1 aN ⟨l1,rfl,rfl⟩;simp only[go_sem,Sd.cs,Nd.cs,Int.reduceEq,ao,aq];refine⟨fun c=>ab ((aQ (hX m1 l1) (fun V=>rfl)).mono ?_),fun c=>⟨l1,by rw[c];rfl⟩⟩;clear hX;rintro r H' m2 aH ⟨dS,rfl,rfl⟩;simp only[go_sem,Sd.cs,Nd.cs,Int.reduceEq,ao,aq];exact⟨aa l1 dS,by rw[c];rfl⟩
theorem aiZ (k:Int) (nm:List UInt8) (ty:Ty) (tN eN:Nd) (a:Option Addr) (l cp:Nat) (b:Option Addr) (l2 cp2:Nat) (m:Mem) (e:∀j:Int,1<=j->j<=11->(k=j)=False):
  aJ 172 [.v (.agg ⟨Sd.cs ⟨k,nm,ty,tN,eN,a,l,cp,b,l2,cp2⟩⟩)] m (.bool false):=by
 have e1:=e 1 (by decide) (by decide);have e2:=e 2 (by decide) (by decide);have e3:=e 3 (by decide) (by decide);have e4:=e 4 (by decide) (by decide);have e5:=e 5 (by decide) (by decide);have e6:=e 6 (by decide) (by decide);have e7:=e 7 (by decide) (by decide);have e8:=e 8 (by decide) (by decide);have e9:=e 9 (by decide) (by decide);have jc:=e 10 (by decide) (by decide);have lW:=e 11 (by decide) (by decide);refine enter oY pQ Tryz.func172 rfl rfl (by kernel_rfl) rfl ?_ ?_
 ·simp only[go_sem,Sd.cs,Nd.cs]
 ·simp only[go_sem,Sd.cs,Nd.cs,e1,e2,e3,e4,e5,e6,e7,e8,e9,jc,lW,aq]
theorem J1 {m:Mem} {e:Ex} {x:Nd} (h:bJ m e x.cs):x.k=e.k/\ji x.k x.n x.s x.c x.ty x.l=jj e:=by
 cases e with
 |mk k n s c ty args=>
  obtain⟨y,hy,e1,e2,e3,e4,e5,e6,_⟩:=qZ h;rw[zN hy,e1,e2,e3,e4,e5,e6];exact⟨rfl,rfl⟩
theorem Hl:∀(h:Nat) (e:St) (cs:List Value) (m:Mem),eQ e<=h->fK m e cs->aJ 172 [.v (.agg ⟨cs⟩)] m (.bool (fv e))
 |0,.mk k nm ty tg ex body alt,cs,m,hd,_=>by simp [eQ] at hd
 |h+1,.mk k nm ty tg ex body alt,cs,m,hd,he=>by
  obtain⟨⟨k,nm,ty,tN,eN,a,l,cp,b,l2,cp2⟩,rfl,rfl,rfl,rfl,df,hex,hl,bg,ck,ea,ar,xs,ys,r1,r2,s1,s2⟩:=qX he;simp only[eQ] at hd;simp only at df hex hl bg ck ea ar r1 r2;have hB:=fun m' (hle:ae m m')=>Ho false body a l cp xs m' hl (ax hle r1) (dp hle s1) (by rw[hl];exact ar.l) fun e he cs m2 aY aT=>Hl h e cs m2 (by have:=lY he;omega) aT
  have hA:=fun m' (hle:ae m m')=>Ho false alt b l2 cp2 ys m' ck (ax hle r2) (dp hle s2) (by rw[ck];exact ar.l2) fun e he cs m2 aY aT=>Hl h e cs m2 (by have:=lY he;omega) aT
  have hS:=fun(t t2 b1 b2:Bool)=>Wh ⟨k,nm,ty,tN,eN,a,l,cp,b,l2,cp2⟩ tg ex body alt t t2 b1 b2 m (cZ ar.nm (by decide)) (cZ ar.ty.2.2 (by decide)) df hl ck hB hA
  have hX:=fun m' (hle:ae m m')=>D5 _ ex eN.cs m' (au _) (bw hle hex)
  have hT:=fun m' (hle:ae m m')=>D5 _ tg tN.cs m' (au _) (bw hle df)
  have hR:=fun m' (hle:ae m m')=>W4 ex eN.cs m' (bw hle hex)
  have nt:=J1 df;have ne:=J1 hex;rw[Sa];simp only;rcases P2 (k:=k) with hk |hk
  ·rcases hk with rfl |rfl |rfl |rfl |rfl |rfl |rfl |rfl |rfl |rfl |rfl
   ·have h:=aiY nm ty tN eN a l cp b l2 cp2 m _ (hS true false false false) _ hX;simp only[iu,Int.reduceEq,or_false,or_true,false_or,true_or,if_true,if_false];exact h
   ·have h:=aiX nm ty tN eN a l cp b l2 cp2 m _ (hS false true false false) _ hX _ hT;rw[nt.1] at h;simp only[iu,Int.reduceEq,or_false,or_true,false_or,true_or,if_true,if_false];exact h
   ·have h:=aiW nm ty tN eN a l cp b l2 cp2 m _ (hS false false false false) _ hX;rw[ne.1] at h;simp only[iu,Int.reduceEq,or_false,or_true,false_or,true_or,if_true,if_false];exact h
   ·have h:=aiV nm ty tN eN a l cp b l2 cp2 m _ (hS false false true true) _ hX;simp only[iu,Int.reduceEq,or_false,or_true,false_or,true_or,if_true,if_false];exact h
   ·have h:=aiU nm ty tN eN a l cp b l2 cp2 m _ (hS false false true false) _ hX;simp only[iu,Int.reduceEq,or_false,or_true,false_or,true_or,if_true,if_false];exact h
   ·have h:=aiT nm ty tN eN a l cp b l2 cp2 m _ (hS false false false false) _ hX;rw[ne.2] at h;simp only[iu,Int.reduceEq,or_false,or_true,false_or,true_or,if_true,if_false];exact h
   ·have h:=aiS nm ty tN eN a l cp b l2 cp2 m _ (hS false false false false) _ hX;simp only[iu,Int.reduceEq,or_false,or_true,false_or,true_or,if_true,if_false];exact h
   ·have h:=aiR nm ty tN eN a l cp b l2 cp2 m _ (hS true false true true);rw[ne.2] at h;simp only[iu,Int.reduceEq,or_false,or_true,false_or,true_or,if_true,if_false];exact h
   ·have h:=aiQ nm ty tN eN a l cp b l2 cp2 m _ (hS false false true false) _ hX;simp only[iu,Int.reduceEq,or_false,or_true,false_or,true_or,if_true,if_false];exact h
   ·have h:=afQ nm ty tN eN a l cp b l2 cp2 m _ (hS false false true false);rw[ne.2] at h;simp only[iu,Int.reduceEq,or_false,or_true,false_or,true_or,if_true,if_false];exact h
   ·have h:=afP nm ty tN eN a l cp b l2 cp2 m _ (hS false false false false) _ hR;simp only[iu,Int.reduceEq,or_false,or_true,false_or,true_or,if_true,if_false];exact h
  ·have e:∀j:Int,1<=j->j<=11->¬k=j:=fun j h1 h2 h3=>by have:=hk j h1 h2;rw[this] at h3;exact h3
   have e0:iu k nm ty tg ex body alt=false:=by
    simp only[iu,hk 1 (by decide) (by decide),hk 2 (by decide) (by decide),hk 3 (by decide) (by decide),hk 4 (by decide) (by decide),hk 5 (by decide) (by decide),hk 6 (by decide) (by decide),hk 7 (by decide) (by decide),hk 8 (by decide) (by decide),hk 9 (by decide) (by decide),hk 10 (by decide) (by decide),hk 11 (by decide) (by decide),or_false,if_false]
   rw[e0];exact aiZ k nm ty tN eN a l cp b l2 cp2 m hk
theorem N2 (fl:Int) (m:Mem):FnH Tryz.prog 173 [.v (.int .i64 fl)] ⟨[],[]⟩ m fun r H' _=>r= .v (.bool (kS fl))/\H' =⟨[],[]⟩:=by
 refine aR aB Tryz.func173 ?_
 ·simp only[go_sem];rfl
theorem HH (fl al:Int) (m:Mem):FnH Tryz.prog 109 [.v (.int .i64 fl),.v (.int .i64 al)] ⟨[],[]⟩ m fun r H' _=>r= .v (.bool (lh fl al))/\H' =⟨[],[]⟩:=by
 refine aR aB Tryz.func109 ?_
 ·simp only[go_sem];rfl
def uu (fl:Int):Bool:=lh fl 1087&&kS fl&&(!hasB fl 32|| !hasB fl 8)&&(!hasB fl 1024|| !hasB fl 58)
theorem Ya {fl:Int} (hI:aF fl):uu fl=om fl:=by
 have e:lh fl 1087=fx fl 1087:=Br (al:=1087) hI (by decide);rw[uu,e,om,Bool.not_and];cases kS fl<;>cases fx fl 1087<;>simp [Bool.and_comm]
abbrev Vs:Cfg:=gC (fun _=>false) [(109,wH lh),(173,wI kS),(163,fr BL fun s=> .bool (dn s)),(164,rX dw),(107,fr BL fun s=> .bool (dd s))]
theorem Ux:dt Vs Tryz.prog:=pure_cons (by kernel_rfl) (BW HH) (pure_cons (by kernel_rfl) (BX N2) (pure_cons (by kernel_rfl) (fL Hn) (pure_cons (by kernel_rfl) (vI Hk) (pure_cons (by kernel_rfl) (fL AZ) pure_nil))))
theorem Wl (f:Fc) (m:Mem) (h:FcOk f):aJ 110 [.v (.agg ⟨f.cs⟩)] m (.bool (jQ f)):=by
 have h1:BL f.name:=cZ h.name (by decide);have h2:BL f.ty.name:=cZ h.ty.2.2 (by decide);have h3:jQ f=(lh f.fl 31&&kS f.fl&&dw f.ty.dim f.ty.base f.ty.name&&dn f.name):=by
  have e:lh f.fl 31=fx f.fl 31:=Br (al:=31) h.fl (by decide);rw[e,jQ];cases dw f.ty.dim f.ty.base f.ty.name<;>cases dn f.name<;>cases kS f.fl<;>simp
 rw[h3];refine enter Vs Ux Tryz.func110 rfl rfl (by kernel_rfl) rfl ?_ ?_
 ·simp only[go_sem,Fc.cs]
 ·simp only[go_sem,Fc.cs];exact⟨fun _=>h2,fun _=>h1⟩
theorem Wk (fl:Int) (m:Mem):FnH Tryz.prog 174 [.v (.int .i64 fl)] ⟨[],[]⟩ m fun r H' _=>r= .v (.bool (uu fl))/\H' =⟨[],[]⟩:=by
 refine aR Ux Tryz.func174 ?_
 ·simp only[go_sem];refine⟨fun h=> ?_,fun h=> ?_⟩
  ·rcases h with (h |h) |h
   ·simp [uu,h]
   ·simp [uu,h]
   ·simp [uu,hasB,h.1,h.2]
  ·rw[uu,h.1.1,h.1.2];rcases h.2 with g |g<;>simp [hasB,g]
def oo (d:Md) (i:Bool):Bool:=gh d&& !(i&&va d)
abbrev Ui:Cfg:=gC (fun _=>false) [(109,wH lh),(173,wI kS),(163,fr BL fun s=> .bool (dn s)),(164,rX dw),(174,wI uu)]
theorem TS:dt Ui Tryz.prog:=pure_cons (by kernel_rfl) (BW HH) (pure_cons (by kernel_rfl) (BX N2) (pure_cons (by kernel_rfl) (fL Hn) (pure_cons (by kernel_rfl) (vI Hk) (pure_cons (by kernel_rfl) (BX Wk) pure_nil))))
theorem zF {α:Type} (p:α->Bool):∀(l:List α),l.all p= !(l.any fun x=> !p x)
 |[]=>rfl
 |a::l=>by rw[List.all_cons,List.any_cons,Bool.not_or,Bool.not_not,zF p l]
theorem Bw {α:Type} {p:α->Bool} {l:List α} {k:Nat} (hk:k<l.length):(l.take (k+1)).all p=((l.take k).all p&&p l[k]):=by
 rw[List.take_succ_eq_append_getElem hk,List.all_append];simp
theorem Cb {α:Type} {p:α->Bool} {l:List α} {k:Nat} (hk:k<l.length) (h:p l[k]=false):l.all p=false:=by
 rw[List.all_eq_false];exact⟨_,List.getElem_mem hk,by rw[h];decide⟩
theorem Nq (sup:Bool) (l:List St) (a:Option Addr) (n c:Nat) (xs:List Value) (m:Mem) (hl:n=l.length) (hr:aZ m a n 23 xs) (hs:bZ m l xs) (hn:n<=av):
  aJ 108 [.v (.slice a n c),.v (.bool sup)] m (.bool (eB sup l)):=
 Ho sup l a n c xs m hl hr hs hn fun e _ cs m' _ he=>Hl _ e cs m' (au _) he
theorem Ny {d:Md} {i:Bool} (hI:aF d.fl) (hp:d.params.all gR=true):oo d i=(decide (d.params.length<=16)&&(d.hb||decide (d.body.length=0))&&eB (decide (d.name=eI)) d.body&&
  (if d.name=eI then !i&&mU d.res&&d.hb&&lh d.fl 7&&kS d.fl else((!i||decide (d.fl=1))||decide (d.fl=1025))&&(dn d.name&&(mU d.res||dw d.res.dim d.res.base d.res.name)&&uu d.fl&&(d.hb==decide (bits .and .i64 d.fl 1024=0))))):=by
 have e0:(d.params.any fun p=> !gR p)=false:=by
  have:=zF gR d.params;rw[hp] at this;cases h:d.params.any fun p=> !gR p with
  |false=>rfl
  |true=>rw[h] at this;cases this
 rw[oo,gh,nf,rF,e0,va];by_cases hn:d.name=eI
 ·have e7:lh d.fl 7=fx d.fl 7:=Br (al:=7) hI (by decide);rw[ah hn,ah hn,eF hn,e7];cases ho:fx d.fl 7 with
  |false=>simp
  |true=>
   obtain⟨q1,q2⟩:=aeR hI ho;rw[q1,q2];generalize decide (d.params.length<=16)=w1
   generalize decide (d.body.length=0)=w2
   generalize eB true d.body=w3
   generalize mU d.res=w4
   generalize kS d.fl=w5
   cases d.hb<;>cases i<;>cases w1<;>cases w2<;>cases w3<;>cases w4<;>cases w5<;>simp
 ·rw[af hn,af hn,di hn,Ya hI,hasB];generalize decide (d.params.length<=16)=w1
  generalize decide (d.body.length=0)=w2
  generalize eB false d.body=w3
  generalize (dn d.name&&(mU d.res||dw d.res.dim d.res.base d.res.name))=w4
  generalize om d.fl=w5
  generalize decide (bits .and .i64 d.fl 1024=0)=w6
  generalize decide (d.fl=1)=w7
  generalize decide (d.fl=1025)=w8
  cases d.hb<;>cases i<;>cases w1<;>cases w2<;>cases w3<;>cases w4<;>cases w5<;>cases w6<;>cases w7<;>cases w8<;>rfl
theorem VO {d:Md} {i:Bool} {k:Nat} (hk:k<d.params.length) (h:gR d.params[k]=false):oo d i=false:=by
 have e0:=zF gR d.params;rw[Cb hk h] at e0;rw[oo,gh,<- e0];simp
theorem VP {d:Md} {i:Bool} (h:eB (decide (d.name=eI)) d.body=false):oo d i=false:=by
 rw[oo,gh,h];simp
theorem VW (d:Md) (i:Bool) (cs:List Value) (m:Mem) (h:gS m d cs):aJ 111 [.v (.agg ⟨cs⟩),.v (.bool i)] m (.bool (oo d i)):=by
 obtain⟨fl,res,name,params,hb,body⟩:=d;obtain⟨x,⟨rfl,rfl,rfl,rfl,rfl⟩,⟨j2,wO,hl,bg⟩,ar,r1,xs,r2,s2⟩:=h;simp only at j2 hl r1 s2;have h1:BL x.name:=cZ ar.name (by decide);have h2:BL x.res.name:=cZ ar.res.2.2 (by decide);have bp:x.pl<=av:=by rw[j2];exact ar.pl
 have pR:∀p∈params,BL p.name/\BL p.ty.name:=fun p hp=>⟨cZ (ar.ps p hp).name (by decide),cZ (ar.ps p hp).ty.2.2 (by decide)⟩
 have hB:=Nq (decide (x.name=eI)) body x.a x.l x.cp xs m hl r2 s2 (by rw[hl];exact ar.l);have hI:aF x.fl:=ar.fl;clear s2;refine enter Ui TS Tryz.func111 rfl rfl (by kernel_rfl) rfl ?_ ?_
 ·simp only[go_sem,Mc.cs]
 ·simp only[go_sem,Mc.cs];refine ei TS (fun y:Nat=>⟨[⟨1,[],.v (.bool i)⟩,⟨2,[],.box 0 0⟩,⟨5,[],.v (.int .i64 y)⟩],[],[⟨0,98,x.cs.map .v⟩],[],1,m⟩)
    (fun y=>y<=x.pl/\(params.take y).all gR=true) (fun y=>x.pl - y) 0 (by kernel_rfl) (fun _ _=>au _) (fun y hy=> .inl rfl) (fun _=> ?_) ?_ ?_ ?_
  ·simp only[go_sem,Mc.cs]
  ·simp only[go_sem,Mc.cs];rfl
  ·exact⟨aG _,rfl⟩
  ·rintro k ⟨g2,g3⟩;have hy:∀(hk:k<params.length),(Rd m (cM x.pa (k * 4)) (params[k]).cs/\x.pa≠none)/\BL params[k].name/\BL params[k].ty.name:=fun hk=>by
    have q1:=dA r1 (by omega:k<x.pl);rw[pd (f:=Pc.cs) (sz:=4) (fun _=>rfl) hk] at q1;exact⟨q1,pR _ (List.getElem_mem hk)⟩
   simp only[go_sem,Mc.cs];refine⟨fun ay=> ?_,fun cg=>⟨qn,fun c=>ab (hB.mono ?_),fun c=> ?_⟩⟩
   ·have hk:k<params.length:=by clear hB;omega
    have br:=hy hk;clear hy hB;refine⟨⟨by omega,ay,br.1.2⟩,iT br.1.1,[.int .i64 params[k].ty.dim,.int .u8 params[k].ty.base,.string (bs params[k].ty.name)],⟨gK br.1.1 0 3 (dv rfl),rfl⟩,?_⟩;simp only[go_sem,Mc.cs,Pc.cs];refine⟨br.2.2,fun _=>⟨by omega,ay,br.1.2⟩,fun _=>iT br.1.1,.string (bs params[k].name),fun _=>gK br.1.1 3 1 (dv rfl),?_⟩;have hBn:=br.2.1;clear br;have cu:=VO (d:=⟨x.fl,x.res,x.name,params,x.hb,body⟩) (i:=i) hk;simp only[gR] at cu;simp only[go_sem,Mc.cs,Pc.cs];refine⟨fun _=>hBn,fun hf=>(cu ?_).symm,fun ht=>⟨by unfold aF;simp only[av] at bp;omega,k+1,by simp,⟨by omega,?_⟩,by omega⟩⟩
    ·rcases hf with h |h<;>simp [h]
    ·rw[Bw hk,g3,gR,ht.1,ht.2];rfl
   ·clear hB;have iM:params.take k=params:=fi (by omega);rw[iM] at g3;have hE:=Ny (d:=⟨x.fl,x.res,x.name,params,x.hb,body⟩) (i:=i) hI g3;have cu:=VP (d:=⟨x.fl,x.res,x.name,params,x.hb,body⟩) (i:=i);simp only at hE cu;rw[eF (by omega:params.length<=16),(by rcases c.2 with h |h;rw[h];rfl;rw[eF (by omega:body.length=0),Bool.or_true]:(x.hb||decide (body.length=0))=true),Bool.true_and,Bool.true_and] at hE;rintro r H' m2 aH ⟨l2,rfl,rfl⟩;simp only[go_sem,Mc.cs];refine⟨fun hb=>⟨l2,(cu hb).symm⟩,fun hb=> ?_⟩;rw[hb,Bool.true_and] at hE;refine⟨fun hn=>⟨l2,?_⟩,fun hn=>⟨fun hc=>⟨l2,?_⟩,fun hc=>⟨h1,fun _=>h2,by kernel_rfl,l2,?_⟩⟩⟩
    ·have yy:x.name=eI:=hn;rw[hE,ah yy];rfl
    ·have yy:¬x.name=eI:=hn;rw[hE,af yy];simp [hc]
    ·have yy:¬x.name=eI:=hn;rw[hE,af yy];have e:((!i||decide (x.fl=1))||decide (x.fl=1025))=true:=by
      rcases hc with (h |h) |h<;>simp [h]
     rw[e,Bool.true_and];rfl
   ·clear hB;have iM:params.take k=params:=fi (by omega);rw[iM] at g3;have hE:=Ny (d:=⟨x.fl,x.res,x.name,params,x.hb,body⟩) (i:=i) hI g3;simp only at hE;rw[hE];rcases c with h |h
    ·rw[di (by omega:¬params.length<=16)];rfl
    ·rw[h.1,di (by omega:¬body.length=0)];simp
def SL (d:Cd):Bool:=lh d.fl 1537&&hasB d.fl 1024&&decide (d.fields.length=0)&&decide (d.init.length=0)&&decide (d.super=lv)
def Si (d:Cd):Bool:=lh d.fl 1041&& !(hasB d.fl 16&&hasB d.fl 1024)
def CA (d:Cd):Bool:=if hasB d.fl 512=true then SL d else Si d
def z8 (d:Cd):Bool:=mg d&&pE d
def Fx (d:Cd):Bool:=z8 d&&eB false d.init&&CA d&&d.ifs.all dd&&d.fields.all jQ&&d.methods.all fun e=>oo e (hasB d.fl 512)
theorem Qw (i:Bool):∀(l:List Md),(l.all fun e=>oo e i)=(l.all gh&& !(i&&l.any va))
 |[]=>by simp
 |e::r=>by
  rw[List.all_cons,List.all_cons,List.any_cons,Qw i r,oo];cases gh e<;>cases i<;>cases va e<;>simp
theorem aaZ (d:Cd) (hI:aF d.fl):Fx d=im d:=by
 have e1:lh d.fl 1537=fx d.fl 1537:=Br (al:=1537) hI (by decide);have e2:lh d.fl 1041=fx d.fl 1041:=Br (al:=1041) hI (by decide);have e3:decide (d.fields.length+d.init.length=0)=(decide (d.fields.length=0)&&decide (d.init.length=0)):=by
  rw[<- Bool.decide_and,decide_eq_decide];omega
 rw[Fx,Qw,im,oF,CA,z8,SL,Si,zO,e1,e2,e3,zF dd,zF jQ,zF gh];generalize mg d=q1
 generalize pE d=q2
 generalize eB false d.init=q3
 generalize fx d.fl 1537=q4
 generalize fx d.fl 1041=q5
 generalize (d.ifs.any fun x=> !dd x)=q6
 generalize (d.fields.any fun x=> !jQ x)=q7
 generalize (d.methods.any fun x=> !gh x)=q8
 generalize d.methods.any va=q9
 generalize hasB d.fl 1024=w1
 generalize decide (d.fields.length=0)=w2
 generalize decide (d.init.length=0)=w3
 generalize decide (d.super=lv)=w4
 cases hasB d.fl 512
 ·simp only[Bool.false_and,Bool.not_false,Bool.and_true,Bool.false_eq_true,if_false];generalize hasB d.fl 16=w5
  cases q1<;>cases q2<;>cases q3<;>cases q5<;>cases q6<;>cases q7<;>cases q8<;>simp
 ·simp only[Bool.true_and,if_true];cases q1<;>cases q2<;>cases q3<;>cases q4<;>cases q6<;>cases q7<;>cases q8<;>cases q9<;>cases w2<;>cases w3<;>simp
abbrev Uj:Cfg:=gC (fun _=>false) [(109,wH lh),(107,fr BL fun s=> .bool (dd s))]
theorem FX:dt Uj Tryz.prog:=pure_cons (by kernel_rfl) (BW HH) (pure_cons (by kernel_rfl) (fL AZ) pure_nil)
set_option maxHeartbeats 8000000 in
theorem Wn (d:Cd) (cs:List Value) (m:Mem) (h:ki m d cs):aJ 42 [.v (.agg ⟨cs⟩)] m (.bool (Fx d)):=by
 obtain⟨fl,name,super,ifs,fields,methods,init⟩:=d;obtain⟨x,⟨rfl,rfl,rfl,rfl⟩,⟨dG,hic,fU,hfc,hml,hmc,fF,hsc⟩,ar,r1,r2,xs,ys,r3,s3,r4,s4⟩:=h;simp only at dG fU hml fF r1 r2 r3 s3 r4 s4;have h1:BL x.name:=cZ ar.name (by decide);have h2:BL x.super:=cZ ar.super (by decide);have b0:x.il<=av:=by rw[dG];exact ar.il
 have b1:x.fn<=av:=by rw[fU];exact ar.fn
 have b2:x.ml<=av:=by rw[hml];exact ar.ml
 have hB:=Nq false init x.sa x.sl x.sc ys m fF r4 s4 (by rw[fF];exact ar.l);have y0:∀m',ae m m' ->∀i (hk:i<ifs.length),(Rd m' (cM x.ia i) [.string (bs ifs[i])]/\x.ia≠none)/\BL ifs[i]:=fun m' hle i hk=>⟨zw (ax hle r1) hk,cZ (ar.ifs _ (List.getElem_mem hk)) (by decide)⟩
 have y1:∀m',ae m m' ->∀i (hk:i<fields.length),(Rd m' (cM x.fa (i * 5)) (fields[i]).cs/\x.fa≠none)/\aJ 110 [.v (.agg ⟨(fields[i]).cs⟩)] m' (.bool (jQ fields[i])):=fun m' hle i hk=>by
  have:=dA (ax hle r2) (by omega:i<x.fn);rw[pd (f:=Fc.cs) (sz:=5) (fun _=>rfl) hk] at this;exact⟨this,Wl _ m' (ar.fs _ (List.getElem_mem hk))⟩
 have y2:∀m',ae m m' ->∀i (hk:i<methods.length),∃X:Mc,(Rd m' (cM x.ma (i * 8)) X.cs/\x.ma≠none)/\∀b,aJ 111 [.v (.agg ⟨X.cs⟩),.v (.bool b)] m' (.bool (oo methods[i] b)):=fun m' hle i hk=>by
  have aT:=p8 hle (nI s3 hk);have bU:=dA (ax hle r3) (by omega:i<x.ml);obtain⟨X,e1⟩:=Bt aT;rw[e1] at bU aT;exact⟨X,bU,fun b=>VW _ b _ m' aT⟩
 clear s3 s4;have hX:Fx ⟨x.fl,x.name,x.super,ifs,fields,methods,init⟩=(z8 ⟨x.fl,x.name,x.super,ifs,fields,methods,init⟩&&eB false init&&CA ⟨x.fl,x.name,x.super,ifs,fields,methods,init⟩&&ifs.all dd&&fields.all jQ&&methods.all fun e=>oo e (hasB x.fl 512)):=rfl;have hN:z8 ⟨x.fl,x.name,x.super,ifs,fields,methods,init⟩=(dd x.name&&dd x.super&&decide (x.il<=8)&&decide (x.fn<=64)&&decide (x.ml<=64)):=by
  rw[z8,mg,pE,dG,fU,hml];simp only[Bool.and_assoc]
 refine enter Uj FX Tryz.func42 rfl rfl (by kernel_rfl) rfl ?_ ?_
 ·simp only[go_sem,Cc.cs]
 ·simp only[go_sem,Cc.cs];refine⟨h1,fun _=>h2,fun hc=>ab (hB.mono ?_),fun hc=> ?_⟩
  ·clear hB;have U6:z8 ⟨x.fl,x.name,x.super,ifs,fields,methods,init⟩=true:=by
    rw[hN];simp only[aD,bt];exact⟨⟨⟨hc.1.1.1,by omega⟩,by omega⟩,by omega⟩
   rw[U6,Bool.true_and] at hX;clear hN U6;rintro r H' m1 aN ⟨l1,rfl,rfl⟩;simp only[go_sem,Cc.cs];have vj:hasB x.fl 512= !decide (bits .and .i64 x.fl 512=0):=rfl;have CN:hasB x.fl 1024= !decide (bits .and .i64 x.fl 1024=0):=rfl;have tJ:hasB x.fl 16= !decide (bits .and .i64 x.fl 16=0):=rfl;have hH:CA ⟨x.fl,x.name,x.super,ifs,fields,methods,init⟩=(if hasB x.fl 512=true then(lh x.fl 1537&&hasB x.fl 1024&&decide (fields.length=0)&&decide (init.length=0)&&decide (x.super=lv)) else(lh x.fl 1041&& !(hasB x.fl 16&&hasB x.fl 1024))):=rfl;refine⟨fun b=>⟨l1,?_⟩,fun b=>⟨fun c1=>⟨l1,?_⟩,fun c1=>⟨fun c2=>⟨l1,?_⟩,fun c2=> ?_⟩⟩⟩
   ·rw[hX,b];simp
   ·rw[di c1.1,Bool.not_false] at vj;rw[hX,hH,ah vj];rcases c1.2 with (((h |h) |h) |h) |h
    ·simp [h]
    ·simp [CN,h]
    ·rw[di (by clear y0 y1 y2;omega:¬fields.length=0)];simp
    ·rw[di (by clear y0 y1 y2;omega:¬init.length=0)];simp
    ·have h' :¬x.super=lv:=h;rw[di h'];simp
   ·rw[eF c2.1,Bool.not_true] at vj;rw[hX,hH,af (Bool.eq_false_iff.1 vj)];rcases c2.2 with h |h
    ·simp [h]
    ·rw[tJ,CN,di h.1,di h.2];simp
   ·have Vb:CA ⟨x.fl,x.name,x.super,ifs,fields,methods,init⟩=true:=by
     rw[hH];by_cases h5:bits .and .i64 x.fl 512=0
     ·rw[eF h5,Bool.not_true] at vj;rw[af (Bool.eq_false_iff.1 vj)];rcases c2 with h |h
      ·exact absurd h5 h
      ·rw[h.1,tJ,CN];rcases h.2 with g |g<;>simp [g]
     ·rw[di h5,Bool.not_false] at vj;rw[ah vj];rcases c1 with h |h
      ·exact absurd h h5
      ·have h' :x.super=lv:=h.2;rw[h.1.1.1.1,CN,di h.1.1.1.2,eF h',eF (by clear y0 y1 y2;omega:fields.length=0),eF (by clear y0 y1 y2;omega:init.length=0)];rfl
    rw[b,Vb,Bool.true_and,Bool.true_and] at hX;clear hH Vb CN tJ vj c1 c2 hc;refine ei FX (fun y:Nat×Mem=>⟨[⟨1,[],.box 0 0⟩,⟨3,[],.v (.bool (hasB x.fl 512))⟩,⟨4,[],.v (.int .i64 y.1)⟩],[],[⟨0,59,x.cs.map .v⟩],[],1,y.2⟩)
     (fun y=>ae m1 y.2/\y.1<=x.il/\(ifs.take y.1).all dd=true) (fun y=>x.il - y.1) (0,m1) (by kernel_rfl) (fun _ _=>au _) (fun y hy=> ?_) (fun _=> ?_) ?_ ?_ ?_
    ·exact hy.1
    ·simp only[go_sem,Cc.cs]
    ·simp only[go_sem,Cc.cs];exact⟨rfl,rfl⟩
    ·exact⟨.inl rfl,aG _,rfl⟩
    ·rintro⟨k,m2⟩ ⟨g1,g2,g3⟩;simp only at g1 g2 g3;have k2:=aa l1 g1;simp only[go_sem,Cc.cs];refine⟨fun ay=> ?_,fun cg=> ?_⟩
     ·have hk:k<ifs.length:=by clear y0 y1 y2;omega
      have hy:=y0 m2 k2 k hk;clear y0 y1 y2;refine⟨⟨by omega,ay,hy.1.2⟩,_,hy.1.1,?_⟩;have hBs:=hy.2;clear hy;simp only[go_sem,Cc.cs];refine⟨hBs,fun hf=>⟨k2,?_⟩,fun ht=>⟨by unfold aF;simp only[av] at b0;omega,(k+1,m2),⟨by simp,.inl rfl⟩,⟨g1,by simp only;omega,?_⟩,by simp only;omega⟩⟩
      ·rw[hX,Cb hk hf];simp
      ·simp only;rw[Bw hk,g3,ht];rfl
     ·have iM:ifs.take k=ifs:=fi (by clear y0 y1 y2;omega);rw[iM] at g3;rw[g3,Bool.true_and] at hX;clear g3 iM;refine ei FX (fun y:Nat×Mem=>⟨[⟨1,[],.box 0 0⟩,⟨3,[],.v (.bool (hasB x.fl 512))⟩,⟨5,[],.v (.int .i64 y.1)⟩],[],[⟨0,59,x.cs.map .v⟩],[],1,y.2⟩)
       (fun y=>ae m2 y.2/\y.1<=x.fn/\(fields.take y.1).all jQ=true) (fun y=>x.fn - y.1) (0,m2) (by kernel_rfl) (fun _ _=>au _) (fun y hy=> ?_) (fun _=> ?_) ?_ ?_ ?_
      ·exact hy.1
      ·simp only[go_sem,Cc.cs]
      ·simp only[go_sem,Cc.cs];rfl
      ·exact⟨.inl rfl,aG _,rfl⟩
      ·rintro⟨k,m3⟩ ⟨g1,g2,g3⟩;simp only at g1 g2 g3;have k3:=aa k2 g1;simp only[go_sem,Cc.cs];refine⟨fun ay=> ?_,fun cg=> ?_⟩
       ·have hk:k<fields.length:=by clear y0 y1 y2;omega
        have hy:=y1 m3 k3 k hk;clear y0 y1 y2;refine⟨⟨by clear hy;omega,ay,hy.1.2⟩,(fields[k]).cs,⟨hy.1.1,rfl⟩,?_⟩;have ha:=hy.2;clear hy;simp only[go_sem,Cc.cs,Fc.cs];refine ab ((aQ ha (fun V=>rfl)).mono ?_);clear ha;rintro r H' m5 cO ⟨l5,rfl,rfl⟩;simp only[go_sem,Cc.cs];refine⟨fun hf=>⟨aa k3 l5,?_⟩,fun ht=>⟨by unfold aF;simp only[av] at b1;omega,(k+1,m5),⟨by simp,.inl rfl⟩,⟨aa g1 l5,by simp only;omega,?_⟩,by simp only;omega⟩⟩
        ·rw[hX,Cb hk hf];simp
        ·simp only;rw[Bw hk,g3,ht];rfl
       ·have iM:fields.take k=fields:=fi (by clear y0 y1 y2;omega);rw[iM] at g3;rw[g3,Bool.true_and] at hX;clear g3 iM;refine ei FX (fun y:Nat×Mem=>⟨[⟨1,[],.box 0 0⟩,⟨3,[],.v (.bool (hasB x.fl 512))⟩,⟨6,[],.v (.int .i64 y.1)⟩],[],[⟨0,59,x.cs.map .v⟩],[],1,y.2⟩)
         (fun y=>ae m3 y.2/\y.1<=x.ml/\(methods.take y.1).all (fun e=>oo e (hasB x.fl 512))=true) (fun y=>x.ml - y.1) (0,m3) (by kernel_rfl) (fun _ _=>au _) (fun y hy=> ?_) (fun _=> ?_) ?_ ?_ ?_
        ·exact hy.1
        ·simp only[go_sem,Cc.cs]
        ·simp only[go_sem,Cc.cs];rfl
        ·exact⟨.inl rfl,aG _,rfl⟩
        ·rintro⟨k,m4⟩ ⟨g1,g2,g3⟩;simp only at g1 g2 g3;have k4:=aa k3 g1;simp only[go_sem,Cc.cs];refine⟨fun ay=> ?_,fun cg=> ?_⟩
         ·have hk:k<methods.length:=by clear y0 y1 y2;omega
          have hy:=y2 m4 k4 k hk;clear y0 y1 y2;refine Exists.elim hy fun X fT=>⟨⟨by clear hy fT;omega,ay,fT.1.2⟩,X.cs,⟨fT.1.1,rfl⟩,?_⟩
          have ha:=fT.2 (hasB x.fl 512);clear hy fT;simp only[go_sem,Cc.cs,Mc.cs];refine ab ((aQ ha (fun V=>rfl)).mono ?_);clear ha;rintro r H' m5 cO ⟨l5,rfl,rfl⟩;simp only[go_sem,Cc.cs];refine⟨fun hf=>⟨aa k4 l5,?_⟩,fun ht=>⟨by unfold aF;simp only[av] at b2;omega,(k+1,m5),⟨by simp,.inl rfl⟩,⟨aa g1 l5,by simp only;omega,?_⟩,by simp only;omega⟩⟩
          ·rw[hX];exact(Cb (p:=(fun e=>oo e (hasB x.fl 512))) hk hf).symm
          ·simp only;rw[Bw hk,g3,ht];rfl
         ·have iM:methods.take k=methods:=fi (by clear y0 y1 y2;omega);rw[iM] at g3;exact⟨k4,by rw[hX];exact g3.symm⟩
  ·clear hB;rw[hX,hN];rcases hc with (((h |h) |h) |h) |h
   ·simp [h]
   ·simp [h]
   ·rw[di (by omega:¬x.il<=8)];simp
   ·rw[di (by omega:¬x.fn<=64)];simp
   ·rw[di (by omega:¬x.ml<=64)];simp
mutual
def nM:St->Nat
 | .mk k _ _ tg ex body alt=>max (max (if k=11 then b6 ex - 1 else max (b6 tg) (b6 ex)) (fw body)) (fw alt)
def fw:List St->Nat
 |[]=>0
 |e::r=>max (nM e) (fw r)
end
theorem yT:∀{l:List St} {k:Nat} (hk:k<l.length),fw (l.take (k+1))=max (fw (l.take k)) (nM l[k])
 |[],_,hk=>absurd hk (Nat.not_lt_zero _)
 |e::r,0,_=>by simp [fw]
 |e::r,k+1,hk=>by
  have:=yT (l:=r) (k:=k) (by simpa using hk);simp only[List.take_succ_cons,fw,this,List.getElem_cons_succ,Nat.max_assoc]
theorem zX {f:FuncId} {g:St->Value} {l:List St} {a:Option Addr} {n:Nat} {xs:List Value} {m:Mem} (hl:n=l.length) (hr:aZ m a n 23 xs) (hs:bZ m l xs)
  (ih:∀e∈l,∀cs m',ae m m' ->fK m' e cs->aJ f [.v (.agg ⟨cs⟩)] m' (g e)) (mm:Mem) (hle:ae m mm) (k:Nat) (hk:k<l.length):
  ∃X:Sd,(Rd mm (cM a (k * 23)) X.cs/\a≠none)/\∀m2,ae mm m2->aJ f [.v (.agg ⟨X.cs⟩)] m2 (g l[k]):=by
 have aT:=sL hle (qc hs hk);obtain⟨X,e1⟩:=Ez aT;have r1:=dA (ax hle hr) (by omega:k<n);rw[e1] at r1 aT;exact⟨X,r1,fun m2 h2=>ih _ (List.getElem_mem hk) _ _ (aa hle h2) (sL h2 aT)⟩
theorem HG:∀(h:Nat) (e:St) (cs:List Value) (m:Mem),eQ e<=h->h<=av->fK m e cs->aJ 175 [.v (.agg ⟨cs⟩)] m (.int .i64 (eQ e))
 |0,.mk k nm ty tg ex body alt,cs,m,hd,_,_=>by simp [eQ] at hd
 |h+1,.mk k nm ty tg ex body alt,cs,m,hd,hb,he=>by
  obtain⟨X,rfl,rfl,rfl,rfl,df,hex,hl,bg,ck,ea,ar,xs,ys,r1,r2,s1,s2⟩:=qX he;simp only[eQ] at hd;have bn:X.l<=av:=by rw[hl];exact ar.l
  have G5:X.l2<=av:=by rw[ck];exact ar.l2
  have hB:=zX (g:=fun e=> .int .i64 (eQ e)) hl r1 s1 fun e he cs m2 aY aT=>HG h e cs m2 (by have:=lY he;omega) (by omega) aT
  have hA:=zX (g:=fun e=> .int .i64 (eQ e)) ck r2 s2 fun e he cs m2 aY aT=>HG h e cs m2 (by have:=lY he;omega) (by omega) aT
  refine enter gP aB Tryz.func175 rfl rfl (by kernel_rfl) rfl ?_ ?_
  ·simp only[go_sem,Sd.cs,Nd.cs]
  ·simp only[go_sem,Sd.cs,Nd.cs];refine ei aB (fun x:Nat×Mem=>⟨[⟨1,[],.box 0 0⟩,⟨3,[],.v (.int .i64 (dq (body.take x.1)))⟩,⟨4,[],.v (.int .i64 x.1)⟩],[],[⟨0,73,(X.cs).map .v⟩],[],1,x.2⟩)
    (fun x=>ae m x.2/\x.1<=X.l) (fun x=>X.l - x.1) (0,m) (by kernel_rfl) (fun _ _=>au _) (fun x hx=>hx.1) (fun _=> ?_) ?_ ?_ ?_
   ·simp only[go_sem,Sd.cs,Nd.cs]
   ·simp only[go_sem,Sd.cs,Nd.cs];exact⟨rfl,rfl⟩
   ·exact⟨.inl rfl,aG _⟩
   ·rintro⟨i,mm⟩ ⟨h1,h2⟩;simp only at h1 h2;simp only[go_sem,Sd.cs,Nd.cs];refine⟨fun ay=> ?_,fun cg=> ?_⟩
    ·have hi:i<body.length:=by clear hA hB;omega
     clear hA;refine Exists.elim (hB mm h1 i hi) fun Y hY=>⟨⟨by clear hB hY;omega,ay,hY.1.2⟩,Y.cs,⟨hY.1.1,rfl⟩,?_⟩
     clear hB;have ha:=hY.2 mm (.inl rfl);clear hY;simp only[go_sem,Sd.cs,Nd.cs];refine ab ((aQ ha (fun V=>rfl)).mono ?_);clear ha;rintro r H' m2 aH ⟨aY,rfl,rfl⟩;simp only[go_sem,Sd.cs,Nd.cs];have ld:=AV hi;refine⟨by unfold aF;simp only[av] at bn;omega,(i+1,m2),⟨⟨?_,by simp⟩,.inl rfl⟩,⟨aa h1 aY,by simp only;omega⟩,by simp only;omega⟩;simp only;rw[ld];split<;>omega
    ·clear hB;have e0:body.take i=body:=fi (by clear hA;omega);rw[e0];refine ei aB (fun x:Nat×Nat×Mem=>⟨[⟨1,[],.box 0 0⟩,⟨3,[],.v (.int .i64 x.2.1)⟩,⟨5,[],.v (.int .i64 x.1)⟩],[],[⟨0,73,(X.cs).map .v⟩],[],1,x.2.2⟩)
      (fun x=>ae mm x.2.2/\x.1<=X.l2/\x.2.1=max (dq body) (dq (alt.take x.1))) (fun x=>X.l2 - x.1) (0,dq body,mm) (by kernel_rfl) (fun _ _=>au _) (fun x hx=> ?_) (fun _=> ?_) ?_ ?_ ?_
     ·exact hx.1
     ·simp only[go_sem,Sd.cs,Nd.cs]
     ·simp only[go_sem,Sd.cs,Nd.cs];rfl
     ·exact⟨.inl rfl,aG _,by simp only[List.take_zero,dq,Nat.max_zero]⟩
     ·rintro⟨j,v,mj⟩ ⟨h3,h4,h5⟩;simp only at h3 h4 h5;simp only[go_sem,Sd.cs,Nd.cs];refine⟨fun ay=> ?_,fun cg=> ?_⟩
      ·have hi:j<alt.length:=by clear hA;omega
       refine Exists.elim (hA mj (aa h1 h3) j hi) fun Y hY=>⟨⟨by clear hA hY;omega,ay,hY.1.2⟩,Y.cs,⟨hY.1.1,rfl⟩,?_⟩
       clear hA;have ha:=hY.2 mj (.inl rfl);clear hY;simp only[go_sem,Sd.cs,Nd.cs];refine ab ((aQ ha (fun V=>rfl)).mono ?_);clear ha;rintro r H' m2 aH ⟨aY,rfl,rfl⟩;simp only[go_sem,Sd.cs,Nd.cs];have ld:=AV hi;refine⟨by unfold aF;simp only[av] at G5;omega,(j+1,max v (eQ alt[j]),m2),⟨⟨?_,by simp⟩,.inl rfl⟩,⟨aa h3 aY,by simp only;omega,by simp only;rw[ld,h5];exact Nat.max_assoc _ _ _⟩,by simp only;omega⟩;simp only;split<;>omega
      ·clear hA;have e1:alt.take j=alt:=fi (by omega);rw[e1] at h5;simp only[eQ];exact⟨by unfold aF;simp only[av] at hb;omega,aa h1 h3,by omega⟩
theorem HZ:∀(h:Nat) (e:St) (cs:List Value) (m:Mem),eQ e<=h->iD e<=av->fK m e cs->aJ 176 [.v (.agg ⟨cs⟩)] m (.int .i64 (nM e))
 |0,.mk k nm ty tg ex body alt,cs,m,hd,_,_=>by simp [eQ] at hd
 |h+1,.mk k nm ty tg ex body alt,cs,m,hd,hb,he=>by
  obtain⟨X,rfl,rfl,rfl,rfl,df,hex,hl,bg,ck,ea,ar,xs,ys,r1,r2,s1,s2⟩:=qX he;simp only[eQ] at hd;simp only[iD] at hb;have z1:=yY tg;have z2:=yY ex;have hT:=fun m2 (hle:ae m m2)=>HJ _ tg X.tg.cs m2 (au _) (by omega) (bw hle df)
  have hE:=fun m2 (hle:ae m m2)=>HJ _ ex X.ex.cs m2 (au _) (by omega) (bw hle hex)
  have bn:X.l<=av:=by rw[hl];exact ar.l
  have G5:X.l2<=av:=by rw[ck];exact ar.l2
  have hB:=zX (g:=fun e=> .int .i64 (nM e)) hl r1 s1 fun e he cs m2 aY aT=>HZ h e cs m2 (by have:=lY he;omega) (by have:=ue he;omega) aT
  have hA:=zX (g:=fun e=> .int .i64 (nM e)) ck r2 s2 fun e he cs m2 aY aT=>HZ h e cs m2 (by have:=lY he;omega) (by have:=ue he;omega) aT
  refine enter gP aB Tryz.func176 rfl rfl (by kernel_rfl) rfl ?_ ?_
  ·simp only[go_sem,Sd.cs,Nd.cs]
  ·simp only[go_sem,Sd.cs,Nd.cs];refine bO (.hoist 0 (.hoist 1 (.hoist 3 (.hoist 4 (.alt 2 [4,3] (.alt 5 [] (.hoist 6 (.hoist 7 .done)) .stop) .stop))))) aB (by kernel_rfl) (by kernel_rfl) ?_;simp only[go_sem,Sd.cs,Nd.cs];refine ab ((aQ (hT m (.inl rfl)) (fun V=>rfl)).mono ?_);clear hT;rintro r H' m1 aN ⟨l1,rfl,rfl⟩;have yE:=hE m1 l1;simp only[go_sem,Sd.cs,Nd.cs,l1,and_self];refine ab ((aQ yE (fun V=>rfl)).mono ?_);clear yE;rintro r H' m2 aH ⟨l2,rfl,rfl⟩;have k2:=aa l1 l2;have cu:=hE m2 k2;clear hE;simp only[go_sem,Sd.cs,Nd.cs,l1,l2,k2,and_self];refine⟨fun tX=>ab ((aQ cu (fun V=>rfl)).mono ?_),fun tX=> ?_⟩
   ·clear cu;rintro r H' m3 bI ⟨l3,rfl,rfl⟩;have k3:=aa k2 l3;simp only[go_sem,Sd.cs,Nd.cs];refine⟨by unfold aF;simp only[av] at hb;omega,?_⟩;have hR:nM (.mk X.k X.name X.ty tg ex body alt)=max (max (b6 ex - 1) (fw body)) (fw alt):=by
     rw[nM,ah tX]
    rw[hR];clear hR;refine ei aB (fun x:Nat×Int×Mem=>⟨[⟨1,[],.box 0 0⟩,⟨3,[],.v (.int .i64 x.2.1)⟩,⟨4,[],.v (.int .i64 x.1)⟩],[],[⟨0,73,(X.cs).map .v⟩],[],1,x.2.2⟩)
     (fun x=>ae m3 x.2.2/\x.1<=X.l/\x.2.1=(max (b6 ex - 1) (fw (body.take x.1)):Nat)) (fun x=>X.l - x.1) (0,((b6 ex:Nat):Int) - 1,m3) (by kernel_rfl) (fun _ _=>au _) (fun x hx=> ?_) (fun _=> ?_) ?_ ?_ ?_
    ·exact hx.1
    ·simp only[go_sem,Sd.cs,Nd.cs]
    ·simp only[go_sem,Sd.cs,Nd.cs];rfl
    ·refine⟨.inl rfl,aG _,?_⟩;simp only[List.take_zero,fw,Nat.max_zero];have:1<=b6 ex:=by cases ex;simp only[b6];omega
     omega
    ·rintro⟨i,v,mm⟩ ⟨h1,h2,h5⟩;simp only at h1 h2 h5;have q1:=aa k3 h1;simp only[go_sem,Sd.cs,Nd.cs];refine⟨fun ay=> ?_,fun cg=> ?_⟩
     ·have hi:i<body.length:=by clear hA hB;omega
      refine Exists.elim (hB mm q1 i hi) fun Y hY=>⟨⟨by clear hA hB hY;omega,ay,hY.1.2⟩,Y.cs,⟨hY.1.1,rfl⟩,?_⟩
      have ha:=hY.2 mm (.inl rfl);clear hY hA hB;simp only[go_sem,Sd.cs,Nd.cs];refine ab ((aQ ha (fun V=>rfl)).mono ?_);clear ha;rintro r H' m5 cO ⟨aY,rfl,rfl⟩;simp only[go_sem,Sd.cs,Nd.cs];have ld:=yT hi;refine⟨by unfold aF;simp only[av] at bn;omega,(i+1,((max (b6 ex - 1) (fw (body.take (i+1))):Nat):Int),m5),⟨⟨?_,by simp⟩,.inl rfl⟩,⟨aa h1 aY,by simp only;omega,rfl⟩,by simp only;omega⟩;simp only;rw[ld,h5];split<;>omega
     ·clear hB;have e0:body.take i=body:=fi (by clear hA;omega);rw[e0] at h5;refine ei aB (fun x:Nat×Int×Mem=>⟨[⟨1,[],.box 0 0⟩,⟨3,[],.v (.int .i64 x.2.1)⟩,⟨5,[],.v (.int .i64 x.1)⟩],[],[⟨0,73,(X.cs).map .v⟩],[],1,x.2.2⟩)
       (fun x=>ae mm x.2.2/\x.1<=X.l2/\x.2.1=(max (max (b6 ex - 1) (fw body)) (fw (alt.take x.1)):Nat)) (fun x=>X.l2 - x.1) (0,v,mm) (by kernel_rfl) (fun _ _=>au _) (fun x hx=> ?_) (fun _=> ?_) ?_ ?_ ?_
      ·exact hx.1
      ·simp only[go_sem,Sd.cs,Nd.cs]
      ·simp only[go_sem,Sd.cs,Nd.cs];rfl
      ·exact⟨.inl rfl,aG _,by simp only[List.take_zero,fw,Nat.max_zero];exact h5⟩
      ·rintro⟨j,u,mj⟩ ⟨h3,h4,h6⟩;simp only at h3 h4 h6;have q2:=aa q1 h3;have hB:=True.intro;simp only[go_sem,Sd.cs,Nd.cs];refine⟨fun ay=> ?_,fun cg=> ?_⟩
       ·have hi:j<alt.length:=by clear hA hB;omega
        refine Exists.elim (hA mj q2 j hi) fun Y hY=>⟨⟨by clear hA hB hY;omega,ay,hY.1.2⟩,Y.cs,⟨hY.1.1,rfl⟩,?_⟩
        have ha:=hY.2 mj (.inl rfl);clear hY hA hB;simp only[go_sem,Sd.cs,Nd.cs];refine ab ((aQ ha (fun V=>rfl)).mono ?_);clear ha;rintro r H' m5 cO ⟨aY,rfl,rfl⟩;simp only[go_sem,Sd.cs,Nd.cs];have ld:=yT hi;refine⟨by unfold aF;simp only[av] at G5;omega,(j+1,((max (max (b6 ex - 1) (fw body)) (fw (alt.take (j+1))):Nat):Int),m5),⟨⟨?_,by simp⟩,.inl rfl⟩,⟨aa h3 aY,by simp only;omega,rfl⟩,by simp only;omega⟩;simp only;rw[ld,h6];split<;>omega
       ·clear hA hB;have e1:alt.take j=alt:=fi (by omega);rw[e1] at h6;exact⟨q2,h6⟩
   ·clear cu;have hR:nM (.mk X.k X.name X.ty tg ex body alt)=max (max (max (b6 tg) (b6 ex)) (fw body)) (fw alt):=by
     rw[nM,af tX]
    rw[hR];clear hR;refine ei aB (fun x:Nat×Int×Mem=>⟨[⟨1,[],.box 0 0⟩,⟨3,[],.v (.int .i64 x.2.1)⟩,⟨4,[],.v (.int .i64 x.1)⟩],[],[⟨0,73,(X.cs).map .v⟩],[],1,x.2.2⟩)
     (fun x=>ae m2 x.2.2/\x.1<=X.l/\x.2.1=(max (max (b6 tg) (b6 ex)) (fw (body.take x.1)):Nat)) (fun x=>X.l - x.1) (0,(if((b6 tg:Nat):Int)<(b6 ex:Nat) then((b6 ex:Nat):Int) else((b6 tg:Nat):Int)),m2) (by kernel_rfl) (fun _ _=>au _) (fun x hx=> ?_) (fun _=> ?_) ?_ ?_ ?_
    ·exact hx.1
    ·simp only[go_sem,Sd.cs,Nd.cs]
    ·simp only[go_sem,Sd.cs,Nd.cs];rfl
    ·refine⟨.inl rfl,aG _,?_⟩;simp only[List.take_zero,fw,Nat.max_zero];split<;>omega
    ·rintro⟨i,v,mm⟩ ⟨h1,h2,h5⟩;simp only at h1 h2 h5;have q1:=aa k2 h1;simp only[go_sem,Sd.cs,Nd.cs];refine⟨fun ay=> ?_,fun cg=> ?_⟩
     ·have hi:i<body.length:=by clear hA hB;omega
      refine Exists.elim (hB mm q1 i hi) fun Y hY=>⟨⟨by clear hA hB hY;omega,ay,hY.1.2⟩,Y.cs,⟨hY.1.1,rfl⟩,?_⟩
      have ha:=hY.2 mm (.inl rfl);clear hY hA hB;simp only[go_sem,Sd.cs,Nd.cs];refine ab ((aQ ha (fun V=>rfl)).mono ?_);clear ha;rintro r H' m5 cO ⟨aY,rfl,rfl⟩;simp only[go_sem,Sd.cs,Nd.cs];have ld:=yT hi;refine⟨by unfold aF;simp only[av] at bn;omega,(i+1,((max (max (b6 tg) (b6 ex)) (fw (body.take (i+1))):Nat):Int),m5),⟨⟨?_,by simp⟩,.inl rfl⟩,⟨aa h1 aY,by simp only;omega,rfl⟩,by simp only;omega⟩;simp only;rw[ld,h5];split<;>omega
     ·clear hB;have e0:body.take i=body:=fi (by clear hA;omega);rw[e0] at h5;refine ei aB (fun x:Nat×Int×Mem=>⟨[⟨1,[],.box 0 0⟩,⟨3,[],.v (.int .i64 x.2.1)⟩,⟨5,[],.v (.int .i64 x.1)⟩],[],[⟨0,73,(X.cs).map .v⟩],[],1,x.2.2⟩)
       (fun x=>ae mm x.2.2/\x.1<=X.l2/\x.2.1=(max (max (max (b6 tg) (b6 ex)) (fw body)) (fw (alt.take x.1)):Nat)) (fun x=>X.l2 - x.1) (0,v,mm) (by kernel_rfl) (fun _ _=>au _) (fun x hx=> ?_) (fun _=> ?_) ?_ ?_ ?_
      ·exact hx.1
      ·simp only[go_sem,Sd.cs,Nd.cs]
      ·simp only[go_sem,Sd.cs,Nd.cs];rfl
      ·exact⟨.inl rfl,aG _,by simp only[List.take_zero,fw,Nat.max_zero];exact h5⟩
      ·rintro⟨j,u,mj⟩ ⟨h3,h4,h6⟩;simp only at h3 h4 h6;have q2:=aa q1 h3;have hB:=True.intro;simp only[go_sem,Sd.cs,Nd.cs];refine⟨fun ay=> ?_,fun cg=> ?_⟩
       ·have hi:j<alt.length:=by clear hA hB;omega
        refine Exists.elim (hA mj q2 j hi) fun Y hY=>⟨⟨by clear hA hB hY;omega,ay,hY.1.2⟩,Y.cs,⟨hY.1.1,rfl⟩,?_⟩
        have ha:=hY.2 mj (.inl rfl);clear hY hA hB;simp only[go_sem,Sd.cs,Nd.cs];refine ab ((aQ ha (fun V=>rfl)).mono ?_);clear ha;rintro r H' m5 cO ⟨aY,rfl,rfl⟩;simp only[go_sem,Sd.cs,Nd.cs];have ld:=yT hi;refine⟨by unfold aF;simp only[av] at G5;omega,(j+1,((max (max (max (b6 tg) (b6 ex)) (fw body)) (fw (alt.take (j+1))):Nat):Int),m5),⟨⟨?_,by simp⟩,.inl rfl⟩,⟨aa h3 aY,by simp only;omega,rfl⟩,by simp only;omega⟩;simp only;rw[ld,h6];split<;>omega
       ·clear hA hB;have e1:alt.take j=alt:=fi (by omega);rw[e1] at h6;exact⟨q2,h6⟩
def kh (l:List St):Bool:=decide (dq l<=24)&&decide (fw l<=24)
theorem Es {α:Type} [BEq α] {l:List α} {k:Nat} (hk:k<l.length) (a:α):(l.take (k+1)).contains a=((l.take k).contains a||a==l[k]):=by
 rw[List.take_succ_eq_append_getElem hk,List.contains_eq_any_beq,List.contains_eq_any_beq,List.any_append];simp only[List.any_cons,List.any_nil,Bool.or_false]
theorem Fb {α:Type} [BEq α] [LawfulBEq α] {l:List α} {k j:Nat} (hj:j<k) (hk:k<l.length) (a:α) (h:l[j]=a):(l.take k).contains a=true:=by
 rw[List.contains_iff_mem];rw[<- h];have e:(l.take k)[j]'(by rw[List.length_take];omega)=l[j]:=List.getElem_take;rw[<- e];exact List.getElem_mem _
set_option maxHeartbeats 8000000 in
theorem We (d:Cd) (cs:List Value) (m:Mem) (h:ki m d cs):aJ 44 [.v (.agg ⟨cs⟩)] m (.bool (ns d)):=by
 obtain⟨fl,name,super,ifs,fields,methods,init⟩:=d;obtain⟨x,⟨rfl,rfl,rfl,rfl⟩,⟨dG,hic,fU,hfc,hml,hmc,fF,hsc⟩,ar,r1,r2,xs,ys,r3,s3,r4,s4⟩:=h;simp only at dG fU hml fF r1 r2 r3 s3 r4 s4;have b0:x.il<=av:=by rw[dG];exact ar.il
 have b1:x.fn<=av:=by rw[fU];exact ar.fn
 have b2:x.ml<=av:=by rw[hml];exact ar.ml
 clear r4 s4;have y0:∀i (hk:i<ifs.length),Rd m (cM x.ia i) [.string (bs ifs[i])]/\x.ia≠none:=fun i hk=>zw r1 hk
 have y1:∀i (hk:i<fields.length),Rd m (cM x.fa (i * 5)) (fields[i]).cs/\x.fa≠none:=fun i hk=>by
  have:=dA r2 (by omega:i<x.fn);rw[pd (f:=Fc.cs) (sz:=5) (fun _=>rfl) hk] at this;exact this
 have y2:∀i (hk:i<methods.length),∃X:Mc,(Rd m (cM x.ma (i * 8)) X.cs/\x.ma≠none)/\X.name=methods[i].name/\X.pl=methods[i].params.length:=fun i hk=>by
  have aT:=nI s3 hk;have bU:=dA r3 (by omega:i<x.ml);obtain⟨X,e1,e2,_⟩:=aT;rw[e1.1] at bU;exact⟨X,bU,e1.2.2.2.1,e2.1⟩
 refine enter gP aB Tryz.func44 rfl rfl (by kernel_rfl) rfl ?_ ?_
 ·simp only[go_sem,Cc.cs]
 ·simp only[go_sem,Cc.cs];refine ei aB (fun y:Nat=>⟨[⟨1,[],.box 0 0⟩,⟨3,[],.v (.int .i64 y)⟩],[],[⟨0,59,x.cs.map .v⟩],[],1,m⟩)
   (fun y=>y<=x.il/\js [] ifs=js (ifs.take y) (ifs.drop y)) (fun y=>x.il - y) 0 (by kernel_rfl) (fun _ _=>au _) (fun _ _=> .inl rfl) (fun _=> ?_) ?_ ?_ ?_
  ·simp only[go_sem,Cc.cs]
  ·simp only[go_sem,Cc.cs];rfl
  ·exact⟨aG _,rfl⟩
  ·rintro k0 ⟨h0,g0⟩;simp only[go_sem,Cc.cs];refine⟨fun ay=> ?_,fun cg=> ?_⟩
   ·have hk:k0<ifs.length:=by omega
    have cB:k0<ifs.length:=by simpa using hk
    have kK:=zo cB;refine ei aB (fun y:Nat=>⟨[⟨1,[],.box 0 0⟩,⟨3,[],.v (.int .i64 k0)⟩,⟨4,[],.v (.int .i64 y)⟩],[],[⟨0,59,x.cs.map .v⟩],[],1,m⟩)
     (fun y=>y<=k0/\(ifs.take y).contains ifs[k0]=false) (fun y=>k0 - y) 0 (by kernel_rfl) (fun _ _=>au _) (fun _ _=> .inl rfl) (fun _=> ?_) ?_ ?_ ?_
    ·simp only[go_sem,Cc.cs]
    ·simp only[go_sem,Cc.cs];rfl
    ·exact⟨aG _,by simp⟩
    ·rintro j ⟨u1,u2⟩;simp only[go_sem,Cc.cs];refine⟨fun LD=> ?_,fun LF=> ?_⟩
     ·have hj:j<ifs.length:=by omega
      have n9:j<ifs.length:=by simpa using hj
      have lV:=Es n9 ifs[k0];have tV:=fun(qH:j<k0) (he:ifs[j]=ifs[k0])=>Fb qH cB ifs[k0] he
      refine bO (.hoist 0 (.hoist 1 (.hoist 2 (.hoist 3 (.hoist 4 (.hoist 5 (.hoist 6 (.hoist 7 (.hoist 8 (.hoist 9 (.hoist 10 .done))))))))))) aB (by kernel_rfl) (by kernel_rfl) ?_;simp only[go_sem,Cc.cs];refine⟨⟨by omega,by omega,(y0 k0 hk).2⟩,.string (bs ifs[k0]),(y0 k0 hk).1,⟨by omega,by omega,(y0 j hj).2⟩,.string (bs ifs[j]),(y0 j hj).1,?_⟩;simp only[go_sem,Cc.cs,Fc.cs];refine⟨fun he=> ?_,fun cQ=>⟨by unfold aF;simp only[av] at b0;omega,j+1,by simp,⟨by omega,?_⟩,by omega⟩⟩
      ·have hc:=tV (by omega) he.symm;rw[ns,g0,kK,hc];rfl
      ·rw[lV,u2,beq_eq_false_iff_ne.2 cQ];rfl
     ·have kZ:j=k0:=by omega
      subst kZ;exact⟨by unfold aF;simp only[av] at b0;omega,j+1,by simp,⟨by omega,by rw[g0,kK,u2];rfl⟩,by omega⟩
   ·have e0:js [] ifs=false:=by
     rw[g0,List.drop_of_length_le (by omega)];rfl
    refine ei aB (fun y:Nat=>⟨[⟨1,[],.box 0 0⟩,⟨5,[],.v (.int .i64 y)⟩],[],[⟨0,59,x.cs.map .v⟩],[],1,m⟩)
     (fun y=>y<=x.fn/\js [] (fields.map (·.name))=js ((fields.map (·.name)).take y) ((fields.map (·.name)).drop y)) (fun y=>x.fn - y) 0 (by kernel_rfl) (fun _ _=>au _) (fun _ _=> .inl rfl) (fun _=> ?_) ?_ ?_ ?_
    ·simp only[go_sem,Cc.cs]
    ·simp only[go_sem,Cc.cs];rfl
    ·exact⟨aG _,rfl⟩
    ·rintro k1 ⟨h1,g1⟩;simp only[go_sem,Cc.cs];refine⟨fun ay=> ?_,fun cg=> ?_⟩
     ·have hk:k1<fields.length:=by omega
      have cB:k1<(fields.map (·.name)).length:=by simpa using hk
      have kK:=zo cB;refine ei aB (fun y:Nat=>⟨[⟨1,[],.box 0 0⟩,⟨5,[],.v (.int .i64 k1)⟩,⟨6,[],.v (.int .i64 y)⟩],[],[⟨0,59,x.cs.map .v⟩],[],1,m⟩)
       (fun y=>y<=k1/\((fields.map (·.name)).take y).contains (fields.map (·.name))[k1]=false) (fun y=>k1 - y) 0 (by kernel_rfl) (fun _ _=>au _) (fun _ _=> .inl rfl) (fun _=> ?_) ?_ ?_ ?_
      ·simp only[go_sem,Cc.cs]
      ·simp only[go_sem,Cc.cs];rfl
      ·exact⟨aG _,by simp⟩
      ·rintro j ⟨u1,u2⟩;simp only[go_sem,Cc.cs];refine⟨fun LD=> ?_,fun LF=> ?_⟩
       ·have hj:j<fields.length:=by omega
        have n9:j<(fields.map (·.name)).length:=by simpa using hj
        have lV:=Es n9 (fields.map (·.name))[k1];have tV:=fun(qH:j<k1) (he:(fields.map (·.name))[j]=(fields.map (·.name))[k1])=>Fb qH cB (fields.map (·.name))[k1] he
        refine bO (.hoist 0 (.hoist 1 (.hoist 2 (.hoist 3 (.hoist 4 (.hoist 5 (.hoist 6 (.hoist 7 (.hoist 8 (.hoist 9 (.hoist 10 (.hoist 11 (.hoist 12 .done))))))))))))) aB (by kernel_rfl) (by kernel_rfl) ?_;simp only[go_sem,Cc.cs];refine⟨⟨by omega,by omega,(y1 k1 hk).2⟩,iT (y1 k1 hk).1,.string (bs (fields[k1]).name),gK (y1 k1 hk).1 4 1 (dv rfl),⟨by omega,by omega,(y1 j hj).2⟩,iT (y1 j hj).1,.string (bs (fields[j]).name),gK (y1 j hj).1 4 1 (dv rfl),?_⟩;simp only[go_sem,Cc.cs,Fc.cs];simp only[List.getElem_map] at lV tV u2;refine⟨fun he=> ?_,fun cQ=>⟨by unfold aF;simp only[av] at b1;omega,j+1,by simp,⟨by omega,?_⟩,by omega⟩⟩
        ·have hc:=tV (by omega) he.symm;simp only[List.getElem_map] at kK;simp only[ns,g1,kK,hc,Bool.true_or,Bool.or_true]
        ·rw[List.getElem_map,lV,u2,beq_eq_false_iff_ne.2 cQ];rfl
       ·have kZ:j=k1:=by omega
        subst kZ;exact⟨by unfold aF;simp only[av] at b1;omega,j+1,by simp,⟨by omega,by rw[g1,kK,u2];rfl⟩,by omega⟩
     ·have e1:js [] (fields.map (·.name))=false:=by
       rw[g1,List.drop_of_length_le (by simp;omega)];rfl
      refine ei aB (fun y:Nat=>⟨[⟨1,[],.box 0 0⟩,⟨7,[],.v (.int .i64 y)⟩],[],[⟨0,59,x.cs.map .v⟩],[],1,m⟩)
       (fun y=>y<=x.ml/\js [] (methods.map fun m=>(m.name,m.params.length))=js ((methods.map fun m=>(m.name,m.params.length)).take y) ((methods.map fun m=>(m.name,m.params.length)).drop y)) (fun y=>x.ml - y) 0 (by kernel_rfl) (fun _ _=>au _) (fun _ _=> .inl rfl) (fun _=> ?_) ?_ ?_ ?_
      ·simp only[go_sem,Cc.cs]
      ·simp only[go_sem,Cc.cs];rfl
      ·exact⟨aG _,rfl⟩
      ·rintro k2 ⟨h2,g2⟩;simp only[go_sem,Cc.cs];refine⟨fun ay=> ?_,fun cg=> ?_⟩
       ·have hk:k2<methods.length:=by omega
        have cB:k2<(methods.map fun m=>(m.name,m.params.length)).length:=by simpa using hk
        have kK:=zo cB;refine ei aB (fun y:Nat=>⟨[⟨1,[],.box 0 0⟩,⟨7,[],.v (.int .i64 k2)⟩,⟨8,[],.v (.int .i64 y)⟩],[],[⟨0,59,x.cs.map .v⟩],[],1,m⟩)
         (fun y=>y<=k2/\((methods.map fun m=>(m.name,m.params.length)).take y).contains (methods.map fun m=>(m.name,m.params.length))[k2]=false) (fun y=>k2 - y) 0 (by kernel_rfl) (fun _ _=>au _) (fun _ _=> .inl rfl) (fun _=> ?_) ?_ ?_ ?_
        ·simp only[go_sem,Cc.cs]
        ·simp only[go_sem,Cc.cs];rfl
        ·exact⟨aG _,by simp⟩
        ·rintro j ⟨u1,u2⟩;simp only[go_sem,Cc.cs];refine⟨fun LD=> ?_,fun LF=> ?_⟩
         ·have hj:j<methods.length:=by omega
          have n9:j<(methods.map fun m=>(m.name,m.params.length)).length:=by simpa using hj
          have lV:=Es n9 (methods.map fun m=>(m.name,m.params.length))[k2];have tV:=fun(qH:j<k2) (he:(methods.map fun m=>(m.name,m.params.length))[j]=(methods.map fun m=>(m.name,m.params.length))[k2])=>Fb qH cB (methods.map fun m=>(m.name,m.params.length))[k2] he
          refine bO (.hoist 0 (.hoist 1 (.hoist 2 (.hoist 3 (.hoist 4 (.hoist 5 (.hoist 6 (.hoist 7 (.hoist 8 (.hoist 9 (.hoist 10 (.hoist 11 (.hoist 12 (.hoist 13 (.hoist 14 (.hoist 15 (.hoist 16 (.hoist 17 (.hoist 18 (.hoist 19 (.hoist 20 (.hoist 21 (.hoist 22 (.hoist 23 (.hoist 24 (.hoist 25 (.hoist 26 (.hoist 27 (.hoist 28 (.hoist 29 .done)))))))))))))))))))))))))))))) aB (by kernel_rfl) (by kernel_rfl) ?_;simp only[go_sem,Cc.cs];refine Exists.elim (y2 k2 hk) fun X hX=>Exists.elim (y2 j hj) fun Y hY=> ?_
          refine⟨⟨by clear hX hY;omega,by clear hX hY;omega,hX.1.2⟩,iT hX.1.1,.string (bs X.name),gK hX.1.1 4 1 (dv rfl),⟨by clear hX hY;omega,by clear hX hY;omega,hY.1.2⟩,iT hY.1.1,.string (bs Y.name),gK hY.1.1 4 1 (dv rfl),?_⟩;simp only[go_sem,Cc.cs,Mc.cs];refine⟨fun _=>⟨by clear hX hY;omega,by clear hX hY;omega,hX.1.2⟩,fun _=>iT hX.1.1,.slice X.pa X.pl X.pc,fun _=>gK hX.1.1 5 1 (dv rfl),?_⟩;simp only[go_sem,Cc.cs,Mc.cs];refine⟨fun _=>⟨by clear hX hY;omega,by clear hX hY;omega,hY.1.2⟩,fun _=>iT hY.1.1,.slice Y.pa Y.pl Y.pc,fun _=>gK hY.1.1 5 1 (dv rfl),?_⟩;have e3:(methods.map fun m=>(m.name,m.params.length))[k2]=(X.name,X.pl):=by rw[List.getElem_map,hX.2.1,hX.2.2]
          have e4:(methods.map fun m=>(m.name,m.params.length))[j]=(Y.name,Y.pl):=by rw[List.getElem_map,hY.2.1,hY.2.2]
          rw[e3] at tV kK u2 lV;rw[e4] at tV lV;clear hX hY e4;simp only[go_sem,Cc.cs,Mc.cs];refine⟨fun he=> ?_,fun cQ=>⟨by unfold aF;simp only[av] at b2;omega,j+1,by simp,⟨by omega,?_⟩,by omega⟩⟩
          ·have hc:=tV (by omega) (by rw[he.1,(by omega:X.pl=Y.pl)]);simp only[ns,g2,kK,hc,Bool.true_or,Bool.or_true]
          ·have hn:¬(X.name,X.pl)=(Y.name,Y.pl):=fun h=>by
            have g1:=congrArg Prod.fst h;have g2:=congrArg Prod.snd h;simp only at g1 g2;rcases cQ with h |h
            ·exact h g1
            ·omega
           rw[e3,lV,u2,beq_eq_false_iff_ne.2 hn];rfl
         ·have kZ:j=k2:=by omega
          subst kZ;exact⟨by unfold aF;simp only[av] at b2;omega,j+1,by simp,⟨by omega,by rw[g2,kK,u2];rfl⟩,by omega⟩
       ·have e2:js [] (methods.map fun m=>(m.name,m.params.length))=false:=by
         rw[g2,List.drop_of_length_le (by simp;omega)];rfl
        simp only[ns,e0,e1,e2];rfl
theorem XE {l:List St} {k:Nat} (hk:k<l.length) (h:kh (l.take k)=true):kh (l.take (k+1))=(decide (eQ l[k]<=24)&&decide (nM l[k]<=24)):=by
 simp only[kh,aD,bt] at h;rw[kh,AV hk,yT hk,<- Bool.decide_and,<- Bool.decide_and,decide_eq_decide];omega
theorem aay {l:List St} {k:Nat} (h:kh (l.take (k+1))=false) (hk:k<l.length):kh l=false:=by
 have h1:=Eb l (k+1);have h2:fw (l.take (k+1))<=fw l:=by
  have:∀(l:List St) (k:Nat),fw (l.take k)<=fw l:=fun l=>by
   induction l with
   |nil=>intro k;simp
   |cons a r ih=>
    intro k;cases k with
    |zero=>simp [fw]
    |succ k=>
     have:=ih k;simp only[List.take_succ_cons,fw];omega
  exact this l (k+1)
 cases hf:kh l with
 |false=>rfl
 |true=>
  simp only[kh,aD,bt] at hf;rw[kh,eF (by omega),eF (by omega)] at h;cases h
theorem No (l:List St) (a:Option Addr) (n c:Nat) (xs:List Value) (m:Mem) (hl:n=l.length) (hr:aZ m a n 23 xs) (hs:bZ m l xs) (hn:n<=av) (hz:dD l<=av):aJ 112 [.v (.slice a n c)] m (.bool (kh l)):=by
 have hD:=zX (g:=fun e=> .int .i64 (eQ e)) hl hr hs fun e he cs m2 aY aT=>HG _ e cs m2 (au _) (by have:=ue he;have:=OI e;omega) aT
 have hE:=zX (g:=fun e=> .int .i64 (nM e)) hl hr hs fun e he cs m2 aY aT=>HZ _ e cs m2 (au _) (by have:=ue he;omega) aT
 refine aR aB Tryz.func112 ?_
 ·simp only[go_sem];refine du aB (fun x:Nat×Mem=>⟨[⟨0,[],.v (.slice a n c)⟩,⟨3,[],.v (.int .i64 x.1)⟩],[],[],[],0,x.2⟩)
    (fun x=>ae m x.2/\x.1<=n/\kh (l.take x.1)=true) (fun x=>n - x.1) (0,m) (fun _ _=>au _) (fun x hx=>hx.1) ?_ ?_ ?_
  ·simp only[go_sem];rfl
  ·exact⟨.inl rfl,aG _,rfl⟩
  ·rintro⟨k,mm⟩ ⟨h1,h2,h3⟩;simp only at h1 h2 h3;simp only[go_sem];refine⟨fun ay=> ?_,fun cg=>⟨h1,?_⟩⟩
   ·have hk:k<l.length:=by clear hD hE;omega
    have hT:=XE hk h3;have hF:=fun(h:kh (l.take (k+1))=false)=>aay h hk
    have G0:=fun m2 (h:ae m m2)=>hE m2 h k hk
    clear hE;refine Exists.elim (hD mm h1 k hk) fun X hX=>⟨⟨by clear hD G0 hX;omega,ay,hX.1.2⟩,X.cs,⟨hX.1.1,rfl⟩,?_⟩
    clear hD;have ha:=hX.2 mm (.inl rfl);clear hX;simp only[go_sem,Sd.cs,Nd.cs];refine ab ((aQ ha (fun V=>rfl)).mono ?_);clear ha;rintro r H' m2 aH ⟨l2,rfl,rfl⟩;have k2:=aa h1 l2;simp only[go_sem,Sd.cs,Nd.cs];refine Exists.elim (G0 m2 k2) fun Y hY=>⟨fun _=>⟨by clear G0 hY;omega,ay,hY.1.2⟩,Y.cs,fun _=>⟨hY.1.1,rfl⟩,?_⟩
    clear G0;have ha:=hY.2 m2 (.inl rfl);clear hY;simp only[go_sem,Sd.cs,Nd.cs];refine⟨fun hc=>ab ((aQ ha (fun V=>rfl)).mono ?_),fun hc=> ?_⟩
    ·clear ha;rintro r H' m3 bI ⟨l3,rfl,rfl⟩;have k3:=aa k2 l3;simp only[go_sem,Sd.cs,Nd.cs];refine⟨fun hb=>⟨k3,?_⟩,fun hb=>⟨by unfold aF;simp only[av] at hn;omega,(k+1,m3),⟨by simp,.inl rfl⟩,⟨k3,by simp only;omega,?_⟩,by simp only;omega⟩⟩
     ·rw[hF];rw[hT,di (by omega:¬nM l[k]<=24),Bool.and_false]
     ·simp only;rw[hT,eF (by omega:eQ l[k]<=24),eF (by omega:nM l[k]<=24)];rfl
    ·clear ha;refine⟨k2,?_⟩;rw[hF];rw[hT,di (by omega:¬eQ l[k]<=24),Bool.false_and]
   ·clear hD hE;rw[fi (by omega)] at h3;exact h3.symm
def zj (d:Cd):Bool:=(d.methods.all fun e=>kh e.body)&&kh d.init
theorem VJ (d:Cd) (cs:List Value) (m:Mem) (h:ki m d cs) (hz:eH d<=av):aJ 43 [.v (.agg ⟨cs⟩)] m (.bool (zj d)):=by
 obtain⟨fl,name,super,ifs,fields,methods,init⟩:=d;obtain⟨x,⟨rfl,rfl,rfl,rfl⟩,⟨dG,hic,fU,hfc,hml,hmc,fF,hsc⟩,ar,r1,r2,xs,ys,r3,s3,r4,s4⟩:=h;simp only at dG fU hml fF r1 r2 r3 s3 r4 s4;simp only[eH] at hz;have b2:x.ml<=av:=by rw[hml];exact ar.ml
 have hI:=fun m' (hle:ae m m')=>No init x.sa x.sl x.sc ys m' fF (ax hle r4) (dp hle s4) (by rw[fF];exact ar.l) (by omega)
 have y2:∀m',ae m m' ->∀i (hk:i<methods.length),∃X:Mc,(Rd m' (cM x.ma (i * 8)) X.cs/\x.ma≠none)/\aJ 112 [.v (.slice X.a X.l X.cp)] m' (.bool (kh methods[i].body)):=fun m' hle i hk=>by
  have aT:=p8 hle (nI s3 hk);have bU:=dA (ax hle r3) (by omega:i<x.ml);have n8:=zu (f:=nb) methods[i] (List.getElem_mem hk);simp only[nb] at n8;obtain⟨X,e1,e2,e3,e4,zs,e5,e6⟩:=aT;rw[e1.1] at bU;exact⟨X,bU,No _ X.a X.l X.cp zs m' e2.2.2.1 e5 e6 (by rw[e2.2.2.1];exact e3.l) (by omega)⟩
 clear s3 s4;have hX:zj ⟨x.fl,x.name,x.super,ifs,fields,methods,init⟩=((methods.all fun e=>kh e.body)&&kh init):=rfl;refine enter gP aB Tryz.func43 rfl rfl (by kernel_rfl) rfl ?_ ?_
 ·simp only[go_sem,Cc.cs]
 ·simp only[go_sem,Cc.cs];refine ei aB (fun y:Nat×Mem=>⟨[⟨1,[],.box 0 0⟩,⟨3,[],.v (.int .i64 y.1)⟩],[],[⟨0,59,x.cs.map .v⟩],[],1,y.2⟩)
   (fun y=>ae m y.2/\y.1<=x.ml/\((methods.take y.1).all fun e=>kh e.body)=true) (fun y=>x.ml - y.1) (0,m) (by kernel_rfl) (fun _ _=>au _) (fun y hy=> ?_) (fun _=> ?_) ?_ ?_ ?_
  ·exact hy.1
  ·simp only[go_sem,Cc.cs]
  ·simp only[go_sem,Cc.cs];rfl
  ·exact⟨.inl rfl,aG _,rfl⟩
  ·rintro⟨k,mm⟩ ⟨g1,g2,g3⟩;simp only at g1 g2 g3;simp only[go_sem,Cc.cs];refine⟨fun ay=> ?_,fun cg=> ?_⟩
   ·have hk:k<methods.length:=by clear y2 hI;omega
    have hy:=y2 mm g1 k hk;clear y2 hI;refine Exists.elim hy fun X fT=>⟨⟨by clear hy fT;omega,ay,fT.1.2⟩,iT fT.1.1,.slice X.a X.l X.cp,gK fT.1.1 7 1 (dv rfl),?_⟩
    have ha:=fT.2;clear hy fT;refine ab (ha.mono ?_);clear ha;rintro r H' m5 cO ⟨l5,rfl,rfl⟩;simp only[go_sem,Cc.cs];refine⟨fun hf=>⟨aa g1 l5,?_⟩,fun ht=>⟨by unfold aF;simp only[av] at b2;omega,(k+1,m5),⟨by simp,.inl rfl⟩,⟨aa g1 l5,by simp only;omega,?_⟩,by simp only;omega⟩⟩
    ·rw[hX,Cb (p:=fun e:Md=>kh e.body) hk hf];rfl
    ·simp only;rw[Bw hk,g3,ht];rfl
   ·have iM:methods.take k=methods:=fi (by clear y2 hI;omega);rw[iM] at g3;rw[g3,Bool.true_and] at hX;have ha:=hI mm g1;clear y2 hI;refine ab (ha.mono ?_);clear ha;rintro r H' m5 cO ⟨l5,rfl,rfl⟩;simp only[go_sem,Cc.cs];exact⟨aa g1 l5,hX.symm⟩
/-! Plain: the two depths. -/
theorem WS {k:Int} {nm:List UInt8} {ty:Ty} {tg ex:Ex} {body alt:List St} (h:iu k nm ty tg ex body alt=true):eB false body=true/\eB false alt=true/\(k=11->jj tg=true):=by
 have hs:∃t t2 a b,jf nm ty tg body alt t t2 a b=true/\(k=11->t2=false):=by
  unfold iu at h;split at h
  ·simp only[aD] at h;exact⟨_,_,_,_,h.1,fun _=>rfl⟩
  split at h
  ·rename_i hk;simp only[aD] at h;exact⟨_,_,_,_,h.1.1.1,fun e=>by rw[hk] at e;exact absurd e (by decide)⟩
  split at h
  ·simp only[aD] at h;exact⟨_,_,_,_,h.1.1,fun _=>rfl⟩
  split at h
  ·simp only[aD] at h;exact⟨_,_,_,_,h.1,fun _=>rfl⟩
  split at h
  ·simp only[aD] at h;exact⟨_,_,_,_,h.1,fun _=>rfl⟩
  split at h
  ·rw[aD] at h;exact⟨_,_,_,_,h.1,fun _=>rfl⟩
  split at h
  ·simp only[aD] at h;exact⟨_,_,_,_,h.1,fun _=>rfl⟩
  split at h
  ·simp only[aD] at h;exact⟨_,_,_,_,h.1,fun _=>rfl⟩
  split at h
  ·simp only[aD] at h;exact⟨_,_,_,_,h.1,fun _=>rfl⟩
  split at h
  ·simp only[aD] at h;exact⟨_,_,_,_,h.1,fun _=>rfl⟩
  ·cases h
 obtain⟨t,t2,a,b,hs,tX⟩:=hs;simp only[jf,aD,Bool.or_eq_true] at hs
 exact⟨hs.1.2,hs.2,fun e=>by
  rcases hs.1.1.1.1.2 with h |h
  ·rw[tX e] at h;cases h
  ·exact h⟩
mutual
theorem aaS:∀(s:St),fv s=true->(pC s<=24↔nM s<=24)
 | .mk k nm ty tg ex body alt,h=>by
  rw[Sa] at h;obtain⟨h1,h2,h3⟩:=WS h;simp only[eB,aD] at h1 h2;have i1:=Ep false body h1.2;have i2:=Ep false alt h2.2;have dx:b6 ex=xP ex+1:=by cases ex;simp [b6,xP]
  simp only[pC,nM];by_cases hk:k=11
  ·have ht:b6 tg=1:=by
    have:=h3 hk;cases tg with
    |mk k n s c ty args=>
     simp only[jj,ji,aD,bt] at this;have ha:args=[]:=List.length_eq_zero_iff.1 (by omega);subst ha;simp [b6,kN]
   rw[ah hk,ah hk];omega
  ·rw[af hk,af hk];omega
theorem Ep:∀(sup:Bool) (l:List St),b9 sup l=true->(ee l<=24↔fw l<=24)
 |_,[],_=>by simp [ee,fw]
 |sup,e::r,h=>by
  simp only[b9,aD] at h;have i1:=aaS e h.1.2;have i2:=Ep false r h.2;simp only[ee,fw];omega
end
theorem RB {sup:Bool} {l:List St} (h:eB sup l=true):kh l=decide (dq l<=24/\ee l<=24):=by
 simp only[eB,aD] at h;have:=Ep sup l h.2;rw[kh,<- Bool.decide_and,decide_eq_decide];omega
theorem Qa:∀(l:List Md),(∀e∈l,gh e=true)->(l.all fun e=>kh e.body)=decide (kB l<=24/\kC l<=24)
 |[],_=>by simp [kB,kC]
 |e::r,h=>by
  have h1:=h e (bY ..);simp only[gh,aD] at h1;rw[List.all_cons,Qa r fun x hx=>h x (bR _ hx),RB h1.2,<- Bool.decide_and,decide_eq_decide];simp only[kB,kC];omega
theorem ade {d:Cd} (h:im d=true):tc d= !zj d:=by
 simp only[im,aD,Bool.not_eq_true',List.any_eq_false] at h;have hm:∀e∈d.methods,gh e=true:=fun e he=>by
  have:=h.2.1.2 e he;simpa using this
 rw[zj,Qa d.methods hm,RB h.2.2,tc,<- Bool.decide_and,<- Bool.decide_or,<- decide_not,decide_eq_decide];omega
structure RCls (X:Cc) (e:Cd) (p:Option Addr) (o:Nat) (m' :Mem):Prop where
 rd:Rd m' (cM p o) X.cs
 nn:p≠none
 cl:aJ 42 [.v (.agg ⟨X.cs⟩)] m' (.bool (im e))
 sh:aJ 43 [.v (.agg ⟨X.cs⟩)] m' (.bool (zj e))
 tw:aJ 44 [.v (.agg ⟨X.cs⟩)] m' (.bool (ns e))
theorem MV (l:List Cd) (p:Option Addr) (n c:Nat) (m:Mem) (hz:(l.map eH).sum<=1048576) (h:qk m l p n c):
  FnH Tryz.prog 21 [.v (.slice p n c)] ⟨[],[]⟩ m fun r H' m' =>ae m m' /\H' =⟨[],[]⟩/\r= .tup [.v (.string (bs (eZ [] l).1)),.v (.int .i64 (eZ [] l).2)]:=by
 obtain⟨hl,bg,hn,xs,r1,s1⟩:=h;have y:∀i (hk:i<l.length),∃X:Cc,X.name=l[i].name/\∀m',ae m m' ->RCls X l[i] p (i * 7) m' :=fun i hk=>by
  have aT:=nI s1 hk;have eD:=zu (f:=eH) l[i] (List.getElem_mem hk);have hX:∃X:Cc,(xs.drop (i * 7)).take 7=X.cs/\X.name=l[i].name/\aF l[i].fl:=by
   obtain⟨X,e1,e2,e3,_⟩:=aT;exact⟨X,e1.1,e1.2.2.1,e3.fl⟩
  obtain⟨X,e1,e2,e3⟩:=hX;refine⟨X,e2,fun m' hle=> ?_⟩;have bU:=dA (ax hle r1) (by omega:i<n);have lC:=qa hle aT;rw[e1] at bU lC;have hc:=Wn _ _ m' lC;rw[aaZ _ e3] at hc;exact⟨bU.1,bU.2,hc,VJ _ _ m' lC (by simp only[av];omega),We _ _ m' lC⟩
 clear s1;refine aR aB Tryz.func21 ?_
 ·simp only[go_sem];refine ei aB (fun x:Nat×Mem=>⟨[⟨0,[],.v (.slice p n c)⟩,⟨4,[],.v (.int .i64 x.1)⟩],[],[],[],0,x.2⟩)
   (fun x=>ae m x.2/\x.1<=n/\eZ [] l=eZ ((l.map (·.name)).take x.1) (l.drop x.1)) (fun x=>n - x.1) (0,m) (by kernel_rfl) (fun _ _=>au _) (fun x hx=>hx.1) (fun _=> ?_) ?_ ?_ ?_
  ·simp only[go_sem]
  ·simp only[go_sem];rfl
  ·exact⟨.inl rfl,aG _,rfl⟩
  ·rintro⟨k,mm⟩ ⟨h1,h2,h3⟩;simp only at h1 h2 h3;have jb:∀(hk:k<l.length),eZ [] l=(if im l[k]=true then(if tc l[k]=true then(l[k].name,9) else if(((l.map (·.name)).take k).contains l[k].name||ns l[k])=true then(l[k].name,6) else eZ ((l.map (·.name)).take (k+1)) (l.drop (k+1))) else(l[k].name,4)):=fun hk=>by
    rw[h3,List.drop_eq_getElem_cons hk,eZ];have:(l.map (·.name)).take (k+1)=(l.map (·.name)).take k++[l[k].name]:=by
     rw[List.take_succ_eq_append_getElem (by simpa using hk)];simp
    rw[this]
   simp only[go_sem];refine⟨fun ay=> ?_,fun cg=> ?_⟩
   ·have hk:k<l.length:=by clear y;omega
    have mD:=jb hk;clear jb;refine Exists.elim (y k hk) fun X hy=>⟨⟨by clear y hy;omega,ay,(hy.2 mm h1).nn⟩,X.cs,⟨(hy.2 mm h1).rd,rfl⟩,?_⟩
    have sq:=hy.1;have hV:=(hy.2 mm h1).cl;simp only[go_sem,Cc.cs];refine ab ((aQ hV (fun V=>rfl)).mono ?_);clear hV;rintro r H' m2 aH ⟨l2,rfl,rfl⟩;have k2:=aa h1 l2;have oU:=(hy.2 m2 k2).rd;have tO:=(hy.2 m2 k2).nn;have hS:=(hy.2 m2 k2).sh;simp only[go_sem,Cc.cs];refine⟨fun b1=>⟨⟨by clear y hy hS;omega,ay,tO⟩,iT oU,.string (bs X.name),gK oU 1 1 (dv rfl),?_⟩,fun b1=>⟨⟨by clear y hy hS;omega,ay,tO⟩,X.cs,⟨oU,rfl⟩,?_⟩⟩
    ·clear y hy hS;refine⟨k2,?_⟩;rw[mD,af (by rw[b1];decide),sq]
    ·rw[ah b1] at mD;simp only[go_sem,Cc.cs];refine ab ((aQ hS (fun V=>rfl)).mono ?_);clear hS;rintro r H' m3 bI ⟨l3,rfl,rfl⟩;have k3:=aa k2 l3;have yw:=(hy.2 m3 k3).rd;have hT:=(hy.2 m3 k3).tw;have GL:tc l[k]= !zj l[k]:=ade b1;simp only[go_sem,Cc.cs];refine⟨fun b2=>⟨⟨by clear y hy hT;omega,ay,tO⟩,iT yw,.string (bs X.name),gK yw 1 1 (dv rfl),?_⟩,fun b2=> ?_⟩
     ·clear y hy hT;refine⟨k3,?_⟩;rw[b2,Bool.not_false] at GL;rw[mD,ah GL,sq]
     ·rw[b2] at GL;rw[af (by rw[GL];decide),<- sq] at mD;refine ei aB (fun x:Nat=>⟨[⟨0,[],.v (.slice p n c)⟩,⟨4,[],.v (.int .i64 k)⟩,⟨5,[],.v (.int .i64 x)⟩],[],[],[],0,m3⟩)
       (fun x=>x<=k/\((l.map (·.name)).take x).contains X.name=false) (fun x=>k - x) 0 (by kernel_rfl) (fun _ _=>au _) (fun _ _=> .inl rfl) (fun _=> ?_) ?_ ?_ ?_
      ·simp only[go_sem]
      ·simp only[go_sem];rfl
      ·exact⟨aG _,by simp⟩
      ·rintro j ⟨u1,u2⟩;simp only[go_sem];refine⟨fun LD=> ?_,fun LF=> ?_⟩
       ·have hj:j<l.length:=by clear y hy hT;omega
        have n9:j<(l.map (·.name)).length:=by simpa using hj
        have cB:k<(l.map (·.name)).length:=by simpa using hk
        have lV:=Es n9 X.name;have tV:=fun(qH:j<k) (he:(l.map (·.name))[j]=X.name)=>Fb qH cB X.name he
        rw[List.getElem_map] at lV;refine bO (.hoist 0 (.hoist 1 (.hoist 2 (.hoist 3 (.hoist 4 (.hoist 5 (.hoist 6 (.hoist 7 (.hoist 8 (.hoist 9 (.hoist 10 .done))))))))))) aB (by kernel_rfl) (by kernel_rfl) ?_;simp only[go_sem];refine Exists.elim (y j hj) fun Y hY=> ?_
        have UQ:=(hY.2 m3 k3).rd;have UG:=hY.1;clear y hy hT hY;refine⟨⟨by omega,by omega,tO⟩,iT UQ,.string (bs Y.name),gK UQ 1 1 (dv rfl),⟨by omega,ay,tO⟩,iT yw,.string (bs X.name),gK yw 1 1 (dv rfl),?_⟩;simp only[go_sem];refine⟨fun he=>⟨⟨by omega,ay,tO⟩,iT yw,.string (bs X.name),gK yw 1 1 (dv rfl),?_⟩,fun cQ=>⟨by unfold aF;simp only[av] at hn;omega,j+1,by simp,⟨by omega,?_⟩,by omega⟩⟩
        ·refine⟨k3,?_⟩;rw[mD,tV (by omega) (by rw[List.getElem_map,<- UG,he])];rfl
        ·rw[lV,u2,beq_eq_false_iff_ne.2 (fun h=>cQ (by rw[UG,h]))];rfl
       ·have qH:j=k:=by clear y hy hT;omega
        subst qH;refine⟨⟨by clear y hy hT;omega,ay,tO⟩,X.cs,⟨yw,rfl⟩,?_⟩;clear y;rw[u2,Bool.false_or] at mD;simp only[go_sem,Cc.cs];refine ab ((aQ hT (fun V=>rfl)).mono ?_);clear hT;rintro r H' m4 cT ⟨l4,rfl,rfl⟩;have k4:=aa k3 l4;have US:=(hy.2 m4 k4).rd;clear hy;simp only[go_sem,Cc.cs];refine⟨fun b4=>⟨⟨by omega,ay,tO⟩,iT US,.string (bs X.name),gK US 1 1 (dv rfl),?_⟩,fun b4=>⟨by unfold aF;simp only[av] at hn;omega,(j+1,m4),⟨by simp,.inl rfl⟩,⟨k4,by simp only;omega,?_⟩,by simp only;omega⟩⟩
        ·refine⟨k4,?_⟩;rw[mD,ah b4]
        ·simp only;rw[mD,af (by rw[b4];decide)]
   ·clear y;rw[h3,List.drop_of_length_le (by omega),eZ];exact⟨h1,rfl⟩
theorem adq {P:Program} {f:FuncId} {args:List SV} {H:Hp} {m:Mem} {R R' :SV->Hp->Mem->Prop} (h:FnH P f args H m R) (e:∀r H' m',m.le m' ->R r H' m' ->∃r',(∀V,den V r' =den V r)/\R' r' H' m'):FnH P f args H m R' :=
 fun V w D h1 h2 h3=>(h V w D h1 h2 h3).mono fun x w2 ⟨r,V',D',H',m',e1,e2,e3,e4,e5,e6,e7,e8,e9,jc,lW⟩=>(e r H' m' e9 lW).elim fun r' hr=>⟨r',V',D',H',m',by rw[hr.1 V'];exact e1,e2,e3,e4,e5,e6,e7,e8,e9,jc,hr.2⟩
theorem Y6 {P:Program} {f:FuncId} {args:List SV} {m:Mem} {R R' :SV->Hp->Mem->Prop} (h:FnH P f args ⟨[],[]⟩ m R)
  (e:∀r H' m',m.le m' ->R r H' m' ->∃k u el sz n xs,r= .vec k u/\H' =⟨[],[⟨k,u,el,sz,n,xs⟩]⟩/\R' (.vec 0 0) ⟨[],[⟨0,0,el,sz,n,xs⟩]⟩ m'):FnH P f args ⟨[],[]⟩ m R' :=
 fun V w D h1 h2 h3=>(h V w D h1 h2 h3).mono fun x w2 ⟨r,V',D',H',m',e1,e2,e3,e4,e5,e6,e7,e8,e9,jc,lW⟩=>by
  obtain⟨k,u,el,sz,n,xs,rfl,rfl,hR⟩:=e r H' m' e9 lW;refine⟨.vec 0 0,⟨V'.β,fun _ _=>V'.γ k u⟩,D',_,m',e1,e2,⟨fun b hb=>(by cases hb),fun b hb=> ?_,?_,?_⟩,fun b hb=>(by cases hb),fun b hb=>(by cases hb),e6,?_,e8,e9,jc,hR⟩
  ·rw[List.mem_singleton.1 hb];exact e3.vc _ (List.mem_singleton.2 rfl)
  ·exact e3.apart
  ·simp
  ·exact e7
theorem zL {P:Program} {f:FuncId} {k:Int} (h:∀s m,FnH P f [.v (.string (bs s))] ⟨[],[]⟩ m fun r H' _=>r= .agg [.v (.int .i64 k),.v (.string (bs s)),.v (.int .i64 0),.v (.int .i64 0)]/\H' =⟨[],[]⟩):
  ∀s m,(fun _=>True) s->FnH P f [.v (.string (bs s))] ⟨[],[]⟩ m fun r H' _=>r= .v (.agg ⟨ko ⟨k,s,0,0⟩⟩)/\H' =⟨[],[]⟩:=
 fun s m _=>adq (h s m) fun r H' m' _ hr=>⟨_,fun V=>by rw[hr.1];rfl,rfl,hr.2⟩
theorem Nn (s:List UInt8) (m:Mem):FnH Tryz.prog 100 [.v (.string (bs s))] ⟨[],[]⟩ m fun r H' _=>r= .agg [.v (.int .i64 6),.v (.string (bs s)),.v (.int .i64 0),.v (.int .i64 0)]/\H' =⟨[],[]⟩:=by
 refine aR aB Tryz.func100 ?_
 ·simp only[go_sem]
theorem Nj (s:List UInt8) (m:Mem):FnH Tryz.prog 97 [.v (.string (bs s))] ⟨[],[]⟩ m fun r H' _=>r= .agg [.v (.int .i64 2),.v (.string (bs s)),.v (.int .i64 0),.v (.int .i64 0)]/\H' =⟨[],[]⟩:=by
 refine aR aB Tryz.func97 ?_
 ·simp only[go_sem]
theorem Pd (s:List UInt8) (m:Mem):FnH Tryz.prog 98 [.v (.string (bs s))] ⟨[],[]⟩ m fun r H' _=>r= .agg [.v (.int .i64 1),.v (.string (bs s)),.v (.int .i64 0),.v (.int .i64 0)]/\H' =⟨[],[]⟩:=by
 refine aR aB Tryz.func98 ?_
 ·simp only[go_sem]
theorem cV (n:Nat) (xs:List Value) (m:Mem):FnH Tryz.prog 96 [.vec 0 0] ⟨[],[⟨0,0,50,4,n,xs⟩]⟩ m fun r H' m' =>r= .vec 0 0/\H' =⟨[],[⟨0,0,50,4,n,xs⟩]⟩/\m' =m:=by
 refine aR aB Tryz.func96 ?_
 ·simp only[go_sem]
abbrev jA:Cfg:=gC (fun f=>f==96) [(100,fr (fun _=>True) fun s=> .agg ⟨ko ⟨6,s,0,0⟩⟩),(97,fr (fun _=>True) fun s=> .agg ⟨ko ⟨2,s,0,0⟩⟩),(98,fr (fun _=>True) fun s=> .agg ⟨ko ⟨1,s,0,0⟩⟩)]
theorem cG:dt jA Tryz.prog:=pure_cons (by kernel_rfl) (fL (zL Nn)) (pure_cons (by kernel_rfl) (fL (zL Nj)) (pure_cons (by kernel_rfl) (fL (zL Pd)) pure_nil))
def bS (f:FuncId) (args:List SV) (m:Mem) (T:List Tk):Prop:=FnH Tryz.prog f args ⟨[],[]⟩ m fun r H' m' =>ae m m' /\r= .vec 0 0/\H' =⟨[],[⟨0,0,50,4,T.length,cv T⟩]⟩
theorem ew {f:FuncId} {args:List SV} {m:Mem} {T:List Tk} (h:FnH Tryz.prog f args ⟨[],[]⟩ m fun r H' m' =>ae m m' /\∃k u,r= .vec k u/\H' =⟨[],[⟨k,u,50,4,T.length,cv T⟩]⟩):bS f args m T:=
 Y6 h fun r H' m' _ hr=>by
  obtain⟨h1,k,u,rfl,rfl⟩:=hr;exact⟨k,u,_,_,_,_,rfl,rfl,h1,rfl,rfl⟩
theorem ahD:eR Tryz.prog 174=some none:=by kernel_rfl
theorem akc:iP Tryz.prog 174=some 45:=by kernel_rfl
theorem adv:fB Tryz.prog 45=some [.v (.slice none 0 0)]:=by kernel_rfl
theorem akD:od Tryz.prog 45=24:=by kernel_rfl
attribute [go_sem] ahD akc adv akD ko
def xz (m:Mem):List (List Tk)->List Value->Prop
 |[],[]=>True
 |t::r,x::xs=>(∃a c,x= .slice a t.length c/\t.length<=c/\aZ m a t.length 4 (cv t))/\xz m r xs
 |[],_::_=>False
 |_::_,[]=>False
theorem Sb {m:Mem}:∀{ls:List (List Tk)} {xs:List Value} {k:Nat} (_:xz m ls xs) (hk:k<ls.length),∃a c,xs[k]? =some (.slice a ls[k].length c)/\aZ m a ls[k].length 4 (cv ls[k])
 |[],_,_,_,hk=>absurd hk (Nat.not_lt_zero _)
 |t::r,[],_,h,_=>by simp [xz] at h
 |t::r,x::xs,0,h,_=>by
  simp only[xz] at h;obtain⟨⟨a,c,rfl,_,h1⟩,_⟩:=h;exact⟨a,c,rfl,h1⟩
 |t::r,x::xs,k+1,h,hk=>by
  simp only[xz] at h;have:=Sb (k:=k) h.2 (by simpa using hk);simpa using this
theorem Zv {ls:List (List Tk)} {k:Nat} (h:k<ls.length):(ls.take (k+1)).flatten=(ls.take k).flatten++ls[k]:=by
 rw[List.take_succ_eq_append_getElem h,List.flatten_append];simp
theorem adK (ls:List (List Tk)) (k:Nat):(ls.take k).flatten.length<=ls.flatten.length:=by
 have:=congrArg (fun l=>(List.flatten l).length) (List.take_append_drop k ls);simp only[List.flatten_append,aI] at this;omega
theorem OO (ts:List Tk):∀u∈cv ts,u.oneCell' =true:=by
 intro u hu;simp only[cv,List.mem_flatten,List.mem_map] at hu;obtain⟨l,⟨t,_,rfl⟩,hu⟩:=hu;simp only[List.mem_cons,List.not_mem_nil,or_false] at hu;rcases hu with rfl |rfl |rfl |rfl<;>rfl
theorem fW (ls:List (List Tk)) (a:Option Addr) (n c:Nat) (xs:List Value) (m:Mem) (hl:ls.length=n) (hr:aZ m a n 1 xs) (hs:xz m ls xs) (hn:n<=av) (hb:ls.flatten.length<=cap):bS 94 [.v (.slice a n c)] m ls.flatten:=by
 refine ew ?_;refine aR aB Tryz.func94 ?_
 ·simp only[go_sem];refine du aB (fun x:Nat×Nat=>⟨[⟨0,[],.v (.slice a n c)⟩,⟨3,[],.vec 0 x.2⟩,⟨4,[],.v (.int .i64 x.1)⟩],[],[],[⟨0,x.2,50,4,((ls.take x.1).flatten).length,cv ((ls.take x.1).flatten)⟩],1,m⟩)
   (fun x=>x.1<=n) (fun x=>n - x.1) (0,0) (fun _ _=>au _) (fun _ _=> .inl rfl) ?_ ?_ ?_
  ·simp only[go_sem];exact⟨rfl,rfl,rfl⟩
  ·exact aG _
  ·rintro⟨k,v⟩ h2;simp only at h2;have hx:∀(hk:k<n),∃(b:Option Addr) (d:Nat),Rd m (cM a k) [.slice b (ls.getD k []).length d]/\a≠none/\aZ m b (ls.getD k []).length 4 (cv (ls.getD k [])):=fun hk=>by
    have fm:k<ls.length:=by omega
    obtain⟨b,d,e1,e2⟩:=Sb hs fm;obtain⟨h3,h4,h5⟩:=BM hr hk;have e:ls.getD k []=ls[k]:=by rw[List.getD_eq_getElem?_getD,List.getElem?_eq_getElem fm];rfl
    rw[List.getElem?_eq_getElem h3] at e1;rw[e];refine⟨b,d,?_,h5,e2⟩;rw[Option.some.inj e1] at h4;exact h4
   have hf:=fun(hk:k<ls.length)=>And.intro (Zv hk) (adK ls (k+1))
   simp only[go_sem];refine⟨fun ay=> ?_,fun cg=> ?_⟩
   ·have hk:k<n:=by omega
    have cB:k<ls.length:=by omega
    refine Exists.elim (hx hk) fun b lT=>Exists.elim lT fun d oT=>⟨⟨by omega,ay,oT.2.1⟩,_,oT.1,?_⟩
    clear hx lT;simp only[go_sem];have hT:(ls.take (k+1)).flatten=(ls.take k).flatten++ls.getD k []:=by
     rw[(hf cB).1,List.getD_eq_getElem?_getD,List.getElem?_eq_getElem cB];rfl
    have hL:=(hf cB).2;rw[hT,aI] at hL;simp only[cap] at hb;exact⟨_,oT.2.2,OO _,⟨by omega,by simp only[maxLen];omega⟩,by unfold aF;simp only[av] at hn;omega,(k+1,v+1),⟨⟨rfl,by simp⟩,rfl,by simp only;rw[hT,aI],by simp only;rw[hT,mO]⟩,by simp only;omega,by simp only;omega⟩
   ·rw[fi (by omega)];exact⟨0,v,rfl,rfl⟩
theorem mP (T:List Tk) (a:Option Addr) (c:Nat) (m:Mem) (hr:aZ m a T.length 4 (cv T)) (hb:T.length+2<=cap):bS 105 [.v (.slice a T.length c)] m (sg [40]::(T++[sg [41]])):=by
 refine ew ?_;refine aR cG Tryz.func105 ?_
 ·simp only[go_sem];simp only[cap] at hb;refine⟨_,hr,OO _,⟨by omega,by simp only[maxLen];omega⟩,⟨by omega,by simp only[maxLen];omega⟩,0,2,rfl,?_⟩;have e1:(T++[sg [41]]).length+1=1+T.length+1:=by simp only[aI,iB];omega
  have e2:cv (sg [40]::(T++[sg [41]]))=ko (sg [40])++(cv T++ko (sg [41])):=by simp [cv,ko]
  rw[e1,e2];rfl
theorem EK (t:Tk) (k:Nat):(t::gU ((k+1:Nat):Int)).length=(t::gU (k:Int)).length+2/\cv (t::gU ((k+1:Nat):Int))=cv (t::gU (k:Int))++cv [sg [91],sg [93]]:=by
 have e:t::gU ((k+1:Nat):Int)=(t::gU (k:Int))++[sg [91],sg [93]]:=by
  simp only[gU,Int.toNat_natCast,List.replicate_succ',List.flatten_append,List.flatten_cons,List.flatten_nil,List.append_nil,dW]
 rw[e];exact⟨by simp,mO _ _⟩
theorem Fa {d:Int} {k:Nat} (h:¬(k:Int)<d) (h1:k=0\/(k:Int)<=d):gU (k:Int)=gU d:=by
 have:(k:Int).toNat=d.toNat:=by omega
 simp only[gU,this]
theorem sK (d b:Int) (nm:List UInt8) (m:Mem) (hd:d<=1000):bS 101 [.v (.agg ⟨[.int .i64 d,.int .u8 b,.string (bs nm)]⟩)] m (b5 d b nm):=by
 refine ew ?_;refine aR cG Tryz.func101 ?_
 ·simp only[go_sem];refine⟨fun hb=> ?_,fun n1=>⟨fun hb=> ?_,fun n2=>⟨fun hb=> ?_,fun n3=> ?_⟩⟩⟩
  ·rw[b5,iW,ah hb];refine du cG (fun x:Nat×Nat=>⟨[⟨1,[],.box 0 0⟩,⟨3,[],.vec 2 x.2⟩,⟨4,[],.v (.int .i64 x.1)⟩],[],[⟨0,30,[.v (.int .i64 d),.v (.int .u8 b),.v (.string (bs nm))]⟩],[⟨2,x.2,50,4,((kw iH)::gU x.1).length,cv ((kw iH)::gU x.1)⟩],3,m⟩)
    (fun x=>x.1=0\/(x.1:Int)<=d) (fun x=>d.toNat - x.1) (0,0) (fun _ _=>dv rfl) (fun _ _=> .inl rfl) ?_ ?_ ?_
   ·simp only[go_sem];exact⟨rfl,rfl,rfl⟩
   ·exact .inl rfl
   ·rintro⟨k,v⟩ h1;simp only at h1;simp only[go_sem];have e:=EK (kw iH) k;refine⟨fun ay=>⟨⟨by simp only[aL,rf];omega,by simp only[aL,rf,maxLen];omega⟩,by unfold aF;omega,(k+1,v+1),⟨⟨rfl,by simp⟩,rfl,by have:=e.1;simp only[aL] at this;simp only;omega,by simp only;rw[e.2];rfl⟩,.inr (by simp only;omega),by simp only;omega⟩,fun cg=>⟨2,v,rfl,?_⟩⟩;rw[Fa cg h1]
  ·rw[b5,iW,af n1,ah hb];refine du cG (fun x:Nat×Nat=>⟨[⟨1,[],.box 0 0⟩,⟨3,[],.vec 2 x.2⟩,⟨4,[],.v (.int .i64 x.1)⟩],[],[⟨0,30,[.v (.int .i64 d),.v (.int .u8 b),.v (.string (bs nm))]⟩],[⟨2,x.2,50,4,((kw iE)::gU x.1).length,cv ((kw iE)::gU x.1)⟩],3,m⟩)
    (fun x=>x.1=0\/(x.1:Int)<=d) (fun x=>d.toNat - x.1) (0,0) (fun _ _=>dv rfl) (fun _ _=> .inl rfl) ?_ ?_ ?_
   ·simp only[go_sem];exact⟨rfl,rfl,rfl⟩
   ·exact .inl rfl
   ·rintro⟨k,v⟩ h1;simp only at h1;simp only[go_sem];have e:=EK (kw iE) k;refine⟨fun ay=>⟨⟨by simp only[aL,rf];omega,by simp only[aL,rf,maxLen];omega⟩,by unfold aF;omega,(k+1,v+1),⟨⟨rfl,by simp⟩,rfl,by have:=e.1;simp only[aL] at this;simp only;omega,by simp only;rw[e.2];rfl⟩,.inr (by simp only;omega),by simp only;omega⟩,fun cg=>⟨2,v,rfl,?_⟩⟩;rw[Fa cg h1]
  ·rw[b5,iW,af n1,af n2,ah hb];refine du cG (fun x:Nat×Nat=>⟨[⟨1,[],.box 0 0⟩,⟨3,[],.vec 2 x.2⟩,⟨4,[],.v (.int .i64 x.1)⟩],[],[⟨0,30,[.v (.int .i64 d),.v (.int .u8 b),.v (.string (bs nm))]⟩],[⟨2,x.2,50,4,((kw qh)::gU x.1).length,cv ((kw qh)::gU x.1)⟩],3,m⟩)
    (fun x=>x.1=0\/(x.1:Int)<=d) (fun x=>d.toNat - x.1) (0,0) (fun _ _=>dv rfl) (fun _ _=> .inl rfl) ?_ ?_ ?_
   ·simp only[go_sem];exact⟨rfl,rfl,rfl⟩
   ·exact .inl rfl
   ·rintro⟨k,v⟩ h1;simp only at h1;simp only[go_sem];have e:=EK (kw qh) k;refine⟨fun ay=>⟨⟨by simp only[aL,rf];omega,by simp only[aL,rf,maxLen];omega⟩,by unfold aF;omega,(k+1,v+1),⟨⟨rfl,by simp⟩,rfl,by have:=e.1;simp only[aL] at this;simp only;omega,by simp only;rw[e.2];rfl⟩,.inr (by simp only;omega),by simp only;omega⟩,fun cg=>⟨2,v,rfl,?_⟩⟩;rw[Fa cg h1]
  ·rw[b5,iW,af n1,af n2,af n3];refine du cG (fun x:Nat×Nat=>⟨[⟨1,[],.box 0 0⟩,⟨3,[],.vec 1 x.2⟩,⟨4,[],.v (.int .i64 x.1)⟩],[],[⟨0,30,[.v (.int .i64 d),.v (.int .u8 b),.v (.string (bs nm))]⟩],[⟨1,x.2,50,4,((aM nm)::gU x.1).length,cv ((aM nm)::gU x.1)⟩],3,m⟩)
    (fun x=>x.1=0\/(x.1:Int)<=d) (fun x=>d.toNat - x.1) (0,0) (fun _ _=>dv rfl) (fun _ _=> .inl rfl) ?_ ?_ ?_
   ·simp only[go_sem];exact⟨rfl,rfl,rfl⟩
   ·exact .inl rfl
   ·rintro⟨k,v⟩ h1;simp only at h1;simp only[go_sem];have e:=EK (aM nm) k;refine⟨fun ay=>⟨⟨by simp only[aL,rf];omega,by simp only[aL,rf,maxLen];omega⟩,by unfold aF;omega,(k+1,v+1),⟨⟨rfl,by simp⟩,rfl,by have:=e.1;simp only[aL] at this;simp only;omega,by simp only;rw[e.2];rfl⟩,.inr (by simp only;omega),by simp only;omega⟩,fun cg=>⟨1,v,rfl,?_⟩⟩;rw[Fa cg h1]
def RefE (e:Ex) (m:Mem):Prop:=∀(cs:List Value) (m' :Mem),ae m m' ->bJ m' e cs->bS 41 [.v (.agg ⟨cs⟩)] m' (aC e)
theorem RefE.up {e:Ex} {m m' :Mem} (h:RefE e m) (hm:ae m m'):RefE e m' :=fun cs m2 hle=>h cs m2 (aa hm hle)
theorem HI (l:List Ex) (a:Option Addr) (n c:Nat) (xs:List Value) (m:Mem) (hl:l.length=n) (hn:n<=av) (hr:aZ m a n 8 xs) (eE:dY m l xs) (hE:∀e∈l,RefE e m) (hb:(bF true (l.map aC)).length<=cap):
  bS 106 [.v (.slice a n c)] m (bF true (l.map aC)):=by
 refine ew ?_;refine aR cG Tryz.func106 ?_
 ·simp only[go_sem];refine du cG (fun x:Nat×Nat×Mem=>⟨[⟨0,[],.v (.slice a n c)⟩,⟨3,[],.vec 0 x.2.1⟩,⟨4,[],.v (.int .i64 x.1)⟩],[],[],[⟨0,x.2.1,50,4,(bF true ((l.map aC).take x.1)).length,cv (bF true ((l.map aC).take x.1))⟩],1,x.2.2⟩)
   (fun x=>ae m x.2.2/\x.1<=n) (fun x=>n - x.1) (0,0,m) (fun _ _=>au _) (fun x hx=>hx.1) ?_ ?_ ?_
  ·simp only[go_sem];exact⟨rfl,rfl,rfl⟩
  ·exact⟨.inl rfl,aG _⟩
  ·rintro⟨k,v,mm⟩ ⟨h1,h2⟩;simp only at h1 h2;have hx:∀(hk:k<l.length),∃x:Nd,Rd mm (cM a (k * 8)) x.cs/\a≠none/\bS 41 [.v (.agg ⟨x.cs⟩)] mm (aC l[k]):=fun hk=>by
    have aT:=bw h1 (rv eE hk);obtain⟨x,hx⟩:=o5 aT;have bU:=dA (ax h1 hr) (by omega:k<n);rw[hx] at aT bU;exact⟨x,bU.1,bU.2,hE _ (List.getElem_mem hk) x.cs mm h1 aT⟩
   have lV:=fun(hk:k<l.length)=>HQ (l:=l.map aC) (f:=true) (k:=k) (by simpa using hk)
   have cH:=Bj (l.map aC) true;clear hE;simp only[go_sem];refine⟨fun ay=> ?_,fun cg=>⟨h1,0,v,rfl,?_⟩⟩
   ·have hk:k<l.length:=by clear hx;omega
    have hT:=lV hk;have hL:=cH (k+1);simp only[List.getElem_map] at hT;rw[hT] at hL;simp only[aI,cap] at hL hb;clear lV cH;refine Exists.elim (hx hk) fun x lT=> ?_
    clear hx;have UH:=lT.1;have UI:=lT.2.1;have wL:=lT.2.2;clear lT;refine⟨fun h0=>⟨⟨by clear wL;omega,by clear wL;simp only[maxLen];omega⟩,⟨by clear wL;omega,ay,UI⟩,x.cs,⟨UH,rfl⟩,by kernel_rfl,bo (wL.mono ?_)⟩,fun h0=>⟨⟨by clear wL;omega,ay,UI⟩,x.cs,⟨UH,rfl⟩,by kernel_rfl,bo (wL.mono ?_)⟩⟩
    ·clear wL;have e1:(0<k\/true=false):= .inl (by omega);rw[ah e1] at hT hL;simp only[aL] at hL;rintro r H' m2 aH ⟨l2,rfl,rfl⟩;simp only[go_sem];refine⟨⟨by omega,by simp only[maxLen];omega⟩,by unfold aF;simp only[av] at hn;omega,(k+1,v+2,m2),⟨⟨rfl,by simp⟩,⟨rfl,?_,?_⟩,.inl rfl⟩,⟨aa h1 l2,by simp only;omega⟩,by simp only;omega⟩
     ·simp only;rw[hT];simp only[aI,aL];omega
     ·simp only;rw[hT,mO];simp [cv,sg]
    ·clear wL;have e1:¬(0<k\/true=false):=fun h=>by rcases h with h |h;omega;cases h
     rw[af e1] at hT hL;rintro r H' m2 aH ⟨l2,rfl,rfl⟩;simp only[go_sem];refine⟨⟨by omega,by simp only[maxLen];omega⟩,by unfold aF;simp only[av] at hn;omega,(k+1,v+1,m2),⟨⟨rfl,by simp⟩,⟨rfl,?_,?_⟩,.inl rfl⟩,⟨aa h1 l2,by simp only;omega⟩,by simp only;omega⟩
     ·simp only;rw[hT];simp only[aI]
     ·simp only;rw[hT,mO]
   ·rw[fi (by simp;clear hx;omega)]
theorem VK (e:Ex) (x:Nd) (m:Mem) (aT:bJ m e x.cs) (hE:RefE e m) (hb:(aC e).length+2<=cap):bS 104 [.v (.agg ⟨x.cs⟩)] m (gl (iG e.k) (aC e)):=by
 have hk:x.k=e.k:=by
  cases e with
  |mk k n s c ty args=>
   obtain⟨y,hy,h1,_⟩:=qZ aT;rw[zN hy,h1];rfl
 have hT:=hE x.cs m (.inl rfl) aT;refine ew ?_;refine enter jA cG Tryz.func104 rfl rfl (by kernel_rfl) rfl ?_ ?_
 ·simp only[go_sem,Nd.cs]
 ·simp only[go_sem,Nd.cs];have hR:=fun(a:Option Addr) (c:Nat) (m' :Mem) (hr:aZ m' a (aC e).length 4 (cv (aC e)))=>mP (aC e) a c m' hr hb
  refine⟨fun h=>ab ((aQ hT (fun V=>rfl)).mono ?_),fun h=>ab ((aQ hT (fun V=>rfl)).mono ?_)⟩
  ·clear hT;have e1:iG e.k=true:=by rw[<- hk];simp only[iG,Bool.or_eq_true,bt];exact h
   rintro r H' m2 aH ⟨l2,rfl,rfl⟩;simp only[go_sem];refine⟨by kernel_rfl,fun a c m3 bI hc hr=>bo ((hR a c m3 hr).mono ?_)⟩;clear hR;rintro r H' m4 cT ⟨l4,rfl,rfl⟩;simp only[go_sem];refine⟨aa l2 (aa (.inr bI) l4),_,_,rfl,?_⟩;have e2:gl true (aC e)=sg [40]::(aC e++[sg [41]]):=by simp [gl,bj,bF]
   rw[e1,e2];rfl
  ·clear hT hR;have e1:iG e.k=false:=by rw[<- hk];simp only[iG,Bool.or_eq_false_iff,decide_eq_false_iff_not];exact h
   rintro r H' m2 aH ⟨l2,rfl,rfl⟩;simp only[go_sem];refine⟨l2,_,_,rfl,?_⟩;rw[e1];rfl
end Go.Proofs.YtimddhkipjedcaaGreatDoor.E

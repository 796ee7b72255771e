/- Several texts in one. -/
import Derived.WideKeyRuns
import Derived.Lib.IndexAny
import Derived.Test.YtimddhkipjedcaaGreatDoorMrg3
set_option linter.unusedSimpArgs false
set_option linter.unusedVariables false
set_option maxHeartbeats 4000000
set_option maxRecDepth 20000
namespace Go.Proofs.YtimddhkipjedcaaGreatDoor.E
open Go
def zE:Ex:= .mk 0 0 [] [] af []
def jS (k n:Int) (s c:List UInt8) (ty:Ty) (l:Nat):Bool:=decide (l=0)&&decide (k=0)&&decide (n=0)&&decide (s=[])&&decide (c=[])&&Ty.eq ty af
def mi:Ex->Bool | .mk k n s c ty args=>jS k n s c ty args.length
def tR:Ex->Bool | .mk k n s c ty args=>jS k n s c ty 0&&decide (args.length<=16)&&kv args
def r9 (e:Ex):Bool:=(decide (e.k=6)||decide (e.k=7)||decide (e.k=8)||decide (e.k=9))&&dm e
def sI (e:Ex):Bool:=(decide (e.k=10)||decide (e.k=11)||decide (e.k=12)||decide (e.k=13))&&dm e
def St.k:St->Int | .mk k _ _ _ _ _ _=>k
def iN (k:Int) (nm:List UInt8) (ty:Ty) (tg ex:Ex) (body alt:List St):St:=
 if k=1 then .mk k nm ty zE ex [] []
 else if k=2 then .mk k [] af tg ex [] []
 else if k=4 then .mk k [] af zE ex body alt
 else if k=5\/k=9 then .mk k [] af zE ex body []
 else if k=8 then .mk k nm ty zE zE body alt
 else if k=10 then .mk k [] af zE zE body []
 else .mk k [] af zE ex [] []
def gG (k:Int) (nm:List UInt8) (ty:Ty) (tg ex:Ex) (B:Bool):Bool:=
 if k=1 then dZ nm&&gg ty.dim ty.base ty.name&&dm ex
 else if k=2 then r9 tg&&dm ex
 else if k=3 then sI ex
 else if k=4\/k=5\/k=9 then B&&dm ex
 else if k=6 then mi ex||dm ex
 else if k=7 then dm ex
 else if k=8 then B&&dZ nm&&gg ty.dim ty.base ty.name
 else if k=10 then B
 else if k=11 then tR ex
 else false
mutual
def gE:St->Bool
 | .mk k nm ty tg ex body alt=>gG k nm ty tg ex (decide (body.length<=32)&&iB false body&&(decide (alt.length<=32)&&iB false alt))&&cF (.mk k nm ty tg ex body alt) (iN k nm ty tg ex body alt)
def iB:Bool->List St->Bool
 |_,[]=>true
 |sup,e::r=>(!decide (e.k=11)||sup)&&gE e&&iB false r
end
def eU (sup:Bool) (l:List St):Bool:=decide (l.length<=32)&&iB sup l
def nQ (sup:Bool) (i:Nat) (e:St):Bool:=(!decide (e.k=11)||(sup&&decide (i=0)))&&gE e
theorem BI:∀{l:List St} {sup:Bool} {i:Nat} (hi:i<l.length),iB sup (l.take (i+1))=(iB sup (l.take i)&&nQ sup i l[i])
 |[],_,_,hi=>absurd hi (Nat.not_lt_zero _)
 |e::r,sup,0,_=>by simp [iB,nQ]
 |e::r,sup,i+1,hi=>by
  have:=BI (l:=r) (sup:=false) (i:=i) (by simpa using hi);simp only[List.take_succ_cons,iB,this,List.getElem_cons_succ];simp only[nQ,Bool.false_and,Nat.add_one_ne_zero,aL,Bool.and_false,Bool.and_assoc]
theorem BR:∀{l:List St} {sup:Bool} {i:Nat} (hi:i<l.length),nQ sup i l[i]=false->iB sup l=false:=fun{l sup i} hi h=>by
 have h1:=BI (sup:=sup) hi;rw[h,Bool.and_false] at h1;have:∀(l:List St) (sup:Bool) (j:Nat),iB sup (l.take j)=false->iB sup l=false:=by
  intro l;induction l with
  |nil=>intro sup j h;simpa using h
  |cons e r ih=>
   intro sup j h;cases j with
   |zero=>simp [iB] at h
   |succ j=>
    simp only[List.take_succ_cons,iB] at h ⊢;cases h2:iB false (r.take j) with
    |false=>rw[ih false j h2,Bool.and_false]
    |true=>rw[h2,Bool.and_true] at h;rw[h,Bool.false_and]
 exact this l sup (i+1) h1
theorem Jx (x:Nd) (m:Mem):ay 234 [.v (.agg ⟨x.cs⟩)] m (.bool (jS x.k x.n x.s x.c x.ty x.l)):=by
 refine enter gp aw Tryz.func234 rfl rfl (by kernel_rfl) rfl ?_ ?_
 ·simp only[go_sem,Nd.cs]
 ·simp only[go_sem,Nd.cs,qi];have e0:decide ((x.l:Int)=0)=decide (x.l=0):=by rw[decide_eq_decide];omega
  rw[e0];rfl
theorem rZ {m:Mem} {k n:Int} {s c:List UInt8} {ty:Ty} {args:List Ex} {cs:List Value} (h:ba m (.mk k n s c ty args) cs):∃x:Nd,cs=x.cs/\x.k=k/\x.n=n/\x.s=s/\x.c=c/\x.ty=ty/\x.l=args.length/\x.l<=x.cp/\x.l<=az/\∃xs,aM m x.a x.l 8 xs/\dF m args xs:=by
 simp only[ba] at h;obtain⟨a,cp,xs,rfl,h1,h2,h3,h4⟩:=h;exact⟨⟨k,n,s,c,ty,a,args.length,cp⟩,rfl,rfl,rfl,rfl,rfl,rfl,rfl,h1,h3.2.2.2.2.2,xs,h2,h4⟩
theorem UN (e:Ex) (cs:List Value) (m:Mem) (hg:Glob m) (he:ba m e cs):ay 250 [.v (.agg ⟨cs⟩)] m (.bool (!dm e)):=by
 have hV:=o4 _ e cs m (aq _) hg he;obtain⟨x,rfl⟩:=pT he;refine enter gp aw Tryz.func250 rfl rfl (by kernel_rfl) rfl ?_ ?_
 ·simp only[go_sem,Nd.cs]
 ·simp only[go_sem,Nd.cs];refine ab ((aS hV (fun V=>rfl)).mono ?_);rintro r H' m2 aG ⟨aX,rfl,rfl⟩;simp only[go_sem];exact aX
theorem QL (e:Ex) (cs:List Value) (m:Mem) (hg:Glob m) (he:ba m e cs):ay 235 [.v (.agg ⟨cs⟩)] m (.bool (tR e)):=by
 cases e with
 |mk k n s c ty args=>
  obtain⟨x,rfl,rfl,rfl,rfl,rfl,rfl,hl,bb,hn,xs,hr,eE⟩:=rZ he;have hE:=Jx ⟨x.k,x.n,x.s,x.c,x.ty,none,0,0⟩ m;have hv:=fun m' (hm:ak m m')=>IB 250 (fun e=> !dm e) args x.a x.l x.cp xs m' hl.symm (aK hm hr) (xl hm eE) hn (by kernel_rfl) (fun i hi cs m2 hle aY=>UN _ cs m2 (hg.upM (aa hm hle)) aY)
  refine enter gp aw Tryz.func235 rfl rfl (by kernel_rfl) rfl ?_ ?_
  ·simp only[go_sem,Nd.cs]
  ·simp only[go_sem,Nd.cs];refine ab ((aS hE (fun V=>rfl)).mono ?_);clear hE;rintro r H' m2 aG ⟨aX,rfl,rfl⟩;simp only[go_sem];have e0:tR (Ex.mk x.k x.n x.s x.c x.ty args)=(jS x.k x.n x.s x.c x.ty 0&&decide (args.length<=16)&&kv args):=rfl;refine⟨fun h=>ab ((hv m2 aX).mono ?_),fun h=>⟨aX,?_⟩⟩
   ·clear hv;rintro r H' m3 bu ⟨kg,rfl,rfl⟩;simp only[go_sem];refine⟨aa aX kg,?_⟩;rw[e0,h.1,bO (by omega:args.length<=16),Er];rfl
   ·clear hv;rw[e0];rcases h with h |h
    ·rw[h];rfl
    ·rw[bg (by omega:¬args.length<=16),Bool.and_false];rfl
theorem P7 (e:Ex) (cs:List Value) (m:Mem) (hg:Glob m) (he:ba m e cs):ay 232 [.v (.agg ⟨cs⟩)] m (.bool (r9 e)):=by
 have hV:=o4 _ e cs m (aq _) hg he;cases e with
 |mk k n s c ty args=>
  obtain⟨x,rfl,rfl,rfl,rfl,rfl,rfl,hl,bb,hn,xs,hr,eE⟩:=rZ he;refine enter gp aw Tryz.func232 rfl rfl (by kernel_rfl) rfl ?_ ?_
  ·simp only[go_sem,Nd.cs]
  ·simp only[go_sem,Nd.cs];refine⟨fun e0=>⟨fun _=>ab ((aS hV (fun V=>rfl)).mono ?_),fun n=>absurd e0 n⟩,fun n0=>⟨fun e1=>⟨fun _=>ab ((aS hV (fun V=>rfl)).mono ?_),fun n=>absurd e1 n⟩,fun n1=>⟨fun e2=>⟨fun _=>ab ((aS hV (fun V=>rfl)).mono ?_),fun n=>absurd e2 n⟩,fun n2=>⟨fun e3=>ab ((aS hV (fun V=>rfl)).mono ?_),fun n3=> ?_⟩⟩⟩⟩
   ·clear hV;rintro r H' m2 aG ⟨aX,rfl,rfl⟩;simp only[go_sem];refine⟨aX,?_⟩;simp [r9,Ex.k,e0]
   ·clear hV;rintro r H' m2 aG ⟨aX,rfl,rfl⟩;simp only[go_sem];refine⟨aX,?_⟩;simp [r9,Ex.k,e1]
   ·clear hV;rintro r H' m2 aG ⟨aX,rfl,rfl⟩;simp only[go_sem];refine⟨aX,?_⟩;simp [r9,Ex.k,e2]
   ·clear hV;rintro r H' m2 aG ⟨aX,rfl,rfl⟩;simp only[go_sem];refine⟨aX,?_⟩;simp [r9,Ex.k,e3]
   ·clear hV;simp [r9,Ex.k,n0,n1,n2,n3]
theorem SN (e:Ex) (cs:List Value) (m:Mem) (hg:Glob m) (he:ba m e cs):ay 233 [.v (.agg ⟨cs⟩)] m (.bool (sI e)):=by
 have hV:=o4 _ e cs m (aq _) hg he;cases e with
 |mk k n s c ty args=>
  obtain⟨x,rfl,rfl,rfl,rfl,rfl,rfl,hl,bb,hn,xs,hr,eE⟩:=rZ he;refine enter gp aw Tryz.func233 rfl rfl (by kernel_rfl) rfl ?_ ?_
  ·simp only[go_sem,Nd.cs]
  ·simp only[go_sem,Nd.cs];refine⟨fun e0=>⟨fun _=>ab ((aS hV (fun V=>rfl)).mono ?_),fun n=>absurd e0 n⟩,fun n0=>⟨fun e1=>⟨fun _=>ab ((aS hV (fun V=>rfl)).mono ?_),fun n=>absurd e1 n⟩,fun n1=>⟨fun e2=>⟨fun _=>ab ((aS hV (fun V=>rfl)).mono ?_),fun n=>absurd e2 n⟩,fun n2=>⟨fun e3=>ab ((aS hV (fun V=>rfl)).mono ?_),fun n3=> ?_⟩⟩⟩⟩
   ·clear hV;rintro r H' m2 aG ⟨aX,rfl,rfl⟩;simp only[go_sem];refine⟨aX,?_⟩;simp [sI,Ex.k,e0]
   ·clear hV;rintro r H' m2 aG ⟨aX,rfl,rfl⟩;simp only[go_sem];refine⟨aX,?_⟩;simp [sI,Ex.k,e1]
   ·clear hV;rintro r H' m2 aG ⟨aX,rfl,rfl⟩;simp only[go_sem];refine⟨aX,?_⟩;simp [sI,Ex.k,e2]
   ·clear hV;rintro r H' m2 aG ⟨aX,rfl,rfl⟩;simp only[go_sem];refine⟨aX,?_⟩;simp [sI,Ex.k,e3]
   ·clear hV;simp [sI,Ex.k,n0,n1,n2,n3]
theorem rY {m:Mem} {k:Int} {nm:List UInt8} {ty:Ty} {tg ex:Ex} {body alt:List St} {cs:List Value} (h:eH m (.mk k nm ty tg ex body alt) cs):
  ∃x:Sd,cs=x.cs/\x.k=k/\x.name=nm/\x.ty=ty/\ba m tg x.tg.cs/\ba m ex x.ex.cs/\x.l=body.length/\x.l<=x.cp/\x.l2=alt.length/\x.l2<=x.cp2/\StOk k nm ty body.length alt.length/\∃xs ys,aM m x.a x.l 23 xs/\aM m x.b x.l2 23 ys/\bj m body xs/\bj m alt ys:=by
 simp only[eH] at h;obtain⟨x,⟨h1,h2,h3,h4⟩,h5,h6,⟨h7,h8,h9,vb⟩,wS,xs,ys,h12,Pu,h14,h15⟩:=h;exact⟨x,h1,h2,h3,h4,h5,h6,h7,h8,h9,vb,wS,xs,ys,h12,Pu,h14,h15⟩
theorem ES (sup:Bool) (l:List St) (a:Option Addr) (n c:Nat) (xs:List Value) (m:Mem) (hl:n=l.length) (hr:aM m a n 23 xs) (hs:bj m l xs) (hn:n<=az)
  (hV:∀e∈l,∀cs m',ak m m' ->eH m' e cs->ay 201 [.v (.agg ⟨cs⟩)] m' (.bool (gE e))):
  ay 142 [.v (.slice a n c),.v (.bool sup)] m (.bool (decide (l.length<=32)&&iB sup l)):=by
 refine aH aw Tryz.func142 ?_
 ·simp only[go_sem];refine⟨fun h=> ?_,fun h=> ?_⟩
  ·rw[bg (by clear hV;omega)];rfl
  ·have hE:(decide (l.length<=32)&&iB sup l)=iB sup l:=by rw[bO (by clear hV;omega)];rfl
   rw[hE];clear hE;refine cK aw (fun x:Nat×Mem=>⟨[⟨1,[],.v (.bool sup)⟩,⟨10,[],.v (.slice a n c)⟩,⟨11,[],.v (.int .i64 n)⟩,⟨12,[],.v (.int .i64 x.1)⟩],[],[],[],0,x.2⟩)
    (fun x=>ak m x.2/\x.1<=n/\iB sup (l.take x.1)=true) (fun x=>n - x.1) (0,m) (fun _ _=>aq _) (fun x hx=>hx.1) ?_ ?_ ?_
   ·simp only[go_sem];rfl
   ·exact⟨.inl rfl,au _,by simp [iB]⟩
   ·rintro⟨k,mm⟩ ⟨h1,h2,h3⟩;simp only at h1 h2 h3;have hy:∀(hk:k<l.length),∃X:Sd,(Rd mm (cI a (k * 23)) X.cs/\a≠none)/\X.k=l[k].k/\ay 201 [.v (.agg ⟨X.cs⟩)] mm (.bool (gE l[k])):=fun hk=>by
     have aY:=rW h1 (p7 hs hk);have HS:∃X:Sd,(xs.drop (k * 23)).take 23=X.cs/\X.k=l[k].k:=by
      cases ko:l[k] with
      |mk k' nm ty tg ex body alt=>
       rw[ko] at aY;obtain⟨X,e1,e2,_⟩:=rY aY;exact⟨X,e1,e2⟩
     obtain⟨X,e1,e2⟩:=HS;have r1:=ed (aK h1 hr) (by omega:k<n);rw[e1] at r1 aY;exact⟨X,r1,e2,hV _ (List.getElem_mem hk) _ _ h1 aY⟩
    clear hV;simp only[go_sem];refine⟨fun ao=> ?_,fun cA=>⟨h1,?_⟩⟩
    ·have hk:k<l.length:=by clear hy;omega
     refine Exists.elim (hy hk) fun X bc=>⟨⟨by clear hy bc;omega,ao,bc.1.2⟩,X.cs,⟨bc.1.1,rfl⟩,?_⟩
     clear hy;have eP:=bc.2.1;have ha:=bc.2.2;clear bc;simp only[go_sem,Sd.cs,Nd.cs];refine⟨fun hc=>ab ((aS ha (fun V=>rfl)).mono ?_),fun hc=>⟨h1,?_⟩⟩
     ·clear ha;have hb:nQ sup k l[k]=gE l[k]:=by
       rw[eP] at hc;rcases hc with hc |hc
       ·simp [nQ,hc]
       ·have:k=0:=by omega
        simp [nQ,hc.1,this]
      rintro r H' m2 aG ⟨aX,rfl,rfl⟩;simp only[go_sem];refine⟨fun hv=>⟨aa h1 aX,?_⟩,fun hv=>⟨by unfold ax;simp only[az] at hn;omega,(k+1,m2),⟨by simp,.inl rfl⟩,⟨aa h1 aX,by simp only;omega,?_⟩,by simp only;omega⟩⟩
      ·rw[BR hk (by rw[hb];exact hv)]
      ·simp only;rw[BI hk,h3,hb,hv];rfl
     ·clear ha;rw[eP] at hc;rw[BR hk];rcases hc.2 with h0 |h0
      ·simp [nQ,hc.1,h0]
      ·have:¬k=0:=by omega
       simp [nQ,hc.1,this]
    ·have:k=n:=by clear hy;omega
     rw[fH (by clear hy;omega)] at h3;rw[h3]
def aI:Nd:=⟨0,0,[],[],af,none,0,0⟩
theorem lA {m:Mem} {sz:Nat}:aM m none 0 sz []:=⟨by simp,fun h=>absurd h (Nat.lt_irrefl _)⟩
theorem rp:nR af:=⟨by unfold ax;decide,by decide,by decide⟩
theorem dQ {m:Mem}:ba m zE aI.cs:=by
 simp only[zE,ba];exact⟨none,0,[],rfl,aq _,lA,⟨by unfold ax;decide,by unfold ax;decide,by decide,by decide,rp,by decide⟩,by simp only[dF]⟩
theorem jh {m:Mem} (U:Sd) {tg ex:Ex} {body alt:List St} {xs ys:List Value} (cL:ba m tg U.tg.cs) (hex:ba m ex U.ex.cs) (hl:U.l=body.length) (bb:U.l<=U.cp) (bw:U.l2=alt.length) (dC:U.l2<=U.cp2) (av:StOk U.k U.name U.ty body.length alt.length)
  (r1:aM m U.a U.l 23 xs) (r2:aM m U.b U.l2 23 ys) (s1:bj m body xs) (s2:bj m alt ys):eH m (.mk U.k U.name U.ty tg ex body alt) U.cs:=by
 simp only[eH];exact⟨U,⟨rfl,rfl,rfl,rfl⟩,cL,hex,⟨hl,bb,bw,dC⟩,av,xs,ys,r1,r2,s1,s2⟩
theorem C2 {x y:Nd} (h:x.cs=y.cs):x=y:=by
 obtain⟨k,n,s,c,⟨d,b,nm⟩,a,l,cp⟩:=x;obtain⟨k',n',s',c',⟨d',b',nm'⟩,a',l',cp'⟩:=y;simp only[Nd.cs,List.cons.injEq,Value.int.injEq,Value.string.injEq,Value.slice.injEq,and_true,true_and] at h;obtain⟨h1,h2,h3,h4,h5,h6,h7,h8,h9,vb⟩:=h;rw[h1,h2,xR h3,xR h4,h5,h6,xR h7,h8,h9,vb]
theorem Uz {m:Mem} {e:Ex} {x:Nd} (h:ba m e x.cs) (m' :Mem):ay 234 [.v (.agg ⟨x.cs⟩)] m' (.bool (mi e)):=by
 cases e with
 |mk k n s c ty args=>
  obtain⟨y,hy,h1,h2,h3,h4,h5,h6,_⟩:=rZ h;have:=Jx x m';rw[C2 hy] at this ⊢;rw[h1,h2,h3,h4,h5,h6] at this;exact this
theorem mg {m:Mem}:bj m [] []:=by simp only[bj]
theorem ZM (nm:List UInt8) (ty:Ty) (tN eN:Nd) (a:Option Addr) (l cp:Nat) (b:Option Addr) (l2 cp2:Nat) (tg ex:Ex) (body alt:List St) (xs ys:List Value) (m:Mem) (hg:Glob m)
  (cL:ba m tg tN.cs) (hex:ba m ex eN.cs) (hl:l=body.length) (bb:l<=cp) (bw:l2=alt.length) (dC:l2<=cp2) (av:StOk 1 nm ty body.length alt.length) (r1:aM m a l 23 xs) (r2:aM m b l2 23 ys) (s1:bj m body xs) (s2:bj m alt ys) (B1 B2 B V:Bool)
  (hB:∀m',ak m m' ->ay 142 [.v (.slice a l cp),.v (.bool false)] m' (.bool B1)) (hA:∀m',ak m m' ->ay 142 [.v (.slice b l2 cp2),.v (.bool false)] m' (.bool B2)) (gn:B=(B1&&B2))
  (e0:V=((dZ nm&&gg ty.dim ty.base ty.name&&dm ex)&&cF (St.mk 1 nm ty tg ex body alt) (St.mk 1 nm ty zE ex [] []))):ay 201 [.v (.agg ⟨Sd.cs ⟨1,nm,ty,tN,eN,a,l,cp,b,l2,cp2⟩⟩)] m (.bool V):=by
 have hQ:∀m',ak m m' ->ay 236 [.v (.agg ⟨Sd.cs ⟨1,nm,ty,tN,eN,a,l,cp,b,l2,cp2⟩⟩),.v (.agg ⟨Sd.cs ⟨1,nm,ty,aI,eN,none,0,0,none,0,0⟩⟩)] m' (.bool (cF (St.mk 1 nm ty tg ex body alt) (St.mk 1 nm ty zE ex [] []))):=fun m' hle=>
  oo _ _ _ _ _ m' (aq _) (jh (m:=m') (⟨1,nm,ty,tN,eN,a,l,cp,b,l2,cp2⟩:Sd) (aU hle cL) (aU hle hex) hl bb bw dC av (aK hle r1) (aK hle r2) (di hle s1) (di hle s2))
   (jh (m:=m') (⟨1,nm,ty,aI,eN,none,0,0,none,0,0⟩:Sd) dQ (aU hle hex) rfl (aq _) rfl (aq _) ⟨av.k,av.nm,av.ty,au _,au _⟩ lA lA mg mg)
 have DL:BL nm:=cg av.nm (by decide);have DK:BL ty.name:=cg av.ty.2.2 (by decide);have hX:=fun m' (hle:ak m m')=>o4 _ ex eN.cs m' (aq _) (hg.upM hle) (aU hle hex)
 clear s1 s2 r1 r2;refine enter oY oQ Tryz.func201 rfl rfl (by kernel_rfl) rfl ?_ ?_
 ·simp only[go_sem,Sd.cs,Nd.cs,aI,af,Int.reduceEq,aC,aL]
 ·simp only[go_sem,Sd.cs,Nd.cs,aI,af,Int.reduceEq,aC,aL];refine ab ((hB m (.inl rfl)).mono ?_);clear hB;rintro r H' m1 aJ ⟨l1,rfl,rfl⟩;simp only[go_sem,Sd.cs,Nd.cs,aI,af,Int.reduceEq,aC,aL];refine⟨fun b1=>ab ((hA m1 l1).mono ?_),fun b1=> ?_⟩
  ·clear hA;rintro r H' m2 aG ⟨db,rfl,rfl⟩;have bZ:=aa l1 db;simp only[go_sem,Sd.cs,Nd.cs,aI,af,Int.reduceEq,aC,aL];refine⟨DL,fun _=>DK,fun c=> ?_,fun c=> ?_⟩
   ·refine ab ((aS (hX m2 bZ) (fun V=>rfl)).mono ?_);clear hX;rintro r H' w1 rM ⟨dH,rfl,rfl⟩;simp only[go_sem,Sd.cs,Nd.cs,aI,af,Int.reduceEq,aC,aL];refine⟨fun c1=> ?_,fun c1=> ?_⟩
    ·refine ab ((aS (hQ w1 (aa bZ dH)) (fun V=>rfl)).mono ?_);clear hQ;rintro r H' w2 rL ⟨jL,rfl,rfl⟩;simp only[go_sem,Sd.cs,Nd.cs,aI,af,Int.reduceEq,aC,aL];refine⟨aa (aa bZ dH) jL,?_⟩;rw[e0,c.1,c.2,c1];rfl
    ·refine⟨(aa bZ dH),?_⟩;rw[e0,c.1,c.2,c1];rfl
   ·refine⟨bZ,?_⟩;rw[e0];rcases c with c |c<;>simp [c]
  ·clear hA;refine⟨DL,fun _=>DK,fun c=> ?_,fun c=> ?_⟩
   ·refine ab ((aS (hX m1 l1) (fun V=>rfl)).mono ?_);clear hX;rintro r H' w3 Bd ⟨ki,rfl,rfl⟩;simp only[go_sem,Sd.cs,Nd.cs,aI,af,Int.reduceEq,aC,aL];refine⟨fun c3=> ?_,fun c3=> ?_⟩
    ·refine ab ((aS (hQ w3 (aa l1 ki)) (fun V=>rfl)).mono ?_);clear hQ;rintro r H' w4 Bc ⟨mR,rfl,rfl⟩;simp only[go_sem,Sd.cs,Nd.cs,aI,af,Int.reduceEq,aC,aL];refine⟨aa (aa l1 ki) mR,?_⟩;rw[e0,c.1,c.2,c3];rfl
    ·refine⟨(aa l1 ki),?_⟩;rw[e0,c.1,c.2,c3];rfl
   ·refine⟨l1,?_⟩;rw[e0];rcases c with c |c<;>simp [c]
theorem ZL (nm:List UInt8) (ty:Ty) (tN eN:Nd) (a:Option Addr) (l cp:Nat) (b:Option Addr) (l2 cp2:Nat) (tg ex:Ex) (body alt:List St) (xs ys:List Value) (m:Mem) (hg:Glob m)
  (cL:ba m tg tN.cs) (hex:ba m ex eN.cs) (hl:l=body.length) (bb:l<=cp) (bw:l2=alt.length) (dC:l2<=cp2) (av:StOk 2 nm ty body.length alt.length) (r1:aM m a l 23 xs) (r2:aM m b l2 23 ys) (s1:bj m body xs) (s2:bj m alt ys) (B1 B2 B V:Bool)
  (hB:∀m',ak m m' ->ay 142 [.v (.slice a l cp),.v (.bool false)] m' (.bool B1)) (hA:∀m',ak m m' ->ay 142 [.v (.slice b l2 cp2),.v (.bool false)] m' (.bool B2)) (gn:B=(B1&&B2))
  (e0:V=((r9 tg&&dm ex)&&cF (St.mk 2 nm ty tg ex body alt) (St.mk 2 [] af tg ex [] []))):ay 201 [.v (.agg ⟨Sd.cs ⟨2,nm,ty,tN,eN,a,l,cp,b,l2,cp2⟩⟩)] m (.bool V):=by
 have hQ:∀m',ak m m' ->ay 236 [.v (.agg ⟨Sd.cs ⟨2,nm,ty,tN,eN,a,l,cp,b,l2,cp2⟩⟩),.v (.agg ⟨Sd.cs ⟨2,[],af,tN,eN,none,0,0,none,0,0⟩⟩)] m' (.bool (cF (St.mk 2 nm ty tg ex body alt) (St.mk 2 [] af tg ex [] []))):=fun m' hle=>
  oo _ _ _ _ _ m' (aq _) (jh (m:=m') (⟨2,nm,ty,tN,eN,a,l,cp,b,l2,cp2⟩:Sd) (aU hle cL) (aU hle hex) hl bb bw dC av (aK hle r1) (aK hle r2) (di hle s1) (di hle s2))
   (jh (m:=m') (⟨2,[],af,tN,eN,none,0,0,none,0,0⟩:Sd) (aU hle cL) (aU hle hex) rfl (aq _) rfl (aq _) ⟨av.k,au _,rp,au _,au _⟩ lA lA mg mg)
 have hX:=fun m' (hle:ak m m')=>o4 _ ex eN.cs m' (aq _) (hg.upM hle) (aU hle hex)
 have hT:=fun m' (hle:ak m m')=>P7 tg tN.cs m' (hg.upM hle) (aU hle cL)
 clear s1 s2 r1 r2;refine enter oY oQ Tryz.func201 rfl rfl (by kernel_rfl) rfl ?_ ?_
 ·simp only[go_sem,Sd.cs,Nd.cs,aI,af,Int.reduceEq,aC,aL]
 ·simp only[go_sem,Sd.cs,Nd.cs,aI,af,Int.reduceEq,aC,aL];refine ab ((hB m (.inl rfl)).mono ?_);clear hB;rintro r H' m1 aJ ⟨l1,rfl,rfl⟩;simp only[go_sem,Sd.cs,Nd.cs,aI,af,Int.reduceEq,aC,aL];refine⟨fun b1=>ab ((hA m1 l1).mono ?_),fun b1=> ?_⟩
  ·clear hA;rintro r H' m2 aG ⟨db,rfl,rfl⟩;have bZ:=aa l1 db;simp only[go_sem,Sd.cs,Nd.cs,aI,af,Int.reduceEq,aC,aL];refine ab ((aS (hT m2 bZ) (fun V=>rfl)).mono ?_);clear hT;rintro r H' w1 rM ⟨dH,rfl,rfl⟩;simp only[go_sem,Sd.cs,Nd.cs,aI,af,Int.reduceEq,aC,aL];refine⟨fun c=> ?_,fun c=> ?_⟩
   ·refine ab ((aS (hX w1 (aa bZ dH)) (fun V=>rfl)).mono ?_);clear hX;rintro r H' w2 rL ⟨jL,rfl,rfl⟩;simp only[go_sem,Sd.cs,Nd.cs,aI,af,Int.reduceEq,aC,aL];refine⟨fun c2=> ?_,fun c2=> ?_⟩
    ·refine ab ((aS (hQ w2 (aa (aa bZ dH) jL)) (fun V=>rfl)).mono ?_);clear hQ;rintro r H' w3 Bd ⟨ki,rfl,rfl⟩;simp only[go_sem,Sd.cs,Nd.cs,aI,af,Int.reduceEq,aC,aL];refine⟨aa (aa (aa bZ dH) jL) ki,?_⟩;rw[e0,c,c2];rfl
    ·refine⟨(aa (aa bZ dH) jL),?_⟩;rw[e0,c,c2];rfl
   ·refine⟨(aa bZ dH),?_⟩;rw[e0,c];rfl
  ·clear hA;refine ab ((aS (hT m1 l1) (fun V=>rfl)).mono ?_);clear hT;rintro r H' w4 Bc ⟨mR,rfl,rfl⟩;simp only[go_sem,Sd.cs,Nd.cs,aI,af,Int.reduceEq,aC,aL];refine⟨fun c=> ?_,fun c=> ?_⟩
   ·refine ab ((aS (hX w4 (aa l1 mR)) (fun V=>rfl)).mono ?_);clear hX;rintro r H' w5 hw5 ⟨rI,rfl,rfl⟩;simp only[go_sem,Sd.cs,Nd.cs,aI,af,Int.reduceEq,aC,aL];refine⟨fun c5=> ?_,fun c5=> ?_⟩
    ·refine ab ((aS (hQ w5 (aa (aa l1 mR) rI)) (fun V=>rfl)).mono ?_);clear hQ;rintro r H' w6 yE ⟨A7,rfl,rfl⟩;simp only[go_sem,Sd.cs,Nd.cs,aI,af,Int.reduceEq,aC,aL];refine⟨aa (aa (aa l1 mR) rI) A7,?_⟩;rw[e0,c,c5];rfl
    ·refine⟨(aa (aa l1 mR) rI),?_⟩;rw[e0,c,c5];rfl
   ·refine⟨(aa l1 mR),?_⟩;rw[e0,c];rfl
theorem ZK (nm:List UInt8) (ty:Ty) (tN eN:Nd) (a:Option Addr) (l cp:Nat) (b:Option Addr) (l2 cp2:Nat) (tg ex:Ex) (body alt:List St) (xs ys:List Value) (m:Mem) (hg:Glob m)
  (cL:ba m tg tN.cs) (hex:ba m ex eN.cs) (hl:l=body.length) (bb:l<=cp) (bw:l2=alt.length) (dC:l2<=cp2) (av:StOk 3 nm ty body.length alt.length) (r1:aM m a l 23 xs) (r2:aM m b l2 23 ys) (s1:bj m body xs) (s2:bj m alt ys) (B1 B2 B V:Bool)
  (hB:∀m',ak m m' ->ay 142 [.v (.slice a l cp),.v (.bool false)] m' (.bool B1)) (hA:∀m',ak m m' ->ay 142 [.v (.slice b l2 cp2),.v (.bool false)] m' (.bool B2)) (gn:B=(B1&&B2))
  (e0:V=(sI ex&&cF (St.mk 3 nm ty tg ex body alt) (St.mk 3 [] af zE ex [] []))):ay 201 [.v (.agg ⟨Sd.cs ⟨3,nm,ty,tN,eN,a,l,cp,b,l2,cp2⟩⟩)] m (.bool V):=by
 have hQ:∀m',ak m m' ->ay 236 [.v (.agg ⟨Sd.cs ⟨3,nm,ty,tN,eN,a,l,cp,b,l2,cp2⟩⟩),.v (.agg ⟨Sd.cs ⟨3,[],af,aI,eN,none,0,0,none,0,0⟩⟩)] m' (.bool (cF (St.mk 3 nm ty tg ex body alt) (St.mk 3 [] af zE ex [] []))):=fun m' hle=>
  oo _ _ _ _ _ m' (aq _) (jh (m:=m') (⟨3,nm,ty,tN,eN,a,l,cp,b,l2,cp2⟩:Sd) (aU hle cL) (aU hle hex) hl bb bw dC av (aK hle r1) (aK hle r2) (di hle s1) (di hle s2))
   (jh (m:=m') (⟨3,[],af,aI,eN,none,0,0,none,0,0⟩:Sd) dQ (aU hle hex) rfl (aq _) rfl (aq _) ⟨av.k,au _,rp,au _,au _⟩ lA lA mg mg)
 have hX:=fun m' (hle:ak m m')=>SN ex eN.cs m' (hg.upM hle) (aU hle hex)
 clear s1 s2 r1 r2;refine enter oY oQ Tryz.func201 rfl rfl (by kernel_rfl) rfl ?_ ?_
 ·simp only[go_sem,Sd.cs,Nd.cs,aI,af,Int.reduceEq,aC,aL]
 ·simp only[go_sem,Sd.cs,Nd.cs,aI,af,Int.reduceEq,aC,aL];refine ab ((hB m (.inl rfl)).mono ?_);clear hB;rintro r H' m1 aJ ⟨l1,rfl,rfl⟩;simp only[go_sem,Sd.cs,Nd.cs,aI,af,Int.reduceEq,aC,aL];refine⟨fun b1=>ab ((hA m1 l1).mono ?_),fun b1=> ?_⟩
  ·clear hA;rintro r H' m2 aG ⟨db,rfl,rfl⟩;have bZ:=aa l1 db;simp only[go_sem,Sd.cs,Nd.cs,aI,af,Int.reduceEq,aC,aL];refine ab ((aS (hX m2 bZ) (fun V=>rfl)).mono ?_);clear hX;rintro r H' w1 rM ⟨dH,rfl,rfl⟩;simp only[go_sem,Sd.cs,Nd.cs,aI,af,Int.reduceEq,aC,aL];refine⟨fun c1=> ?_,fun c1=> ?_⟩
   ·refine ab ((aS (hQ w1 (aa bZ dH)) (fun V=>rfl)).mono ?_);clear hQ;rintro r H' w2 rL ⟨jL,rfl,rfl⟩;simp only[go_sem,Sd.cs,Nd.cs,aI,af,Int.reduceEq,aC,aL];refine⟨aa (aa bZ dH) jL,?_⟩;rw[e0,c1];rfl
   ·refine⟨(aa bZ dH),?_⟩;rw[e0,c1];rfl
  ·clear hA;refine ab ((aS (hX m1 l1) (fun V=>rfl)).mono ?_);clear hX;rintro r H' w3 Bd ⟨ki,rfl,rfl⟩;simp only[go_sem,Sd.cs,Nd.cs,aI,af,Int.reduceEq,aC,aL];refine⟨fun c3=> ?_,fun c3=> ?_⟩
   ·refine ab ((aS (hQ w3 (aa l1 ki)) (fun V=>rfl)).mono ?_);clear hQ;rintro r H' w4 Bc ⟨mR,rfl,rfl⟩;simp only[go_sem,Sd.cs,Nd.cs,aI,af,Int.reduceEq,aC,aL];refine⟨aa (aa l1 ki) mR,?_⟩;rw[e0,c3];rfl
   ·refine⟨(aa l1 ki),?_⟩;rw[e0,c3];rfl
theorem ZJ (nm:List UInt8) (ty:Ty) (tN eN:Nd) (a:Option Addr) (l cp:Nat) (b:Option Addr) (l2 cp2:Nat) (tg ex:Ex) (body alt:List St) (xs ys:List Value) (m:Mem) (hg:Glob m)
  (cL:ba m tg tN.cs) (hex:ba m ex eN.cs) (hl:l=body.length) (bb:l<=cp) (bw:l2=alt.length) (dC:l2<=cp2) (av:StOk 4 nm ty body.length alt.length) (r1:aM m a l 23 xs) (r2:aM m b l2 23 ys) (s1:bj m body xs) (s2:bj m alt ys) (B1 B2 B V:Bool)
  (hB:∀m',ak m m' ->ay 142 [.v (.slice a l cp),.v (.bool false)] m' (.bool B1)) (hA:∀m',ak m m' ->ay 142 [.v (.slice b l2 cp2),.v (.bool false)] m' (.bool B2)) (gn:B=(B1&&B2))
  (e0:V=((B&&dm ex)&&cF (St.mk 4 nm ty tg ex body alt) (St.mk 4 [] af zE ex body alt))):ay 201 [.v (.agg ⟨Sd.cs ⟨4,nm,ty,tN,eN,a,l,cp,b,l2,cp2⟩⟩)] m (.bool V):=by
 have hQ:∀m',ak m m' ->ay 236 [.v (.agg ⟨Sd.cs ⟨4,nm,ty,tN,eN,a,l,cp,b,l2,cp2⟩⟩),.v (.agg ⟨Sd.cs ⟨4,[],af,aI,eN,a,l,cp,b,l2,cp2⟩⟩)] m' (.bool (cF (St.mk 4 nm ty tg ex body alt) (St.mk 4 [] af zE ex body alt))):=fun m' hle=>
  oo _ _ _ _ _ m' (aq _) (jh (m:=m') (⟨4,nm,ty,tN,eN,a,l,cp,b,l2,cp2⟩:Sd) (aU hle cL) (aU hle hex) hl bb bw dC av (aK hle r1) (aK hle r2) (di hle s1) (di hle s2))
   (jh (m:=m') (⟨4,[],af,aI,eN,a,l,cp,b,l2,cp2⟩:Sd) dQ (aU hle hex) hl bb bw dC ⟨av.k,au _,rp,av.l,av.l2⟩ (aK hle r1) (aK hle r2) (di hle s1) (di hle s2))
 have hX:=fun m' (hle:ak m m')=>o4 _ ex eN.cs m' (aq _) (hg.upM hle) (aU hle hex)
 clear s1 s2 r1 r2;refine enter oY oQ Tryz.func201 rfl rfl (by kernel_rfl) rfl ?_ ?_
 ·simp only[go_sem,Sd.cs,Nd.cs,aI,af,Int.reduceEq,aC,aL]
 ·simp only[go_sem,Sd.cs,Nd.cs,aI,af,Int.reduceEq,aC,aL];refine ab ((hB m (.inl rfl)).mono ?_);clear hB;rintro r H' m1 aJ ⟨l1,rfl,rfl⟩;simp only[go_sem,Sd.cs,Nd.cs,aI,af,Int.reduceEq,aC,aL];refine⟨fun b1=>ab ((hA m1 l1).mono ?_),fun b1=> ?_⟩
  ·clear hA;rintro r H' m2 aG ⟨db,rfl,rfl⟩;have bZ:=aa l1 db;simp only[go_sem,Sd.cs,Nd.cs,aI,af,Int.reduceEq,aC,aL];refine⟨fun b2=> ?_,fun b2=> ?_⟩
   ·refine ab ((aS (hX m2 bZ) (fun V=>rfl)).mono ?_);clear hX;rintro r H' w1 rM ⟨dH,rfl,rfl⟩;simp only[go_sem,Sd.cs,Nd.cs,aI,af,Int.reduceEq,aC,aL];refine⟨fun c1=> ?_,fun c1=> ?_⟩
    ·refine ab ((aS (hQ w1 (aa bZ dH)) (fun V=>rfl)).mono ?_);clear hQ;rintro r H' w2 rL ⟨jL,rfl,rfl⟩;simp only[go_sem,Sd.cs,Nd.cs,aI,af,Int.reduceEq,aC,aL];refine⟨aa (aa bZ dH) jL,?_⟩;rw[e0,gn,b1,b2,c1];rfl
    ·refine⟨(aa bZ dH),?_⟩;rw[e0,gn,b1,b2,c1];rfl
   ·refine⟨bZ,?_⟩;rw[e0,gn,b1,b2];rfl
  ·clear hA;refine⟨l1,?_⟩;rw[e0,gn,b1];rfl
theorem ZI (nm:List UInt8) (ty:Ty) (tN eN:Nd) (a:Option Addr) (l cp:Nat) (b:Option Addr) (l2 cp2:Nat) (tg ex:Ex) (body alt:List St) (xs ys:List Value) (m:Mem) (hg:Glob m)
  (cL:ba m tg tN.cs) (hex:ba m ex eN.cs) (hl:l=body.length) (bb:l<=cp) (bw:l2=alt.length) (dC:l2<=cp2) (av:StOk 5 nm ty body.length alt.length) (r1:aM m a l 23 xs) (r2:aM m b l2 23 ys) (s1:bj m body xs) (s2:bj m alt ys) (B1 B2 B V:Bool)
  (hB:∀m',ak m m' ->ay 142 [.v (.slice a l cp),.v (.bool false)] m' (.bool B1)) (hA:∀m',ak m m' ->ay 142 [.v (.slice b l2 cp2),.v (.bool false)] m' (.bool B2)) (gn:B=(B1&&B2))
  (e0:V=((B&&dm ex)&&cF (St.mk 5 nm ty tg ex body alt) (St.mk 5 [] af zE ex body []))):ay 201 [.v (.agg ⟨Sd.cs ⟨5,nm,ty,tN,eN,a,l,cp,b,l2,cp2⟩⟩)] m (.bool V):=by
 have hQ:∀m',ak m m' ->ay 236 [.v (.agg ⟨Sd.cs ⟨5,nm,ty,tN,eN,a,l,cp,b,l2,cp2⟩⟩),.v (.agg ⟨Sd.cs ⟨5,[],af,aI,eN,a,l,cp,none,0,0⟩⟩)] m' (.bool (cF (St.mk 5 nm ty tg ex body alt) (St.mk 5 [] af zE ex body []))):=fun m' hle=>
  oo _ _ _ _ _ m' (aq _) (jh (m:=m') (⟨5,nm,ty,tN,eN,a,l,cp,b,l2,cp2⟩:Sd) (aU hle cL) (aU hle hex) hl bb bw dC av (aK hle r1) (aK hle r2) (di hle s1) (di hle s2))
   (jh (m:=m') (⟨5,[],af,aI,eN,a,l,cp,none,0,0⟩:Sd) dQ (aU hle hex) hl bb rfl (aq _) ⟨av.k,au _,rp,av.l,au _⟩ (aK hle r1) lA (di hle s1) mg)
 have hX:=fun m' (hle:ak m m')=>o4 _ ex eN.cs m' (aq _) (hg.upM hle) (aU hle hex)
 clear s1 s2 r1 r2;refine enter oY oQ Tryz.func201 rfl rfl (by kernel_rfl) rfl ?_ ?_
 ·simp only[go_sem,Sd.cs,Nd.cs,aI,af,Int.reduceEq,aC,aL]
 ·simp only[go_sem,Sd.cs,Nd.cs,aI,af,Int.reduceEq,aC,aL];refine ab ((hB m (.inl rfl)).mono ?_);clear hB;rintro r H' m1 aJ ⟨l1,rfl,rfl⟩;simp only[go_sem,Sd.cs,Nd.cs,aI,af,Int.reduceEq,aC,aL];refine⟨fun b1=>ab ((hA m1 l1).mono ?_),fun b1=> ?_⟩
  ·clear hA;rintro r H' m2 aG ⟨db,rfl,rfl⟩;have bZ:=aa l1 db;simp only[go_sem,Sd.cs,Nd.cs,aI,af,Int.reduceEq,aC,aL];refine⟨fun b2=> ?_,fun b2=> ?_⟩
   ·refine ab ((aS (hX m2 bZ) (fun V=>rfl)).mono ?_);clear hX;rintro r H' w1 rM ⟨dH,rfl,rfl⟩;simp only[go_sem,Sd.cs,Nd.cs,aI,af,Int.reduceEq,aC,aL];refine⟨fun c1=> ?_,fun c1=> ?_⟩
    ·refine ab ((aS (hQ w1 (aa bZ dH)) (fun V=>rfl)).mono ?_);clear hQ;rintro r H' w2 rL ⟨jL,rfl,rfl⟩;simp only[go_sem,Sd.cs,Nd.cs,aI,af,Int.reduceEq,aC,aL];refine⟨aa (aa bZ dH) jL,?_⟩;rw[e0,gn,b1,b2,c1];rfl
    ·refine⟨(aa bZ dH),?_⟩;rw[e0,gn,b1,b2,c1];rfl
   ·refine⟨bZ,?_⟩;rw[e0,gn,b1,b2];rfl
  ·clear hA;refine⟨l1,?_⟩;rw[e0,gn,b1];rfl
theorem ZH (nm:List UInt8) (ty:Ty) (tN eN:Nd) (a:Option Addr) (l cp:Nat) (b:Option Addr) (l2 cp2:Nat) (tg ex:Ex) (body alt:List St) (xs ys:List Value) (m:Mem) (hg:Glob m)
  (cL:ba m tg tN.cs) (hex:ba m ex eN.cs) (hl:l=body.length) (bb:l<=cp) (bw:l2=alt.length) (dC:l2<=cp2) (av:StOk 6 nm ty body.length alt.length) (r1:aM m a l 23 xs) (r2:aM m b l2 23 ys) (s1:bj m body xs) (s2:bj m alt ys) (B1 B2 B V:Bool)
  (hB:∀m',ak m m' ->ay 142 [.v (.slice a l cp),.v (.bool false)] m' (.bool B1)) (hA:∀m',ak m m' ->ay 142 [.v (.slice b l2 cp2),.v (.bool false)] m' (.bool B2)) (gn:B=(B1&&B2))
  (e0:V=((mi ex||dm ex)&&cF (St.mk 6 nm ty tg ex body alt) (St.mk 6 [] af zE ex [] []))):ay 201 [.v (.agg ⟨Sd.cs ⟨6,nm,ty,tN,eN,a,l,cp,b,l2,cp2⟩⟩)] m (.bool V):=by
 have hQ:∀m',ak m m' ->ay 236 [.v (.agg ⟨Sd.cs ⟨6,nm,ty,tN,eN,a,l,cp,b,l2,cp2⟩⟩),.v (.agg ⟨Sd.cs ⟨6,[],af,aI,eN,none,0,0,none,0,0⟩⟩)] m' (.bool (cF (St.mk 6 nm ty tg ex body alt) (St.mk 6 [] af zE ex [] []))):=fun m' hle=>
  oo _ _ _ _ _ m' (aq _) (jh (m:=m') (⟨6,nm,ty,tN,eN,a,l,cp,b,l2,cp2⟩:Sd) (aU hle cL) (aU hle hex) hl bb bw dC av (aK hle r1) (aK hle r2) (di hle s1) (di hle s2))
   (jh (m:=m') (⟨6,[],af,aI,eN,none,0,0,none,0,0⟩:Sd) dQ (aU hle hex) rfl (aq _) rfl (aq _) ⟨av.k,au _,rp,au _,au _⟩ lA lA mg mg)
 have hX:=fun m' (hle:ak m m')=>o4 _ ex eN.cs m' (aq _) (hg.upM hle) (aU hle hex)
 have hZ:=fun m' (_:ak m m')=>Uz hex m'
 clear s1 s2 r1 r2;refine enter oY oQ Tryz.func201 rfl rfl (by kernel_rfl) rfl ?_ ?_
 ·simp only[go_sem,Sd.cs,Nd.cs,aI,af,Int.reduceEq,aC,aL]
 ·simp only[go_sem,Sd.cs,Nd.cs,aI,af,Int.reduceEq,aC,aL];refine ab ((hB m (.inl rfl)).mono ?_);clear hB;rintro r H' m1 aJ ⟨l1,rfl,rfl⟩;simp only[go_sem,Sd.cs,Nd.cs,aI,af,Int.reduceEq,aC,aL];refine⟨fun b1=>ab ((hA m1 l1).mono ?_),fun b1=> ?_⟩
  ·clear hA;rintro r H' m2 aG ⟨db,rfl,rfl⟩;have bZ:=aa l1 db;simp only[go_sem,Sd.cs,Nd.cs,aI,af,Int.reduceEq,aC,aL];refine ab ((aS (hZ m2 bZ) (fun V=>rfl)).mono ?_);clear hZ;rintro r H' w1 rM ⟨dH,rfl,rfl⟩;simp only[go_sem,Sd.cs,Nd.cs,aI,af,Int.reduceEq,aC,aL];refine⟨fun c=> ?_,fun c=> ?_⟩
   ·refine ab ((aS (hX w1 (aa bZ dH)) (fun V=>rfl)).mono ?_);clear hX;rintro r H' w2 rL ⟨jL,rfl,rfl⟩;simp only[go_sem,Sd.cs,Nd.cs,aI,af,Int.reduceEq,aC,aL];refine⟨fun c2=> ?_,fun c2=> ?_⟩
    ·refine ab ((aS (hQ w2 (aa (aa bZ dH) jL)) (fun V=>rfl)).mono ?_);clear hQ;rintro r H' w3 Bd ⟨ki,rfl,rfl⟩;simp only[go_sem,Sd.cs,Nd.cs,aI,af,Int.reduceEq,aC,aL];refine⟨aa (aa (aa bZ dH) jL) ki,?_⟩;rw[e0,c,c2];rfl
    ·refine⟨(aa (aa bZ dH) jL),?_⟩;rw[e0,c,c2];rfl
   ·refine ab ((aS (hQ w1 (aa bZ dH)) (fun V=>rfl)).mono ?_);clear hQ;rintro r H' w4 Bc ⟨mR,rfl,rfl⟩;simp only[go_sem,Sd.cs,Nd.cs,aI,af,Int.reduceEq,aC,aL];refine⟨aa (aa bZ dH) mR,?_⟩;rw[e0,c];rfl
  ·clear hA;refine ab ((aS (hZ m1 l1) (fun V=>rfl)).mono ?_);clear hZ;rintro r H' w5 hw5 ⟨rI,rfl,rfl⟩;simp only[go_sem,Sd.cs,Nd.cs,aI,af,Int.reduceEq,aC,aL];refine⟨fun c=> ?_,fun c=> ?_⟩
   ·refine ab ((aS (hX w5 (aa l1 rI)) (fun V=>rfl)).mono ?_);clear hX;rintro r H' w6 yE ⟨A7,rfl,rfl⟩;simp only[go_sem,Sd.cs,Nd.cs,aI,af,Int.reduceEq,aC,aL];refine⟨fun c6=> ?_,fun c6=> ?_⟩
    ·refine ab ((aS (hQ w6 (aa (aa l1 rI) A7)) (fun V=>rfl)).mono ?_);clear hQ;rintro r H' w7 hw7 ⟨lw7,rfl,rfl⟩;simp only[go_sem,Sd.cs,Nd.cs,aI,af,Int.reduceEq,aC,aL];refine⟨aa (aa (aa l1 rI) A7) lw7,?_⟩;rw[e0,c,c6];rfl
    ·refine⟨(aa (aa l1 rI) A7),?_⟩;rw[e0,c,c6];rfl
   ·refine ab ((aS (hQ w5 (aa l1 rI)) (fun V=>rfl)).mono ?_);clear hQ;rintro r H' w8 hw8 ⟨lw8,rfl,rfl⟩;simp only[go_sem,Sd.cs,Nd.cs,aI,af,Int.reduceEq,aC,aL];refine⟨aa (aa l1 rI) lw8,?_⟩;rw[e0,c];rfl
theorem ZG (nm:List UInt8) (ty:Ty) (tN eN:Nd) (a:Option Addr) (l cp:Nat) (b:Option Addr) (l2 cp2:Nat) (tg ex:Ex) (body alt:List St) (xs ys:List Value) (m:Mem) (hg:Glob m)
  (cL:ba m tg tN.cs) (hex:ba m ex eN.cs) (hl:l=body.length) (bb:l<=cp) (bw:l2=alt.length) (dC:l2<=cp2) (av:StOk 7 nm ty body.length alt.length) (r1:aM m a l 23 xs) (r2:aM m b l2 23 ys) (s1:bj m body xs) (s2:bj m alt ys) (B1 B2 B V:Bool)
  (hB:∀m',ak m m' ->ay 142 [.v (.slice a l cp),.v (.bool false)] m' (.bool B1)) (hA:∀m',ak m m' ->ay 142 [.v (.slice b l2 cp2),.v (.bool false)] m' (.bool B2)) (gn:B=(B1&&B2))
  (e0:V=(dm ex&&cF (St.mk 7 nm ty tg ex body alt) (St.mk 7 [] af zE ex [] []))):ay 201 [.v (.agg ⟨Sd.cs ⟨7,nm,ty,tN,eN,a,l,cp,b,l2,cp2⟩⟩)] m (.bool V):=by
 have hQ:∀m',ak m m' ->ay 236 [.v (.agg ⟨Sd.cs ⟨7,nm,ty,tN,eN,a,l,cp,b,l2,cp2⟩⟩),.v (.agg ⟨Sd.cs ⟨7,[],af,aI,eN,none,0,0,none,0,0⟩⟩)] m' (.bool (cF (St.mk 7 nm ty tg ex body alt) (St.mk 7 [] af zE ex [] []))):=fun m' hle=>
  oo _ _ _ _ _ m' (aq _) (jh (m:=m') (⟨7,nm,ty,tN,eN,a,l,cp,b,l2,cp2⟩:Sd) (aU hle cL) (aU hle hex) hl bb bw dC av (aK hle r1) (aK hle r2) (di hle s1) (di hle s2))
   (jh (m:=m') (⟨7,[],af,aI,eN,none,0,0,none,0,0⟩:Sd) dQ (aU hle hex) rfl (aq _) rfl (aq _) ⟨av.k,au _,rp,au _,au _⟩ lA lA mg mg)
 have hX:=fun m' (hle:ak m m')=>o4 _ ex eN.cs m' (aq _) (hg.upM hle) (aU hle hex)
 clear s1 s2 r1 r2;refine enter oY oQ Tryz.func201 rfl rfl (by kernel_rfl) rfl ?_ ?_
 ·simp only[go_sem,Sd.cs,Nd.cs,aI,af,Int.reduceEq,aC,aL]
 ·simp only[go_sem,Sd.cs,Nd.cs,aI,af,Int.reduceEq,aC,aL];refine ab ((hB m (.inl rfl)).mono ?_);clear hB;rintro r H' m1 aJ ⟨l1,rfl,rfl⟩;simp only[go_sem,Sd.cs,Nd.cs,aI,af,Int.reduceEq,aC,aL];refine⟨fun b1=>ab ((hA m1 l1).mono ?_),fun b1=> ?_⟩
  ·clear hA;rintro r H' m2 aG ⟨db,rfl,rfl⟩;have bZ:=aa l1 db;simp only[go_sem,Sd.cs,Nd.cs,aI,af,Int.reduceEq,aC,aL];refine ab ((aS (hX m2 bZ) (fun V=>rfl)).mono ?_);clear hX;rintro r H' w1 rM ⟨dH,rfl,rfl⟩;simp only[go_sem,Sd.cs,Nd.cs,aI,af,Int.reduceEq,aC,aL];refine⟨fun c1=> ?_,fun c1=> ?_⟩
   ·refine ab ((aS (hQ w1 (aa bZ dH)) (fun V=>rfl)).mono ?_);clear hQ;rintro r H' w2 rL ⟨jL,rfl,rfl⟩;simp only[go_sem,Sd.cs,Nd.cs,aI,af,Int.reduceEq,aC,aL];refine⟨aa (aa bZ dH) jL,?_⟩;rw[e0,c1];rfl
   ·refine⟨(aa bZ dH),?_⟩;rw[e0,c1];rfl
  ·clear hA;refine ab ((aS (hX m1 l1) (fun V=>rfl)).mono ?_);clear hX;rintro r H' w3 Bd ⟨ki,rfl,rfl⟩;simp only[go_sem,Sd.cs,Nd.cs,aI,af,Int.reduceEq,aC,aL];refine⟨fun c3=> ?_,fun c3=> ?_⟩
   ·refine ab ((aS (hQ w3 (aa l1 ki)) (fun V=>rfl)).mono ?_);clear hQ;rintro r H' w4 Bc ⟨mR,rfl,rfl⟩;simp only[go_sem,Sd.cs,Nd.cs,aI,af,Int.reduceEq,aC,aL];refine⟨aa (aa l1 ki) mR,?_⟩;rw[e0,c3];rfl
   ·refine⟨(aa l1 ki),?_⟩;rw[e0,c3];rfl
theorem ZF (nm:List UInt8) (ty:Ty) (tN eN:Nd) (a:Option Addr) (l cp:Nat) (b:Option Addr) (l2 cp2:Nat) (tg ex:Ex) (body alt:List St) (xs ys:List Value) (m:Mem) (hg:Glob m)
  (cL:ba m tg tN.cs) (hex:ba m ex eN.cs) (hl:l=body.length) (bb:l<=cp) (bw:l2=alt.length) (dC:l2<=cp2) (av:StOk 8 nm ty body.length alt.length) (r1:aM m a l 23 xs) (r2:aM m b l2 23 ys) (s1:bj m body xs) (s2:bj m alt ys) (B1 B2 B V:Bool)
  (hB:∀m',ak m m' ->ay 142 [.v (.slice a l cp),.v (.bool false)] m' (.bool B1)) (hA:∀m',ak m m' ->ay 142 [.v (.slice b l2 cp2),.v (.bool false)] m' (.bool B2)) (gn:B=(B1&&B2))
  (e0:V=((B&&dZ nm&&gg ty.dim ty.base ty.name)&&cF (St.mk 8 nm ty tg ex body alt) (St.mk 8 nm ty zE zE body alt))):ay 201 [.v (.agg ⟨Sd.cs ⟨8,nm,ty,tN,eN,a,l,cp,b,l2,cp2⟩⟩)] m (.bool V):=by
 have hQ:∀m',ak m m' ->ay 236 [.v (.agg ⟨Sd.cs ⟨8,nm,ty,tN,eN,a,l,cp,b,l2,cp2⟩⟩),.v (.agg ⟨Sd.cs ⟨8,nm,ty,aI,aI,a,l,cp,b,l2,cp2⟩⟩)] m' (.bool (cF (St.mk 8 nm ty tg ex body alt) (St.mk 8 nm ty zE zE body alt))):=fun m' hle=>
  oo _ _ _ _ _ m' (aq _) (jh (m:=m') (⟨8,nm,ty,tN,eN,a,l,cp,b,l2,cp2⟩:Sd) (aU hle cL) (aU hle hex) hl bb bw dC av (aK hle r1) (aK hle r2) (di hle s1) (di hle s2))
   (jh (m:=m') (⟨8,nm,ty,aI,aI,a,l,cp,b,l2,cp2⟩:Sd) dQ dQ hl bb bw dC ⟨av.k,av.nm,av.ty,av.l,av.l2⟩ (aK hle r1) (aK hle r2) (di hle s1) (di hle s2))
 have DL:BL nm:=cg av.nm (by decide);have DK:BL ty.name:=cg av.ty.2.2 (by decide);clear s1 s2 r1 r2;refine enter oY oQ Tryz.func201 rfl rfl (by kernel_rfl) rfl ?_ ?_
 ·simp only[go_sem,Sd.cs,Nd.cs,aI,af,Int.reduceEq,aC,aL]
 ·simp only[go_sem,Sd.cs,Nd.cs,aI,af,Int.reduceEq,aC,aL];refine ab ((hB m (.inl rfl)).mono ?_);clear hB;rintro r H' m1 aJ ⟨l1,rfl,rfl⟩;simp only[go_sem,Sd.cs,Nd.cs,aI,af,Int.reduceEq,aC,aL];refine⟨fun b1=>ab ((hA m1 l1).mono ?_),fun b1=> ?_⟩
  ·clear hA;rintro r H' m2 aG ⟨db,rfl,rfl⟩;have bZ:=aa l1 db;simp only[go_sem,Sd.cs,Nd.cs,aI,af,Int.reduceEq,aC,aL];refine⟨fun _=>DL,fun _=>DK,fun c=> ?_,fun c=> ?_⟩
   ·refine ab ((aS (hQ m2 bZ) (fun V=>rfl)).mono ?_);clear hQ;rintro r H' w1 rM ⟨dH,rfl,rfl⟩;simp only[go_sem,Sd.cs,Nd.cs,aI,af,Int.reduceEq,aC,aL];refine⟨aa bZ dH,?_⟩;rw[e0,gn,b1,c.1.1,c.1.2,c.2];rfl
   ·refine⟨bZ,?_⟩;rw[e0,gn,b1];rcases c with (c |c) |c<;>simp [c]
  ·clear hA;refine⟨l1,?_⟩;rw[e0,gn,b1];rfl
theorem ZE (nm:List UInt8) (ty:Ty) (tN eN:Nd) (a:Option Addr) (l cp:Nat) (b:Option Addr) (l2 cp2:Nat) (tg ex:Ex) (body alt:List St) (xs ys:List Value) (m:Mem) (hg:Glob m)
  (cL:ba m tg tN.cs) (hex:ba m ex eN.cs) (hl:l=body.length) (bb:l<=cp) (bw:l2=alt.length) (dC:l2<=cp2) (av:StOk 9 nm ty body.length alt.length) (r1:aM m a l 23 xs) (r2:aM m b l2 23 ys) (s1:bj m body xs) (s2:bj m alt ys) (B1 B2 B V:Bool)
  (hB:∀m',ak m m' ->ay 142 [.v (.slice a l cp),.v (.bool false)] m' (.bool B1)) (hA:∀m',ak m m' ->ay 142 [.v (.slice b l2 cp2),.v (.bool false)] m' (.bool B2)) (gn:B=(B1&&B2))
  (e0:V=((B&&dm ex)&&cF (St.mk 9 nm ty tg ex body alt) (St.mk 9 [] af zE ex body []))):ay 201 [.v (.agg ⟨Sd.cs ⟨9,nm,ty,tN,eN,a,l,cp,b,l2,cp2⟩⟩)] m (.bool V):=by
 have hQ:∀m',ak m m' ->ay 236 [.v (.agg ⟨Sd.cs ⟨9,nm,ty,tN,eN,a,l,cp,b,l2,cp2⟩⟩),.v (.agg ⟨Sd.cs ⟨9,[],af,aI,eN,a,l,cp,none,0,0⟩⟩)] m' (.bool (cF (St.mk 9 nm ty tg ex body alt) (St.mk 9 [] af zE ex body []))):=fun m' hle=>
  oo _ _ _ _ _ m' (aq _) (jh (m:=m') (⟨9,nm,ty,tN,eN,a,l,cp,b,l2,cp2⟩:Sd) (aU hle cL) (aU hle hex) hl bb bw dC av (aK hle r1) (aK hle r2) (di hle s1) (di hle s2))
   (jh (m:=m') (⟨9,[],af,aI,eN,a,l,cp,none,0,0⟩:Sd) dQ (aU hle hex) hl bb rfl (aq _) ⟨av.k,au _,rp,av.l,au _⟩ (aK hle r1) lA (di hle s1) mg)
 have hX:=fun m' (hle:ak m m')=>o4 _ ex eN.cs m' (aq _) (hg.upM hle) (aU hle hex)
 clear s1 s2 r1 r2;refine enter oY oQ Tryz.func201 rfl rfl (by kernel_rfl) rfl ?_ ?_
 ·simp only[go_sem,Sd.cs,Nd.cs,aI,af,Int.reduceEq,aC,aL]
 ·simp only[go_sem,Sd.cs,Nd.cs,aI,af,Int.reduceEq,aC,aL];refine ab ((hB m (.inl rfl)).mono ?_);clear hB;rintro r H' m1 aJ ⟨l1,rfl,rfl⟩;simp only[go_sem,Sd.cs,Nd.cs,aI,af,Int.reduceEq,aC,aL];refine⟨fun b1=>ab ((hA m1 l1).mono ?_),fun b1=> ?_⟩
  ·clear hA;rintro r H' m2 aG ⟨db,rfl,rfl⟩;have bZ:=aa l1 db;simp only[go_sem,Sd.cs,Nd.cs,aI,af,Int.reduceEq,aC,aL];refine⟨fun b2=> ?_,fun b2=> ?_⟩
   ·refine ab ((aS (hX m2 bZ) (fun V=>rfl)).mono ?_);clear hX;rintro r H' w1 rM ⟨dH,rfl,rfl⟩;simp only[go_sem,Sd.cs,Nd.cs,aI,af,Int.reduceEq,aC,aL];refine⟨fun c1=> ?_,fun c1=> ?_⟩
    ·refine ab ((aS (hQ w1 (aa bZ dH)) (fun V=>rfl)).mono ?_);clear hQ;rintro r H' w2 rL ⟨jL,rfl,rfl⟩;simp only[go_sem,Sd.cs,Nd.cs,aI,af,Int.reduceEq,aC,aL];refine⟨aa (aa bZ dH) jL,?_⟩;rw[e0,gn,b1,b2,c1];rfl
    ·refine⟨(aa bZ dH),?_⟩;rw[e0,gn,b1,b2,c1];rfl
   ·refine⟨bZ,?_⟩;rw[e0,gn,b1,b2];rfl
  ·clear hA;refine⟨l1,?_⟩;rw[e0,gn,b1];rfl
theorem X9 (nm:List UInt8) (ty:Ty) (tN eN:Nd) (a:Option Addr) (l cp:Nat) (b:Option Addr) (l2 cp2:Nat) (tg ex:Ex) (body alt:List St) (xs ys:List Value) (m:Mem) (hg:Glob m)
  (cL:ba m tg tN.cs) (hex:ba m ex eN.cs) (hl:l=body.length) (bb:l<=cp) (bw:l2=alt.length) (dC:l2<=cp2) (av:StOk 10 nm ty body.length alt.length) (r1:aM m a l 23 xs) (r2:aM m b l2 23 ys) (s1:bj m body xs) (s2:bj m alt ys) (B1 B2 B V:Bool)
  (hB:∀m',ak m m' ->ay 142 [.v (.slice a l cp),.v (.bool false)] m' (.bool B1)) (hA:∀m',ak m m' ->ay 142 [.v (.slice b l2 cp2),.v (.bool false)] m' (.bool B2)) (gn:B=(B1&&B2))
  (e0:V=(B&&cF (St.mk 10 nm ty tg ex body alt) (St.mk 10 [] af zE zE body []))):ay 201 [.v (.agg ⟨Sd.cs ⟨10,nm,ty,tN,eN,a,l,cp,b,l2,cp2⟩⟩)] m (.bool V):=by
 have hQ:∀m',ak m m' ->ay 236 [.v (.agg ⟨Sd.cs ⟨10,nm,ty,tN,eN,a,l,cp,b,l2,cp2⟩⟩),.v (.agg ⟨Sd.cs ⟨10,[],af,aI,aI,a,l,cp,none,0,0⟩⟩)] m' (.bool (cF (St.mk 10 nm ty tg ex body alt) (St.mk 10 [] af zE zE body []))):=fun m' hle=>
  oo _ _ _ _ _ m' (aq _) (jh (m:=m') (⟨10,nm,ty,tN,eN,a,l,cp,b,l2,cp2⟩:Sd) (aU hle cL) (aU hle hex) hl bb bw dC av (aK hle r1) (aK hle r2) (di hle s1) (di hle s2))
   (jh (m:=m') (⟨10,[],af,aI,aI,a,l,cp,none,0,0⟩:Sd) dQ dQ hl bb rfl (aq _) ⟨av.k,au _,rp,av.l,au _⟩ (aK hle r1) lA (di hle s1) mg)
 clear s1 s2 r1 r2;refine enter oY oQ Tryz.func201 rfl rfl (by kernel_rfl) rfl ?_ ?_
 ·simp only[go_sem,Sd.cs,Nd.cs,aI,af,Int.reduceEq,aC,aL]
 ·simp only[go_sem,Sd.cs,Nd.cs,aI,af,Int.reduceEq,aC,aL];refine ab ((hB m (.inl rfl)).mono ?_);clear hB;rintro r H' m1 aJ ⟨l1,rfl,rfl⟩;simp only[go_sem,Sd.cs,Nd.cs,aI,af,Int.reduceEq,aC,aL];refine⟨fun b1=>ab ((hA m1 l1).mono ?_),fun b1=> ?_⟩
  ·clear hA;rintro r H' m2 aG ⟨db,rfl,rfl⟩;have bZ:=aa l1 db;simp only[go_sem,Sd.cs,Nd.cs,aI,af,Int.reduceEq,aC,aL];refine⟨fun b2=> ?_,fun b2=> ?_⟩
   ·refine ab ((aS (hQ m2 bZ) (fun V=>rfl)).mono ?_);clear hQ;rintro r H' w1 rM ⟨dH,rfl,rfl⟩;simp only[go_sem,Sd.cs,Nd.cs,aI,af,Int.reduceEq,aC,aL];refine⟨aa bZ dH,?_⟩;rw[e0,gn,b1,b2];rfl
   ·refine⟨bZ,?_⟩;rw[e0,gn,b1,b2];rfl
  ·clear hA;refine⟨l1,?_⟩;rw[e0,gn,b1];rfl
theorem X8 (nm:List UInt8) (ty:Ty) (tN eN:Nd) (a:Option Addr) (l cp:Nat) (b:Option Addr) (l2 cp2:Nat) (tg ex:Ex) (body alt:List St) (xs ys:List Value) (m:Mem) (hg:Glob m)
  (cL:ba m tg tN.cs) (hex:ba m ex eN.cs) (hl:l=body.length) (bb:l<=cp) (bw:l2=alt.length) (dC:l2<=cp2) (av:StOk 11 nm ty body.length alt.length) (r1:aM m a l 23 xs) (r2:aM m b l2 23 ys) (s1:bj m body xs) (s2:bj m alt ys) (B1 B2 B V:Bool)
  (hB:∀m',ak m m' ->ay 142 [.v (.slice a l cp),.v (.bool false)] m' (.bool B1)) (hA:∀m',ak m m' ->ay 142 [.v (.slice b l2 cp2),.v (.bool false)] m' (.bool B2)) (gn:B=(B1&&B2))
  (e0:V=(tR ex&&cF (St.mk 11 nm ty tg ex body alt) (St.mk 11 [] af zE ex [] []))):ay 201 [.v (.agg ⟨Sd.cs ⟨11,nm,ty,tN,eN,a,l,cp,b,l2,cp2⟩⟩)] m (.bool V):=by
 have hQ:∀m',ak m m' ->ay 236 [.v (.agg ⟨Sd.cs ⟨11,nm,ty,tN,eN,a,l,cp,b,l2,cp2⟩⟩),.v (.agg ⟨Sd.cs ⟨11,[],af,aI,eN,none,0,0,none,0,0⟩⟩)] m' (.bool (cF (St.mk 11 nm ty tg ex body alt) (St.mk 11 [] af zE ex [] []))):=fun m' hle=>
  oo _ _ _ _ _ m' (aq _) (jh (m:=m') (⟨11,nm,ty,tN,eN,a,l,cp,b,l2,cp2⟩:Sd) (aU hle cL) (aU hle hex) hl bb bw dC av (aK hle r1) (aK hle r2) (di hle s1) (di hle s2))
   (jh (m:=m') (⟨11,[],af,aI,eN,none,0,0,none,0,0⟩:Sd) dQ (aU hle hex) rfl (aq _) rfl (aq _) ⟨av.k,au _,rp,au _,au _⟩ lA lA mg mg)
 have hX:=fun m' (hle:ak m m')=>QL ex eN.cs m' (hg.upM hle) (aU hle hex)
 clear s1 s2 r1 r2;refine enter oY oQ Tryz.func201 rfl rfl (by kernel_rfl) rfl ?_ ?_
 ·simp only[go_sem,Sd.cs,Nd.cs,aI,af,Int.reduceEq,aC,aL]
 ·simp only[go_sem,Sd.cs,Nd.cs,aI,af,Int.reduceEq,aC,aL];refine ab ((hB m (.inl rfl)).mono ?_);clear hB;rintro r H' m1 aJ ⟨l1,rfl,rfl⟩;simp only[go_sem,Sd.cs,Nd.cs,aI,af,Int.reduceEq,aC,aL];refine⟨fun b1=>ab ((hA m1 l1).mono ?_),fun b1=> ?_⟩
  ·clear hA;rintro r H' m2 aG ⟨db,rfl,rfl⟩;have bZ:=aa l1 db;simp only[go_sem,Sd.cs,Nd.cs,aI,af,Int.reduceEq,aC,aL];refine ab ((aS (hX m2 bZ) (fun V=>rfl)).mono ?_);clear hX;rintro r H' w1 rM ⟨dH,rfl,rfl⟩;simp only[go_sem,Sd.cs,Nd.cs,aI,af,Int.reduceEq,aC,aL];refine⟨fun c1=> ?_,fun c1=> ?_⟩
   ·refine ab ((aS (hQ w1 (aa bZ dH)) (fun V=>rfl)).mono ?_);clear hQ;rintro r H' w2 rL ⟨jL,rfl,rfl⟩;simp only[go_sem,Sd.cs,Nd.cs,aI,af,Int.reduceEq,aC,aL];refine⟨aa (aa bZ dH) jL,?_⟩;rw[e0,c1];rfl
   ·refine⟨(aa bZ dH),?_⟩;rw[e0,c1];rfl
  ·clear hA;refine ab ((aS (hX m1 l1) (fun V=>rfl)).mono ?_);clear hX;rintro r H' w3 Bd ⟨ki,rfl,rfl⟩;simp only[go_sem,Sd.cs,Nd.cs,aI,af,Int.reduceEq,aC,aL];refine⟨fun c3=> ?_,fun c3=> ?_⟩
   ·refine ab ((aS (hQ w3 (aa l1 ki)) (fun V=>rfl)).mono ?_);clear hQ;rintro r H' w4 Bc ⟨mR,rfl,rfl⟩;simp only[go_sem,Sd.cs,Nd.cs,aI,af,Int.reduceEq,aC,aL];refine⟨aa (aa l1 ki) mR,?_⟩;rw[e0,c3];rfl
   ·refine⟨(aa l1 ki),?_⟩;rw[e0,c3];rfl
theorem ZN (k:Int) (nm:List UInt8) (ty:Ty) (tN eN:Nd) (a:Option Addr) (l cp:Nat) (b:Option Addr) (l2 cp2:Nat) (m:Mem) (B1 B2:Bool) (e:∀j:Int,1<=j->j<=11->(k=j)=False)
  (hB:∀m',ak m m' ->ay 142 [.v (.slice a l cp),.v (.bool false)] m' (.bool B1)) (hA:∀m',ak m m' ->ay 142 [.v (.slice b l2 cp2),.v (.bool false)] m' (.bool B2)):
  ay 201 [.v (.agg ⟨Sd.cs ⟨k,nm,ty,tN,eN,a,l,cp,b,l2,cp2⟩⟩)] m (.bool false):=by
 have e1:=e 1 (by decide) (by decide);have e2:=e 2 (by decide) (by decide);have e3:=e 3 (by decide) (by decide);have e4:=e 4 (by decide) (by decide);have e5:=e 5 (by decide) (by decide);have e6:=e 6 (by decide) (by decide);have e7:=e 7 (by decide) (by decide);have e8:=e 8 (by decide) (by decide);have e9:=e 9 (by decide) (by decide);have gf:=e 10 (by decide) (by decide);have jQ:=e 11 (by decide) (by decide);refine enter oY oQ Tryz.func201 rfl rfl (by kernel_rfl) rfl ?_ ?_
 ·simp only[go_sem,Sd.cs,Nd.cs]
 ·simp only[go_sem,Sd.cs,Nd.cs];refine ab ((hB m (.inl rfl)).mono ?_);clear hB;rintro r H' m1 aJ ⟨l1,rfl,rfl⟩;simp only[go_sem,Sd.cs,Nd.cs,e1,e2,e3,e4,e5,e6,e7,e8,e9,gf,jQ,aL];refine⟨fun b1=>ab ((hA m1 l1).mono ?_),fun b1=>l1⟩;clear hA;rintro r H' m2 aG ⟨db,rfl,rfl⟩;simp only[go_sem,Sd.cs,Nd.cs,e1,e2,e3,e4,e5,e6,e7,e8,e9,gf,jQ,aL];exact aa l1 db
theorem Lh {k:Int}:(k=1\/k=2\/k=3\/k=4\/k=5\/k=6\/k=7\/k=8\/k=9\/k=10\/k=11)\/∀j:Int,1<=j->j<=11->(k=j)=False:=by
 by_cases h:1<=k/\k<=11
 ·left;omega
 ·right;intro j h1 h2;exact eq_false fun e=>h (by omega)
theorem EJ:∀(h:Nat) (e:St) (cs:List Value) (m:Mem),ep e<=h->Glob m->eH m e cs->ay 201 [.v (.agg ⟨cs⟩)] m (.bool (gE e))
 |0,.mk k nm ty tg ex body alt,cs,m,hd,_,_=>by simp [ep] at hd
 |h+1,.mk k nm ty tg ex body alt,cs,m,hd,hg,he=>by
  obtain⟨⟨k,nm,ty,tN,eN,a,l,cp,b,l2,cp2⟩,rfl,rfl,rfl,rfl,cL,hex,hl,bb,bw,dC,av,xs,ys,r1,r2,s1,s2⟩:=rY he;simp only[ep] at hd;simp only at cL hex hl bb bw dC av r1 r2;have hB:=fun m' (hle:ak m m')=>ES false body a l cp xs m' hl (aK hle r1) (di hle s1) (by rw[hl];exact av.l) fun e he cs m2 aX aY=>EJ h e cs m2 (by have:=n8 he;omega) (hg.upM (aa hle aX)) aY
  have hA:=fun m' (hle:ak m m')=>ES false alt b l2 cp2 ys m' bw (aK hle r2) (di hle s2) (by rw[bw];exact av.l2) fun e he cs m2 aX aY=>EJ h e cs m2 (by have:=n8 he;omega) (hg.upM (aa hle aX)) aY
  simp only;rcases Lh (k:=k) with hk |hk
  ·rcases hk with rfl |rfl |rfl |rfl |rfl |rfl |rfl |rfl |rfl |rfl |rfl
   ·exact ZM nm ty tN eN a l cp b l2 cp2 tg ex body alt xs ys m hg cL hex hl bb bw dC av r1 r2 s1 s2 _ _ _ _ hB hA rfl (by simp only[gE,gG,iN,Int.reduceEq,or_false,or_true,false_or,true_or,if_true,if_false])
   ·exact ZL nm ty tN eN a l cp b l2 cp2 tg ex body alt xs ys m hg cL hex hl bb bw dC av r1 r2 s1 s2 _ _ _ _ hB hA rfl (by simp only[gE,gG,iN,Int.reduceEq,or_false,or_true,false_or,true_or,if_true,if_false])
   ·exact ZK nm ty tN eN a l cp b l2 cp2 tg ex body alt xs ys m hg cL hex hl bb bw dC av r1 r2 s1 s2 _ _ _ _ hB hA rfl (by simp only[gE,gG,iN,Int.reduceEq,or_false,or_true,false_or,true_or,if_true,if_false])
   ·exact ZJ nm ty tN eN a l cp b l2 cp2 tg ex body alt xs ys m hg cL hex hl bb bw dC av r1 r2 s1 s2 _ _ _ _ hB hA rfl (by simp only[gE,gG,iN,Int.reduceEq,or_false,or_true,false_or,true_or,if_true,if_false])
   ·exact ZI nm ty tN eN a l cp b l2 cp2 tg ex body alt xs ys m hg cL hex hl bb bw dC av r1 r2 s1 s2 _ _ _ _ hB hA rfl (by simp only[gE,gG,iN,Int.reduceEq,or_false,or_true,false_or,true_or,if_true,if_false])
   ·exact ZH nm ty tN eN a l cp b l2 cp2 tg ex body alt xs ys m hg cL hex hl bb bw dC av r1 r2 s1 s2 _ _ _ _ hB hA rfl (by simp only[gE,gG,iN,Int.reduceEq,or_false,or_true,false_or,true_or,if_true,if_false])
   ·exact ZG nm ty tN eN a l cp b l2 cp2 tg ex body alt xs ys m hg cL hex hl bb bw dC av r1 r2 s1 s2 _ _ _ _ hB hA rfl (by simp only[gE,gG,iN,Int.reduceEq,or_false,or_true,false_or,true_or,if_true,if_false])
   ·exact ZF nm ty tN eN a l cp b l2 cp2 tg ex body alt xs ys m hg cL hex hl bb bw dC av r1 r2 s1 s2 _ _ _ _ hB hA rfl (by simp only[gE,gG,iN,Int.reduceEq,or_false,or_true,false_or,true_or,if_true,if_false])
   ·exact ZE nm ty tN eN a l cp b l2 cp2 tg ex body alt xs ys m hg cL hex hl bb bw dC av r1 r2 s1 s2 _ _ _ _ hB hA rfl (by simp only[gE,gG,iN,Int.reduceEq,or_false,or_true,false_or,true_or,if_true,if_false])
   ·exact X9 nm ty tN eN a l cp b l2 cp2 tg ex body alt xs ys m hg cL hex hl bb bw dC av r1 r2 s1 s2 _ _ _ _ hB hA rfl (by simp only[gE,gG,iN,Int.reduceEq,or_false,or_true,false_or,true_or,if_true,if_false])
   ·exact X8 nm ty tN eN a l cp b l2 cp2 tg ex body alt xs ys m hg cL hex hl bb bw dC av r1 r2 s1 s2 _ _ _ _ hB hA rfl (by simp only[gE,gG,iN,Int.reduceEq,or_false,or_true,false_or,true_or,if_true,if_false])
  ·have hv:=ZN k nm ty tN eN a l cp b l2 cp2 m _ _ hk hB hA;have:gE (.mk k nm ty tg ex body alt)=false:=by
    have e:∀j:Int,1<=j->j<=11->¬k=j:=fun j h1 h2 h3=>by have:=hk j h1 h2;rw[this] at h3;exact h3
    simp only[gE,gG,hk 1 (by decide) (by decide),hk 2 (by decide) (by decide),hk 3 (by decide) (by decide),hk 4 (by decide) (by decide),hk 5 (by decide) (by decide),hk 6 (by decide) (by decide),hk 7 (by decide) (by decide),hk 8 (by decide) (by decide),hk 9 (by decide) (by decide),hk 10 (by decide) (by decide),hk 11 (by decide) (by decide),or_false,if_false,Bool.false_and]
   rw[this];exact hv
theorem Kn (sup:Bool) (l:List St) (a:Option Addr) (n c:Nat) (xs:List Value) (m:Mem) (hg:Glob m) (hl:n=l.length) (hr:aM m a n 23 xs) (hs:bj m l xs) (hn:n<=az):
  ay 142 [.v (.slice a n c),.v (.bool sup)] m (.bool (eU sup l)):=
 ES sup l a n c xs m hl hr hs hn fun e _ cs m' hle aY=>EJ _ e cs m' (aq _) (hg.upM hle) aY
def hasB (fl m:Int):Bool:= !decide (bits .and .i64 fl m=0)
def jU (fl:Int):Bool:=decide (bits .and .i64 fl 7=0)||decide (bits .and .i64 fl 7=1)||decide (bits .and .i64 fl 7=2)||decide (bits .and .i64 fl 7=4)
def iP (fl al:Int):Bool:=decide (bits .andNot .i64 fl al=0)
def oh (fl:Int):Bool:=jU fl&&iP fl 1087&& !(hasB fl 1024&&hasB fl 58)&&(!hasB fl 32|| !hasB fl 8)
def nu (f:Fc):Bool:=gg f.ty.dim f.ty.base f.ty.name&&dZ f.name&&jU f.fl&&iP f.fl 31
def lD (p:Pc):Bool:=gg p.ty.dim p.ty.base p.ty.name&&dZ p.name
def qY (t:Ty):Bool:=decide (t.dim=0)&&(decide (t.base=86)&&decide (t.name=[]))
def qe (m:Md):Bool:=if m.name=ei then qY m.res&&m.hb&&iP m.fl 7 else dZ m.name&&(qY m.res||gg m.res.dim m.res.base m.res.name)
def ry (m:Md):Bool:=oh m.fl&& !(m.hb==hasB m.fl 1024)&&(m.hb||decide (m.body.length=0))&&decide (m.params.length<=16)
def jb (m:Md):Bool:=qe m&&ry m&& !(m.params.any fun p=> !lD p)&&eU (decide (m.name=ei)) m.body
def jX:List UInt8:=[108,97,110,103,47,79,98,106,101,99,116]
def s9 (m:Md):Bool:= !decide (m.fl=1)&& !decide (m.fl=1025)||decide (m.name=ei)
def C3 (d:Cd):Bool:=iP d.fl 1537&&hasB d.fl 1024&&decide (d.super=jX)&&decide (d.fields.length+d.init.length=0)&& !(d.methods.any s9)
def rn (d:Cd):Bool:=if hasB d.fl 512=true then C3 d else iP d.fl 1041&& !(hasB d.fl 16&&hasB d.fl 1024)
def mu (d:Cd):Bool:=dz d.name&&dz d.super&&decide (d.ifs.length<=8)
def oK (d:Cd):Bool:=decide (d.fields.length<=64)&&decide (d.methods.length<=64)
def nz (d:Cd):Bool:=rn d&&(mu d&& !(d.ifs.any fun s=> !dz s)&&oK d&& !(d.fields.any fun f=> !nu f)&& !(d.methods.any fun f=> !jb f)&&eU false d.init)
def uQ (F:Int->Bool):List Value->Option (Prop×Value)
 |[.int .i64 c]=>some (True,.bool (F c))
 |_=>none
theorem zV {P:Program} {f:FuncId} {F:Int->Bool} (h:∀c m,FnH P f [.v (.int .i64 c)] ⟨[],[]⟩ m fun r H' _=>r= .v (.bool (F c))/\H' =⟨[],[]⟩):nJ P f (uQ F):=fun b5 y hy _ m=>by
 unfold uQ at hy;split at hy
 ·cases hy;exact h _ m
 ·cases hy
def uP (F:Int->Int->Bool):List Value->Option (Prop×Value)
 |[.int .i64 c,.int .i64 d]=>some (True,.bool (F c d))
 |_=>none
theorem zU {P:Program} {f:FuncId} {F:Int->Int->Bool} (h:∀c d m,FnH P f [.v (.int .i64 c),.v (.int .i64 d)] ⟨[],[]⟩ m fun r H' _=>r= .v (.bool (F c d))/\H' =⟨[],[]⟩):nJ P f (uP F):=fun b5 y hy _ m=>by
 unfold uP at hy;split at hy
 ·cases hy;exact h _ _ m
 ·cases hy
attribute [go_sem] uQ uP
theorem S6 (fl:Int) (m:Mem):FnH Tryz.prog 194 [.v (.int .i64 fl)] ⟨[],[]⟩ m fun r H' _=>r= .v (.bool (jU fl))/\H' =⟨[],[]⟩:=by
 refine aH aw Tryz.func194 ?_
 ·simp only[go_sem];refine⟨fun a=>⟨fun _=>by simp [jU,a],fun n=>absurd a n⟩,fun a=>⟨fun b=>⟨fun _=>by simp [jU,b],fun n=>absurd b n⟩,fun b=>⟨fun c=>⟨fun _=>by simp [jU,c],fun n=>absurd c n⟩,fun c=>⟨fun d=>by simp [jU,d],fun d=>by simp [jU,a,b,c,d]⟩⟩⟩⟩
theorem JW (fl al:Int) (m:Mem):FnH Tryz.prog 132 [.v (.int .i64 fl),.v (.int .i64 al)] ⟨[],[]⟩ m fun r H' _=>r= .v (.bool (iP fl al))/\H' =⟨[],[]⟩:=by
 refine aH aw Tryz.func132 ?_
 ·simp only[go_sem];rfl
abbrev wV:Cfg:=fh (fun _=>false) [(194,uQ jU),(132,uP iP),(155,eB BL fun s=> .bool (dZ s)),(157,qD gg),(134,eB BL fun s=> .bool (dz s))]
theorem uN:cd wV Tryz.prog:=pure_cons (by kernel_rfl) (zV S6) (pure_cons (by kernel_rfl) (zU JW) (pure_cons (by kernel_rfl) (ff EP) (pure_cons (by kernel_rfl) (tS EI) (pure_cons (by kernel_rfl) (ff zb) pure_nil))))
theorem Qt (fl:Int) (m:Mem):FnH Tryz.prog 195 [.v (.int .i64 fl)] ⟨[],[]⟩ m fun r H' _=>r= .v (.bool (oh fl))/\H' =⟨[],[]⟩:=by
 refine aH uN Tryz.func195 ?_
 ·simp only[go_sem];refine⟨fun h=> ?_,fun h=>⟨fun g=> ?_,fun g=> ?_⟩⟩
  ·rcases h with h |h<;>simp [oh,h]
  ·simp [oh,hasB,g.1,g.2]
  ·rcases g with g |g<;>simp [oh,hasB,h.1,h.2,g]
theorem Ru (f:Fc) (m:Mem) (h:FcOk f):ay 136 [.v (.agg ⟨f.cs⟩)] m (.bool (nu f)):=by
 have h1:BL f.name:=cg h.name (by decide);have h2:BL f.ty.name:=cg h.ty.2.2 (by decide);refine enter wV uN Tryz.func136 rfl rfl (by kernel_rfl) rfl ?_ ?_
 ·simp only[go_sem,Fc.cs]
 ·simp only[go_sem,Fc.cs];exact⟨h2,fun _=>h1,rfl⟩
theorem SW (f:Fc) (m:Mem) (h:FcOk f):ay 135 [.v (.agg ⟨f.cs⟩)] m (.bool (!nu f)):=by
 have hF:=Ru f m h;refine enter wV uN Tryz.func135 rfl rfl (by kernel_rfl) rfl ?_ ?_
 ·simp only[go_sem,Fc.cs]
 ·simp only[go_sem,Fc.cs];refine ab ((aS hF (fun V=>rfl)).mono ?_);rintro r H' m2 aG ⟨aX,rfl,rfl⟩;simp only[go_sem];exact aX
theorem SQ (s:List UInt8) (m:Mem) (h:BL s):ay 133 [.v (.string (bs s))] m (.bool (!dz s)):=by
 refine aH uN Tryz.func133 ?_
 ·simp only[go_sem];exact h
theorem SR (f:Pc) (m:Mem) (h:PcOk f):ay 196 [.v (.agg ⟨f.cs⟩)] m (.bool (!lD f)):=by
 have h1:BL f.name:=cg h.name (by decide);have h2:BL f.ty.name:=cg h.ty.2.2 (by decide);refine enter wV uN Tryz.func196 rfl rfl (by kernel_rfl) rfl ?_ ?_
 ·simp only[go_sem,Pc.cs]
 ·simp only[go_sem,Pc.cs];exact⟨h2,fun _=>h1,by rw[lD,Bool.not_and]⟩
theorem SU (x:Mc) (m:Mem):ay 191 [.v (.agg ⟨x.cs⟩)] m (.bool (!decide (x.fl=1)&& !decide (x.fl=1025)||decide (x.name=ei))):=by
 refine enter wV uN Tryz.func191 rfl rfl (by kernel_rfl) rfl ?_ ?_
 ·simp only[go_sem,Mc.cs]
 ·simp only[go_sem,Mc.cs];rfl
theorem C9 {α:Type} {p:α->Bool} {l:List α} {n:Nat} (hn:n=l.length) {B:Nat->Bool} (h:∀i (hi:i<l.length),B i=p l[i]):j0 n B=l.any p:=by
 subst hn;exact Kq p l B h
def yR {α:Type} (p:α->Bool) (l:List α) (i:Nat):Bool:=match l[i]? with |some a=>p a |none=>false
theorem tW {α:Type} {p:α->Bool} {l:List α} {i:Nat} (h:i<l.length):yR p l i=p l[i]:=by simp only[yR,List.getElem?_eq_getElem h]
theorem T9 {m:Mem} {d:Md} {cs:List Value} (h:iD m d cs):∃x:Mc,(cs=x.cs/\x.fl=d.fl/\x.res=d.res/\x.name=d.name/\x.hb=d.hb)/\(x.pl=d.params.length/\x.pl<=x.pc/\x.l=d.body.length/\x.l<=x.cp)/\MdOk d/\aM m x.pa x.pl 4 (flat Pc.cs d.params)/\∃xs,aM m x.a x.l 23 xs/\bj m d.body xs:=h
theorem Qu (d:Md) (cs:List Value) (m:Mem) (hg:Glob m) (h:iD m d cs):ay 138 [.v (.agg ⟨cs⟩)] m (.bool (jb d)):=by
 obtain⟨fl,res,name,params,hb,body⟩:=d;obtain⟨x,⟨rfl,rfl,rfl,rfl,rfl⟩,⟨km,yG,hl,bb⟩,av,r1,xs,r2,s2⟩:=h;simp only at km hl r1 s2;have h1:BL x.name:=cg av.name (by decide);have h2:BL x.res.name:=cg av.res.2.2 (by decide);have hP:∀m',ak m m' ->ay 197 [.v (.slice x.pa x.pl x.pc),.v (.func (.func 196) ⟨[]⟩ ⟨[]⟩)] m' (.bool (params.any fun p=> !lD p)):=fun m' hle=>by
  have:=Y6 196 (yR (fun p=> !lD p) params) x.pa x.pl x.pc _ m' (aK hle r1) (by rw[km];exact av.pl) (by kernel_rfl) fun i hi=>⟨params[i]'(by omega),vB (f:=Pc.cs) (sz:=4) (fun _=>rfl) (by omega),fun m2 _=>by
   rw[tW (by omega)];exact SR _ m2 (av.ps _ (List.getElem_mem _))⟩
  rw[C9 km (p:=fun p=> !lD p) fun i hi=>tW hi] at this;exact this
 have hB:=fun m' (hle:ak m m')=>Kn (decide (x.name=ei)) body x.a x.l x.cp xs m' (hg.upM hle) hl (aK hle r2) (di hle s2) (by rw[hl];exact av.l)
 clear s2;refine enter (fh (fun _=>false) [(195,uQ oh),(132,uP iP),(155,eB BL fun s=> .bool (dZ s)),(157,qD gg)])
  (pure_cons (by kernel_rfl) (zV Qt) (pure_cons (by kernel_rfl) (zU JW) (pure_cons (by kernel_rfl) (ff EP) (pure_cons (by kernel_rfl) (tS EI) pure_nil)))) Tryz.func138 rfl rfl (by kernel_rfl) rfl ?_ ?_
 ·simp only[go_sem,Mc.cs]
 ·simp only[go_sem,Mc.cs,qi];have e1:∀(d:Md),qe d=true->ry d=true->jb d=(!(d.params.any fun p=> !lD p)&&eU (decide (d.name=ei)) d.body):=fun d a b=>by rw[jb,a,b];rfl
  have g0:∀(d:Md),((oh d.fl=false\/(d.hb== !decide (bits .and .i64 d.fl 1024=0))=true)\/d.hb=false/\0<d.body.length)\/16<d.params.length->false=jb d:=fun d g=>by
   have:ry d=false:=by
    rcases g with ((g |g) |g) |g
    ·simp [ry,g]
    ·simp only[ry,hasB,g,Bool.not_true,Bool.and_false,Bool.false_and]
    ·simp only[ry,g.1,Bool.false_or,bg (by omega:¬d.body.length=0),Bool.and_false,Bool.false_and]
    ·simp only[ry,bg (by omega:¬d.params.length<=16),Bool.and_false]
   rw[jb,this,Bool.and_false];rfl
  have g1:∀(d:Md),((oh d.fl=true/\(d.hb== !decide (bits .and .i64 d.fl 1024=0))=false)/\(d.hb=true\/¬0<d.body.length))/\¬16<d.params.length->ry d=true:=fun d g=>by
   simp only[ry,hasB,g.1.1.1,g.1.1.2,bO (by omega:d.params.length<=16),Bool.not_false,Bool.and_true,Bool.true_and];rcases g.1.2 with h |h
   ·rw[h];rfl
   ·rw[bO (by omega:d.body.length=0),Bool.or_true]
  have Ii:=g0 ⟨x.fl,x.res,x.name,params,x.hb,body⟩;have Ih:=g1 ⟨x.fl,x.res,x.name,params,x.hb,body⟩;have Ip:=e1 ⟨x.fl,x.res,x.name,params,x.hb,body⟩;clear g0 g1 e1;simp only at Ii Ih Ip;have gx:∀{A B:Prop},(A\/B/\0<(x.l:Int))\/16<(x.pl:Int)->(A\/B/\0<body.length)\/16<params.length:=fun g=>by
   clear hP hB;rcases g with (g |g) |g
   ·exact .inl (.inl g)
   ·exact .inl (.inr ⟨g.1,by omega⟩)
   ·exact .inr (by omega)
  have gy:∀{A B:Prop},(A/\(B\/¬0<(x.l:Int)))/\¬16<(x.pl:Int)->(A/\(B\/¬0<body.length))/\¬16<params.length:=fun g=>by
   clear hP hB;refine⟨⟨g.1.1,?_⟩,by omega⟩;rcases g.1.2 with h |h
   ·exact .inl h
   ·exact .inr (by omega)
  refine⟨fun hn=>⟨fun c=> ?_,fun c=>⟨by kernel_rfl,fun g=>Ii (gx g),fun g=>ab ((hP m (.inl rfl)).mono ?_)⟩⟩,
   fun hn=>⟨h1,fun _=>h2,fun c=> ?_,fun c=>⟨by kernel_rfl,fun g=>Ii (gx g),fun g=>ab ((hP m (.inl rfl)).mono ?_)⟩⟩⟩
  ·clear hP hB;have:qe ⟨x.fl,x.res,x.name,params,x.hb,body⟩=false:=by
    simp only[qe,qY];rw[ah (show x.name=ei from hn)];rcases c with ((c |c |c) |c) |c<;>simp [c]
   rw[jb,this];rfl
  ·have g2:=Ih (gy g);have hh:qe ⟨x.fl,x.res,x.name,params,x.hb,body⟩=true:=by
    clear hP hB;simp only[qe,qY];rw[ah (show x.name=ei from hn)];simp [c.1.1.1,c.1.1.2.1,c.1.1.2.2,c.1.2,c.2]
   have e2:=Ip hh g2;clear hP;rintro r H' m2 aG ⟨aX,rfl,rfl⟩;simp only[go_sem,Mc.cs];refine⟨fun b1=>ab ((hB m2 aX).mono ?_),fun b1=> ?_⟩
   ·clear hB;rintro r H' m3 bu ⟨kg,rfl,rfl⟩;simp only[go_sem,Mc.cs];refine⟨aa aX kg,?_⟩;rw[e2,b1];rfl
   ·refine⟨aX,?_⟩;rw[e2,b1];rfl
  ·clear hP hB;have:qe ⟨x.fl,x.res,x.name,params,x.hb,body⟩=false:=by
    simp only[qe,qY];rw[ae (show ¬x.name=ei from hn)];rcases c with c |c
    ·simp [c]
    ·rw[c.2];rcases c.1 with c |c |c<;>simp [c]
   rw[jb,this];rfl
  ·have g2:=Ih (gy g);have hh:qe ⟨x.fl,x.res,x.name,params,x.hb,body⟩=true:=by
    clear hP hB;simp only[qe,qY];rw[ae (show ¬x.name=ei from hn),c.1];rcases c.2 with c |c<;>simp [c]
   have e2:=Ip hh g2;clear hP;rintro r H' m2 aG ⟨aX,rfl,rfl⟩;simp only[go_sem,Mc.cs];refine⟨fun b1=>ab ((hB m2 aX).mono ?_),fun b1=> ?_⟩
   ·clear hB;rintro r H' m3 bu ⟨kg,rfl,rfl⟩;simp only[go_sem,Mc.cs];refine⟨aa aX kg,?_⟩;rw[e2,b1];rfl
   ·refine⟨aX,?_⟩;rw[e2,b1];rfl
theorem SS (d:Md) (cs:List Value) (m:Mem) (hg:Glob m) (h:iD m d cs):ay 137 [.v (.agg ⟨cs⟩)] m (.bool (!jb d)):=by
 have hM:=Qu d cs m hg h;obtain⟨x,rfl⟩:=FJ h;refine enter gp aw Tryz.func137 rfl rfl (by kernel_rfl) rfl ?_ ?_
 ·simp only[go_sem,Mc.cs]
 ·simp only[go_sem,Mc.cs];refine ab ((aS hM (fun V=>rfl)).mono ?_);rintro r H' m2 aG ⟨aX,rfl,rfl⟩;simp only[go_sem];exact aX
theorem WB (d:Md) (cs:List Value) (m m' :Mem) (h:iD m d cs):ay 191 [.v (.agg ⟨cs⟩)] m' (.bool (s9 d)):=by
 obtain⟨x,⟨rfl,h1,h2,h3,h4⟩,_⟩:=h;have:=SU x m';rw[h1,h3] at this;exact this
theorem Pz (f:FuncId) (p:Md->Bool) (l:List Md) (a:Option Addr) (n c:Nat) (xs:List Value) (m:Mem) (hl:n=l.length) (hr:aM m a n 8 xs) (hs:nF (iD m) 8 l xs) (hn:n<=az) (av:gM Tryz.prog f=true)
  (hf:∀d∈l,∀cs m',ak m m' ->iD m' d cs->ay f [.v (.agg ⟨cs⟩)] m' (.bool (p d))):
  ay 141 [.v (.slice a n c),.v (.func (.func f) ⟨[]⟩ ⟨[]⟩)] m (.bool (l.any p)):=by
 have:=Y7 f (yR p l) a n c xs m hr hn av fun i hi=>by
  have dJ:i<l.length:=by omega
  have aY:=sD hs dJ;obtain⟨X,hX⟩:=FJ aY;rw[hX] at aY;refine⟨X,hX,fun m' hle=> ?_⟩;rw[tW dJ];exact hf _ (List.getElem_mem dJ) _ m' hle (tI hle aY)
 rw[C9 hl (p:=p) fun i hi=>tW hi] at this;exact this
theorem ctF (f:FuncId) (p:Fc->Bool) (l:List Fc) (a:Option Addr) (n c:Nat) (m:Mem) (hl:n=l.length) (hr:aM m a n 5 (flat Fc.cs l)) (hn:n<=az) (av:gM Tryz.prog f=true)
  (hf:∀d∈l,∀m',ak m m' ->ay f [.v (.agg ⟨d.cs⟩)] m' (.bool (p d))):
  ay 140 [.v (.slice a n c),.v (.func (.func f) ⟨[]⟩ ⟨[]⟩)] m (.bool (l.any p)):=by
 have:=Y8 f (yR p l) a n c _ m hr hn av fun i hi=>by
  have dJ:i<l.length:=by omega
  refine⟨l[i],vB (f:=Fc.cs) (sz:=5) (fun _=>rfl) dJ,fun m' hle=> ?_⟩;rw[tW dJ];exact hf _ (List.getElem_mem dJ) m' hle
 rw[C9 hl (p:=p) fun i hi=>tW hi] at this;exact this
theorem ctS (f:FuncId) (p:List UInt8->Bool) (l:List (List UInt8)) (a:Option Addr) (n c:Nat) (m:Mem) (hl:n=l.length) (hr:aM m a n 1 (strs l)) (hn:n<=az) (av:gM Tryz.prog f=true)
  (hf:∀d∈l,∀m',ak m m' ->ay f [.v (.string (bs d))] m' (.bool (p d))):
  ay 139 [.v (.slice a n c),.v (.func (.func f) ⟨[]⟩ ⟨[]⟩)] m (.bool (l.any p)):=by
 have:=abP f (yR p l) a n c _ m hr hn av fun i hi=>by
  have dJ:i<l.length:=by omega
  refine⟨l[i],?_,fun m' hle=> ?_⟩
  ·rw[strs,List.getElem?_map,List.getElem?_eq_getElem dJ];rfl
  ·rw[tW dJ];exact hf _ (List.getElem_mem dJ) m' hle
 rw[C9 hl (p:=p) fun i hi=>tW hi] at this;exact this
theorem Rq (d:Cd) (cs:List Value) (m:Mem) (h:lK m d cs):ay 131 [.v (.agg ⟨cs⟩)] m (.bool (C3 d)):=by
 obtain⟨fl,name,super,ifs,fields,methods,init⟩:=d;obtain⟨x,⟨rfl,rfl,rfl,rfl⟩,⟨dJ,hic,gm,hfc,hml,hmc,ga,hsc⟩,av,r1,r2,xs,ys,r3,s3,r4,s4⟩:=h;simp only at dJ gm hml ga r1 r2 s3 s4;have hM:=Pz 191 s9 methods x.ma x.ml x.mc xs m hml r3 s3 (by rw[hml];exact av.ml) (by kernel_rfl) fun d _ cs m' hle aY=>WB d cs m' m' aY
 have b1:=av.fn;have b2:=av.l;clear s3 s4;refine enter wV uN Tryz.func131 rfl rfl (by kernel_rfl) rfl ?_ ?_
 ·simp only[go_sem,Cc.cs]
 ·simp only[go_sem,Cc.cs];have e0:C3 ⟨x.fl,x.name,x.super,ifs,fields,methods,init⟩=(iP x.fl 1537&&hasB x.fl 1024&&decide (x.super=jX)&&decide (fields.length+init.length=0)&& !(methods.any s9)):=rfl;simp only at b1 b2;refine⟨fun _=>by clear hM;unfold ax;simp only[az] at b1 b2;omega,fun c=>ab (hM.mono ?_),fun c=> ?_⟩
  ·have g:fields.length+init.length=0:=by clear hM;omega
   clear hM;rintro r H' m2 aG ⟨aX,rfl,rfl⟩;simp only[go_sem,Cc.cs];refine⟨aX,?_⟩;rw[e0,c.1.1.1,hasB,bg c.1.1.2,bO (show x.super=jX from c.1.2),bO g];rfl
  ·clear hM;rw[e0];rcases c with ((c |c) |c) |c
   ·simp [c]
   ·simp [hasB,c]
   ·rw[bg (show ¬x.super=jX from c)];simp
   ·rw[bg (by omega:¬fields.length+init.length=0)];simp
theorem QB (d:Cd) (cs:List Value) (m:Mem) (hg:Glob m) (h:lK m d cs):ay 54 [.v (.agg ⟨cs⟩)] m (.bool (nz d)):=by
 have hI:=Rq d cs m h;obtain⟨fl,name,super,ifs,fields,methods,init⟩:=d;obtain⟨x,⟨rfl,rfl,rfl,rfl⟩,⟨dJ,hic,gm,hfc,hml,hmc,ga,hsc⟩,av,r1,r2,xs,ys,r3,s3,r4,s4⟩:=h;simp only at dJ gm hml ga r1 r2 s3 s4;have hM:=fun m' (hle:ak m m')=>Pz 137 (fun d=> !jb d) methods x.ma x.ml x.mc xs m' hml (aK hle r3) (vP (fun _ _=>tI hle) s3) (by rw[hml];exact av.ml) (by kernel_rfl) fun d _ cs m2 aX aY=>SS d cs m2 (hg.upM (aa hle aX)) aY
 have hF:=fun m' (hle:ak m m')=>ctF 135 (fun d=> !nu d) fields x.fa x.fn x.fc m' gm (aK hle r2) (by rw[gm];exact av.fn) (by kernel_rfl) fun d hd m2 aX=>SW d m2 (av.fs d hd)
 have hS:=fun m' (hle:ak m m')=>ctS 133 (fun d=> !dz d) ifs x.ia x.il x.ic m' dJ (aK hle r1) (by rw[dJ];exact av.il) (by kernel_rfl) fun d hd m2 aX=>SQ d m2 (cg (av.ifs d hd) (by decide))
 have hB:=fun m' (hle:ak m m')=>Kn false init x.sa x.sl x.sc ys m' (hg.upM hle) ga (aK hle r4) (di hle s4) (by rw[ga];exact av.l)
 have h1:BL x.name:=cg av.name (by decide);have h2:BL x.super:=cg av.super (by decide);clear s3 s4;refine enter wV uN Tryz.func54 rfl rfl (by kernel_rfl) rfl ?_ ?_
 ·simp only[go_sem,Cc.cs]
 ·simp only[go_sem,Cc.cs];have e0:rn ⟨x.fl,x.name,x.super,ifs,fields,methods,init⟩=true->nz ⟨x.fl,x.name,x.super,ifs,fields,methods,init⟩=(mu ⟨x.fl,x.name,x.super,ifs,fields,methods,init⟩&& !(ifs.any fun s=> !dz s)&&oK ⟨x.fl,x.name,x.super,ifs,fields,methods,init⟩&& !(fields.any fun f=> !nu f)&& !(methods.any fun f=> !jb f)&&eU false init):=fun h=>by rw[nz,h];rfl
  refine⟨fun b=>ab ((aS hI (fun V=>rfl)).mono ?_),fun b=>⟨fun c=> ?_,fun c=> ?_⟩⟩
  ·clear hI;rintro r H' m1 aJ ⟨l1,rfl,rfl⟩;simp only[go_sem,Cc.cs];have g:hasB x.fl 512=true:=by rw[hasB,bg b];rfl
   refine⟨fun c=> ?_,fun c=> ?_⟩
   ·refine⟨l1,?_⟩;rw[nz,rn,ah g,c];rfl
   ·have hH:rn ⟨x.fl,x.name,x.super,ifs,fields,methods,init⟩=true:=by rw[rn,ah g,c]
    refine⟨h1,fun _=>h2,fun c=>ab ((hS m1 l1).mono ?_),fun c=> ?_⟩
    ·clear hS;rintro r H' n1 O6 ⟨k1,rfl,rfl⟩;simp only[go_sem,Cc.cs];have hN:mu ⟨x.fl,x.name,x.super,ifs,fields,methods,init⟩=true:=by clear hF hM hB;simp only[mu,c.1.1,c.1.2,bO (by omega:ifs.length<=8)];rfl
     refine⟨fun d=>ab ((hF n1 (aa l1 k1)).mono ?_),fun d=> ?_⟩
     ·clear hF;rintro r H' n2 HP ⟨k2,rfl,rfl⟩;simp only[go_sem,Cc.cs];have hL:oK ⟨x.fl,x.name,x.super,ifs,fields,methods,init⟩=true:=by clear hM hB;simp only[oK,bO (by omega:fields.length<=64),bO (by omega:methods.length<=64)];rfl
      refine⟨fun e=>ab ((hM n2 (aa (aa l1 k1) k2)).mono ?_),fun e=> ?_⟩
      ·clear hM;rintro r H' n3 yI ⟨k3,rfl,rfl⟩;simp only[go_sem,Cc.cs];refine⟨fun f=>ab ((hB n3 (aa (aa (aa l1 k1) k2) k3)).mono ?_),fun f=> ?_⟩
       ·clear hB;rintro r H' n4 O5 ⟨k4,rfl,rfl⟩;simp only[go_sem,Cc.cs];refine⟨aa (aa (aa (aa l1 k1) k2) k3) k4,?_⟩;rw[e0 hH,hN,d.1.1,hL,e,f];rfl
       ·refine⟨aa (aa (aa l1 k1) k2) k3,?_⟩;rw[e0 hH,f];simp
      ·refine⟨aa (aa l1 k1) k2,?_⟩;rw[e0 hH,e];simp
     ·refine⟨aa l1 k1,?_⟩;clear hF hM hB;rw[e0 hH];rcases d with (d |d) |d
      ·rw[d];simp
      ·simp only[oK,bg (by omega:¬fields.length<=64),Bool.false_and,Bool.and_false]
      ·simp only[oK,bg (by omega:¬methods.length<=64),Bool.false_and,Bool.and_false]
    ·clear hS hF hM hB;refine⟨l1,?_⟩;rw[e0 hH];rcases c with (c |c) |c
     ·simp only[mu,c,Bool.false_and]
     ·simp only[mu,c,Bool.false_and,Bool.and_false]
     ·simp only[mu,bg (by omega:¬ifs.length<=8),Bool.false_and,Bool.and_false]
  ·clear hI hM hF hS hB;have g:¬hasB x.fl 512=true:=by rw[hasB,bO b];decide
   have:rn ⟨x.fl,x.name,x.super,ifs,fields,methods,init⟩=false:=by
    rw[rn,ae g];rcases c with c |c
    ·simp [c]
    ·simp [hasB,c]
   rw[nz,this];rfl
  ·clear hI;have g:¬hasB x.fl 512=true:=by rw[hasB,bO b];decide
   have hH:rn ⟨x.fl,x.name,x.super,ifs,fields,methods,init⟩=true:=by
    clear hM hF hS hB;rw[rn,ae g];rcases c with ⟨c1,c |c⟩<;>simp [hasB,c1,c]
   clear c;refine⟨h1,fun _=>h2,fun c=>ab ((hS m (.inl rfl:ak m m)).mono ?_),fun c=> ?_⟩
   ·clear hS;rintro r H' n1 O6 ⟨k1,rfl,rfl⟩;simp only[go_sem,Cc.cs];have hN:mu ⟨x.fl,x.name,x.super,ifs,fields,methods,init⟩=true:=by clear hF hM hB;simp only[mu,c.1.1,c.1.2,bO (by omega:ifs.length<=8)];rfl
    refine⟨fun d=>ab ((hF n1 (aa (.inl rfl:ak m m) k1)).mono ?_),fun d=> ?_⟩
    ·clear hF;rintro r H' n2 HP ⟨k2,rfl,rfl⟩;simp only[go_sem,Cc.cs];have hL:oK ⟨x.fl,x.name,x.super,ifs,fields,methods,init⟩=true:=by clear hM hB;simp only[oK,bO (by omega:fields.length<=64),bO (by omega:methods.length<=64)];rfl
     refine⟨fun e=>ab ((hM n2 (aa (aa (.inl rfl:ak m m) k1) k2)).mono ?_),fun e=> ?_⟩
     ·clear hM;rintro r H' n3 yI ⟨k3,rfl,rfl⟩;simp only[go_sem,Cc.cs];refine⟨fun f=>ab ((hB n3 (aa (aa (aa (.inl rfl:ak m m) k1) k2) k3)).mono ?_),fun f=> ?_⟩
      ·clear hB;rintro r H' n4 O5 ⟨k4,rfl,rfl⟩;simp only[go_sem,Cc.cs];refine⟨aa (aa (aa (aa (.inl rfl:ak m m) k1) k2) k3) k4,?_⟩;rw[e0 hH,hN,d.1.1,hL,e,f];rfl
      ·refine⟨aa (aa (aa (.inl rfl:ak m m) k1) k2) k3,?_⟩;rw[e0 hH,f];simp
     ·refine⟨aa (aa (.inl rfl:ak m m) k1) k2,?_⟩;rw[e0 hH,e];simp
    ·refine⟨aa (.inl rfl:ak m m) k1,?_⟩;clear hF hM hB;rw[e0 hH];rcases d with (d |d) |d
     ·rw[d];simp
     ·simp only[oK,bg (by omega:¬fields.length<=64),Bool.false_and,Bool.and_false]
     ·simp only[oK,bg (by omega:¬methods.length<=64),Bool.false_and,Bool.and_false]
   ·clear hS hF hM hB;rw[e0 hH];rcases c with (c |c) |c
    ·simp only[mu,c,Bool.false_and]
    ·simp only[mu,c,Bool.false_and,Bool.and_false]
    ·simp only[mu,bg (by omega:¬ifs.length<=8),Bool.false_and,Bool.and_false]
def vS:Ex->Nat | .mk _ _ _ _ _ args=>jT args
mutual
def oJ:St->Nat
 | .mk k _ _ tg ex body alt=>max (max (dt body) (dt alt)) (max (bq tg) (if k=11 then vS ex else bq ex))
def dt:List St->Nat
 |[]=>0
 |e::r=>max (oJ e) (dt r)
end
theorem yT:∀{l:List St} {k:Nat} (hk:k<l.length),cH (l.take (k+1))=max (cH (l.take k)) (ep l[k])
 |[],_,hk=>absurd hk (Nat.not_lt_zero _)
 |e::r,0,_=>by simp [cH]
 |e::r,k+1,hk=>by
  have:=yT (l:=r) (k:=k) (by simpa using hk);simp only[List.take_succ_cons,cH,this,List.getElem_cons_succ,Nat.max_assoc]
theorem I2:∀{l:List St} {k:Nat} (hk:k<l.length),dt (l.take (k+1))=max (dt (l.take k)) (oJ l[k])
 |[],_,hk=>absurd hk (Nat.not_lt_zero _)
 |e::r,0,_=>by simp [dt]
 |e::r,k+1,hk=>by
  have:=I2 (l:=r) (k:=k) (by simpa using hk);simp only[List.take_succ_cons,dt,this,List.getElem_cons_succ,Nat.max_assoc]
theorem B3:∀(l:List St) (k:Nat),cH (l.take k)<=cH l
 |[],k=>by simp
 |e::r,0=>by simp [cH]
 |e::r,k+1=>by
  have:=B3 r k;simp only[List.take_succ_cons,cH];omega
theorem Fo:∀(l:List St) (k:Nat),dt (l.take k)<=dt l
 |[],k=>by simp
 |e::r,0=>by simp [dt]
 |e::r,k+1=>by
  have:=Fo r k;simp only[List.take_succ_cons,dt];omega
theorem Jw:∀{l:List St} {e:St},e∈l->oJ e<=dt l
 |[],e,he=>by cases he
 |x::r,e,he=>by
  simp only[dt];rcases List.mem_cons.1 he with rfl |he
  ·omega
  ·have:=Jw he;omega
def AR (args:List SV) (m:Mem) (v1 v2:Nat):Prop:=FnH Tryz.prog 143 args ⟨[],[]⟩ m fun r H' m' =>ak m m' /\H' =⟨[],[]⟩/\r= .tup [.v (.int .i64 v1),.v (.int .i64 v2)]
structure DepN where
 b1:Nat
 b2:Nat
 a1:Nat
 a2:Nat
 t:Nat
 x:Nat
 dl:Nat->Nat
structure DepIt (X:Sd) (N:DepN) (mm:Mem):Prop where
 body:∀m',ak mm m' ->AR [.v (.slice X.a X.l X.cp)] m' N.b1 N.b2
 alt:∀m',ak mm m' ->AR [.v (.slice X.b X.l2 X.cp2)] m' N.a1 N.a2
 tg:∀m',ak mm m' ->ay 34 [.v (.agg ⟨X.tg.cs⟩)] m' (.int .i64 N.t)
 ex:¬X.k=11->∀m',ak mm m' ->ay 34 [.v (.agg ⟨X.ex.cs⟩)] m' (.int .i64 N.x)
 arg:X.k=11->∀m',ak mm m' ->∀j,j<X.ex.l->∃(Y:Nd) (d:Nat),(Rd m' (cI X.ex.a (j * 8)) Y.cs/\X.ex.a≠none)/\ay 34 [.v (.agg ⟨Y.cs⟩)] m' (.int .i64 d)/\N.dl (j+1)=max (N.dl j) d
 dl0:N.dl 0=0
 ln:X.ex.l<=az
theorem XT {h:Nat} (ih:∀h',h' <h->∀(l:List St) (a:Option Addr) (n c:Nat) (xs:List Value) (m:Mem),cH l<=h' ->h' <=az->dt l<=az->n=l.length->n<=az->aM m a n 23 xs->bj m l xs->AR [.v (.slice a n c)] m (cH l) (dt l))
  {e:St} {cs:List Value} {mm:Mem} (hd:ep e<=h) (hb:h<=az) (hx:oJ e<=az) (aY:eH mm e cs):
  ∃(X:Sd) (N:DepN),cs=X.cs/\DepIt X N mm/\ep e=max N.b1 N.a1+1/\oJ e=max (max N.b2 N.a2) (max N.t (if X.k=11 then N.dl X.ex.l else N.x)):=by
 cases e with
 |mk k nm ty tg ex body alt=>
  obtain⟨X,rfl,rfl,rfl,rfl,cL,hex,hl,bb,bw,dC,av,xs,ys,r1,r2,s1,s2⟩:=rY aY;simp only[ep] at hd;simp only[oJ] at hx;cases ex with
  |mk xk xn xss xc xty args=>
   obtain⟨y,hy,h1,h2,h3,h4,h5,h6,h7,h8,zs,r3,s3⟩:=rZ hex;have hy:=C2 hy;subst hy;refine⟨X,⟨cH body,dt body,cH alt,dt alt,bq tg,bq (.mk xk xn xss xc xty args),fun j=>jT (args.take j)⟩,rfl,⟨fun m' hle=> ?_,fun m' hle=> ?_,fun m' hle=> ?_,fun hk m' hle=> ?_,fun hk m' hle j hj=> ?_,by simp [jT],h8⟩,by simp only[ep],?_⟩
   ·exact ih (cH body) (by omega) body X.a X.l X.cp xs m' (aq _) (by omega) (by omega) hl (by rw[hl];exact av.l) (aK hle r1) (di hle s1)
   ·exact ih (cH alt) (by omega) alt X.b X.l2 X.cp2 ys m' (aq _) (by omega) (by omega) bw (by rw[bw];exact av.l2) (aK hle r2) (di hle s2)
   ·exact zm _ tg _ m' (aq _) (by omega) (aU hle cL)
   ·rw[ae hk] at hx;exact zm _ _ _ m' (aq _) (by omega) (aU hle hex)
   ·rw[ah hk] at hx;simp only[vS] at hx;have HW:j<args.length:=by omega
    have GI:=aU hle (sw s3 HW);obtain⟨Y,hY⟩:=pT GI;have bP:=ed (aK hle r3) hj;rw[hY] at bP GI;exact⟨Y,bq args[j],bP,zm _ _ _ m' (aq _) (by have:=xu HW;omega) GI,BZ HW⟩
   ·simp only[oJ,vS];rw[fH (by omega:args.length<=X.ex.l)]
theorem Jy:∀(h:Nat) (l:List St) (a:Option Addr) (n c:Nat) (xs:List Value) (m:Mem),cH l<=h->h<=az->dt l<=az->n=l.length->n<=az->aM m a n 23 xs->bj m l xs->AR [.v (.slice a n c)] m (cH l) (dt l):=by
 intro h;induction h using Nat.strongRecOn with
 |ind h ih=>
  intro l a n c xs m hd hb hx hl hn hr hs;refine aH aw Tryz.func143 ?_
  ·simp only[go_sem];refine cK aw (fun x:Nat×Int×Int×Mem=>⟨[⟨4,[],.v (.int .i64 x.2.1)⟩,⟨5,[],.v (.int .i64 x.2.2.1)⟩,⟨14,[],.v (.slice a n c)⟩,⟨15,[],.v (.int .i64 n)⟩,⟨16,[],.v (.int .i64 x.1)⟩],[],[],[],0,x.2.2.2⟩)
    (fun x=>ak m x.2.2.2/\x.1<=n/\x.2.1=cH (l.take x.1)/\x.2.2.1=dt (l.take x.1)) (fun x=>n - x.1) (0,0,0,m) (fun _ _=>aq _) (fun x hx=>hx.1) ?_ ?_ ?_
   ·simp only[go_sem];rfl
   ·exact⟨.inl rfl,au _,by simp [cH],by simp [dt]⟩
   ·rintro⟨k,s,e,mm⟩ ⟨h1,h2,h3,h4⟩;simp only at h1 h2 h3 h4;have hy:∀(hk:k<l.length),∃(X:Sd) (N:DepN),(Rd mm (cI a (k * 23)) X.cs/\a≠none)/\DepIt X N mm/\ep l[k]=max N.b1 N.a1+1/\oJ l[k]=max (max N.b2 N.a2) (max N.t (if X.k=11 then N.dl X.ex.l else N.x)):=fun hk=>by
     have aY:=rW h1 (p7 hs hk);have q1:=n8 (List.getElem_mem hk);have q2:=Jw (List.getElem_mem hk);obtain⟨X,N,hX,hD,e1,e2⟩:=XT ih (by omega) hb (by omega) aY;have bP:=ed (aK h1 hr) (by omega:k<n);rw[hX] at bP;exact⟨X,N,bP,hD,e1,e2⟩
    have hq1:=B3 l k;have hq2:=Fo l k;have wK:∀(hk:k<l.length),cH (l.take (k+1))=max (cH (l.take k)) (ep l[k])/\cH (l.take (k+1))<=cH l:=fun hk=>⟨yT hk,B3 l _⟩
    have wJ:∀(hk:k<l.length),dt (l.take (k+1))=max (dt (l.take k)) (oJ l[k])/\dt (l.take (k+1))<=dt l:=fun hk=>⟨I2 hk,Fo l _⟩
    clear ih;simp only[go_sem];refine⟨fun ao=> ?_,fun cA=> ?_⟩
    ·have hk:k<l.length:=by clear hy;omega
     have g3:=wK hk;have g4:=wJ hk;refine Exists.elim (hy hk) fun X bc=>Exists.elim bc fun N iq=>⟨⟨by clear hy bc iq;omega,ao,iq.1.2⟩,X.cs,⟨iq.1.1,rfl⟩,?_⟩
     clear hy bc;have hD:=iq.2.1;have e1:=iq.2.2.1;have e2:=iq.2.2.2;rw[e1] at g3;rw[e2] at g4;clear iq e1 e2;simp only[go_sem,Sd.cs,Nd.cs];refine ab ((hD.body mm (.inl rfl)).mono ?_);rintro r H' n1 O6 ⟨k1,rfl,rfl⟩;simp only[go_sem,Sd.cs,Nd.cs];refine ab ((hD.alt n1 k1).mono ?_);rintro r H' n2 HP ⟨k2,rfl,rfl⟩;have OR:=aa k1 k2;simp only[go_sem,Sd.cs,Nd.cs];refine⟨by clear hD;unfold ax;simp only[az] at hb;split<;>omega,by kernel_rfl,cE ((aS (hD.tg n2 OR) (fun V=>rfl)).mono ?_)⟩;rintro r H' n3 yI ⟨k3,rfl,rfl⟩;have DX:=aa OR k3;simp only[go_sem,Sd.cs,Nd.cs];have hS:(if s<1+(if(N.b1:Int)<N.a1 then(N.a1:Int) else N.b1) then 1+(if(N.b1:Int)<N.a1 then(N.a1:Int) else N.b1) else s)=((cH (l.take (k+1)):Nat):Int):=by
      clear hD wK wJ;rw[g3.1,h3];split<;>split<;>omega
     have dP:mx (mx (mx e N.b2) N.a2) N.t=((max (max (max (dt (l.take k)) N.b2) N.a2) N.t:Nat):Int):=by
      clear hD wK wJ hS;simp only[mx,h4]
      (repeat' split)<;>omega
     refine Exists.elim (Exists.intro (max (max (max (dt (l.take k)) N.b2) N.a2) N.t) rfl:∃B0:Nat,max (max (max (dt (l.take k)) N.b2) N.a2) N.t=B0) fun B0 hB=> ?_
     rw[hB] at dP;refine⟨fun AM=> ?_,fun AM=> ?_⟩
     ·refine ab ((aS (hD.ex AM n3 DX) (fun V=>rfl)).mono ?_);clear hD;rintro r H' n4 O5 ⟨k4,rfl,rfl⟩;simp only[go_sem,Sd.cs,Nd.cs];rw[ae AM] at g4;refine⟨by unfold ax;simp only[az] at hn;omega,(k+1,((cH (l.take (k+1)):Nat):Int),((dt (l.take (k+1)):Nat):Int),n4),⟨⟨hS,?_,by simp⟩,.inl rfl⟩,⟨aa h1 (aa DX k4),by simp only;omega,rfl,rfl⟩,by simp only;omega⟩;simp only;rw[dP,g4.1];clear hS dP wK wJ g3 h3 h4;split<;>omega
     ·rw[ah AM] at g4;refine cK aw (fun x' :Nat×Int×Mem=>⟨[⟨4,[],.v (.int .i64 (cH (l.take (k+1)):Nat))⟩,⟨5,[],.v (.int .i64 x'.2.1)⟩,⟨14,[],.v (.slice a n c)⟩,⟨15,[],.v (.int .i64 n)⟩,⟨16,[],.v (.int .i64 k)⟩,⟨55,[],.v (.slice X.ex.a X.ex.l X.ex.cp)⟩,⟨56,[],.v (.int .i64 X.ex.l)⟩,⟨57,[],.v (.int .i64 x'.1)⟩],[],[],[],1,x'.2.2⟩)
       (fun x' =>ak n3 x'.2.2/\x'.1<=X.ex.l/\x'.2.1=((max B0 (N.dl x'.1):Nat):Int)) (fun x' =>X.ex.l - x'.1) (0,(B0:Int),n3) (fun _ _=>aq _) (fun x hx=>hx.1) ?_ ?_ ?_
      ·simp only[go_sem];exact⟨hS,dP,rfl⟩
      ·exact⟨.inl rfl,au _,by rw[hD.dl0,Nat.max_zero]⟩
      ·rintro⟨j,e',mj⟩ ⟨q1,q2,q3⟩;simp only at q1 q2 q3;have hz:=hD.arg AM mj (aa DX q1) j;have HR:=hD.ln;clear hD;simp only[go_sem];refine⟨fun Ha=> ?_,fun aeH=> ?_⟩
       ·refine Exists.elim (hz (by clear hz;omega)) fun Y rK=>Exists.elim rK fun dj tm=>⟨⟨by clear hz rK tm;omega,Ha,tm.1.2⟩,Y.cs,⟨tm.1.1,rfl⟩,?_⟩
        clear hz rK;have Pn:=tm.2.1;have hdj:=tm.2.2;clear tm;simp only[go_sem,Nd.cs];refine ab ((aS Pn (fun V=>rfl)).mono ?_);clear Pn;rintro r H' n5 hn5 ⟨k5,rfl,rfl⟩;simp only[go_sem];refine⟨by unfold ax;simp only[az] at HR;omega,(j+1,((max B0 (N.dl (j+1)):Nat):Int),n5),⟨⟨?_,by simp⟩,.inl rfl⟩,⟨aa q1 k5,by simp only;omega,by simp only[Nat.max_def]⟩,by simp only;omega⟩;simp only;rw[hdj,q3];clear hS dP wK wJ g3 g4 h3 h4 hB
        (repeat' split)<;>omega
       ·clear hz;have hj:j=X.ex.l:=by omega
        refine⟨by unfold ax;simp only[az] at hn;omega,(k+1,((cH (l.take (k+1)):Nat):Int),((dt (l.take (k+1)):Nat):Int),mj),⟨⟨rfl,?_,by simp⟩,.inl rfl⟩,⟨aa h1 (aa DX q1),by simp only;omega,rfl,rfl⟩,by simp only;omega⟩;simp only;rw[q3,g4.1,hj];clear hS dP wK wJ g3 h3 h4
        (repeat' split)<;>omega
    ·clear hy wK wJ;have:l.take k=l:=fH (by omega);rw[this] at h3 h4;rw[h3,h4];exact⟨h1,rfl⟩
def jB:List Md->Nat
 |[]=>0
 |e::r=>max (cH e.body) (jB r)
def jC:List Md->Nat
 |[]=>0
 |e::r=>max (dt e.body) (jC r)
def sG (d:Cd):Bool:=decide (24<max (cH d.init) (jB d.methods))||decide (24<max (dt d.init) (jC d.methods))
structure CdB (d:Cd):Prop where
 s:cH d.init<=az
 e:dt d.init<=az
 ms:jB d.methods<=az
 me:jC d.methods<=az
theorem J0:∀{l:List Md} {k:Nat} (hk:k<l.length),jB (l.take (k+1))=max (jB (l.take k)) (cH l[k].body)
 |[],_,hk=>absurd hk (Nat.not_lt_zero _)
 |e::r,0,_=>by simp [jB]
 |e::r,k+1,hk=>by
  have:=J0 (l:=r) (k:=k) (by simpa using hk);simp only[List.take_succ_cons,jB,this,List.getElem_cons_succ,Nat.max_assoc]
theorem J1:∀{l:List Md} {k:Nat} (hk:k<l.length),jC (l.take (k+1))=max (jC (l.take k)) (dt l[k].body)
 |[],_,hk=>absurd hk (Nat.not_lt_zero _)
 |e::r,0,_=>by simp [jC]
 |e::r,k+1,hk=>by
  have:=J1 (l:=r) (k:=k) (by simpa using hk);simp only[List.take_succ_cons,jC,this,List.getElem_cons_succ,Nat.max_assoc]
theorem Lc:∀{l:List Md} {e:Md},e∈l->cH e.body<=jB l
 |[],e,he=>by cases he
 |x::r,e,he=>by
  simp only[jB];rcases List.mem_cons.1 he with rfl |he
  ·omega
  ·have:=Lc he;omega
theorem Ld:∀{l:List Md} {e:Md},e∈l->dt e.body<=jC l
 |[],e,he=>by cases he
 |x::r,e,he=>by
  simp only[jC];rcases List.mem_cons.1 he with rfl |he
  ·omega
  ·have:=Ld he;omega
theorem SG (d:Cd) (cs:List Value) (m:Mem) (hB:CdB d) (h:lK m d cs):ay 55 [.v (.agg ⟨cs⟩)] m (.bool (sG d)):=by
 obtain⟨fl,name,super,ifs,fields,methods,init⟩:=d;obtain⟨x,⟨rfl,rfl,rfl,rfl⟩,⟨dJ,hic,gm,hfc,hml,hmc,ga,hsc⟩,av,r1,r2,xs,ys,r3,s3,r4,s4⟩:=h;simp only at dJ gm hml ga r1 r2 s3 s4;obtain⟨b1,b2,b3,b4⟩:=hB;simp only at b1 b2 b3 b4;have hI:=Jy (cH init) init x.sa x.sl x.sc ys m (aq _) b1 b2 ga (by rw[ga];exact av.l) r4 s4;have HQ:x.ml<=az:=by rw[hml];exact av.ml
 refine enter gp aw Tryz.func55 rfl rfl (by kernel_rfl) rfl ?_ ?_
 ·simp only[go_sem,Cc.cs]
 ·simp only[go_sem,Cc.cs];refine ab (hI.mono ?_);clear hI;rintro r H' m1 aJ ⟨l1,rfl,rfl⟩;simp only[go_sem,Cc.cs];refine cK aw (fun x' :Nat×Int×Int×Mem=>⟨[⟨3,[],.v (.int .i64 x'.2.1)⟩,⟨4,[],.v (.int .i64 x'.2.2.1)⟩,⟨16,[],.v (.slice x.ma x.ml x.mc)⟩,⟨17,[],.v (.int .i64 x.ml)⟩,⟨18,[],.v (.int .i64 x'.1)⟩],[],[],[],1,x'.2.2.2⟩)
   (fun x' =>ak m1 x'.2.2.2/\x'.1<=x.ml/\x'.2.1=max (cH init) (jB (methods.take x'.1))/\x'.2.2.1=max (dt init) (jC (methods.take x'.1))) (fun x' =>x.ml - x'.1) (0,cH init,dt init,m1) (fun _ _=>aq _) (fun x hx=>hx.1) ?_ ?_ ?_
  ·simp only[go_sem];rfl
  ·exact⟨.inl rfl,au _,by simp [jB],by simp [jC]⟩
  ·rintro⟨k,s,e,mm⟩ ⟨h1,h2,h3,h4⟩;simp only at h1 h2 h3 h4;have hy:∀(hk:k<methods.length),∃(X:Mc) (v1 v2:Nat),(Rd mm (cI x.ma (k * 8)) X.cs/\x.ma≠none)/\AR [.v (.slice X.a X.l X.cp)] mm v1 v2/\(jB (methods.take (k+1))=max (jB (methods.take k)) v1/\jC (methods.take (k+1))=max (jC (methods.take k)) v2)/\v1<=az/\v2<=az:=fun hk=>by
    have aY:=tI (aa l1 h1) (sD s3 hk);have q1:=Lc (List.getElem_mem hk);have q2:=Ld (List.getElem_mem hk);have bP:=ed (aK (aa l1 h1) r3) (by omega:k<x.ml);have t1:=J0 hk;have t2:=J1 hk;obtain⟨X,⟨e1,_⟩,⟨e2,e3,e4,e5⟩,dd,_,zs,r5,s5⟩:=T9 aY;rw[e1] at bP;exact⟨X,_,_,bP,Jy _ _ X.a X.l X.cp zs mm (aq _) (by omega) (by omega) e4 (by rw[e4];exact dd.l) r5 s5,⟨t1,t2⟩,by omega,by omega⟩
   simp only[go_sem];refine⟨fun ao=> ?_,fun cA=> ?_⟩
   ·have hk:k<methods.length:=by clear hy;omega
    refine Exists.elim (hy hk) fun X jo=>Exists.elim jo fun v1 lX=>Exists.elim lX fun v2 uT=>⟨⟨by clear hy jo lX uT;omega,ao,uT.1.2⟩,X.cs,⟨uT.1.1,rfl⟩,?_⟩
    clear hy jo lX;have hD:=uT.2.1;have e1:=uT.2.2.1.1;have e2:=uT.2.2.1.2;clear uT;simp only[go_sem,Mc.cs];refine ab (hD.mono ?_);clear hD;rintro r H' m2 aG ⟨l2,rfl,rfl⟩;simp only[go_sem];refine⟨by unfold ax;simp only[az] at HQ;omega,(k+1,((max (cH init) (jB (methods.take (k+1))):Nat):Int),((max (dt init) (jC (methods.take (k+1))):Nat):Int),m2),⟨⟨?_,?_,by simp⟩,.inl rfl⟩,⟨aa h1 l2,by simp only;omega,by simp only[Nat.max_def],by simp only[Nat.max_def]⟩,by simp only;omega⟩
    ·simp only;rw[e1,h3];clear h3 h4 e1 e2
     (repeat' split)<;>omega
    ·simp only;rw[e2,h4];clear h3 h4 e1 e2
     (repeat' split)<;>omega
   ·clear hy;have:methods.take k=methods:=fH (by omega);rw[this] at h3 h4;have e0:sG ⟨x.fl,x.name,x.super,ifs,fields,methods,init⟩=(decide (24<max (cH init) (jB methods))||decide (24<max (dt init) (jC methods))):=rfl;refine⟨aa l1 h1,?_⟩;rw[e0];congr 1
    ·rw[decide_eq_decide];omega
    ·rw[decide_eq_decide];omega
def iu {α:Type} [BEq α]:List α->List α->Bool
 |_,[]=>false
 |seen,a::r=>seen.contains a||iu (seen++[a]) r
def mM (d:Cd):Bool:=iu [] d.ifs||iu [] (d.fields.map (·.name))||iu [] (d.methods.map fun m=>(m.name,m.params.length))
def sZ (l:List (List UInt8)):List Value:=(l.map fun s=>[.string (bs s),.bool true]).flatten
theorem za:∀(l:List Value),lC (l.map .v)=some l
 |[]=>rfl
 |x::r=>by simp [lC,plain,za r]
theorem CP {n:Nat} {vc:List Vc}:∀(l:List Value),eL n vc (l.map .v)=True
 |[]=>rfl
 |x::r=>by simp [eL,kK,CP r]
theorem MN {a b:List UInt8}:(Value.string (bs a)=Value.string (bs b))=(a=b):=propext ⟨fun h=>xR (Value.string.inj h),fun h=>by rw[h]⟩
theorem BX (s:List UInt8):∀(l:List (List UInt8)),A8 (kZ (sZ l) (.string (bs s)))=l.contains s
 |[]=>rfl
 |a::r=>by
  have e:sZ (a::r)= .string (bs a):: .bool true::sZ r:=rfl;rw[e,kZ,MN,List.contains_cons];by_cases h:a=s
  ·rw[ah h];subst h;simp [A8]
  ·rw[ae h,BX s r,(beq_eq_false_iff_ne.2 fun e=>h e.symm:(s==a)=false),Bool.false_or]
theorem FF (s:List UInt8):∀(l:List (List UInt8)),l.contains s=false->uy (sZ l) (.string (bs s)) (.bool true)=sZ (l++[s])
 |[],_=>rfl
 |a::r,h=>by
  have e:sZ (a::r)= .string (bs a):: .bool true::sZ r:=rfl;rw[List.contains_cons,Bool.or_eq_false_iff] at h;have hn:¬a=s:=fun e=>(beq_eq_false_iff_ne.1 h.1) e.symm
  rw[e,uy,MN,ae hn,FF s r h.2];rfl
abbrev uI:=List UInt8×Nat
def rz (k:uI):Value:= .agg ⟨[.string (bs k.1),.int .i64 k.2]⟩
theorem Xl (k:uI):fN 1000001 (rz k)=True:=M4 _ _
def uE (l:List uI):List Value:=(l.map fun k=>[rz k,.bool true]).flatten
theorem Mh {a b:uI}:(rz a=rz b)=(a=b):=propext ⟨fun h=>by
 obtain⟨a1,a2⟩:=a;obtain⟨b1,b2⟩:=b;simp only[rz,Value.agg.injEq,Array.mk.injEq,List.cons.injEq,Value.string.injEq,Value.int.injEq,true_and,and_true] at h
 rw[xR h.1,show a2=b2 by omega],fun h=>by rw[h]⟩
theorem Ju (k:uI):∀(l:List uI),A8 (kZ (uE l) (rz k))=l.contains k
 |[]=>rfl
 |a::r=>by
  have e:uE (a::r)=rz a:: .bool true::uE r:=rfl;rw[e,kZ,Mh,List.contains_cons];by_cases h:a=k
  ·rw[ah h];subst h;simp [A8]
  ·rw[ae h,Ju k r,(beq_eq_false_iff_ne.2 fun e=>h e.symm:(k==a)=false),Bool.false_or]
theorem JP (k:uI):∀(l:List uI),l.contains k=false->uy (uE l) (rz k) (.bool true)=uE (l++[k])
 |[],_=>rfl
 |a::r,h=>by
  have e:uE (a::r)=rz a:: .bool true::uE r:=rfl;rw[List.contains_cons,Bool.or_eq_false_iff] at h;have hn:¬a=k:=fun e=>(beq_eq_false_iff_ne.1 h.1) e.symm
  rw[e,uy,Mh,ae hn,JP k r h.2];rfl
theorem UU {m:Mem} {a:Option Addr} {n k c:Nat} {l:List (List UInt8)} (h:aM m a n 1 (strs l)) (hk:k<=n):aM m (if c=0 then a else a.map (·.add (0 * 1))) (k - 0) 1 (strs (l.take k)):=by
 have hl:=h.1;simp only[strs,List.length_map,Nat.mul_one] at hl;refine⟨by simp [strs];omega,fun h0=> ?_⟩;obtain⟨ad,rfl,hs,jj⟩:=h.2 (by omega);have e:(if c=0 then some ad else(some ad).map (·.add (0 * 1)))=some ad:=by
  by_cases hc:c=0
  ·rw[ah hc]
  ·rw[ae hc];rfl
 refine⟨ad,e,hs,fun j hj=> ?_⟩;obtain⟨h1,h2⟩:=jj j (by omega);refine⟨?_,h2⟩;rw[h1];simp only[strs,List.getElem?_map,List.getElem?_take];rw[ah (by omega)]
theorem xD {α:Type} [BEq α] {l:List α} {k:Nat} (hk:k<l.length):iu (l.take k) (l.drop k)=((l.take k).contains l[k]||iu (l.take (k+1)) (l.drop (k+1))):=by
 rw[List.drop_eq_getElem_cons hk,iu,List.take_succ_eq_append_getElem hk]
/-! The types of the maps. -/
theorem Gu:im Tryz.prog 90=(1000000,none):=by kernel_rfl
theorem zY:im Tryz.prog 151=(1000001,none):=by kernel_rfl
theorem VF:uo Tryz.prog 90:=
 Su (k:=9) (e:=4) (by kernel_rfl) (by kernel_rfl) (by rw[Gu];decide) fun w=>by
  rw[Gu];exact JD (i:=(Tryz.prog.info? 4).getD default) (by kernel_rfl) (by kernel_rfl) w
theorem Gn:eV Tryz.prog 153=some [.v (.string (bs [])),.v (.int .i64 0)]:=by kernel_rfl
theorem Zp:dY Tryz.prog 153=some (some 2):=by kernel_rfl
theorem ZR:bf Tryz.prog 153=2:=by kernel_rfl
theorem VN:b7 Tryz.prog 153 0=some (0,none,1):=by kernel_rfl
theorem VM:b7 Tryz.prog 153 1=some (1,none,1):=by kernel_rfl
theorem Zd:mD Tryz.prog 153=true:=by kernel_rfl
theorem XR:yx Tryz.prog 153:=Mv Gn (by kernel_rfl) (by kernel_rfl) (by kernel_rfl) rfl (by kernel_rfl)
attribute [go_sem] Gu zY Gn Zp ZR VN VM Zd
theorem WZ {a b:ByteArray}:tl a=tl b↔a=b:=⟨fun h=>by have:=congrArg bs h;rwa [la,la] at this,fun h=>by rw[h]⟩
theorem Mt {s:ByteArray} {n:Int} (w:World):∀(es:List MapEntry) (i:Nat),(∀x∈es,∃a k,x.key= .agg ⟨[.string a,.int .i64 k]⟩)->
  (Instr.findAsking 153 (.agg ⟨[.string s,.int .i64 n]⟩) es i).run Tryz.prog w= .ok (uS es (.agg ⟨[.string s,.int .i64 n]⟩) i) w
 |[],_,_=>rfl
 |e::es,i,h=>by
  obtain⟨a,k,ha⟩:=h e (df ..);have ih:=Mt (s:=s) (n:=n) w es (i+1) fun x hx=>h x (cu _ hx)
  have he:=(XR [.string s,.int .i64 n] [.string a,.int .i64 k] (decide (tl s=tl a)&&(decide (n=k)&&true)) w (.const undef) (.const undef) .eql rfl (by rw[Gn];rfl)).2;simp only[Instr.findAsking,Sem.run_bind,ha,uS];rw[show(Array.mk [Value.string s,Value.int .i64 n])=[Value.string s,Value.int .i64 n].toArray from rfl,show(Array.mk [Value.string a,Value.int .i64 k])=[Value.string a,Value.int .i64 k].toArray from rfl,he];simp only[Result.andThen_ok];by_cases hk:(Value.agg [Value.string a,Value.int .i64 k].toArray=Value.agg [Value.string s,Value.int .i64 n].toArray)
  ·rw[ah (ha.trans hk)];simp only[Value.agg.injEq,Array.mk.injEq,List.cons.injEq,Value.string.injEq,Value.int.injEq,true_and,and_true] at hk;obtain⟨rfl,rfl⟩:=hk;simp
  ·rw[ae fun e=>hk (ha.symm.trans e)];have:(decide (tl s=tl a)&&(decide (n=k)&&true))=false:=by
    simp only[Value.agg.injEq,Array.mk.injEq,List.cons.injEq,Value.string.injEq,Value.int.injEq,true_and,and_true] at hk;simp only[Bool.and_true,Bool.and_eq_false_iff,decide_eq_false_iff_not,WZ];by_cases h1:s=a
    ·exact .inr fun h2=>hk ⟨h1.symm,h2.symm⟩
    ·exact .inl h1
   rw[this];exact ih
theorem VE:uo Tryz.prog 151:=by
 refine⟨by rw[zY];decide,153,4,by kernel_rfl,fun w key em n hk=> ?_,fun w key es hk eE=> ?_,fun w=> ?_⟩
 ·rw[zY] at hk;unfold fN at hk;rw[ah rfl] at hk;obtain⟨s,k,rfl⟩:=hk;have hu:Tryz.prog.underlying 153=some (.struct (Tryz.prog.fieldsOf 153)):=by kernel_rfl
  have HZ:Tryz.prog.fieldsOf 153= #[(Tryz.prog.fieldsOf 153).getD 0 default,(Tryz.prog.fieldsOf 153).getD 1 default]:=by kernel_rfl
  rw[HZ] at hu;have n0:((Tryz.prog.fieldsOf 153).getD 0 default).name= "name" :=by kernel_rfl
  have n1:((Tryz.prog.fieldsOf 153).getD 1 default).name= "params" :=by kernel_rfl
  have t0:((Tryz.prog.fieldsOf 153).getD 0 default).type=9:=by kernel_rfl
  have t1:((Tryz.prog.fieldsOf 153).getD 1 default).type=3:=by kernel_rfl
  have o0:((Tryz.prog.fieldsOf 153).getD 0 default).offset=0:=by kernel_rfl
  have o1:((Tryz.prog.fieldsOf 153).getD 1 default).offset=1:=by kernel_rfl
  have p0:=run_part_plain (P:=Tryz.prog) (w:=w) (e:=9) (by kernel_rfl) (xs:= #[.string s,.int .i64 k]) (off:=0) (v:= .string s) rfl;have p1:=run_part_plain (P:=Tryz.prog) (w:=w) (e:=3) (by kernel_rfl) (xs:= #[.string s,.int .i64 k]) (off:=1) (v:= .int .i64 k) rfl;have c0:=MapKept.run_checkKey (P:=Tryz.prog) (w:=w) (kt:=9) (d:= .string) (k:= .string s) (by kernel_rfl) (by simp [MapKept.IsKey]) em n;have c1:=MapKept.run_checkKey (P:=Tryz.prog) (w:=w) (kt:=3) (d:= .int .i64) (k:= .int .i64 k) (by kernel_rfl) (by simp [MapKept.IsKey]) em n;generalize (Tryz.prog.fieldsOf 153).getD 0 default=f0 at *
  generalize (Tryz.prog.fieldsOf 153).getD 1 default=f1 at *
  rw[Instr.checkKey];simp [run_underlying hu,Result.andThen,n0,n1,t0,t1,o0,o1,p0,p1,c0,c1]
 ·rw[zY] at hk eE;unfold fN at hk eE;simp only[if_true] at hk eE;obtain⟨s,k,rfl⟩:=hk;rw[run_findKey_eq w (by kernel_rfl)];exact Mt w es 0 eE
 ·rw[zY];exact JD (i:=(Tryz.prog.info? 4).getD default) (by kernel_rfl) (by kernel_rfl) w
attribute [go_sem] VF VE
theorem UA (d:Cd) (cs:List Value) (m:Mem) (h:lK m d cs):ay 56 [.v (.agg ⟨cs⟩)] m (.bool (mM d)):=by
 obtain⟨fl,name,super,ifs,fields,methods,init⟩:=d;obtain⟨x,⟨rfl,rfl,rfl,rfl⟩,⟨dJ,hic,gm,hfc,hml,hmc,ga,hsc⟩,av,r1,r2,xs,ys,r3,s3,r4,s4⟩:=h;simp only at dJ gm hml ga r1 r2 r3 s3 r4 s4;have Pd:x.il<=az:=by rw[dJ];exact av.il
 have hfb:x.fn<=az:=by rw[gm];exact av.fn
 have HQ:x.ml<=az:=by rw[hml];exact av.ml
 clear r4 s4;refine enter gp aw Tryz.func56 rfl rfl (by kernel_rfl) rfl ?_ ?_
 ·simp only[go_sem,Cc.cs]
 ·simp only[go_sem,Cc.cs];refine fy aw (fun x' :Nat×Mem=>⟨[⟨1,[],.box 0 0⟩,⟨13,[],.v (.slice x.ia x.il x.ic)⟩,⟨14,[],.v (.int .i64 x.il)⟩,⟨15,[],.v (.int .i64 x'.1)⟩],[],[⟨0,59,x.cs.map .v⟩],[],1,x'.2⟩)
   (fun x' =>ak m x'.2/\x'.1<=x.il/\iu [] ifs=iu (ifs.take x'.1) (ifs.drop x'.1)) (fun x' =>x.il - x'.1) (0,m) (by kernel_rfl) (fun _ _=>aq _) (fun x hx=>hx.1) (fun _=> ?_) ?_ ?_ ?_
  ·simp only[go_sem,Cc.cs]
  ·simp only[go_sem,Cc.cs];rfl
  ·exact⟨.inl rfl,au _,rfl⟩
  ·rintro⟨k,mm⟩ ⟨h1,h2,h3⟩;simp only at h1 h2 h3;have hy:∀(hk:k<ifs.length),(Rd mm (cI x.ia k) [.string (bs ifs[k])]/\x.ia≠none)/\FnH Tryz.prog 144 [.v (OD x.ia x.ic 0 k 1),.v (.string (bs ifs[k]))] ⟨[],[]⟩ mm fun r H' _=>r= .v (.bool ((ifs.take k).contains ifs[k]))/\H' =⟨[],[]⟩:=fun hk=>
    ⟨F0 (aK h1 r1) hk,xb (ifs.take k) ifs[k] _ (k - 0) (x.ic - 0) mm (UU (aK h1 r1) (by omega)) (by simp only[az] at Pd;omega)⟩
   simp only[go_sem,Cc.cs];refine⟨fun ao=> ?_,fun cA=> ?_⟩
   ·have hk:k<ifs.length:=by clear hy;omega
    have bc:=hy hk;clear hy;refine⟨⟨by clear bc;omega,ao,bc.1.2⟩,_,bc.1.1,?_⟩;simp only[go_sem,Cc.cs];have iz:=xD hk;refine⟨⟨Int.le_refl _,by clear bc;omega,by clear bc;omega⟩,by kernel_rfl,cE (bc.2.mono ?_)⟩;clear bc;rintro r H' m2 aG ⟨rfl,rfl⟩;simp only[go_sem,Cc.cs];refine⟨fun hc=>⟨aa h1 (.inr aG),?_⟩,fun hc=>⟨by unfold ax;simp only[az] at Pd;omega,(k+1,m2),⟨by simp,.inl rfl⟩,⟨aa h1 (.inr aG),by simp only;omega,?_⟩,by simp only;omega⟩⟩
    ·simp only[mM,h3,iz,hc,Bool.true_or]
    ·simp only;rw[h3,iz,hc,Bool.false_or]
   ·clear hy;have hI:iu [] ifs=false:=by
     rw[h3,List.drop_of_length_le (by omega)];rfl
    refine fy aw (fun x' :Nat×Mem=>⟨[⟨1,[],.box 0 0⟩,⟨5,[],.mp 1⟩,⟨29,[],.v (.slice x.fa x.fn x.fc)⟩,⟨30,[],.v (.int .i64 x.fn)⟩,⟨31,[],.v (.int .i64 x'.1)⟩],[],[⟨1,1000000,(sZ ((fields.map (·.name)).take x'.1)).map .v⟩,⟨0,59,x.cs.map .v⟩],[],2,x'.2⟩)
     (fun x' =>ak mm x'.2/\x'.1<=x.fn/\iu [] (fields.map (·.name))=iu ((fields.map (·.name)).take x'.1) ((fields.map (·.name)).drop x'.1)) (fun x' =>x.fn - x'.1) (0,mm) (by kernel_rfl) (fun _ _=>aq _) (fun x hx=> ?_) (fun _=> ?_) ?_ ?_ ?_
    ·exact hx.1
    ·simp only[go_sem,Cc.cs,CP]
    ·simp only[go_sem,Cc.cs];exact⟨rfl,rfl⟩
    ·exact⟨.inl rfl,au _,rfl⟩
    ·rintro⟨j,mj⟩ ⟨q1,q2,q3⟩;simp only at q1 q2 q3;have hy:∀(hj:j<fields.length),Rd mj (cI x.fa (j * 5)) (fields[j]).cs/\x.fa≠none:=fun hj=>by
      have:=ed (aK (aa h1 q1) r2) (by omega:j<x.fn);rw[vB (f:=Fc.cs) (sz:=5) (fun _=>rfl) hj] at this;exact this
     simp only[go_sem,Cc.cs];refine⟨fun ao=> ?_,fun cA=> ?_⟩
     ·have hj:j<fields.length:=by omega
      refine⟨⟨by omega,ao,(hy hj).2⟩,(fields[j]).cs,⟨(hy hj).1,rfl⟩,?_⟩;simp only[go_sem,Cc.cs,Fc.cs,za,BX];have oU:j<(fields.map (·.name)).length:=by simpa using hj
      have iz:=xD oU;have AN:(fields.map (·.name))[j]=fields[j].name:=by simp
      rw[AN] at iz;refine⟨fun hc=>⟨aa h1 q1,?_⟩,fun hc=>⟨by unfold ax;simp only[az] at hfb;omega,(j+1,mj),⟨by simp,?_,.inl rfl⟩,⟨q1,by simp only;omega,?_⟩,by simp only;omega⟩⟩
      ·simp only[mM,q3,iz,hc,Bool.true_or,Bool.or_true]
      ·simp only;rw[FF _ _ hc,List.take_succ_eq_append_getElem oU,AN]
      ·simp only;rw[q3,iz,hc,Bool.false_or]
     ·have hF:iu [] (fields.map (·.name))=false:=by
       rw[q3,List.drop_of_length_le (by simp;omega)];rfl
      refine fy aw (fun x' :Nat×Mem=>⟨[⟨1,[],.box 0 0⟩,⟨8,[],.mp 2⟩,⟨45,[],.v (.slice x.ma x.ml x.mc)⟩,⟨46,[],.v (.int .i64 x.ml)⟩,⟨47,[],.v (.int .i64 x'.1)⟩],[],[⟨2,1000001,(uE ((methods.map fun m=>(m.name,m.params.length)).take x'.1)).map .v⟩,⟨0,59,x.cs.map .v⟩],[],3,x'.2⟩)
       (fun x' =>ak mj x'.2/\x'.1<=x.ml/\iu [] (methods.map fun m=>(m.name,m.params.length))=iu ((methods.map fun m=>(m.name,m.params.length)).take x'.1) ((methods.map fun m=>(m.name,m.params.length)).drop x'.1)) (fun x' =>x.ml - x'.1) (0,mj) (by kernel_rfl) (fun _ _=>aq _) (fun x hx=>hx.1) (fun _=> ?_) ?_ ?_ ?_
      ·simp only[go_sem,Cc.cs,CP]
      ·simp only[go_sem,Cc.cs];exact⟨rfl,rfl⟩
      ·exact⟨.inl rfl,au _,rfl⟩
      ·rintro⟨k,mk⟩ ⟨p1,p2,p3⟩;simp only at p1 p2 p3;have hy:∀(hj:k<methods.length),∃X:Mc,(Rd mk (cI x.ma (k * 8)) X.cs/\x.ma≠none)/\X.name=methods[k].name/\X.pl=methods[k].params.length:=fun hj=>by
        have aY:=tI (aa h1 (aa q1 p1)) (sD s3 hj);have bP:=ed (aK (aa h1 (aa q1 p1)) r3) (by omega:k<x.ml);obtain⟨X,e1,e2,_⟩:=aY;rw[e1.1] at bP;exact⟨X,bP,e1.2.2.2.1,e2.1⟩
       simp only[go_sem,Cc.cs];refine⟨fun ao=> ?_,fun cA=> ?_⟩
       ·have hj:k<methods.length:=by omega
        refine Exists.elim (hy hj) fun X hX=>⟨⟨by clear hX hy;omega,ao,hX.1.2⟩,X.cs,⟨hX.1.1,rfl⟩,?_⟩
        clear hy;have qM:=hX.2.1;have km:=hX.2.2;clear hX;have hkv:Value.agg ⟨[.string (bs X.name),.int .i64 X.pl]⟩=rz (X.name,X.pl):=rfl;simp only[go_sem,Cc.cs,Mc.cs,za,hkv,Xl,Ju];have oU:k<(methods.map fun m=>(m.name,m.params.length)).length:=by simpa using hj
        have iz:=xD oU;have AN:(methods.map fun m=>(m.name,m.params.length))[k]=(X.name,X.pl):=by simp [qM,km]
        rw[AN] at iz;refine⟨fun hc=>⟨aa h1 (aa q1 p1),?_⟩,fun hc=>⟨by unfold ax;simp only[az] at HQ;omega,(k+1,mk),⟨by simp,?_,.inl rfl⟩,⟨p1,by simp only;omega,?_⟩,by simp only;omega⟩⟩
        ·simp only[mM,p3,iz,hc,Bool.true_or,Bool.or_true]
        ·simp only;rw[JP _ _ hc,List.take_succ_eq_append_getElem oU,AN]
        ·simp only;rw[p3,iz,hc,Bool.false_or]
       ·have hM:iu [] (methods.map fun m=>(m.name,m.params.length))=false:=by
         rw[p3,List.drop_of_length_le (by simp;omega)];rfl
        exact⟨aa h1 (aa q1 p1),by simp only[mM,hI,hF,hM,Bool.or_false]⟩
def fB:List (List UInt8)->List Cd->List UInt8×Int
 |_,[]=>([],0)
 |seen,d::r=>if nz d=true then(if sG d=true then(d.name,9) else if(seen.contains d.name||mM d)=true then(d.name,6) else fB (seen++[d.name]) r) else(d.name,4)
theorem JB (l:List Cd) (p:Option Addr) (n c:Nat) (m:Mem) (hg:Glob m) (hC:∀d∈l,CdB d) (h:vN m l p n c):
  FnH Tryz.prog 27 [.v (.slice p n c)] ⟨[],[]⟩ m fun r H' m' =>ak m m' /\H' =⟨[],[]⟩/\r= .tup [.v (.string (bs (fB [] l).1)),.v (.int .i64 (fB [] l).2)]:=by
 obtain⟨hl,bb,hn,xs,r1,s1⟩:=h;refine aH aw Tryz.func27 ?_
 ·simp only[go_sem];refine fy aw (fun x:Nat×Mem=>⟨[⟨4,[],.mp 0⟩,⟨8,[],.v (.slice p n c)⟩,⟨9,[],.v (.int .i64 n)⟩,⟨10,[],.v (.int .i64 x.1)⟩],[],[⟨0,1000000,(sZ ((l.map (·.name)).take x.1)).map .v⟩],[],1,x.2⟩)
   (fun x=>ak m x.2/\x.1<=n/\fB [] l=fB ((l.map (·.name)).take x.1) (l.drop x.1)) (fun x=>n - x.1) (0,m) (by kernel_rfl) (fun _ _=>aq _) (fun x hx=>hx.1) (fun _=> ?_) ?_ ?_ ?_
  ·simp only[go_sem,CP]
  ·simp only[go_sem];exact⟨rfl,rfl⟩
  ·exact⟨.inl rfl,au _,rfl⟩
  ·rintro⟨k,mm⟩ ⟨h1,h2,h3⟩;simp only at h1 h2 h3;have hy:∀(hk:k<l.length),∃X:Cc,(Rd mm (cI p (k * 7)) X.cs/\p≠none)/\X.name=l[k].name/\
     (ay 54 [.v (.agg ⟨X.cs⟩)] mm (.bool (nz l[k])))/\(∀m',ak mm m' ->ay 55 [.v (.agg ⟨X.cs⟩)] m' (.bool (sG l[k])))/\(∀m',ak mm m' ->ay 56 [.v (.agg ⟨X.cs⟩)] m' (.bool (mM l[k]))):=fun hk=>by
    have aY:=vv h1 (sD s1 hk);have bP:=ed (aK h1 r1) (by omega:k<n);have hX:∃X:Cc,(xs.drop (k * 7)).take 7=X.cs/\X.name=l[k].name:=by
     obtain⟨X,e1,_⟩:=aY;exact⟨X,e1.1,e1.2.2.1⟩
    obtain⟨X,e1,e2⟩:=hX;rw[e1] at bP aY;have av:=hC _ (List.getElem_mem hk);exact⟨X,bP,e2,QB _ _ mm (hg.upM h1) aY,fun m' hle=>SG _ _ m' av (vv hle aY),fun m' hle=>UA _ _ m' (vv hle aY)⟩
   have fQ:∀(hk:k<l.length),fB [] l=(if nz l[k]=true then(if sG l[k]=true then(l[k].name,9) else if(((l.map (·.name)).take k).contains l[k].name||mM l[k])=true then(l[k].name,6) else fB ((l.map (·.name)).take (k+1)) (l.drop (k+1))) else(l[k].name,4)):=fun hk=>by
    rw[h3,List.drop_eq_getElem_cons hk,fB];have:(l.map (·.name)).take (k+1)=(l.map (·.name)).take k++[l[k].name]:=by
     rw[List.take_succ_eq_append_getElem (by simpa using hk)];simp
    rw[this]
   clear hC;simp only[go_sem];refine⟨fun ao=> ?_,fun cA=> ?_⟩
   ·have hk:k<l.length:=by clear hy;omega
    have ll:=fQ hk;clear fQ;refine Exists.elim (hy hk) fun X bc=>⟨⟨by clear hy bc;omega,ao,bc.1.2⟩,X.cs,⟨bc.1.1,rfl⟩,?_⟩
    clear hy;have qM:=bc.2.1;have hV:=bc.2.2.1;have Ig:=bc.2.2.2.1;have Bt:=bc.2.2.2.2;clear bc;simp only[go_sem,Cc.cs];refine ab ((aS hV (fun V=>rfl)).mono ?_);clear hV;rintro r H' m2 aG ⟨l2,rfl,rfl⟩;simp only[go_sem,Cc.cs];refine⟨fun b1=>⟨aa h1 l2,?_⟩,fun b1=>ab ((aS (Ig m2 l2) (fun V=>rfl)).mono ?_)⟩
    ·clear Ig Bt;rw[ll,ae (by rw[b1];decide),qM]
    ·clear Ig;rw[ah b1] at ll;rintro r H' m3 bu ⟨l3,rfl,rfl⟩;have DW:=aa l2 l3;simp only[go_sem,Cc.cs,za,BX];refine⟨fun b2=>⟨aa h1 DW,?_⟩,fun b2=> ?_⟩
     ·clear Bt;rw[ll,ah b2,qM]
     ·rw[ae (by rw[b2];decide)] at ll;refine⟨fun b3=>ab ((aS (Bt m3 DW) (fun V=>rfl)).mono ?_),fun b3=>⟨aa h1 DW,?_⟩⟩
      ·clear Bt;rw[<- qM,b3,Bool.false_or] at ll;rintro r H' m4 dc ⟨l4,rfl,rfl⟩;have OP:=aa DW l4;simp only[go_sem,Cc.cs,za,BX];refine⟨fun b4=>⟨aa h1 OP,?_⟩,fun b4=>⟨by unfold ax;simp only[az] at hn;omega,(k+1,m4),⟨by simp,?_,.inl rfl⟩,⟨aa h1 OP,by simp only;omega,?_⟩,by simp only;omega⟩⟩
       ·rw[ll,ah b4]
       ·have bV:k<(l.map (·.name)).length:=by simpa using hk
        simp only;rw[FF _ _ b3,List.take_succ_eq_append_getElem bV,qM];simp
       ·simp only;rw[ll,ae (by rw[b4];decide)]
      ·clear Bt;rw[ll,<- qM,b3,ah (by simp)]
   ·clear hy;rw[h3,List.drop_of_length_le (by omega),fB];exact⟨h1,rfl⟩
def br:List (Int×List UInt8):=[(1,[112,117,98,108,105,99]),(2,[112,114,105,118,97,116,101]),(4,[112,114,111,116,101,99,116,101,100]),(8,[115,116,97,116,105,99]),(16,[102,105,110,97,108]),(32,[115,121,110,99]),(1024,[97,98,115,116,114,97,99,116])]
def Ex.args:Ex->List Ex | .mk _ _ _ _ _ args=>args
def aaQ:Ex:= .mk 1 1 [] [] af []
def X5:Ex:= .mk 1 0 [] [] af []
def ZP:Ex:= .mk 1 2 [] [] af []
def aE:Ex:= .mk 6 0 [97] [] af []
def Z4:Ex:= .mk 16 0 [43] [] af [aaQ,aaS aE]
def ab2:Ex:= .mk 14 0 [] [] ⟨1,73,[]⟩ [ZP]
def abf:Ex:= .mk 9 0 [] [] af [ab2,X5]
set_option maxRecDepth 100000 in
theorem Pw:Om Z4=([49,32,43,32,40,32,45,32,97,32,41],0):=by decide+kernel
set_option maxRecDepth 100000 in
theorem Pv:Om abf=([110,101,119,32,105,110,116,32,91,32,93,32,91,32,50,32,93,32,91,32,48,32,93],0):=by decide+kernel
end Go.Proofs.YtimddhkipjedcaaGreatDoor.E
namespace Go.Proofs.YtimddhkipjedcaaGreatDoor.E
open Go Go.ChangeShapes Go.WideShapes Go.ChangeAt Go.RowKit
mutual
theorem vm:∀(e:Ex),bq e<=dT e
 | .mk _ _ _ _ _ args=>by
  have:=I4 args;simp only[bq,dT];omega
theorem I4:∀(l:List Ex),jT l<=eW l
 |[]=>by simp [jT]
 |e::r=>by
  have h1:=vm e;have h2:=I4 r;simp only[jT,eW];omega
end
section
variable {H:Type} {enc:TypeId×Value->H} {W:World}
end
theorem UP (ad:Addr) (i j:Nat) (h:ad.spot=none):(ad.add i).add j=ad.add (i+j):=by
 obtain⟨e1,e2,e3⟩:=oc ad i h;obtain⟨f1,f2,f3⟩:=oc (ad.add i) j e3;obtain⟨g1,g2,g3⟩:=oc ad (i+j) h;rcases hx:(ad.add i).add j with ⟨b,o,s⟩
 rcases hy:ad.add (i+j) with ⟨b',o',s'⟩
 rw[hx] at f1 f2 f3;rw[hy] at g1 g2 g3;simp only at f1 f2 f3 g1 g2 g3;subst f3 g3;have h1:b=b' :=by omega
 have h2:o=o' :=by omega
 rw[h1,h2]
theorem kS {m:Mem} {x:Value} {cs:List Value} (h:Rd m x cs):Di x:=by
 obtain⟨ad,e,_⟩:=h;exact⟨ad,e⟩
theorem je {m:Mem} {x:Value} {cs:List Value} (h:Rd m x cs) (o n:Nat) (hn:o+n<=cs.length):Rd m (o9 x o) ((cs.drop o).take n):=by
 obtain⟨ad,rfl,hs,hc⟩:=h;obtain⟨e1,e2,e3⟩:=oc ad o hs;refine⟨ad.add o,rfl,e3,fun j hj=> ?_⟩;have hl:((cs.drop o).take n).length=n:=by rw[List.length_take,cj];omega
 rw[hl] at hj;obtain⟨h1,h2⟩:=hc (o+j) (by omega);refine⟨by rw[UP ad o j hs,h1,List.getElem?_take,ah hj,List.getElem?_drop],by rw[e1,e2];omega⟩
theorem Co:∀(h:Nat) (a b:Ex) (ca cb:List Value) (m:Mem),bq a<=h->ba m a ca->ba m b cb->ay 17 [.v (.agg ⟨ca⟩),.v (.agg ⟨cb⟩)] m (.bool (gU a b))
 |0,.mk k n s c ty args,b,ca,cb,m,hd,_,_=>by simp [bq] at hd
 |h+1,.mk k n s c ty args,.mk k' n' s' c' ty' iE,ca,cb,m,hd,ha,hb=>by
  obtain⟨x,rfl,rfl,rfl,rfl,rfl,rfl,hl,bb,hn,xs,hr,eE⟩:=rZ ha;obtain⟨x',rfl,rfl,rfl,rfl,rfl,rfl,mU,hcp',yJ,xs',hr',hes'⟩:=rZ hb;simp only[bq] at hd;have hE:=fun m' (hle:ak m m')=>Lu (xl hle eE) (xl hle hes') (f:=17) fun y hy z hz cy cz iI aX r1 r2=>Co h y z cy cz iI (by have:=ER hy;omega) r1 r2
  refine enter gp aw Tryz.func17 rfl rfl (by kernel_rfl) rfl ?_ ?_
  ·simp only[go_sem,Nd.cs]
  ·simp only[go_sem,Nd.cs,qi];have hX:gU (Ex.mk x.k x.n x.s x.c x.ty args) (Ex.mk x'.k x'.n x'.s x'.c x'.ty iE)=(decide (x.k=x'.k)&&decide (x.n=x'.n)&&decide (x.s=x'.s)&&decide (x.c=x'.c)&&Ty.eq x.ty x'.ty&&(decide (args.length=iE.length)&&kH args.length (kO gU args iE))):=by rw[gU,Fp,xw]
   refine⟨fun h=> ?_,fun h=> ?_⟩
   ·clear hE;rw[hX];simp only[Ty.eq];rcases h with ((((h |h) |h) |h) |h |h |h) |h
    ·simp [h]
    ·simp [h]
    ·simp [h]
    ·simp [h]
    ·simp [h]
    ·simp [h]
    ·simp [h]
    ·rw[bg (by omega:¬args.length=iE.length)];simp
   ·have uZ:args.length=iE.length:=by clear hE;omega
    have Pg:gU (Ex.mk x.k x.n x.s x.c x.ty args) (Ex.mk x'.k x'.n x'.s x'.c x'.ty iE)=kH args.length (kO gU args iE):=by rw[hX];simp only[Ty.eq,h,uZ,aC,Bool.true_and]
    clear hX;refine fy aw (fun y:Nat×Mem=>⟨[⟨2,[],.box 0 0⟩,⟨3,[],.box 1 0⟩,⟨5,[],.v (.int .i64 y.1)⟩],[],[⟨0,33,x.cs.map .v⟩,⟨1,33,x'.cs.map .v⟩],[],2,y.2⟩)
     (fun y=>ak m y.2/\y.1<=x.l/\kH y.1 (kO gU args iE)=true) (fun y=>x.l - y.1) (0,m) (by kernel_rfl) (fun _ _=>aq _) (fun y hy=>hy.1) (fun _=> ?_) ?_ ?_ ?_
    ·simp only[go_sem,Nd.cs]
    ·simp only[go_sem,Nd.cs];rfl
    ·exact⟨.inl rfl,au _,rfl⟩
    ·rintro⟨k,mm⟩ ⟨h1,h2,h3⟩;simp only at h1 h2 h3;have hy:∀(hk:k<args.length),∃X Y:Nd,(Rd mm (cI x.a (k * 8)) X.cs/\x.a≠none)/\(Rd mm (cI x'.a (k * 8)) Y.cs/\x'.a≠none)/\ay 17 [.v (.agg ⟨X.cs⟩),.v (.agg ⟨Y.cs⟩)] mm (.bool (kO gU args iE k)):=fun hk=>by
      obtain⟨X,Y,e1,e2,e3⟩:=hE mm h1 k hk uZ;have r1:=ed (aK h1 hr) (by omega:k<x.l);have r2:=ed (aK h1 hr') (by omega:k<x'.l);rw[e1] at r1;rw[e2] at r2;exact⟨X,Y,r1,r2,e3 mm (.inl rfl)⟩
     clear hE;simp only[go_sem,Nd.cs];refine⟨fun ao=> ?_,fun cA=> ?_⟩
     ·have hk:k<args.length:=by clear hy;omega
      refine cw (.hoist 0 (.hoist 1 (.hoist 2 (.hoist 3 (.hoist 4 (.hoist 5 (.hoist 6 (.hoist 7 (.hoist 8 (.hoist 9 (.alt 10 [] (.hoist 11 .done) .stop))))))))))) aw (by kernel_rfl) (by kernel_rfl) ?_;simp only[go_sem,Nd.cs];refine Exists.elim (hy hk) fun X jo=>Exists.elim jo fun Y lX=>⟨⟨by clear hy jo lX;omega,ao,lX.1.2⟩,X.cs,⟨lX.1.1,rfl⟩,?_⟩
      clear hy jo;have ha:=lX.2.2;simp only[go_sem,Nd.cs];refine⟨⟨by clear lX ha;omega,by clear lX ha;omega,lX.2.1.2⟩,Y.cs,⟨lX.2.1.1,rfl⟩,?_⟩;clear lX;simp only[go_sem,Nd.cs];refine ab ((aS ha (fun V=>rfl)).mono ?_);clear ha;rintro r H' m2 aG ⟨aX,rfl,rfl⟩;simp only[go_sem,Nd.cs];refine⟨fun hb=>⟨aa h1 aX,?_⟩,fun hb=>⟨by unfold ax;simp only[az] at hn;omega,(k+1,m2),⟨by simp,.inl rfl⟩,⟨aa h1 aX,by simp only;omega,?_⟩,by simp only;omega⟩⟩
      ·rw[Pg,oq hk hb]
      ·simp only;rw[zq,h3,hb];rfl
     ·have:k=args.length:=by clear hy;omega
      refine⟨h1,?_⟩;rw[Pg,<- this,h3]
structure SbIt (X Y:Sd) (e e2:St) (mm:Mem) (bT bE bB bA:Bool):Prop where
 tg:∀m',ak mm m' ->ay 17 [.v (.agg ⟨X.tg.cs⟩),.v (.agg ⟨Y.tg.cs⟩)] m' (.bool bT)
 ex:∀m',ak mm m' ->ay 17 [.v (.agg ⟨X.ex.cs⟩),.v (.agg ⟨Y.ex.cs⟩)] m' (.bool bE)
 body:∀m',ak mm m' ->ay 18 [.v (.slice X.a X.l X.cp),.v (.slice Y.a Y.l Y.cp)] m' (.bool bB)
 alt:∀m',ak mm m' ->ay 18 [.v (.slice X.b X.l2 X.cp2),.v (.slice Y.b Y.l2 Y.cp2)] m' (.bool bA)
 eq:cF e e2=(decide (X.k=Y.k)&&decide (X.name=Y.name)&&Ty.eq X.ty Y.ty&&bT&&bE&&bB&&bA)
set_option maxHeartbeats 8000000 in
theorem RX:∀(h:Nat) (l l2:List St) (a:Option Addr) (n c:Nat) (a2:Option Addr) (n2 c2:Nat) (xs ys:List Value) (m:Mem),cH l<=h->n=l.length->n2=l2.length->n<=az->n2<=az->aM m a n 23 xs->aM m a2 n2 23 ys->bj m l xs->bj m l2 ys->
  ay 18 [.v (.slice a n c),.v (.slice a2 n2 c2)] m (.bool (iS l l2)):=by
 intro h;induction h using Nat.strongRecOn with
 |ind h ih=>
  intro l l2 a n c a2 n2 c2 xs ys m hd hl bw hn HP hr cX hs tq;have hX:iS l l2=(decide (l.length=l2.length)&&kH l.length (kO cF l l2)):=by rw[Ce,xw]
  refine aH aw Tryz.func18 ?_
  ·simp only[go_sem];refine⟨fun cY=> ?_,fun heq=> ?_⟩
   ·rw[hX,bg (by clear ih;omega:¬l.length=l2.length)];rfl
   ·have uZ:l.length=l2.length:=by clear ih;omega
    rw[bO uZ,Bool.true_and] at hX;refine cK aw (fun y:Nat×Mem=>⟨[⟨0,[],.v (.slice a n c)⟩,⟨1,[],.v (.slice a2 n2 c2)⟩,⟨5,[],.v (.int .i64 y.1)⟩],[],[],[],0,y.2⟩)
     (fun y=>ak m y.2/\y.1<=n/\kH y.1 (kO cF l l2)=true) (fun y=>n - y.1) (0,m) (fun _ _=>aq _) (fun y hy=>hy.1) ?_ ?_ ?_
    ·simp only[go_sem];rfl
    ·exact⟨.inl rfl,au _,rfl⟩
    ·rintro⟨k,mm⟩ ⟨h1,h2,h3⟩;simp only at h1 h2 h3;have hy:∀(hk:k<l.length),∃(X Y:Sd) (bT bE bB bA:Bool) (e e2:St),(Rd mm (cI a (k * 23)) X.cs/\a≠none)/\(Rd mm (cI a2 (k * 23)) Y.cs/\a2≠none)/\SbIt X Y e e2 mm bT bE bB bA/\kO cF l l2 k=cF e e2:=fun hk=>by
      have dd:k<l2.length:=by omega
      have aY:=rW h1 (p7 hs hk);have NS:=rW h1 (p7 tq dd);have bP:=ed (aK h1 hr) (by omega:k<n);have Ob:=ed (aK h1 cX) (by omega:k<n2);have q1:=n8 (List.getElem_mem hk);have kr:kO cF l l2 k=cF l[k] l2[k]:=GA hk dd;cases he:l[k] with
      |mk k1 qE ty1 tg1 Pw body1 alt1=>
       cases he2:l2[k] with
       |mk k2 nm2 ty2 tg2 Pv body2 alt2=>
        rw[he] at aY q1 kr;rw[he2] at NS kr;simp only[ep] at q1;obtain⟨X,hX,rfl,rfl,rfl,cL,hex,pJ,bb,hl2',dC,av,zs,ws,r1,r2,s1,s2⟩:=rY aY;obtain⟨Y,hY,rfl,rfl,rfl,htg',we,hl1',hcp',hl2'',hcp2',hok',zs',ws',r1',r2',s1',s2'⟩:=rY NS;rw[hX] at bP;rw[hY] at Ob;refine⟨X,Y,_,_,_,_,_,_,bP,Ob,⟨fun m' hle=>Co _ tg1 tg2 _ _ m' (aq _) (aU hle cL) (aU hle htg'),fun m' hle=>Co _ Pw Pv _ _ m' (aq _) (aU hle hex) (aU hle we),fun m' hle=> ?_,fun m' hle=> ?_,rfl⟩,kr⟩
        ·exact ih (cH body1) (by omega) body1 body2 X.a X.l X.cp Y.a Y.l Y.cp zs zs' m' (aq _) pJ hl1' (by rw[pJ];exact av.l) (by rw[hl1'];exact hok'.l) (aK hle r1) (aK hle r1') (di hle s1) (di hle s1')
        ·exact ih (cH alt1) (by omega) alt1 alt2 X.b X.l2 X.cp2 Y.b Y.l2 Y.cp2 ws ws' m' (aq _) hl2' hl2'' (by rw[hl2'];exact av.l2) (by rw[hl2''];exact hok'.l2) (aK hle r2) (aK hle r2') (di hle s2) (di hle s2')
     clear ih;simp only[go_sem];refine⟨fun ao=> ?_,fun cA=> ?_⟩
     ·have hk:k<l.length:=by clear hy;omega
      refine cw (.hoist 0 (.hoist 1 (.hoist 2 (.hoist 3 (.hoist 4 (.hoist 5 (.hoist 6 (.hoist 7 (.alt 8 [7,6,5,4,3,2,1,0] (.alt 9 [7,6,5,4,3,2,1,0] (.alt 10 [7,6,5,4] (.alt 11 [] .done .stop) .stop) .stop) (.alt 9 [7,6,5,4,3,2,1,0] (.alt 8 [7,6,5,4,3,2,1,0] (.alt 10 [7,6,5,4] (.alt 11 [] .done .stop) .stop) .stop) .stop)))))))))) aw (by kernel_rfl) (by kernel_rfl) ?_;simp only[go_sem];refine Exists.elim (hy hk) fun X y1=>Exists.elim y1 fun Y y2=>Exists.elim y2 fun bT y3=>Exists.elim y3 fun bE y4=>Exists.elim y4 fun bB y5=>Exists.elim y5 fun bA y6=>Exists.elim y6 fun e y7=>Exists.elim y7 fun e2 y8=>⟨⟨by clear hy y1 y2 y3 y4 y5 y6 y7 y8;omega,ao,y8.1.2⟩,X.cs,⟨y8.1.1,rfl⟩,⟨by clear hy y1 y2 y3 y4 y5 y6 y7 y8;omega,by clear hy y1 y2 y3 y4 y5 y6 y7 y8;omega,y8.2.1.2⟩,Y.cs,⟨y8.2.1.1,rfl⟩,?_⟩
      clear hy y1 y2 y3 y4 y5 y6 y7;have hS:=y8.2.2.1;have kr:=y8.2.2.2;clear y8;simp only[go_sem,Sd.cs,Nd.cs,qi];refine⟨?_,?_⟩
      ·refine⟨fun he=>ab ((aS (hS.tg mm (.inl rfl)) (fun V=>rfl)).mono ?_),fun cY=>⟨h1,?_⟩⟩
       ·have e0:cF e e2=(bT&&bE&&bB&&bA):=by rw[hS.eq];simp only[Ty.eq,he,aC,Bool.true_and]
        rintro r H' m2 aG ⟨db,rfl,rfl⟩;simp only[go_sem,Sd.cs,Nd.cs];refine⟨fun b1=>ab ((aS (hS.ex m2 db) (fun V=>rfl)).mono ?_),fun b1=>⟨aa h1 db,?_⟩⟩
        ·rintro r H' m3 bu ⟨l3,rfl,rfl⟩;have k3:=aa db l3;simp only[go_sem,Sd.cs,Nd.cs];refine⟨fun b2=>ab ((hS.body m3 k3).mono ?_),fun b2=>⟨aa h1 k3,?_⟩⟩
         ·rintro r H' m4 dc ⟨l4,rfl,rfl⟩;have k4:=aa k3 l4;simp only[go_sem,Sd.cs,Nd.cs];refine⟨fun b3=>ab ((hS.alt m4 k4).mono ?_),fun b3=>⟨aa h1 k4,?_⟩⟩
          ·rintro r H' m5 b9 ⟨l5,rfl,rfl⟩;have k5:=aa k4 l5;simp only[go_sem,Sd.cs,Nd.cs];refine⟨fun b4=>⟨aa h1 k5,?_⟩,fun b4=>⟨by unfold ax;simp only[az] at hn;omega,(k+1,m5),⟨by simp,.inl rfl⟩,⟨aa h1 k5,by simp only;omega,?_⟩,by simp only;omega⟩⟩
           ·rw[hX,oq hk (by rw[kr,e0,b4,Bool.and_false])]
           ·simp only;rw[zq,h3,kr,e0,b1,b2,b3,b4];rfl
          ·rw[hX,oq hk (by rw[kr,e0,b3,Bool.and_false];rfl)]
         ·rw[hX,oq hk (by rw[kr,e0,b2,Bool.and_false];rfl)]
        ·rw[hX,oq hk (by rw[kr,e0,b1];rfl)]
       ·rw[hX,oq hk];rw[kr,hS.eq];simp only[Ty.eq];clear hS;rcases cY with (h |h) |h |h |h<;>simp [h]
      ·refine⟨fun he=>ab ((aS (hS.tg mm (.inl rfl)) (fun V=>rfl)).mono ?_),fun cY=>⟨h1,?_⟩⟩
       ·have e0:cF e e2=(bT&&bE&&bB&&bA):=by rw[hS.eq];simp only[Ty.eq,he,aC,Bool.true_and]
        rintro r H' m2 aG ⟨db,rfl,rfl⟩;simp only[go_sem,Sd.cs,Nd.cs];refine⟨fun b1=>ab ((aS (hS.ex m2 db) (fun V=>rfl)).mono ?_),fun b1=>⟨aa h1 db,?_⟩⟩
        ·rintro r H' m3 bu ⟨l3,rfl,rfl⟩;have k3:=aa db l3;simp only[go_sem,Sd.cs,Nd.cs];refine⟨fun b2=>ab ((hS.body m3 k3).mono ?_),fun b2=>⟨aa h1 k3,?_⟩⟩
         ·rintro r H' m4 dc ⟨l4,rfl,rfl⟩;have k4:=aa k3 l4;simp only[go_sem,Sd.cs,Nd.cs];refine⟨fun b3=>ab ((hS.alt m4 k4).mono ?_),fun b3=>⟨aa h1 k4,?_⟩⟩
          ·rintro r H' m5 b9 ⟨l5,rfl,rfl⟩;have k5:=aa k4 l5;simp only[go_sem,Sd.cs,Nd.cs];refine⟨fun b4=>⟨aa h1 k5,?_⟩,fun b4=>⟨by unfold ax;simp only[az] at hn;omega,(k+1,m5),⟨by simp,.inl rfl⟩,⟨aa h1 k5,by simp only;omega,?_⟩,by simp only;omega⟩⟩
           ·rw[hX,oq hk (by rw[kr,e0,b4,Bool.and_false])]
           ·simp only;rw[zq,h3,kr,e0,b1,b2,b3,b4];rfl
          ·rw[hX,oq hk (by rw[kr,e0,b3,Bool.and_false];rfl)]
         ·rw[hX,oq hk (by rw[kr,e0,b2,Bool.and_false];rfl)]
        ·rw[hX,oq hk (by rw[kr,e0,b1];rfl)]
       ·rw[hX,oq hk];rw[kr,hS.eq];simp only[Ty.eq];clear hS;rcases cY with (h |h) |h |h |h<;>simp [h]
     ·have:k=l.length:=by clear hy;omega
      refine⟨h1,?_⟩;rw[hX,<- this,h3]
mutual
def iO:St->Nat
 | .mk _ _ _ tg ex body alt=>1+dT ex+dT tg+dN body+dN alt
def dN:List St->Nat
 |[]=>0
 |e::r=>iO e+dN r
end
theorem yY:∀{l:List St} {e:St},e∈l->iO e<=dN l
 |[],e,he=>by cases he
 |x::r,e,he=>by
  simp only[dN];rcases List.mem_cons.1 he with rfl |he
  ·omega
  ·have:=yY he;omega
end Go.Proofs.YtimddhkipjedcaaGreatDoor.E
namespace Go.Proofs.YtimddhkipjedcaaGreatDoor.E
open Go Go.ChangeShapes Go.WideShapes Go.ChangeAt Go.RowKit
section
variable {H:Type} {enc:TypeId×Value->H} {W:World}
end
end Go.Proofs.YtimddhkipjedcaaGreatDoor.E
namespace Go.Proofs.YtimddhkipjedcaaGreatDoor.E
open Go Go.ChangeShapes Go.WideShapes Go.ChangeAt Go.RowKit
def rh (d:Md):Nat:=1+d.params.length+dN d.body
def eI (d:Cd):Nat:=1+d.fields.length+d.ifs.length+dN d.init+(d.methods.map rh).sum
section
variable {H:Type} {enc:TypeId×Value->H} {W:World}
end
/-! What lies in memory is of bounded size. -/
/-! How many tokens. -/
abbrev PR (α:Type):=Except (List Tk) (α×List Tk)
def ar {α β:Type}:PR α->(α->List Tk->PR β)->PR β
 | .ok x,k=>k x.1 x.2
 | .error e,_=> .error e
def aA (s:List UInt8):List Tk->Bool
 |[]=>false
 |t::_=>(decide (t.k=2)||decide (t.k=6))&&decide (t.s=s)
def kp:List Tk->List UInt8
 |[]=>[]
 |t::_=>t.s
def mb:List Tk->Int
 |[]=>0
 |t::_=>t.k
def tv:List Tk->Int
 |[]=>0
 |t::_=>t.n
def eG (l:List Tk):Bool:=decide (mb l=1)&&dz (kp l)
def fL (l:List Tk):Bool:=decide (mb l=1)&& !dz (kp l)&& !(kp l).contains 47
def aR {α:Type} (s:List UInt8) (l:List Tk) (k:List Tk->PR α):PR α:=if aA s l=true then k l.tail else .error l
def fO (l:List Tk):PR (List UInt8):=if eG l=true then .ok (kp l,l.tail) else .error l
def cW (l:List Tk):PR (List UInt8):=if fL l=true then .ok (kp l,l.tail) else .error l
def jz (l:List Tk):PR Ty:=
 if aA gL l=true then .ok (⟨0,73,[]⟩,l.tail)
 else if aA gH l=true then .ok (⟨0,74,[]⟩,l.tail)
 else ar (fO l) fun s r=> .ok (⟨0,76,s⟩,r)
def Ty.up (t:Ty):Ty:=⟨t.dim+1,t.base,t.name⟩
def lJ:Nat->Ty->List Tk->PR Ty
 |0,t,l=> .ok (t,l)
 |f+1,t,l=>if aA [91] l=true then aR [93] l.tail fun r=>lJ f t.up r else .ok (t,l)
def fr (l:List Tk):PR Ty:=ar (jz l) fun t r=>lJ r.length t r
def eX (n:Nat):List (List UInt8):=
 if n=0 then[[124,124]] else if n=1 then[[38,38]] else if n=2 then[[124]] else if n=3 then[[94]] else if n=4 then[[38]]
 else if n=5 then[[61,61],[33,61]] else if n=6 then[[60],[60,61],[62],[62,61]] else if n=7 then[[60,60],[62,62],[62,62,62]]
 else if n=8 then[[43],[45]] else[[42],[47],[37]]
def gI (n:Nat) (l:List Tk):Bool:=decide (mb l=6)&&(eX n).contains (kp l)
def kE:Nat->Ty->List Tk->PR Ty
 |0,t,l=> .ok (t,l)
 |f+1,t,l=>if aA [93] l=true then aR [91] l.tail fun r=>kE f t.up r else .ok (t,l)
mutual
def ea:Nat->Nat->List Tk->PR Ex
 |0,_,l=> .error l
 |f+1,n,l=>if n=10 then lB f l else ar (ea f (n+1) l) fun e r=>kC f n e r
def kC:Nat->Nat->Ex->List Tk->PR Ex
 |0,_,_,l=> .error l
 |f+1,n,e,l=>
  if gI n l=true then ar (ea f (n+1) l.tail) fun x r=>kC f n (.mk 16 0 (kp l) [] af [e,x]) r
  else if n=6/\aA [105,115] l=true then ar (fr l.tail) fun t r=>kC f n (.mk 18 0 [] [] t [e]) r
  else if n=6/\aA [97,115] l=true then ar (fr l.tail) fun t r=>kC f n (.mk 17 0 [] [] t [e]) r
  else .ok (e,l)
def lB:Nat->List Tk->PR Ex
 |0,l=> .error l
 |f+1,l=>
  if aA [45] l=true then ar (lB f l.tail) fun x r=> .ok (.mk 15 0 [45] [] af [x],r)
  else if aA [33] l=true then ar (lB f l.tail) fun x r=> .ok (.mk 15 0 [33] [] af [x],r)
  else ar (pS f l) fun e r=>kT f e r
def kT:Nat->Ex->List Tk->PR Ex
 |0,_,l=> .error l
 |f+1,e,l=>
  if aA [46] l=true then ar (cW l.tail) fun s r=>
   if aA [40] r=true then ar (j9 f r) fun es r2=>kT f (.mk 10 0 s [] af (e::es)) r2
   else kT f (.mk 7 0 s [] af [e]) r
  else if aA [91] l=true then ar (ea f 0 l.tail) fun i r=>aR [93] r fun r2=>kT f (.mk 9 0 [] [] af [e,i]) r2
  else .ok (e,l)
def j9:Nat->List Tk->PR (List Ex)
 |0,l=> .error l
 |f+1,l=>aR [40] l fun r=>if aA [41] r=true then .ok ([],r.tail) else ar (ea f 0 r) fun e r2=>oE f [e] r2
def oE:Nat->List Ex->List Tk->PR (List Ex)
 |0,_,l=> .error l
 |f+1,acc,l=>if aA [44] l=true then ar (ea f 0 l.tail) fun e r=>oE f (acc++[e]) r else aR [41] l fun r=> .ok (acc,r)
def gY:Nat->List Tk->PR Ex
 |0,l=> .error l
 |f+1,l=>aR [40] l fun r=>ar (ea f 0 r) fun e r2=>aR [41] r2 fun r3=> .ok (e,r3)
def pS:Nat->List Tk->PR Ex
 |0,l=> .error l
 |f+1,l=>
  if mb l=3 then .ok (.mk 1 (tv l) [] [] af [],l.tail)
  else if mb l=4 then .ok (.mk 2 (tv l) [] [] af [],l.tail)
  else if mb l=5 then .ok (.mk 3 0 (kp l) [] af [],l.tail)
  else if fL l=true then ar (cW l) fun s r=> .ok (.mk 6 0 s [] af [],r)
  else if eG l=true then ar (fO l) fun c r=>aR [46] r fun r2=>ar (cW r2) fun s r3=>
   if aA [40] r3=true then ar (j9 f r3) fun es r4=> .ok (.mk 11 0 s c af es,r4) else .ok (.mk 8 0 s c af [],r3)
  else if aA [40] l=true then gY f l
  else qk f l
def qk:Nat->List Tk->PR Ex
 |0,l=> .error l
 |f+1,l=>
  if aA [110,117,108,108] l=true then .ok (.mk 4 0 [] [] af [],l.tail)
  else if aA [116,104,105,115] l=true then .ok (.mk 5 0 [] [] af [],l.tail)
  else if aA [115,117,112,101,114] l=true then aR [46] l.tail fun r=>ar (cW r) fun s r2=>ar (j9 f r2) fun es r3=> .ok (.mk 12 0 s [] af es,r3)
  else if aA [110,101,119] l=true then ar (jz l.tail) fun t r=>
   if t.base=76/\aA [40] r=true then ar (j9 f r) fun es r2=> .ok (.mk 13 0 [] t.name af es,r2)
   else aR [91] r fun r2=>ar (kE r2.length t r2) fun t2 r3=>ar (ea f 0 r3) fun e r4=>aR [93] r4 fun r5=> .ok (.mk 14 0 [] [] t2 [e],r5)
  else if aA [108,101,110] l=true then ar (gY f l.tail) fun e r=> .ok (.mk 19 0 [] [] af [e],r)
  else if aA gL l=true then ar (gY f l.tail) fun e r=> .ok (.mk 20 0 [] [] af [e],r)
  else if aA gH l=true then ar (gY f l.tail) fun e r=> .ok (.mk 21 0 [] [] af [e],r)
  else .error l
end
def dh {α:Type} (g:Nat->α) (K:α):Prop:=∃F,∀f,F<=f->g f=K
theorem bm {α:Type} (K:α):dh (fun _=>K) K:=⟨0,fun _ _=>rfl⟩
theorem j3 {α:Type} {g h:Nat->α} {K:α} (e:∀f,g (f+1)=h f) (H:dh h K):dh g K:=by
 obtain⟨F,hF⟩:=H;refine⟨F+1,fun f hf=> ?_⟩;cases f with
 |zero=>omega
 |succ f=>rw[e];exact hF f (by omega)
theorem Me {α β:Type} {g:Nat->PR α} {k:Nat->α->List Tk->PR β} {a:α} {r:List Tk} {K:PR β} (hg:dh g (.ok (a,r))) (hk:dh (fun f=>k f a r) K):dh (fun f=>ar (g f) (k f)) K:=by
 obtain⟨F,hF⟩:=hg;obtain⟨G,hG⟩:=hk;refine⟨max F G,fun f hf=> ?_⟩;simp only[hF f (by omega),ar];exact hG f (by omega)
theorem Xi {α:Type} {g:Nat->α} {K K' :α} (h:dh g K) (h' :dh g K'):K=K' :=by
 obtain⟨F,hF⟩:=h;obtain⟨G,hG⟩:=h';rw[<- hF (max F G) (by omega),hG (max F G) (by omega)]
structure Fol (n:Nat) (r:List Tk):Prop where
 dot:aA [46] r=false
 lb:aA [91] r=false
 lp:aA [40] r=false
 op:∀m,n<=m->m<=9->gI m r=false
 is:n<=6->aA [105,115] r=false/\aA [97,115] r=false
theorem Fol.up {n m:Nat} {r:List Tk} (h:Fol n r) (hm:n<=m):Fol m r:=⟨h.dot,h.lb,h.lp,fun q h1 h2=>h.op q (by omega) h2,fun h1=>h.is (by omega)⟩
/-! Types. -/
noncomputable def iR {α:Type} (g:Nat->PR α):PR α:=by
 classical
 exact if h:∃K,dh g K then h.choose else .error []
theorem Lf {α:Type} {g:Nat->PR α} (h:∃K,dh g K):dh g (iR g):=by
 unfold iR;rw[dif_pos h];exact h.choose_spec
theorem iL {α:Type} {g:Nat->PR α} {K:PR α} (h:dh g K):iR g=K:=Xi (Lf ⟨K,h⟩) h
structure Good {α:Type} (lt:Bool) (l:List Tk) (K:PR α):Prop where
 ok:∀x r,K= .ok (x,r)->r<:+l/\(lt=true->r.length<l.length)
 er:∀r,K= .error r->r<:+l
def Tot {α:Type} (lt:Bool) (g:Nat->PR α) (l:List Tk):Prop:=∃K,dh g K/\Good lt l K
theorem Tot.lim {α:Type} {lt:Bool} {g:Nat->PR α} {l:List Tk} (h:Tot lt g l):dh g (iR g):=by
 obtain⟨K,h1,_⟩:=h;exact Lf ⟨K,h1⟩
theorem Tot.good {α:Type} {lt:Bool} {g:Nat->PR α} {l:List Tk} (h:Tot lt g l):Good lt l (iR g):=by
 obtain⟨K,h1,h2⟩:=h;rw[iL h1];exact h2
theorem fJ {a b:List Tk} (h:a<:+b):a.length<=b.length:=h.length_le
theorem bW (l:List Tk):l.tail<:+l:=List.tail_suffix l
theorem dE {l:List Tk} (h:l≠[]):l.tail.length<l.length:=by
 cases l with
 |nil=>exact absurd rfl h
 |cons a r=>simp
theorem bo {s:List UInt8} {l:List Tk} (h:aA s l=true):l≠[]:=fun e=>by rw[e] at h;cases h
theorem so {l:List Tk} {k:Int} (h:mb l=k) (hk:k≠0):l≠[]:=fun e=>by rw[e] at h;exact hk h.symm
theorem gF {α:Type} {l r:List Tk} (x:α) {lt:Bool} (h1:r<:+l) (h2:lt=true->r.length<l.length):Tot lt (fun _=> .ok (x,r)) l:=
 ⟨_,bm _,fun y q e=>by cases e;exact⟨h1,h2⟩,fun q e=>by cases e⟩
theorem zO {α:Type} {l r:List Tk} {lt:Bool} (h1:r<:+l):Tot (α:=α) lt (fun _=> .error r) l:=
 ⟨_,bm _,fun y q e=>by(cases e),fun q e=>by cases e;exact h1⟩
theorem ju {α:Type} {lt:Bool} {g h:Nat->PR α} {l:List Tk} (e:∀f,g (f+1)=h f) (H:Tot lt h l):Tot lt g l:=by
 obtain⟨K,h1,h2⟩:=H;exact⟨K,j3 e h1,h2⟩
theorem Mb {α β:Type} {g:Nat->PR α} {k:Nat->α->List Tk->PR β} {r:List Tk} (hg:dh g (.error r)):dh (fun f=>ar (g f) (k f)) (.error r):=by
 obtain⟨F,hF⟩:=hg;exact⟨F,fun f hf=>by simp only[hF f hf,ar]⟩
theorem bJ {α β:Type} {a b:Bool} {g:Nat->PR α} {k:Nat->α->List Tk->PR β} {l:List Tk} (hg:Tot a g l)
  (hk:∀x r,r<:+l->(a=true->r.length<l.length)->Tot b (fun f=>k f x r) r):Tot (a||b) (fun f=>ar (g f) (k f)) l:=by
 obtain⟨K,h1,h2⟩:=hg;cases K with
 |error r=>exact⟨.error r,Mb h1,fun x q e=>by(cases e),fun q e=>by cases e;exact h2.er _ rfl⟩
 |ok p=>
  obtain⟨x,r⟩:=p;obtain⟨s1,s2⟩:=h2.ok x r rfl;obtain⟨K2,h3,h4⟩:=hk x r s1 s2;refine⟨K2,Me h1 h3,fun y q e=> ?_,fun q e=>(h4.er q e).trans s1⟩;obtain⟨t1,t2⟩:=h4.ok y q e;refine⟨t1.trans s1,fun Ie=> ?_⟩;have u1:=fJ s1;have u2:=fJ t1;cases a with
  |true=>have:=s2 rfl;omega
  |false=>
   cases b with
   |true=>have:=t2 rfl;omega
   |false=>cases Ie
theorem kP {α:Type} {g:Nat->PR α} {l:List Tk} {a:Bool} (b:Bool) (h:Tot a g l) (Ie:b=true->a=true):Tot b g l:=by
 obtain⟨K,h1,h2⟩:=h;exact⟨K,h1,fun x r e=>⟨(h2.ok x r e).1,fun hb=>(h2.ok x r e).2 (Ie hb)⟩,h2.er⟩
theorem pZ {α:Type} {g:Nat->PR α} {l r:List Tk} (h1:r<:+l) {a:Bool} (h:Tot a g r):Tot a g l:=by
 obtain⟨K,q1,q2⟩:=h;refine⟨K,q1,fun x s e=> ?_,fun s e=>(q2.er s e).trans h1⟩;obtain⟨t1,t2⟩:=q2.ok x s e;exact⟨t1.trans h1,fun ha=>dM (t2 ha) (fJ h1)⟩
theorem jw {α:Type} {g:Nat->PR α} {l r:List Tk} (h1:r<:+l) (h2:r.length<l.length) {a:Bool} (h:Tot a g r):Tot true g l:=by
 obtain⟨K,q1,q2⟩:=h;refine⟨K,q1,fun x s e=> ?_,fun s e=>(q2.er s e).trans h1⟩;obtain⟨t1,t2⟩:=q2.ok x s e;exact⟨t1.trans h1,fun _=>Nat.lt_of_le_of_lt (fJ t1) h2⟩
theorem cD {α:Type} {p:Prop} [Decidable p] {g h:Nat->PR α} {l:List Tk} {a:Bool} (h1:p->Tot a g l) (h2:¬p->Tot a h l):Tot a (fun f=>if p then g f else h f) l:=by
 by_cases hp:p
 ·simp only[ah hp];exact h1 hp
 ·simp only[ae hp];exact h2 hp
theorem gC {α:Type} {s:List UInt8} {l:List Tk} {k:Nat->List Tk->PR α} {a:Bool} (h:aA s l=true->l.tail.length<l.length->Tot a (fun f=>k f l.tail) l.tail):Tot true (fun f=>aR s l (k f)) l:=by
 unfold aR;refine cD (fun hs=> ?_) fun _=>zO (List.suffix_refl _)
 have:=dE (bo hs);exact jw (bW l) this (h hs this)
theorem vw (l:List Tk):Tot true (fun _=>fO l) l:=by
 unfold fO;refine cD (fun h=> ?_) fun _=>zO (List.suffix_refl _)
 simp only[eG,cO,gA] at h;exact gF _ (bW l) fun _=>dE (so h.1 (by decide))
theorem qZ (l:List Tk):Tot true (fun _=>cW l) l:=by
 unfold cW;refine cD (fun h=> ?_) fun _=>zO (List.suffix_refl _)
 simp only[fL,cO,gA] at h;exact gF _ (bW l) fun _=>dE (so h.1.1 (by decide))
theorem Ku (l:List Tk):Tot true (fun _=>jz l) l:=by
 unfold jz;refine cD (fun h=>gF _ (bW l) fun _=>dE (bo h)) fun _=> ?_
 refine cD (fun h=>gF _ (bW l) fun _=>dE (bo h)) fun _=> ?_
 exact bJ (b:=false) (vw l) fun x r h1 h2=>gF _ (List.suffix_refl _) fun h=>by cases h
theorem Kh:∀(f:Nat) (t:Ty) (l:List Tk),Good false l (lJ f t l)
 |0,t,l=>⟨fun x r e=>by cases e;exact⟨List.suffix_refl _,fun h=>by cases h⟩,fun r e=>by cases e⟩
 |f+1,t,l=>by
  rw[lJ];by_cases h:aA [91] l=true
  ·rw[ah h];unfold aR;by_cases h2:aA [93] l.tail=true
   ·rw[ah h2];have ih:=Kh f t.up l.tail.tail;have s:l.tail.tail<:+l:=(bW _).trans (bW l);exact⟨fun x r e=>⟨(ih.ok x r e).1.trans s,fun h=>by cases h⟩,fun r e=>(ih.er r e).trans s⟩
   ·rw[ae h2];exact⟨fun x r e=>by(cases e),fun r e=>by cases e;exact bW l⟩
  ·rw[ae h];exact⟨fun x r e=>by cases e;exact⟨List.suffix_refl _,fun h=>by cases h⟩,fun r e=>by cases e⟩
theorem K7:∀(f:Nat) (t:Ty) (l:List Tk),Good false l (kE f t l)
 |0,t,l=>⟨fun x r e=>by cases e;exact⟨List.suffix_refl _,fun h=>by cases h⟩,fun r e=>by cases e⟩
 |f+1,t,l=>by
  rw[kE];by_cases h:aA [93] l=true
  ·rw[ah h];unfold aR;by_cases h2:aA [91] l.tail=true
   ·rw[ah h2];have ih:=K7 f t.up l.tail.tail;have s:l.tail.tail<:+l:=(bW _).trans (bW l);exact⟨fun x r e=>⟨(ih.ok x r e).1.trans s,fun h=>by cases h⟩,fun r e=>(ih.er r e).trans s⟩
   ·rw[ae h2];exact⟨fun x r e=>by(cases e),fun r e=>by cases e;exact bW l⟩
  ·rw[ae h];exact⟨fun x r e=>by cases e;exact⟨List.suffix_refl _,fun h=>by cases h⟩,fun r e=>by cases e⟩
theorem JG {α:Type} {K:PR α} {l:List Tk} {a:Bool} (h:Good a l K):Tot a (fun _=>K) l:=⟨K,bm _,h⟩
theorem tJ (l:List Tk):Tot true (fun _=>fr l) l:=by
 unfold fr;exact bJ (b:=false) (Ku l) fun t r _ _=>JG (Kh _ _ _)
structure EX (l:List Tk):Prop where
 expr:∀n,n<=10->Tot true (fun f=>ea f n l) l
 loop:∀n e,n<=9->Tot false (fun f=>kC f n e l) l
 unary:Tot true (fun f=>lB f l) l
 post:∀e,Tot false (fun f=>kT f e l) l
 args:Tot true (fun f=>j9 f l) l
 more:∀acc,Tot true (fun f=>oE f acc l) l
 paren:Tot true (fun f=>gY f l) l
 operand:Tot true (fun f=>pS f l) l
 key:Tot true (fun f=>qk f l) l
theorem NX {l:List Tk} (ih:∀r:List Tk,r.length<l.length->EX r):EX l:=by
 have qg:Tot true (fun f=>j9 f l) l:=by
  refine ju (h:=fun f=>aR [40] l fun r=>if aA [41] r=true then .ok ([],r.tail) else ar (ea f 0 r) fun e r2=>oE f [e] r2) (fun f=>by rw[j9]) ?_;refine gC (a:=false) fun hs ao=> ?_
  refine cD (fun h=>gF _ (bW _) fun h=>by cases h) fun _=> ?_
  exact kP false (bJ (b:=true) ((ih _ ao).expr 0 (by decide)) fun e r h1 h2=>(ih r (by have:=h2 rfl;omega)).more _) fun h=>by cases h
 have Nh:Tot true (fun f=>gY f l) l:=by
  refine ju (h:=fun f=>aR [40] l fun r=>ar (ea f 0 r) fun e r2=>aR [41] r2 fun r3=> .ok (e,r3)) (fun f=>by rw[gY]) ?_;refine gC (a:=true) fun hs ao=> ?_
  exact bJ (b:=true) ((ih _ ao).expr 0 (by decide)) fun e r h1 h2=>gC (a:=false) fun _ _=>gF _ (List.suffix_refl _) fun h=>by cases h
 have YH:∀acc,Tot true (fun f=>oE f acc l) l:=fun acc=>by
  refine ju (h:=fun f=>if aA [44] l=true then ar (ea f 0 l.tail) fun e r=>oE f (acc++[e]) r else aR [41] l fun r=> .ok (acc,r)) (fun f=>by rw[oE]) ?_;refine cD (fun h=> ?_) fun _=>gC (a:=false) fun _ _=>gF _ (List.suffix_refl _) fun h=>by cases h
  have ao:=dE (bo h);exact jw (bW l) ao (bJ (b:=true) ((ih _ ao).expr 0 (by decide)) fun e r h1 h2=>(ih r (by have:=h2 rfl;omega)).more _)
 have YF:∀e,Tot false (fun f=>kT f e l) l:=fun e=>by
  refine ju (h:=fun f=>if aA [46] l=true then ar (cW l.tail) fun s r=>
   if aA [40] r=true then ar (j9 f r) fun es r2=>kT f (.mk 10 0 s [] af (e::es)) r2 else kT f (.mk 7 0 s [] af [e]) r
   else if aA [91] l=true then ar (ea f 0 l.tail) fun i r=>aR [93] r fun r2=>kT f (.mk 9 0 [] [] af [e,i]) r2
   else .ok (e,l)) (fun f=>by rw[kT]) ?_
  refine cD (fun h=> ?_) fun _=>cD (fun h=> ?_) fun _=>gF _ (List.suffix_refl _) fun h=>by cases h
  ·have ao:=dE (bo h);refine pZ (bW l) (kP false (bJ (b:=false) (qZ l.tail) fun s r h1 h2=> ?_) fun h=>by cases h);have hr:=fJ h1;refine cD (fun hp=> ?_) fun _=>(ih r (by omega)).post _
   exact kP false (bJ (b:=false) (ih r (by omega)).args fun es r2 h3 h4=>(ih r2 (by have:=fJ h3;omega)).post _) fun h=>by cases h
  ·have ao:=dE (bo h);refine pZ (bW l) (kP false (bJ (b:=true) ((ih _ ao).expr 0 (by decide)) fun i r h1 h2=> ?_) fun h=>by cases h);have hr:=fJ h1;exact gC (a:=false) fun _ bw=>(ih _ (by omega)).post _
 have YJ:∀n e,n<=9->Tot false (fun f=>kC f n e l) l:=fun n e hn=>by
  refine ju (h:=fun f=>if gI n l=true then ar (ea f (n+1) l.tail) fun x r=>kC f n (.mk 16 0 (kp l) [] af [e,x]) r
   else if n=6/\aA [105,115] l=true then ar (fr l.tail) fun t r=>kC f n (.mk 18 0 [] [] t [e]) r
   else if n=6/\aA [97,115] l=true then ar (fr l.tail) fun t r=>kC f n (.mk 17 0 [] [] t [e]) r
   else .ok (e,l)) (fun f=>by rw[kC]) ?_
  refine cD (fun h=> ?_) fun _=>cD (fun h=> ?_) fun _=>cD (fun h=> ?_) fun _=>gF _ (List.suffix_refl _) fun h=>by cases h
  ·simp only[gI,cO,gA] at h;have ao:=dE (so h.1 (by decide));exact pZ (bW l) (kP false (bJ (b:=false) ((ih _ ao).expr (n+1) (by omega)) fun x r h1 h2=>(ih r (by have:=fJ h1;omega)).loop n _ hn) fun h=>by cases h)
  ·have ao:=dE (bo h.2);exact pZ (bW l) (kP false (bJ (b:=false) (tJ l.tail) fun x r h1 h2=>(ih r (by have:=fJ h1;omega)).loop n _ hn) fun h=>by cases h)
  ·have ao:=dE (bo h.2);exact pZ (bW l) (kP false (bJ (b:=false) (tJ l.tail) fun x r h1 h2=>(ih r (by have:=fJ h1;omega)).loop n _ hn) fun h=>by cases h)
 have qm:Tot true (fun f=>qk f l) l:=by
  refine ju (h:=fun f=>
   if aA [110,117,108,108] l=true then .ok (.mk 4 0 [] [] af [],l.tail)
   else if aA [116,104,105,115] l=true then .ok (.mk 5 0 [] [] af [],l.tail)
   else if aA [115,117,112,101,114] l=true then aR [46] l.tail fun r=>ar (cW r) fun s r2=>ar (j9 f r2) fun es r3=> .ok (.mk 12 0 s [] af es,r3)
   else if aA [110,101,119] l=true then ar (jz l.tail) fun t r=>
    if t.base=76/\aA [40] r=true then ar (j9 f r) fun es r2=> .ok (.mk 13 0 [] t.name af es,r2)
    else aR [91] r fun r2=>ar (kE r2.length t r2) fun t2 r3=>ar (ea f 0 r3) fun e r4=>aR [93] r4 fun r5=> .ok (.mk 14 0 [] [] t2 [e],r5)
   else if aA [108,101,110] l=true then ar (gY f l.tail) fun e r=> .ok (.mk 19 0 [] [] af [e],r)
   else if aA gL l=true then ar (gY f l.tail) fun e r=> .ok (.mk 20 0 [] [] af [e],r)
   else if aA gH l=true then ar (gY f l.tail) fun e r=> .ok (.mk 21 0 [] [] af [e],r)
   else .error l) (fun f=>by rw[qk]) ?_
  have fin:∀{x:Ex} {r:List Tk},Tot false (fun _=>Except.ok (x,r)) r:=fun{x r}=>gF _ (List.suffix_refl _) fun h=>by cases h
  refine cD (fun h=>gF _ (bW l) fun _=>dE (bo h)) fun _=>cD (fun h=>gF _ (bW l) fun _=>dE (bo h)) fun _=>
   cD (fun h=> ?_) fun _=>cD (fun h=> ?_) fun _=>cD (fun h=> ?_) fun _=>cD (fun h=> ?_) fun _=>cD (fun h=> ?_) fun _=>zO (List.suffix_refl _)
  ·have ao:=dE (bo h);refine jw (bW l) ao (gC (a:=true) fun _ bw=>bJ (b:=true) (qZ _) fun s r2 h1 h2=> ?_);have:=fJ h1;exact bJ (b:=false) (ih r2 (by omega)).args fun es r3 _ _=>fin
  ·have ao:=dE (bo h);refine jw (bW l) ao (bJ (b:=true) (Ku _) fun t r h1 h2=> ?_);have hr:=fJ h1;refine cD (fun _=>bJ (b:=false) (ih r (by omega)).args fun es r2 _ _=>fin) fun _=> ?_
   refine gC (a:=true) fun _ bw=>bJ (a:=false) (b:=true) (JG (K7 _ _ _)) fun t2 r3 h3 _=> ?_
   have:=fJ h3;exact bJ (b:=true) ((ih r3 (by omega)).expr 0 (by decide)) fun e r4 _ _=>gC (a:=false) fun _ _=>fin
  ·have ao:=dE (bo h);exact jw (bW l) ao (bJ (b:=false) (ih _ ao).paren fun e r _ _=>fin)
  ·have ao:=dE (bo h);exact jw (bW l) ao (bJ (b:=false) (ih _ ao).paren fun e r _ _=>fin)
  ·have ao:=dE (bo h);exact jw (bW l) ao (bJ (b:=false) (ih _ ao).paren fun e r _ _=>fin)
 have Lm:Tot true (fun f=>pS f l) l:=by
  refine ju (h:=fun f=>
   if mb l=3 then .ok (.mk 1 (tv l) [] [] af [],l.tail)
   else if mb l=4 then .ok (.mk 2 (tv l) [] [] af [],l.tail)
   else if mb l=5 then .ok (.mk 3 0 (kp l) [] af [],l.tail)
   else if fL l=true then ar (cW l) fun s r=> .ok (.mk 6 0 s [] af [],r)
   else if eG l=true then ar (fO l) fun c r=>aR [46] r fun r2=>ar (cW r2) fun s r3=>
    if aA [40] r3=true then ar (j9 f r3) fun es r4=> .ok (.mk 11 0 s c af es,r4) else .ok (.mk 8 0 s c af [],r3)
   else if aA [40] l=true then gY f l
   else qk f l) (fun f=>by rw[pS]) ?_
  have fin:∀{x:Ex} {r:List Tk},Tot false (fun _=>Except.ok (x,r)) r:=fun{x r}=>gF _ (List.suffix_refl _) fun h=>by cases h
  refine cD (fun h=>gF _ (bW l) fun _=>dE (so h (by decide))) fun _=>cD (fun h=>gF _ (bW l) fun _=>dE (so h (by decide))) fun _=>
   cD (fun h=>gF _ (bW l) fun _=>dE (so h (by decide))) fun _=>cD (fun h=>bJ (b:=false) (qZ l) fun _ _ _ _=>fin) fun _=>
   cD (fun h=> ?_) fun _=>cD (fun _=>Nh) fun _=>qm
  refine bJ (b:=true) (vw l) fun c r h1 h2=>gC (a:=true) fun _ bw=>bJ (b:=false) (qZ _) fun s r3 h3 h4=> ?_
  have q1:=fJ h1;have q3:=fJ h3;exact cD (fun _=>kP false (bJ (b:=false) (ih r3 (by have:=h2 rfl;omega)).args fun es r4 _ _=>fin) fun h=>by cases h) fun _=>fin
 have Nf:Tot true (fun f=>lB f l) l:=by
  refine ju (h:=fun f=>
   if aA [45] l=true then ar (lB f l.tail) fun x r=> .ok (.mk 15 0 [45] [] af [x],r)
   else if aA [33] l=true then ar (lB f l.tail) fun x r=> .ok (.mk 15 0 [33] [] af [x],r)
   else ar (pS f l) fun e r=>kT f e r) (fun f=>by rw[lB]) ?_
  have fin:∀{x:Ex} {r:List Tk},Tot false (fun _=>Except.ok (x,r)) r:=fun{x r}=>gF _ (List.suffix_refl _) fun h=>by cases h
  refine cD (fun h=> ?_) fun _=>cD (fun h=> ?_) fun _=>bJ (b:=false) Lm fun e r h1 h2=>(ih r (h2 rfl)).post e
  ·exact jw (bW l) (dE (bo h)) (bJ (b:=false) (ih _ (dE (bo h))).unary fun x r _ _=>fin)
  ·exact jw (bW l) (dE (bo h)) (bJ (b:=false) (ih _ (dE (bo h))).unary fun x r _ _=>fin)
 have YP:∀k n,n+k=10->Tot true (fun f=>ea f n l) l:=fun k=>by
  induction k with
  |zero=>
   intro n hn;exact ju (h:=fun f=>lB f l) (fun f=>by rw[ea,ah (by omega)]) Nf
  |succ k ihk=>
   intro n hn;refine ju (h:=fun f=>ar (ea f (n+1) l) fun e r=>kC f n e r) (fun f=>by rw[ea,ae (by omega)]) ?_;exact bJ (b:=false) (ihk (n+1) (by omega)) fun e r h1 h2=>(ih r (h2 rfl)).loop n e (by omega)
 exact⟨fun n hn=>YP (10 - n) n (by omega),YJ,Nf,YF,qg,YH,Nh,Lm,qm⟩
theorem No:∀(N:Nat) (l:List Tk),l.length<=N->EX l
 |0,l,h=>NX fun r hr=>by omega
 |N+1,l,h=>NX fun r hr=>No N r (by omega)
theorem j8 (l:List Tk):EX l:=No _ l (aq _)
/-! The answers as functions, and their equations. -/
noncomputable def bL (n:Nat) (l:List Tk):PR Ex:=iR fun f=>ea f n l
noncomputable def ue (n:Nat) (e:Ex) (l:List Tk):PR Ex:=iR fun f=>kC f n e l
noncomputable def nl (l:List Tk):PR Ex:=iR fun f=>lB f l
noncomputable def pr (e:Ex) (l:List Tk):PR Ex:=iR fun f=>kT f e l
noncomputable def iQ (l:List Tk):PR (List Ex):=iR fun f=>j9 f l
noncomputable def vO (acc:List Ex) (l:List Tk):PR (List Ex):=iR fun f=>oE f acc l
noncomputable def fA (l:List Tk):PR Ex:=iR fun f=>gY f l
noncomputable def nb (l:List Tk):PR Ex:=iR fun f=>pS f l
noncomputable def lj (l:List Tk):PR Ex:=iR fun f=>qk f l
theorem bG {α β:Type} {g:Nat->PR α} {k:Nat->α->List Tk->PR β} {K:PR α} {k2:α->List Tk->PR β} (hg:dh g K) (hk:∀x r,dh (fun f=>k f x r) (k2 x r)):dh (fun f=>ar (g f) (k f)) (ar K k2):=by
 cases K with
 |error r=>exact Mb hg
 |ok p=>obtain⟨x,r⟩:=p;exact Me hg (hk x r)
theorem nc {α:Type} {s:List UInt8} {l:List Tk} {k:Nat->List Tk->PR α} {k2:List Tk->PR α} (hk:dh (fun f=>k f l.tail) (k2 l.tail)):dh (fun f=>aR s l (k f)) (aR s l k2):=by
 unfold aR;by_cases h:aA s l=true
 ·simp only[ah h];exact hk
 ·simp only[ae h];exact bm _
theorem cQ {α:Type} {p:Prop} [Decidable p] {g h:Nat->α} {G H:α} (h1:dh g G) (h2:dh h H):dh (fun f=>if p then g f else h f) (if p then G else H):=by
 by_cases hp:p
 ·simp only[ah hp];exact h1
 ·simp only[ae hp];exact h2
theorem sE {n:Nat} (hn:n<=10) (l:List Tk):dh (fun f=>ea f n l) (bL n l):=((j8 l).expr n hn).lim
theorem Dg {n:Nat} (hn:n<=9) (e:Ex) (l:List Tk):dh (fun f=>kC f n e l) (ue n e l):=((j8 l).loop n e hn).lim
theorem Gv (l:List Tk):dh (fun f=>lB f l) (nl l):=(j8 l).unary.lim
theorem Df (e:Ex) (l:List Tk):dh (fun f=>kT f e l) (pr e l):=((j8 l).post e).lim
theorem Ak (l:List Tk):dh (fun f=>j9 f l) (iQ l):=(j8 l).args.lim
theorem NN (acc:List Ex) (l:List Tk):dh (fun f=>oE f acc l) (vO acc l):=((j8 l).more acc).lim
theorem vJ (l:List Tk):dh (fun f=>gY f l) (fA l):=(j8 l).paren.lim
theorem Ua (l:List Tk):dh (fun f=>pS f l) (nb l):=(j8 l).operand.lim
theorem aaT (l:List Tk):dh (fun f=>qk f l) (lj l):=(j8 l).key.lim
theorem Lt {n:Nat} (hn:n<=9) (l:List Tk):bL n l=ar (bL (n+1) l) fun e r=>ue n e r:=
 iL (j3 (h:=fun f=>ar (ea f (n+1) l) fun e r=>kC f n e r) (fun f=>by rw[ea,ae (by omega)]) (bG (sE (by omega) l) fun e r=>Dg hn e r))
theorem Kc (l:List Tk):bL 10 l=nl l:=iL (j3 (h:=fun f=>lB f l) (fun f=>by rw[ea,ah rfl]) (Gv l))
theorem vu {n:Nat} (hn:n<=9) (e:Ex) (l:List Tk):ue n e l=(if gI n l=true then ar (bL (n+1) l.tail) fun x r=>ue n (.mk 16 0 (kp l) [] af [e,x]) r
  else if n=6/\aA [105,115] l=true then ar (fr l.tail) fun t r=>ue n (.mk 18 0 [] [] t [e]) r
  else if n=6/\aA [97,115] l=true then ar (fr l.tail) fun t r=>ue n (.mk 17 0 [] [] t [e]) r
  else .ok (e,l)):=
 iL (j3 (fun f=>by rw[kC]) (cQ (bG (sE (by omega) _) fun x r=>Dg hn _ r) (cQ (bG (bm _) fun t r=>Dg hn _ r) (cQ (bG (bm _) fun t r=>Dg hn _ r) (bm _)))))
theorem zd (l:List Tk):nl l=(if aA [45] l=true then ar (nl l.tail) fun x r=> .ok (.mk 15 0 [45] [] af [x],r)
  else if aA [33] l=true then ar (nl l.tail) fun x r=> .ok (.mk 15 0 [33] [] af [x],r)
  else ar (nb l) fun e r=>pr e r):=
 iL (j3 (fun f=>by rw[lB]) (cQ (bG (Gv _) fun x r=>bm _) (cQ (bG (Gv _) fun x r=>bm _) (bG (Ua l) fun e r=>Df e r))))
theorem xA (e:Ex) (l:List Tk):pr e l=(if aA [46] l=true then ar (cW l.tail) fun s r=>
   if aA [40] r=true then ar (iQ r) fun es r2=>pr (.mk 10 0 s [] af (e::es)) r2
   else pr (.mk 7 0 s [] af [e]) r
  else if aA [91] l=true then ar (bL 0 l.tail) fun i r=>aR [93] r fun r2=>pr (.mk 9 0 [] [] af [e,i]) r2
  else .ok (e,l)):=
 iL (j3 (fun f=>by rw[kT]) (cQ (bG (bm _) fun s r=>cQ (bG (Ak r) fun es r2=>Df _ r2) (Df _ r)) (cQ (bG (sE (n:=0) (by decide) _) fun i r=>nc (Df _ _)) (bm _))))
theorem FW (l:List Tk):iQ l=aR [40] l fun r=>if aA [41] r=true then .ok ([],r.tail) else ar (bL 0 r) fun e r2=>vO [e] r2:=
 iL (j3 (fun f=>by rw[j9]) (nc (cQ (bm _) (bG (sE (n:=0) (by decide) _) fun e r=>NN _ r))))
theorem zz (acc:List Ex) (l:List Tk):vO acc l=(if aA [44] l=true then ar (bL 0 l.tail) fun e r=>vO (acc++[e]) r else aR [41] l fun r=> .ok (acc,r)):=
 iL (j3 (fun f=>by rw[oE]) (cQ (bG (sE (n:=0) (by decide) _) fun e r=>NN _ r) (bm _)))
theorem E9 (l:List Tk):fA l=aR [40] l fun r=>ar (bL 0 r) fun e r2=>aR [41] r2 fun r3=> .ok (e,r3):=
 iL (j3 (fun f=>by rw[gY]) (by
  refine nc ?_
  exact bG (sE (n:=0) (by decide) _) fun e r=>bm _))
theorem Ez (l:List Tk):nb l=
  (if mb l=3 then .ok (.mk 1 (tv l) [] [] af [],l.tail)
  else if mb l=4 then .ok (.mk 2 (tv l) [] [] af [],l.tail)
  else if mb l=5 then .ok (.mk 3 0 (kp l) [] af [],l.tail)
  else if fL l=true then ar (cW l) fun s r=> .ok (.mk 6 0 s [] af [],r)
  else if eG l=true then ar (fO l) fun c r=>aR [46] r fun r2=>ar (cW r2) fun s r3=>
   if aA [40] r3=true then ar (iQ r3) fun es r4=> .ok (.mk 11 0 s c af es,r4) else .ok (.mk 8 0 s c af [],r3)
  else if aA [40] l=true then fA l
  else lj l):=
 iL (j3 (fun f=>by rw[pS]) (by
  refine cQ (bm _) (cQ (bm _) (cQ (bm _) (cQ (bm _) (cQ ?_ (cQ (vJ l) (aaT l))))));refine bG (bm _) fun c r=>nc ?_
  refine bG (bm _) fun s r3=> ?_
  exact cQ (bG (Ak r3) fun es r4=>bm _) (bm _)))
theorem kA (l:List Tk):lj l=
  (if aA [110,117,108,108] l=true then .ok (.mk 4 0 [] [] af [],l.tail)
  else if aA [116,104,105,115] l=true then .ok (.mk 5 0 [] [] af [],l.tail)
  else if aA [115,117,112,101,114] l=true then aR [46] l.tail fun r=>ar (cW r) fun s r2=>ar (iQ r2) fun es r3=> .ok (.mk 12 0 s [] af es,r3)
  else if aA [110,101,119] l=true then ar (jz l.tail) fun t r=>
   if t.base=76/\aA [40] r=true then ar (iQ r) fun es r2=> .ok (.mk 13 0 [] t.name af es,r2)
   else aR [91] r fun r2=>ar (kE r2.length t r2) fun t2 r3=>ar (bL 0 r3) fun e r4=>aR [93] r4 fun r5=> .ok (.mk 14 0 [] [] t2 [e],r5)
  else if aA [108,101,110] l=true then ar (fA l.tail) fun e r=> .ok (.mk 19 0 [] [] af [e],r)
  else if aA gL l=true then ar (fA l.tail) fun e r=> .ok (.mk 20 0 [] [] af [e],r)
  else if aA gH l=true then ar (fA l.tail) fun e r=> .ok (.mk 21 0 [] [] af [e],r)
  else .error l):=
 iL (j3 (fun f=>by rw[qk]) (by
  refine cQ (bm _) (cQ (bm _) (cQ ?_ (cQ ?_ (cQ (bG (vJ _) fun e r=>bm _) (cQ (bG (vJ _) fun e r=>bm _) (cQ (bG (vJ _) fun e r=>bm _) (bm _)))))))
  ·refine nc ?_;exact bG (bm _) fun s r2=>bG (Ak r2) fun es r3=>bm _
  ·refine bG (bm _) fun t r=> ?_
   refine cQ (bG (Ak r) fun es r2=>bm _) (nc ?_);refine bG (bm _) fun t2 r3=> ?_
   exact bG (sE (n:=0) (by decide) r3) fun e r4=>bm _))
/-! Equal is the same. -/
def lW:List UInt8:=[105,102]
def rl:List UInt8:=[101,108,115,101]
def mh:List UInt8:=[119,104,105,108,101]
def nL:List UInt8:=[114,101,116,117,114,110]
def ot:List UInt8:=[116,104,114,111,119]
def pw:List UInt8:=[116,114,121]
def nA:List UInt8:=[99,97,116,99,104]
def qa:List UInt8:=[115,121,110,99]
def o7:List UInt8:=[115,117,112,101,114]
def ig (l:List Tk):Bool:=if(aA gL l||aA gH l)=true then !aA [40] l.tail else eG l&& !aA [46] l.tail
mutual
def gj:Nat->List Tk->PR (List St)
 |0,l=> .error l
 |f+1,l=>aR [123] l fun r=>ou f [] r
def ou:Nat->List St->List Tk->PR (List St)
 |0,_,l=> .error l
 |f+1,acc,l=>if aA [125] l=true then .ok (acc,l.tail) else ar (oA f l) fun s r=>ou f (acc++[s]) r
def oA:Nat->List Tk->PR St
 |0,l=> .error l
 |f+1,l=>
  if aA lW l=true then ar (gY f l.tail) fun e r=>ar (gj f r) fun b r2=>
   if aA rl r2=true then ar (gj f r2.tail) fun a r3=> .ok (.mk 4 [] af zE e b a,r3) else .ok (.mk 4 [] af zE e b [],r2)
  else if aA mh l=true then ar (gY f l.tail) fun e r=>ar (gj f r) fun b r2=> .ok (.mk 5 [] af zE e b [],r2)
  else if aA nL l=true then
   if aA [59] l.tail=true then .ok (.mk 6 [] af zE zE [] [],l.tail.tail) else ar (ea f 0 l.tail) fun e r=>aR [59] r fun r2=> .ok (.mk 6 [] af zE e [] [],r2)
  else if aA ot l=true then ar (ea f 0 l.tail) fun e r=>aR [59] r fun r2=> .ok (.mk 7 [] af zE e [] [],r2)
  else if aA pw l=true then ar (gj f l.tail) fun b r=>aR nA r fun r2=>aR [40] r2 fun r3=>ar (fr r3) fun t r4=>ar (cW r4) fun s r5=>aR [41] r5 fun r6=>ar (gj f r6) fun a r7=> .ok (.mk 8 s t zE zE b a,r7)
  else if aA qa l=true then ar (gY f l.tail) fun e r=>ar (gj f r) fun b r2=> .ok (.mk 9 [] af zE e b [],r2)
  else if aA [123] l=true then ar (gj f l) fun b r=> .ok (.mk 10 [] af zE zE b [],r)
  else if aA o7 l=true/\aA [40] l.tail=true then ar (j9 f l.tail) fun es r=>aR [59] r fun r2=> .ok (.mk 11 [] af zE (.mk 0 0 [] [] af es) [] [],r2)
  else if ig l=true then ar (fr l) fun t r=>ar (cW r) fun s r2=>aR [61] r2 fun r3=>ar (ea f 0 r3) fun e r4=>aR [59] r4 fun r5=> .ok (.mk 1 s t zE e [] [],r5)
  else ar (ea f 0 l) fun e r=>
   if aA [61] r=true then ar (ea f 0 r.tail) fun x r2=>aR [59] r2 fun r3=> .ok (.mk 2 [] af e x [] [],r3)
   else aR [59] r fun r2=> .ok (.mk 3 [] af zE e [] [],r2)
end
theorem XV {a b:BitVec 64} (h:a&&& ~~~b=0#64):a.toNat<=b.toNat:=by
 have e:a=a&&& b:=by
  apply BitVec.eq_of_getLsbD_eq
  intro i hi;have h2:=congrArg (fun x=>x.getLsbD i) h;simp only[BitVec.getLsbD_and,BitVec.getLsbD_not,hi,aC,Bool.true_and,BitVec.getLsbD_zero] at h2;rw[BitVec.getLsbD_and];cases ha:a.getLsbD i<;>cases hb:b.getLsbD i<;>simp_all
 rw[e,BitVec.toNat_and];exact Nat.and_le_right
theorem Jq {fl:Int} {al:Nat} (hI:ax fl) (ha:al<=4095) (h:iP fl al=true):0<=fl/\fl<=al:=by
 have h2:(BitVec.ofInt 64 fl&&& ~~~BitVec.ofInt 64 (al:Int)).toNat=0:=by
  have ao:=(BitVec.ofInt 64 fl&&& ~~~BitVec.ofInt 64 (al:Int)).isLt;have h3:IntKind.wrap .i64 ((BitVec.ofInt 64 fl&&& ~~~BitVec.ofInt 64 (al:Int)).toNat:Int)=0:=of_decide_eq_true (p:=bits .andNot .i64 fl al=0) h;generalize (BitVec.ofInt 64 fl&&& ~~~BitVec.ofInt 64 (al:Int)).toNat=n at *
  simp [IntKind.wrap,IntKind.bits,IntKind.signed] at h3;omega
 have h4:=XV (BitVec.eq_of_toNat_eq (by rw[h2];rfl));rw[BitVec.toNat_ofInt,BitVec.toNat_ofInt] at h4;obtain⟨i1,i2⟩:=hI;omega
def j6 (fl al:Int):Bool:=decide (0<=fl)&&iP fl al
theorem zw {fl:Int} {al:Nat} (hI:ax fl) (ha:al<=4095):j6 fl al=iP fl al:=by
 cases h:iP fl al with
 |false=>rw[j6,h,Bool.and_false]
 |true=>rw[j6,h,bO (Jq hI ha h).1];rfl
theorem XM {fl:Int} (hI:ax fl) (h:iP fl 7=true):oh fl=jU fl/\hasB fl 1024=false:=by
 have hr:=Jq (al:=7) hI (by decide) h;have lq:∀n:Fin 8,oh (n.val:Int)=jU (n.val:Int)/\hasB (n.val:Int) 1024=false:=by decide+kernel
 have e:fl=(fl.toNat:Int):=by omega
 have:=lq ⟨fl.toNat,by omega⟩;simp only at this;rw[<- e] at this;exact this
/-! Flags. -/
def bl:List (Int×List UInt8)->Int->List Tk->Int×List Tk
 |[],fl,l=>(fl,l)
 |p::q,fl,l=>if aA p.2 l=true then bl q (fl+p.1) l.tail else bl q fl l
/-! Parameters. -/
def pd:Nat->List Pc->List Tk->PR (List Pc)
 |0,_,l=> .error l
 |f+1,acc,l=>if aA [44] l=true then ar (fr l.tail) fun t r=>ar (cW r) fun s r2=>pd f (acc++[⟨t,s⟩]) r2 else aR [41] l fun r=> .ok (acc,r)
def tM (f:Nat) (l:List Tk):PR (List Pc):=
 aR [40] l fun r=>if aA [41] r=true then .ok ([],r.tail) else ar (fr r) fun t r2=>ar (cW r2) fun s r3=>pd f [⟨t,s⟩] r3
/-! Members. -/
def Dv:List UInt8:=[110,101,119]
def eA:Ty:=⟨0,86,[]⟩
def Cd.addF (d:Cd) (x:Fc):Cd:={d with fields:=d.fields++[x]}
def Cd.addM (d:Cd) (x:Md):Cd:={d with methods:=d.methods++[x]}
def Cd.addI (d:Cd) (x:List St):Cd:={d with init:=d.init++x}
def ub (f:Nat) (d:Cd) (fl:Int) (t:Ty) (s:List UInt8) (l:List Tk):PR Cd:=
 ar (tM f l) fun ps r=>if aA [59] r=true then .ok (d.addM ⟨fl,t,s,ps,false,[]⟩,r.tail) else ar (gj f r) fun b r2=> .ok (d.addM ⟨fl,t,s,ps,true,b⟩,r2)
def tO (f:Nat) (d:Cd) (fl:Int) (l:List Tk):PR Cd:=
 if fl=8/\aA [123] l=true then ar (gj f l) fun b r=> .ok (d.addI b,r)
 else if aA Dv l=true then ar (tM f l.tail) fun ps r=>ar (gj f r) fun b r2=> .ok (d.addM ⟨fl,eA,ei,ps,true,b⟩,r2)
 else if aA Ac l=true then ar (cW l.tail) fun s r=>ub f d fl eA s r
 else ar (fr l) fun t r=>ar (cW r) fun s r2=>if aA [59] r2=true then .ok (d.addF ⟨fl,t,s⟩,r2.tail) else ub f d fl t s r2
def oF:Nat->Cd->List Tk->PR Cd
 |0,_,l=> .error l
 |f+1,d,l=>if aA [125] l=true then .ok (d,l.tail) else ar (tO f d (bl br 0 l).1 (bl br 0 l).2) fun e r=>oF f e r
/-! Classes. -/
def N4:List UInt8:=[112,117,98,108,105,99]
def On:List UInt8:=[102,105,110,97,108]
def Hr:List UInt8:=[97,98,115,116,114,97,99,116]
def G6:List UInt8:=[105,110,116,101,114,102,97,99,101]
def iG:List UInt8:=[101,120,116,101,110,100,115]
def mI:List UInt8:=[105,109,112,108,101,109,101,110,116,115]
def kM:List UInt8:=[99,108,97,115,115]
def iY:List (Int×List UInt8):=[(1,N4)]
def jm:List (Int×List UInt8):=[(16,On),(1024,Hr)]
def oz:Nat->List (List UInt8)->List Tk->PR (List (List UInt8))
 |0,_,l=> .error l
 |f+1,acc,l=>if aA [44] l=true then ar (fO l.tail) fun s r=>oz f (acc++[s]) r else .ok (acc,l)
def uz (f:Nat) (w:List UInt8) (l:List Tk):PR (List (List UInt8)):=if aA w l=true then ar (fO l.tail) fun s r=>oz f [s] r else .ok ([],l)
def vQ (f:Nat) (l:List Tk):PR Cd:=
 if aA G6 (bl iY 0 l).2=true then ar (fO (bl iY 0 l).2.tail) fun n r=>ar (uz f iG r) fun is r2=>aR [123] r2 fun r3=> .ok (⟨(bl iY 0 l).1+1536,n,jX,is,[],[],[]⟩,r3)
 else aR kM (bl jm (bl iY 0 l).1 (bl iY 0 l).2).2 fun r=>ar (fO r) fun n r2=>aR iG r2 fun r3=>ar (fO r3) fun sp r4=>ar (uz f mI r4) fun is r5=>aR [123] r5 fun r6=>
  .ok (⟨(bl jm (bl iY 0 l).1 (bl iY 0 l).2).1,n,sp,is,[],[],[]⟩,r6)
def Bz (f:Nat) (l:List Tk):PR Cd:=ar (vQ f l) fun d r=>oF f d r
def pq:Nat->List Cd->List Tk->PR (List Cd)
 |0,_,l=> .error l
 |f+1,acc,l=>if l=[] then .ok (acc,[]) else ar (Bz f l) fun d r=>pq f (acc++[d]) r
structure SXs (l:List Tk):Prop where
 block:Tot true (fun f=>gj f l) l
 stmt:Tot true (fun f=>oA f l) l
 stmts:∀acc,Tot true (fun f=>ou f acc l) l
theorem ja {α:Type} {x:α} {r:List Tk}:Tot false (fun _=>Except.ok (x,r)) r:=gF _ (List.suffix_refl _) fun h=>by cases h
theorem zP (l:List Tk):Tot true (fun f=>ea f 0 l) l:=(j8 l).expr 0 (by decide)
theorem NC {l:List Tk} (ih:∀r:List Tk,r.length<l.length->SXs r):SXs l:=by
 have Nj:Tot true (fun f=>gj f l) l:=by
  refine ju (h:=fun f=>aR [123] l fun r=>ou f [] r) (fun f=>by rw[gj]) ?_;exact gC (a:=true) fun _ ao=>(ih _ ao).stmts _
 have HL:∀(l2:List Tk) (k:Nat->Ex->List St->List Tk->PR St),l2.length<l.length->(∀e b r,r.length<l.length->Tot false (fun f=>k f e b r) r)->Tot true (fun f=>ar (gY f l2) fun e r=>ar (gj f r) fun b r2=>k f e b r2) l2:=fun l2 k h1 h2=>
  bJ (b:=true) (j8 l2).paren fun e r _ h3=>by
   have:=h3 rfl;exact kP true (bJ (b:=false) (ih r (by omega)).block fun b r2 h4 _=>h2 e b r2 (by have q:=fJ h4;omega)) fun _=>rfl
 have NQ:Tot true (fun f=>oA f l) l:=by
  refine ju (h:=fun f=>
   if aA lW l=true then ar (gY f l.tail) fun e r=>ar (gj f r) fun b r2=>
    if aA rl r2=true then ar (gj f r2.tail) fun a r3=> .ok (.mk 4 [] af zE e b a,r3) else .ok (.mk 4 [] af zE e b [],r2)
   else if aA mh l=true then ar (gY f l.tail) fun e r=>ar (gj f r) fun b r2=> .ok (.mk 5 [] af zE e b [],r2)
   else if aA nL l=true then
    if aA [59] l.tail=true then .ok (.mk 6 [] af zE zE [] [],l.tail.tail) else ar (ea f 0 l.tail) fun e r=>aR [59] r fun r2=> .ok (.mk 6 [] af zE e [] [],r2)
   else if aA ot l=true then ar (ea f 0 l.tail) fun e r=>aR [59] r fun r2=> .ok (.mk 7 [] af zE e [] [],r2)
   else if aA pw l=true then ar (gj f l.tail) fun b r=>aR nA r fun r2=>aR [40] r2 fun r3=>ar (fr r3) fun t r4=>ar (cW r4) fun s r5=>aR [41] r5 fun r6=>ar (gj f r6) fun a r7=> .ok (.mk 8 s t zE zE b a,r7)
   else if aA qa l=true then ar (gY f l.tail) fun e r=>ar (gj f r) fun b r2=> .ok (.mk 9 [] af zE e b [],r2)
   else if aA [123] l=true then ar (gj f l) fun b r=> .ok (.mk 10 [] af zE zE b [],r)
   else if aA o7 l=true/\aA [40] l.tail=true then ar (j9 f l.tail) fun es r=>aR [59] r fun r2=> .ok (.mk 11 [] af zE (.mk 0 0 [] [] af es) [] [],r2)
   else if ig l=true then ar (fr l) fun t r=>ar (cW r) fun s r2=>aR [61] r2 fun r3=>ar (ea f 0 r3) fun e r4=>aR [59] r4 fun r5=> .ok (.mk 1 s t zE e [] [],r5)
   else ar (ea f 0 l) fun e r=>
    if aA [61] r=true then ar (ea f 0 r.tail) fun x r2=>aR [59] r2 fun r3=> .ok (.mk 2 [] af e x [] [],r3)
    else aR [59] r fun r2=> .ok (.mk 3 [] af zE e [] [],r2)) (fun f=>by rw[oA]) ?_
  refine cD (fun h=> ?_) fun _=>cD (fun h=> ?_) fun _=>cD (fun h=> ?_) fun _=>cD (fun h=> ?_) fun _=>cD (fun h=> ?_) fun _=>cD (fun h=> ?_) fun _=>
   cD (fun h=> ?_) fun _=>cD (fun h=> ?_) fun _=>cD (fun h=> ?_) fun _=> ?_
  ·have ao:=dE (bo h);refine jw (bW l) ao (HL l.tail _ ao fun e b r hr=> ?_);exact cD (fun h2=>pZ (bW r) (kP false (bJ (b:=false) (ih _ (by have:=dE (bo h2);omega)).block fun a r3 _ _=>ja) fun h=>by cases h)) fun _=>ja
  ·have ao:=dE (bo h);exact jw (bW l) ao (HL l.tail _ ao fun e b r hr=>ja)
  ·have ao:=dE (bo h);refine cD (fun h2=>gF _ ((bW _).trans (bW l)) fun _=>by have:=fJ (bW l.tail);omega) fun _=> ?_
   exact jw (bW l) ao (bJ (b:=true) (zP _) fun e r _ _=>gC (a:=false) fun _ _=>ja)
  ·have ao:=dE (bo h);exact jw (bW l) ao (bJ (b:=true) (zP _) fun e r _ _=>gC (a:=false) fun _ _=>ja)
  ·have ao:=dE (bo h);refine jw (bW l) ao (bJ (b:=true) (ih _ ao).block fun b r h1 _=> ?_);have q1:=fJ h1;refine gC (a:=true) fun _ pJ=>gC (a:=true) fun _ bw=>bJ (b:=true) (tJ _) fun t r4 h2 _=> ?_
   have q2:=fJ h2;refine bJ (b:=true) (qZ _) fun s r5 h3 _=> ?_
   have q3:=fJ h3;refine gC (a:=true) fun _ hl3=> ?_
   exact bJ (b:=false) (ih _ (by omega)).block fun a r7 _ _=>ja
  ·have ao:=dE (bo h);exact jw (bW l) ao (HL l.tail _ ao fun e b r hr=>ja)
  ·exact bJ (b:=false) Nj fun b r _ _=>ja
  ·have ao:=dE (bo h.1);exact jw (bW l) ao (bJ (b:=true) (j8 _).args fun es r _ _=>gC (a:=false) fun _ _=>ja)
  ·refine bJ (b:=true) (tJ l) fun t r _ _=>bJ (b:=true) (qZ r) fun s r2 _ _=>gC (a:=true) fun _ _=>bJ (b:=true) (zP _) fun e r4 _ _=>gC (a:=false) fun _ _=>ja
  ·refine bJ (b:=true) (zP l) fun e r _ _=>cD (fun h=> ?_) fun _=>gC (a:=false) fun _ _=>ja
   exact jw (bW r) (dE (bo h)) (bJ (b:=true) (zP _) fun x r2 _ _=>gC (a:=false) fun _ _=>ja)
 have Xt:∀acc,Tot true (fun f=>ou f acc l) l:=fun acc=>by
  refine ju (h:=fun f=>if aA [125] l=true then .ok (acc,l.tail) else ar (oA f l) fun s r=>ou f (acc++[s]) r) (fun f=>by rw[ou]) ?_;refine cD (fun h=>gF _ (bW l) fun _=>dE (bo h)) fun _=> ?_
  exact bJ (b:=true) NQ fun s r h1 h2=>(ih r (h2 rfl)).stmts _
 exact⟨Nj,NQ,Xt⟩
theorem MM:∀(N:Nat) (l:List Tk),l.length<=N->SXs l
 |0,l,h=>NC fun r hr=>by omega
 |N+1,l,h=>NC fun r hr=>MM N r (by omega)
theorem p6 (l:List Tk):SXs l:=MM _ l (aq _)
noncomputable def fC (l:List Tk):PR (List St):=iR fun f=>gj f l
noncomputable def pj (l:List Tk):PR St:=iR fun f=>oA f l
noncomputable def xP (acc:List St) (l:List Tk):PR (List St):=iR fun f=>ou f acc l
theorem rb (l:List Tk):dh (fun f=>gj f l) (fC l):=(p6 l).block.lim
theorem NK (l:List Tk):dh (fun f=>oA f l) (pj l):=(p6 l).stmt.lim
theorem MZ (acc:List St) (l:List Tk):dh (fun f=>ou f acc l) (xP acc l):=((p6 l).stmts acc).lim
theorem le0 (l:List Tk):dh (fun f=>ea f 0 l) (bL 0 l):=sE (n:=0) (by decide) l
theorem Ko (l:List Tk):fC l=aR [123] l fun r=>xP [] r:=
 iL (j3 (fun f=>by rw[gj]) (nc (MZ _ _)))
theorem EV (acc:List St) (l:List Tk):xP acc l=(if aA [125] l=true then .ok (acc,l.tail) else ar (pj l) fun s r=>xP (acc++[s]) r):=
 iL (j3 (fun f=>by rw[ou]) (cQ (bm _) (bG (NK l) fun s r=>MZ _ _)))
theorem od (l:List Tk):pj l=
  (if aA lW l=true then ar (fA l.tail) fun e r=>ar (fC r) fun b r2=>
   if aA rl r2=true then ar (fC r2.tail) fun a r3=> .ok (.mk 4 [] af zE e b a,r3) else .ok (.mk 4 [] af zE e b [],r2)
  else if aA mh l=true then ar (fA l.tail) fun e r=>ar (fC r) fun b r2=> .ok (.mk 5 [] af zE e b [],r2)
  else if aA nL l=true then
   if aA [59] l.tail=true then .ok (.mk 6 [] af zE zE [] [],l.tail.tail) else ar (bL 0 l.tail) fun e r=>aR [59] r fun r2=> .ok (.mk 6 [] af zE e [] [],r2)
  else if aA ot l=true then ar (bL 0 l.tail) fun e r=>aR [59] r fun r2=> .ok (.mk 7 [] af zE e [] [],r2)
  else if aA pw l=true then ar (fC l.tail) fun b r=>aR nA r fun r2=>aR [40] r2 fun r3=>ar (fr r3) fun t r4=>ar (cW r4) fun s r5=>aR [41] r5 fun r6=>ar (fC r6) fun a r7=> .ok (.mk 8 s t zE zE b a,r7)
  else if aA qa l=true then ar (fA l.tail) fun e r=>ar (fC r) fun b r2=> .ok (.mk 9 [] af zE e b [],r2)
  else if aA [123] l=true then ar (fC l) fun b r=> .ok (.mk 10 [] af zE zE b [],r)
  else if aA o7 l=true/\aA [40] l.tail=true then ar (iQ l.tail) fun es r=>aR [59] r fun r2=> .ok (.mk 11 [] af zE (.mk 0 0 [] [] af es) [] [],r2)
  else if ig l=true then ar (fr l) fun t r=>ar (cW r) fun s r2=>aR [61] r2 fun r3=>ar (bL 0 r3) fun e r4=>aR [59] r4 fun r5=> .ok (.mk 1 s t zE e [] [],r5)
  else ar (bL 0 l) fun e r=>
   if aA [61] r=true then ar (bL 0 r.tail) fun x r2=>aR [59] r2 fun r3=> .ok (.mk 2 [] af e x [] [],r3)
   else aR [59] r fun r2=> .ok (.mk 3 [] af zE e [] [],r2)):=
 iL (j3 (fun f=>by rw[oA]) (by
  refine cQ ?_ (cQ ?_ (cQ (cQ (bm _) ?_) (cQ ?_ (cQ ?_ (cQ ?_ (cQ ?_ (cQ ?_ (cQ ?_ ?_))))))))
  ·refine bG (vJ _) fun e r=>bG (rb _) fun b r2=> ?_
   exact cQ (bG (rb _) fun a r3=>bm _) (bm _)
  ·exact bG (vJ _) fun e r=>bG (rb _) fun b r2=>bm _
  ·exact bG (le0 _) fun e r=>bm _
  ·exact bG (le0 _) fun e r=>bm _
  ·refine bG (rb _) fun b r=>nc (nc ?_)
   refine bG (bm _) fun t r4=> ?_
   refine bG (bm _) fun s r5=>nc ?_
   exact bG (rb _) fun a r7=>bm _
  ·exact bG (vJ _) fun e r=>bG (rb _) fun b r2=>bm _
  ·exact bG (rb _) fun b r=>bm _
  ·exact bG (Ak _) fun es r=>bm _
  ·refine bG (bm _) fun t r=> ?_
   refine bG (bm _) fun s r2=>nc ?_
   exact bG (le0 _) fun e r4=>bm _
  ·refine bG (le0 _) fun e r=> ?_
   exact cQ (bG (le0 _) fun x r2=>bm _) (bm _)))
/-! Parameters, members, classes. -/
theorem JQ:∀(N:Nat) (acc:List Pc) (l:List Tk),l.length<=N->Tot true (fun f=>pd f acc l) l:=fun N=>by
 induction N with
 |zero=>
  intro acc l h;have hl:l=[]:=List.length_eq_zero_iff.1 (by omega);subst hl;refine ju (h:=fun _=> .error []) (fun f=>by rw[pd];rfl) (zO (List.suffix_refl _))
 |succ N ih=>
  intro acc l h;refine ju (h:=fun f=>if aA [44] l=true then ar (fr l.tail) fun t r=>ar (cW r) fun s r2=>pd f (acc++[⟨t,s⟩]) r2 else aR [41] l fun r=> .ok (acc,r)) (fun f=>by rw[pd]) ?_;refine cD (fun hp=> ?_) fun _=>gC (a:=false) fun _ _=>ja
  have ao:=dE (bo hp);refine jw (bW l) ao (bJ (b:=true) (tJ _) fun t r h1 _=> ?_);have q1:=fJ h1;refine bJ (b:=true) (qZ _) fun s r2 h2 _=> ?_
  have q2:=fJ h2;exact ih _ r2 (by omega)
noncomputable def zW (acc:List Pc) (l:List Tk):PR (List Pc):=iR fun f=>pd f acc l
theorem M0 (acc:List Pc) (l:List Tk):dh (fun f=>pd f acc l) (zW acc l):=(JQ _ acc l (aq _)).lim
theorem JR (acc:List Pc) (l:List Tk):zW acc l=(if aA [44] l=true then ar (fr l.tail) fun t r=>ar (cW r) fun s r2=>zW (acc++[⟨t,s⟩]) r2 else aR [41] l fun r=> .ok (acc,r)):=
 iL (j3 (fun f=>by rw[pd]) (by
  refine cQ ?_ (bm _);refine bG (bm _) fun t r=> ?_
  exact bG (bm _) fun s r2=>M0 _ _))
theorem Jp (l:List Tk):Tot true (fun f=>tM f l) l:=by
 unfold tM;refine gC (a:=false) fun _ _=>cD (fun _=>gF _ (bW _) fun h=>by cases h) fun _=> ?_
 refine kP false (bJ (b:=true) (tJ _) fun t r _ _=>bJ (b:=true) (qZ _) fun s r3 _ _=>JQ _ _ r3 (aq _)) fun h=>by cases h
noncomputable def sd (l:List Tk):PR (List Pc):=aR [40] l fun r=>if aA [41] r=true then .ok ([],r.tail) else ar (fr r) fun t r2=>ar (cW r2) fun s r3=>zW [⟨t,s⟩] r3
theorem lparams (l:List Tk):dh (fun f=>tM f l) (sd l):=by
 unfold tM sd;refine nc (cQ (bm _) ?_);refine bG (bm _) fun t r=> ?_
 exact bG (bm _) fun s r3=>M0 _ _
noncomputable def pn (d:Cd) (fl:Int) (t:Ty) (s:List UInt8) (l:List Tk):PR Cd:=
 ar (sd l) fun ps r=>if aA [59] r=true then .ok (d.addM ⟨fl,t,s,ps,false,[]⟩,r.tail) else ar (fC r) fun b r2=> .ok (d.addM ⟨fl,t,s,ps,true,b⟩,r2)
noncomputable def fx (d:Cd) (fl:Int) (l:List Tk):PR Cd:=
 if fl=8/\aA [123] l=true then ar (fC l) fun b r=> .ok (d.addI b,r)
 else if aA Dv l=true then ar (sd l.tail) fun ps r=>ar (fC r) fun b r2=> .ok (d.addM ⟨fl,eA,ei,ps,true,b⟩,r2)
 else if aA Ac l=true then ar (cW l.tail) fun s r=>pn d fl eA s r
 else ar (fr l) fun t r=>ar (cW r) fun s r2=>if aA [59] r2=true then .ok (d.addF ⟨fl,t,s⟩,r2.tail) else pn d fl t s r2
theorem NL (d:Cd) (fl:Int) (t:Ty) (s:List UInt8) (l:List Tk):dh (fun f=>ub f d fl t s l) (pn d fl t s l):=by
 unfold ub pn;refine bG (lparams _) fun ps r=>cQ (bm _) ?_
 exact bG (rb _) fun b r2=>bm _
theorem L9 (d:Cd) (fl:Int) (l:List Tk):dh (fun f=>tO f d fl l) (fx d fl l):=by
 unfold tO fx;refine cQ (bG (rb _) fun b r=>bm _) (cQ ?_ (cQ ?_ ?_))
 ·exact bG (lparams _) fun ps r=>bG (rb _) fun b r2=>bm _
 ·exact bG (bm _) fun s r=>NL _ _ _ _ _
 ·refine bG (bm _) fun t r=> ?_
  refine bG (bm _) fun s r2=> ?_
  exact cQ (bm _) (NL _ _ _ _ _)
theorem KG (d:Cd) (fl:Int) (t:Ty) (s:List UInt8) (l:List Tk):Tot true (fun f=>ub f d fl t s l) l:=by
 unfold ub;refine bJ (b:=false) (Jp _) fun ps r _ _=>cD (fun _=>gF _ (bW _) fun h=>by cases h) fun _=> ?_
 exact kP false (bJ (b:=false) (p6 r).block fun b r2 _ _=>ja) fun h=>by cases h
theorem Js (d:Cd) (fl:Int) (l:List Tk):Tot true (fun f=>tO f d fl l) l:=by
 unfold tO;refine cD (fun _=>bJ (b:=false) (p6 l).block fun b r _ _=>ja) fun _=>cD (fun h=> ?_) fun _=>cD (fun h=> ?_) fun _=> ?_
 ·exact jw (bW l) (dE (bo h)) (bJ (b:=true) (Jp _) fun ps r _ _=>bJ (b:=false) (p6 r).block fun b r2 _ _=>ja)
 ·exact jw (bW l) (dE (bo h)) (bJ (b:=true) (qZ _) fun s r _ _=>KG _ _ _ _ _)
 ·refine bJ (b:=true) (tJ _) fun t r _ _=>bJ (b:=false) (qZ _) fun s r2 _ _=> ?_
  exact cD (fun _=>gF _ (bW _) fun h=>by cases h) fun _=>kP false (KG _ _ _ _ _) fun h=>by cases h
theorem rX:∀(q:List (Int×List UInt8)) (fl:Int) (l:List Tk),(bl q fl l).2<:+l
 |[],fl,l=>List.suffix_refl _
 |p::q,fl,l=>by
  rw[bl];split
  ·exact(rX q _ _).trans (bW l)
  ·exact rX q _ _
theorem K9:∀(N:Nat) (d:Cd) (l:List Tk),l.length<=N->Tot true (fun f=>oF f d l) l:=fun N=>by
 have step:∀(d:Cd) (l:List Tk),(∀e (r:List Tk),r.length<l.length->Tot true (fun f=>oF f e r) r)->Tot true (fun f=>oF f d l) l:=fun d l ih=>by
  refine ju (h:=fun f=>if aA [125] l=true then .ok (d,l.tail) else ar (tO f d (bl br 0 l).1 (bl br 0 l).2) fun e r=>oF f e r) (fun f=>by rw[oF]) ?_;refine cD (fun h=>gF _ (bW l) fun _=>dE (bo h)) fun _=> ?_
  have hs:=rX br 0 l;have q:=fJ hs;exact pZ hs (bJ (b:=true) (Js _ _ _) fun e r _ h2=>ih e r (by have:=h2 rfl;omega))
 induction N with
 |zero=>intro d l h;exact step d l fun e r hr=>by omega
 |succ N ih=>intro d l h;exact step d l fun e r hr=>ih e r (by omega)
noncomputable def Ah (d:Cd) (l:List Tk):PR Cd:=iR fun f=>oF f d l
theorem NO (d:Cd) (l:List Tk):dh (fun f=>oF f d l) (Ah d l):=(K9 _ d l (aq _)).lim
theorem La (d:Cd) (l:List Tk):Ah d l=(if aA [125] l=true then .ok (d,l.tail) else ar (fx d (bl br 0 l).1 (bl br 0 l).2) fun e r=>Ah e r):=
 iL (j3 (fun f=>by rw[oF]) (cQ (bm _) (bG (L9 _ _ _) fun e r=>NO _ _)))
theorem Kk:∀(N:Nat) (acc:List (List UInt8)) (l:List Tk),l.length<=N->Tot false (fun f=>oz f acc l) l:=fun N=>by
 have step:∀(acc:List (List UInt8)) (l:List Tk),(∀a (r:List Tk),r.length<l.length->Tot false (fun f=>oz f a r) r)->Tot false (fun f=>oz f acc l) l:=fun acc l ih=>by
  refine ju (h:=fun f=>if aA [44] l=true then ar (fO l.tail) fun s r=>oz f (acc++[s]) r else .ok (acc,l)) (fun f=>by rw[oz]) ?_;refine cD (fun h=> ?_) fun _=>ja
  have ao:=dE (bo h);exact pZ (bW l) (kP false (bJ (b:=false) (vw _) fun s r h1 _=>ih _ r (by have:=fJ h1;omega)) fun h=>by cases h)
 induction N with
 |zero=>intro acc l h;exact step acc l fun a r hr=>by omega
 |succ N ih=>intro acc l h;exact step acc l fun a r hr=>ih a r (by omega)
noncomputable def xQ (acc:List (List UInt8)) (l:List Tk):PR (List (List UInt8)):=iR fun f=>oz f acc l
theorem M3 (acc:List (List UInt8)) (l:List Tk):dh (fun f=>oz f acc l) (xQ acc l):=(Kk _ acc l (aq _)).lim
theorem Kl (acc:List (List UInt8)) (l:List Tk):xQ acc l=(if aA [44] l=true then ar (fO l.tail) fun s r=>xQ (acc++[s]) r else .ok (acc,l)):=
 iL (j3 (fun f=>by rw[oz]) (by
  refine cQ ?_ (bm _)
  exact bG (bm _) fun s r=>M3 _ _))
noncomputable def iF (w:List UInt8) (l:List Tk):PR (List (List UInt8)):=if aA w l=true then ar (fO l.tail) fun s r=>xQ [s] r else .ok ([],l)
theorem N9 (w:List UInt8) (l:List Tk):dh (fun f=>uz f w l) (iF w l):=by
 unfold uz iF;refine cQ ?_ (bm _);exact bG (bm _) fun s r=>M3 _ _
theorem Mk (w:List UInt8) (l:List Tk):Tot false (fun f=>uz f w l) l:=by
 unfold uz;refine cD (fun h=> ?_) fun _=>ja
 exact pZ (bW l) (kP false (bJ (b:=false) (vw _) fun s r _ _=>Kk _ _ r (aq _)) fun h=>by cases h)
noncomputable def mA (l:List Tk):PR Cd:=
 if aA G6 (bl iY 0 l).2=true then ar (fO (bl iY 0 l).2.tail) fun n r=>ar (iF iG r) fun is r2=>aR [123] r2 fun r3=> .ok (⟨(bl iY 0 l).1+1536,n,jX,is,[],[],[]⟩,r3)
 else aR kM (bl jm (bl iY 0 l).1 (bl iY 0 l).2).2 fun r=>ar (fO r) fun n r2=>aR iG r2 fun r3=>ar (fO r3) fun sp r4=>ar (iF mI r4) fun is r5=>aR [123] r5 fun r6=>
  .ok (⟨(bl jm (bl iY 0 l).1 (bl iY 0 l).2).1,n,sp,is,[],[],[]⟩,r6)
theorem Ys (l:List Tk):dh (fun f=>vQ f l) (mA l):=by
 unfold vQ mA;refine cQ ?_ (nc ?_)
 ·refine bG (bm _) fun n r=> ?_
  exact bG (N9 _ _) fun is r2=>bm _
 ·refine bG (bm _) fun n r2=>nc ?_
  refine bG (bm _) fun sp r4=> ?_
  exact bG (N9 _ _) fun is r5=>bm _
theorem Ui (l:List Tk):Tot true (fun f=>vQ f l) l:=by
 unfold vQ;have s1:=rX iY 0 l;have s2:=(rX jm (bl iY 0 l).1 (bl iY 0 l).2).trans s1;refine cD (fun h=>pZ s1 ?_) fun _=>pZ s2 ?_
 ·exact jw (bW _) (dE (bo h)) (bJ (b:=true) (vw _) fun n r _ _=>bJ (a:=false) (b:=true) (Mk _ _) fun is r2 _ _=>gC (a:=false) fun _ _=>ja)
 ·exact gC (a:=true) fun _ _=>bJ (b:=true) (vw _) fun n r2 _ _=>gC (a:=true) fun _ _=>bJ (b:=true) (vw _) fun sp r4 _ _=>bJ (a:=false) (b:=true) (Mk _ _) fun is r5 _ _=>gC (a:=false) fun _ _=>ja
noncomputable def BA (l:List Tk):PR Cd:=ar (mA l) fun d r=>Ah d r
theorem OO (l:List Tk):dh (fun f=>Bz f l) (BA l):=bG (Ys l) fun d r=>NO d r
theorem Nu (l:List Tk):Tot true (fun f=>Bz f l) l:=bJ (b:=true) (Ui l) fun d r _ _=>K9 _ d r (aq _)
theorem T4:∀(N:Nat) (acc:List Cd) (l:List Tk),l.length<=N->Tot false (fun f=>pq f acc l) l:=fun N=>by
 have step:∀(acc:List Cd) (l:List Tk),(∀a (r:List Tk),r.length<l.length->Tot false (fun f=>pq f a r) r)->Tot false (fun f=>pq f acc l) l:=fun acc l ih=>by
  refine ju (h:=fun f=>if l=[] then .ok (acc,[]) else ar (Bz f l) fun d r=>pq f (acc++[d]) r) (fun f=>by rw[pq]) ?_;refine cD (fun h=>gF _ (by rw[h];exact List.suffix_refl _) fun h=>by cases h) fun _=> ?_
  exact kP false (bJ (b:=false) (Nu l) fun d r _ h2=>ih _ r (h2 rfl)) fun h=>by cases h
 induction N with
 |zero=>intro acc l h;exact step acc l fun a r hr=>by omega
 |succ N ih=>intro acc l h;exact step acc l fun a r hr=>ih a r (by omega)
noncomputable def oD (acc:List Cd) (l:List Tk):PR (List Cd):=iR fun f=>pq f acc l
theorem NM (acc:List Cd) (l:List Tk):dh (fun f=>pq f acc l) (oD acc l):=(T4 _ acc l (aq _)).lim
theorem KO (acc:List Cd) (l:List Tk):oD acc l=(if l=[] then .ok (acc,[]) else ar (BA l) fun d r=>oD (acc++[d]) r):=
 iL (j3 (fun f=>by rw[pq]) (cQ (bm _) (bG (OO l) fun d r=>NM _ _)))
theorem C7 (ts:List Tk) (i:Nat):aP ts i=(ts.drop i).headD zT:=by
 rw[aP,List.getD_eq_getElem?_getD,List.headD_eq_head?_getD,List.head?_drop]
theorem om (ts:List Tk) (i:Nat):mb (ts.drop i)=(aP ts i).k:=by
 rw[C7];cases ts.drop i<;>rfl
theorem j4 (ts:List Tk) (i:Nat):kp (ts.drop i)=(aP ts i).s:=by
 rw[C7];cases ts.drop i<;>rfl
theorem Mp (ts:List Tk) (i:Nat):tv (ts.drop i)=(aP ts i).n:=by
 rw[C7];cases ts.drop i<;>rfl
theorem an (ts:List Tk) (i:Nat) (w:List UInt8):ai ts i w=aA w (ts.drop i):=by
 rw[ai,C7];cases ts.drop i with
 |nil=>simp [zT,aA]
 |cons t r=>rfl
def lQ (en:Int):List Tk->Int
 |[]=>en
 |t::_=>t.at_
structure Inv (ts:List Tk) (s:PSt):Prop where
 le:s.i<=ts.length
 fl:s.fl=true->s.i=ts.length
structure Res {α:Type} (ts:List Tk) (en:Int) (s:PSt) (K:PR α) (a:α) (s' :PSt):Prop where
 inv:Inv ts s'
 mono:s.i<=s'.i
 fl:s.fl=true->s' =s
 ok:s.fl=false->∀x r,K= .ok (x,r)->a=x/\s'.fl=false/\r=ts.drop s'.i
 er:s.fl=false->∀r,K= .error r->s'.fl=true/\s'.off=lQ en r
def aQ (ts:List Tk) (en:Int) (s:PSt) (w:List UInt8):PSt:=if ai ts s.i w=true then s.next else jy ts en s
section
variable {ts:List Tk} {en:Int} {s s1 s' :PSt} {α β:Type}
theorem vC {i:Nat} (h:ts.length<=i):aP ts i=zT:=by rw[aP,List.getD_eq_getElem?_getD,List.getElem?_eq_none h];rfl
theorem zL {i:Nat} (h:i<ts.length):aP ts i=ts[i]:=by rw[aP,List.getD_eq_getElem?_getD,List.getElem?_eq_getElem h];rfl
theorem Inv.nfl (h:Inv ts s) (hi:s.i<ts.length):s.fl=false:=by
 cases e:s.fl with
 |false=>rfl
 |true=>have:=h.fl e;omega
theorem Inv.next (h:Inv ts s) (hi:s.i<ts.length):Inv ts s.next:=⟨hi,fun e=>by
 have:=h.nfl hi;have e:s.fl=true:=e
 rw[this] at e;cases e⟩
theorem J6 (h:Inv ts s):Inv ts (jy ts en s):=by
 unfold jy;split
 ·exact h
 ·exact⟨aq _,fun _=>rfl⟩
theorem FQ (h:Inv ts s):s.i<=(jy ts en s).i:=by
 unfold jy;split
 ·exact aq _
 ·exact h.le
theorem zA (s:PSt):(jy ts en s).fl=true:=by
 unfold jy;split
 ·assumption
 ·rfl
theorem Jv (h:s.fl=true):jy ts en s=s:=by rw[jy,ah h]
theorem Kb (h:s.fl=false):(jy ts en s).off=lQ en (ts.drop s.i):=by
 rw[jy,ae (by rw[h];decide)];show(if _ then _ else _)=_;split
 ·rename_i hi;rw[zL hi,List.drop_eq_getElem_cons hi];rfl
 ·rename_i hi;rw[List.drop_eq_nil_of_le (by omega)];rfl
theorem bI (a:α) (hs:Inv ts s):Res ts en s (.ok (a,ts.drop s.i)) a s:=
 ⟨hs,aq _,fun _=>rfl,fun h x r e=>by cases e;exact⟨rfl,h,rfl⟩,fun _ r e=>by cases e⟩
theorem Cp (a:α) (hs:Inv ts s):Res ts en s (.error (ts.drop s.i)) a (jy ts en s):=
 ⟨J6 hs,FQ hs,Jv,fun _ x r e=>by(cases e),fun h r e=>by cases e;exact⟨zA s,Kb h⟩⟩
theorem aO {K1:PR α} {K2:α->List Tk->PR β} {a:α} {b:β} (h1:Res ts en s K1 a s1) (h2:Res ts en s1 (K2 a (ts.drop s1.i)) b s'):Res ts en s (ar K1 K2) b s' :=by
 refine⟨h2.inv,cg h1.mono h2.mono,fun h=> ?_,fun h x r e=> ?_,fun h r e=> ?_⟩
 ·have:=h1.fl h;subst this;exact h2.fl h
 ·cases hK:K1 with
  |error r1=>rw[hK] at e;cases e
  |ok p=>
   obtain⟨x1,r1⟩:=p;obtain⟨rfl,q2,rfl⟩:=h1.ok h x1 r1 hK;rw[hK] at e;exact h2.ok q2 x r e
 ·cases hK:K1 with
  |error r1=>
   rw[hK] at e;cases e;obtain⟨q1,q2⟩:=h1.er h _ hK;have:=h2.fl q1;subst this;exact⟨q1,q2⟩
  |ok p=>
   obtain⟨x1,r1⟩:=p;obtain⟨rfl,q2,rfl⟩:=h1.ok h x1 r1 hK;rw[hK] at e;exact h2.er q2 r e
theorem eo {w:List UInt8} (h:Inv ts s):Inv ts (aQ ts en s w):=by
 unfold aQ;split
 ·rename_i e;exact h.next (aN e)
 ·exact J6 h
theorem fR {w:List UInt8} (h:Inv ts s):s.i<=(aQ ts en s w).i:=by
 unfold aQ;split
 ·exact Nat.le_succ _
 ·exact FQ h
theorem bt {K:PR α} {a:α} (hs:Inv ts s) (hi:s.i<ts.length) (h:Res ts en s.next K a s'):Res ts en s K a s' :=by
 have hf:=hs.nfl hi;exact⟨h.inv,cg (Nat.le_succ _) h.mono,fun e=>(by rw[hf] at e;cases e),fun e=>h.ok e,fun e=>h.er e⟩
theorem bk (ts:List Tk) (s:PSt):ts.drop s.next.i=(ts.drop s.i).tail:=by
 rw[List.tail_drop];rfl
theorem Vf {k:List Tk->PR α} {a:α} (hs:Inv ts s) (hi:s.i<ts.length) (h:Res ts en s.next (k (ts.drop s.next.i)) a s'):Res ts en s (k (ts.drop s.i).tail) a s' :=by
 rw[<- bk];exact bt hs hi h
theorem dn {k:List Tk->PR α} {a:α} {w:List UInt8} (hs:Inv ts s) (h:Res ts en (aQ ts en s w) (k (ts.drop (aQ ts en s w).i)) a s'):Res ts en s (aR w (ts.drop s.i) k) a s' :=by
 unfold aR;rw[<- an];unfold aQ at h;by_cases hc:ai ts s.i w=true
 ·rw[ah hc] at h ⊢;exact Vf hs (aN hc) h
 ·rw[ae hc] at h ⊢;refine⟨h.inv,cg (FQ hs) h.mono,fun e=> ?_,fun _ x r e=>by(cases e),fun e r e2=> ?_⟩
  ·rw[Jv e] at h;exact h.fl e
  ·cases e2;have:=h.fl (zA s);rw[this];exact⟨zA s,Kb e⟩
end
theorem Fq:∀(f g:Nat) (t:Ty) (l:List Tk),l.length<=f->l.length<=g->lJ f t l=lJ g t l
 |0,0,_,_,_,_=>rfl
 |0,g+1,t,l,h,_=>by
  have hl:l=[]:=List.length_eq_zero_iff.1 (by omega);subst hl;rw[lJ,lJ];rfl
 |f+1,0,t,l,_,h=>by
  have hl:l=[]:=List.length_eq_zero_iff.1 (by omega);subst hl;rw[lJ,lJ];rfl
 |f+1,g+1,t,l,h1,h2=>by
  rw[lJ,lJ];by_cases h:aA [91] l=true
  ·rw[ah h,ah h];unfold aR;have q1:=dE (bo h);have q2:=fJ (bW l.tail);dsimp only;rw[Fq f g t.up l.tail.tail (by omega) (by omega)]
  ·rw[ae h,ae h]
theorem FI:∀(f g:Nat) (t:Ty) (l:List Tk),l.length<=f->l.length<=g->kE f t l=kE g t l
 |0,0,_,_,_,_=>rfl
 |0,g+1,t,l,h,_=>by
  have hl:l=[]:=List.length_eq_zero_iff.1 (by omega);subst hl;rw[kE,kE];rfl
 |f+1,0,t,l,_,h=>by
  have hl:l=[]:=List.length_eq_zero_iff.1 (by omega);subst hl;rw[kE,kE];rfl
 |f+1,g+1,t,l,h1,h2=>by
  rw[kE,kE];by_cases h:aA [93] l=true
  ·rw[ah h,ah h];unfold aR;have q1:=dE (bo h);have q2:=fJ (bW l.tail);dsimp only;rw[FI f g t.up l.tail.tail (by omega) (by omega)]
  ·rw[ae h,ae h]
def uj (t:Ty) (l:List Tk):PR Ty:=lJ l.length t l
def sR (t:Ty) (l:List Tk):PR Ty:=kE l.length t l
theorem FU (t:Ty) (l:List Tk):uj t l=(if aA [91] l=true then aR [93] l.tail fun r=>uj t.up r else .ok (t,l)):=by
 rw[uj,Fq l.length (l.length+1) t l (aq _) (by omega),lJ];by_cases h:aA [91] l=true
 ·rw[ah h,ah h];unfold aR;have q1:=fJ (bW l);have q2:=fJ (bW l.tail);dsimp only;rw[uj,Fq l.length l.tail.tail.length t.up l.tail.tail (by omega) (aq _)]
 ·rw[ae h,ae h]
theorem zH (t:Ty) (l:List Tk):sR t l=(if aA [93] l=true then aR [91] l.tail fun r=>sR t.up r else .ok (t,l)):=by
 rw[sR,FI l.length (l.length+1) t l (aq _) (by omega),kE];by_cases h:aA [93] l=true
 ·rw[ah h,ah h];unfold aR;have q1:=fJ (bW l);have q2:=fJ (bW l.tail);dsimp only;rw[sR,FI l.length l.tail.tail.length t.up l.tail.tail (by omega) (aq _)]
 ·rw[ae h,ae h]
section
variable {t:Tk} {a b:List Tk}
end
theorem MI (l:List Tk):fr l=ar (jz l) fun t r=>uj t r:=rfl
end Go.Proofs.YtimddhkipjedcaaGreatDoor.E
namespace Go.Proofs.YtimddhkipjedcaaGreatDoor.E
open Go Go.RowKit
theorem Sn (s:List UInt8) (c:UInt8) (m:Mem):FnH Tryz.prog 228 [.v (.string (bs s)),.v (.string (bs [c]))] ⟨[],[]⟩ m fun r H' _=>r= .v (.bool (s.contains c))/\H' =⟨[],[]⟩:=by
 refine(Db (args:=[.string (bs s),.string (bs [c])]) (R:=fun y=>y= .bool (s.contains c)) fun w D jN hle=> ?_).mono ?_
 ·refine(Tryz.strings_Contains_one (bs s) c w).mono ?_;rintro e w' ⟨rfl,rfl⟩;refine⟨_,rfl,?_,Below.refl _ _⟩;rw[Lib.contains_iff_indexByte];rfl
 ·rintro r H' m' hm ⟨⟨y,rfl,rfl⟩,h1,h2⟩;exact⟨rfl,h1⟩
end Go.Proofs.YtimddhkipjedcaaGreatDoor.E

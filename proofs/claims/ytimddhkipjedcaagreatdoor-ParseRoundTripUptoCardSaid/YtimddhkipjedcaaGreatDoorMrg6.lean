/- Several texts in one. -/
import Derived.Test.YtimddhkipjedcaaGreatDoorMrg5
set_option linter.unusedSimpArgs false
set_option linter.unusedVariables false
set_option maxHeartbeats 4000000
set_option maxRecDepth 20000
namespace Go.Proofs.YtimddhkipjedcaaGreatDoor.E
open Go
section
variable {ts:List Tk} {en:Int} {s:PSt}
theorem dR {w:List UInt8} (hT:TsB ts) (h:bC ts s.i w=true) (m:Mem):FnH Tryz.prog 49 [.box 0 0,.v (.string (bs w))] (pH ts en s) m fun r H' m' =>ae m m' /\r= .v (.bool true)/\H' =pH ts en s.next:=
 (uD ts en s w m hT.l8).mono fun r H' m2 _ q=>⟨q.1,by have:=q.2.1;rw[h] at this;exact this,by have:=q.2.2;rw[ah h] at this;exact this⟩
theorem dS {w:List UInt8} (hT:TsB ts) (h:¬bC ts s.i w=true) (m:Mem):FnH Tryz.prog 49 [.box 0 0,.v (.string (bs w))] (pH ts en s) m fun r H' m' =>ae m m' /\r= .v (.bool false)/\H' =pH ts en s:=
 (uD ts en s w m hT.l8).mono fun r H' m2 _ q=>⟨q.1,by have:=q.2.1;rw[(by simpa using h:bC ts s.i w=false)] at this;exact this,by have:=q.2.2;rw[af h] at this;exact this⟩
theorem nv {w:List UInt8} (hT:TsB ts) (h:bC ts s.i w=true) (m:Mem):FnH Tryz.prog 74 [.box 0 0,.v (.string (bs w))] (pH ts en s) m fun r H' m' =>ae m m' /\r= .v (.bool true)/\H' =pH ts en s:=
 (Fe ts en s w m hT.l8).mono fun r H' m2 _ q=>⟨q.1,by have:=q.2.1;rw[h] at this;exact this,q.2.2⟩
theorem nw {w:List UInt8} (hT:TsB ts) (h:¬bC ts s.i w=true) (m:Mem):FnH Tryz.prog 74 [.box 0 0,.v (.string (bs w))] (pH ts en s) m fun r H' m' =>ae m m' /\r= .v (.bool false)/\H' =pH ts en s:=
 (Fe ts en s w m hT.l8).mono fun r H' m2 _ q=>⟨q.1,by have:=q.2.1;rw[(by simpa using h:bC ts s.i w=false)] at this;exact this,q.2.2⟩
theorem aeL {α:Type} {K:PR α} {a:α} {s' :PSt} (h:Res ts en s K a s') (hI:Inv ts s) (hi:s.i<ts.length) (hK:∀x r,K= .ok (x,r)->r.length<(ts.drop s.i).length):s.i<s'.i:=by
 have hf:=hI.nfl hi;cases e:K with
 |error r=>
  have:=h.inv.fl (h.er hf r e).1;omega
 |ok p=>
  obtain⟨x,r⟩:=p;obtain⟨_,_,rfl⟩:=h.ok hf x r e;have:=hK x _ e;simp only[dG] at this;omega
def GF (l:List Tk):PR Ex:=if gR l=3 then .ok (.mk 1 (sW l) [] [] ai [],l.tail) else if gR l=4 then .ok (.mk 2 (sW l) [] [] ai [],l.tail) else .ok (.mk 3 0 (j7 l) [] ai [],l.tail)
noncomputable def T6 (l:List Tk):PR Ex:=an (fz l) fun c r=>aV [46] r fun r2=>an (da r2) fun s r3=>if az [40] r3=true then an (oY r3) fun es r4=> .ok (.mk 11 0 s c ai es,r4) else .ok (.mk 8 0 s c ai [],r3)
noncomputable def ajf (l:List Tk):PR Ex:=aV [46] l fun r=>an (da r) fun s r2=>an (oY r2) fun es r3=> .ok (.mk 12 0 s [] ai es,r3)
noncomputable def Lz (l:List Tk):PR Ex:=an (jq l) fun t r=>
 if t.base=76/\az [40] r=true then an (oY r) fun es r2=> .ok (.mk 13 0 [] t.name ai es,r2)
 else aV [91] r fun r2=>an (yx t r2) fun t2 r3=>an (dQ 0 r3) fun e r4=>aV [93] r4 fun r5=> .ok (.mk 14 0 [] [] t2 [e],r5)
noncomputable def ah5 (k:Int) (l:List Tk):PR Ex:=an (oL l) fun e r=> .ok (.mk k 0 [] [] ai [e],r)
theorem Yd (hT:TsB ts) (hI:Inv ts s) (m:Mem):FnH Tryz.prog 206 [.box 0 0] (pH ts en s) m (gX ts en s (an (da (ts.drop s.i)) fun w r=> .ok (.mk 6 0 w [] ai [],r)) m):=by
 have h1:=fun m' =>rC ts en s m' hT hI
 refine aR aB Tryz.func206 ?_
 ·simp only[go_sem];refine ab ((h1 m).mono ?_);clear h1;rintro r H' m1 aN ⟨l1,w,s1,rfl,hw,rfl,hR⟩;simp only[go_sem];exact⟨l1,⟨6,0,w,[],ai,none,0,0⟩,.mk 6 0 w [] ai [],s1,rfl,uR ⟨by decide,by decide⟩ ⟨by decide,by decide⟩ hw (aD _) gn,rfl,aW hR (cL _ hR.inv)⟩
theorem J0 (hT:TsB ts) (k:Int) (hk:aF k) (hP:Ga ts en s) (m:Mem):FnH Tryz.prog 239 [.box 0 0,.v (.int .i64 k)] (pH ts en s) m (gX ts en s (ah5 k (ts.drop s.i)) m):=by
 refine pF (aR aB Tryz.func239 ?_)
 ·simp only[go_sem];refine ab ((hP m).mono ?_);clear hP;rintro r H' m1 aN ⟨l1,x,e,s1,rfl,hx,rfl,hR⟩;simp only[go_sem];exact rI 7 rfl rfl (pH ts en s1) (List.Sublist.refl _) (.cons _ (List.Sublist.refl _)) fun a cp mm w1 w2 w3=>⟨aa l1 (.inr w1),⟨k,0,[],[],ai,a,1,cp⟩,.mk k 0 [] [] ai [e],s1,rfl,lC (es:=[e]) hk ⟨by decide,by decide⟩ (aD _) (aD _) gn (by simp) w2 w3 (qL (bq (.inr w1) hx)),rfl,aW hR (cL _ hR.inv)⟩
theorem WV (hT:TsB ts) (hI:Inv ts s) (hi:s.i<ts.length) (m:Mem):FnH Tryz.prog 205 [.box 0 0] (pH ts en s) m (gX ts en s (GF (ts.drop s.i)) m):=by
 have hp:=zN ts en s m hT.l8;have hl:=hT.len;have hn:=hT.cn s.i;have hs:=hT.cs s.i;rw[GF,xV,adm,uT,<- b7];refine aR aB Tryz.func205 ?_
 ·simp only[go_sem];refine ab (hp.mono ?_);clear hp;rintro r H' m1 aN ⟨rfl,rfl⟩;simp only[go_sem];refine⟨by unfold aF;omega,fun h3=> ?_,fun h3=>⟨fun h4=> ?_,fun h4=> ?_⟩⟩
  ·rw[ah h3];exact⟨.inr aN,⟨1,(fE ts s.i).n,[],[],ai,none,0,0⟩,_,s.next,rfl,uR ⟨by decide,by decide⟩ hn (aD _) (aD _) gn,rfl,cv hI hi (cL _ (hI.next hi))⟩
  ·rw[af h3,ah h4];exact⟨.inr aN,⟨2,(fE ts s.i).n,[],[],ai,none,0,0⟩,_,s.next,rfl,uR ⟨by decide,by decide⟩ hn (aD _) (aD _) gn,rfl,cv hI hi (cL _ (hI.next hi))⟩
  ·rw[af h3,af h4];exact⟨.inr aN,⟨3,0,(fE ts s.i).s,[],ai,none,0,0⟩,_,s.next,rfl,uR ⟨by decide,by decide⟩ ⟨by decide,by decide⟩ hs (aD _) gn,rfl,cv hI hi (cL _ (hI.next hi))⟩
theorem YP (hT:TsB ts) (hI:Inv ts s) (hc:gp (ts.drop s.i)=true) (hA:∀s1,Inv ts s1->s.i<s1.i->wI ts en s1) (m:Mem):FnH Tryz.prog 207 [.box 0 0] (pH ts en s) m (gX ts en s (T6 (ts.drop s.i)) m):=by
 have h1:=fun m' =>px ts en s m' hT hI
 have hi:=SF hc;refine aR aB Tryz.func207 ?_
 ·simp only[go_sem];refine ab ((h1 m).mono ?_);clear h1;rintro r H' m1 aN ⟨l1,c,s1,rfl,cu,rfl,ep⟩;simp only[go_sem];have aw:s.i<s1.i:=aeL ep hI hi fun x r e=>by
   rw[fz,ah hc] at e;cases e;have db:ts.drop s.i≠[]:=fun e=>by rw[e] at hc;cases hc
   exact eB db
  have h2:=fun m' =>fu ts en s1 [46] m' hT.l8
  have xD:Inv ts (aZ ts en s1 [46]):=fB ep.inv;have aY:s1.i<=(aZ ts en s1 [46]).i:=gZ ep.inv;have h3:=fun m' =>rC ts en (aZ ts en s1 [46]) m' hT xD
  refine ab ((h2 m1).mono ?_);clear h2;rintro r H' m2 aH ⟨l2,rfl,rfl⟩;simp only[go_sem];refine ab ((h3 m2).mono ?_);clear h3;rintro r H' m3 bI ⟨l3,w,s3,rfl,hw,rfl,hR3⟩;simp only[go_sem];have lH:=hR3.mono;by_cases h40:bC ts s3.i [40]=true
  ·have h4:=nv (en:=en) hT h40;have h5:=hA s3 hR3.inv (by omega);clear hA;refine ab ((h4 m3).mono ?_);clear h4;rintro r H' m4 cQ ⟨l4,rfl,rfl⟩;simp only[go_sem];refine ab ((h5 m4).mono ?_);clear h5;rintro r H' m5 cK ⟨l5,es,a,cp,xs,s5,rfl,ha1,ha2,ha3,ha4,rfl,hR5⟩;simp only[go_sem];refine⟨(aa (aa (aa (aa l1 l2) l3) l4) l5),⟨11,0,w,c,ai,a,es.length,cp⟩,.mk 11 0 w c ai es,s5,rfl,lC ⟨by decide,by decide⟩ ⟨by decide,by decide⟩ hw cu gn (Nat.le_succ_of_le ha2) ha1 ha3 ha4,rfl,?_⟩;refine aW ep (dZ ep.inv (aW hR3 ?_));rw[ah (by rw[<- ax];exact h40)];exact aW hR5 (cL _ hR5.inv)
  ·have h4:=nw (en:=en) hT h40;clear hA;refine ab ((h4 m3).mono ?_);clear h4;rintro r H' m4 cQ ⟨l4,rfl,rfl⟩;simp only[go_sem];refine⟨(aa (aa (aa l1 l2) l3) l4),⟨8,0,w,c,ai,none,0,0⟩,.mk 8 0 w c ai [],s3,rfl,uR ⟨by decide,by decide⟩ ⟨by decide,by decide⟩ hw cu gn,rfl,?_⟩;refine aW ep (dZ ep.inv (aW hR3 ?_));rw[af (by rw[<- ax];exact h40)];exact cL _ hR3.inv
theorem acu (hT:TsB ts) (hI:Inv ts s) (hA:∀s1,Inv ts s1->s.i<=s1.i->wI ts en s1) (m:Mem):FnH Tryz.prog 237 [.box 0 0] (pH ts en s) m (gX ts en s (ajf (ts.drop s.i)) m):=by
 have h2:=fun m' =>fu ts en s [46] m' hT.l8
 have xD:Inv ts (aZ ts en s [46]):=fB hI;have aY:s.i<=(aZ ts en s [46]).i:=gZ hI;have h3:=fun m' =>rC ts en (aZ ts en s [46]) m' hT xD
 refine aR aB Tryz.func237 ?_
 ·simp only[go_sem];refine ab ((h2 m).mono ?_);clear h2;rintro r H' m1 aN ⟨l1,rfl,rfl⟩;simp only[go_sem];refine ab ((h3 m1).mono ?_);clear h3;rintro r H' m2 aH ⟨l2,w,s3,rfl,hw,rfl,hR3⟩;simp only[go_sem];have lH:=hR3.mono;have h5:=hA s3 hR3.inv (by omega);clear hA;refine ab ((h5 m2).mono ?_);clear h5;rintro r H' m3 bI ⟨l3,es,a,cp,xs,s5,rfl,ha1,ha2,ha3,ha4,rfl,hR5⟩;simp only[go_sem];exact⟨(aa (aa l1 l2) l3),⟨12,0,w,[],ai,a,es.length,cp⟩,.mk 12 0 w [] ai es,s5,rfl,lC ⟨by decide,by decide⟩ ⟨by decide,by decide⟩ hw (aD _) gn (Nat.le_succ_of_le ha2) ha1 ha3 ha4,rfl,dZ hI (aW hR3 (aW hR5 (cL _ hR5.inv)))⟩
end
@[reducible] def A5 (k:Nat):Bx:=⟨k,33,[.v (.int .i64 0),.v (.int .i64 0),.v (.string (bs [])),.v (.string (bs [])),.v (.int .i64 0),.v (.int .u8 0),.v (.string (bs [])),.v (.slice none 0 0)]⟩
attribute [go_sem] A5
noncomputable def UE (t2:Ty) (r3:List Tk):PR Ex:=an (dQ 0 r3) fun e r4=>aV [93] r4 fun r5=> .ok (.mk 14 0 [] [] t2 [e],r5)
theorem SH {α β:Type} {w:List UInt8} {l:List Tk} {k:List Tk->PR α} {F:α->List Tk->PR β}:an (aV w l k) F=aV w l fun r=>an (k r) F:=by
 unfold aV;split<;>rfl
section
variable {ts:List Tk} {en:Int} {s:PSt}
theorem Xx (hT:TsB ts) (hI:Inv ts s) (hA:∀s1,Inv ts s1->s.i<=s1.i->wI ts en s1) (hE:∀s1,Inv ts s1->s.i<=s1.i->oZ ts en 0 s1) (m:Mem):FnH Tryz.prog 238 [.box 0 0] (pH ts en s) m (gX ts en s (Lz (ts.drop s.i)) m):=by
 have h1:=fun m' =>NZ ts en s m' hT hI
 refine pF (aR aB Tryz.func238 ?_)
 ·simp only[go_sem];refine ab ((h1 m).mono ?_);clear h1;rintro r H' m1 aN ⟨l1,t1,s1,rfl,ht1,ht2,ht3,rfl,ep⟩;simp only[go_sem];have lW:=ep.mono;refine⟨fun hb=> ?_,fun hb=> ?_⟩
  ·by_cases h40:bC ts s1.i [40]=true
   ·have h2:=nv (en:=en) hT h40;have h3:=hA s1 ep.inv lW;clear hA hE;refine ab ((h2 m1).mono ?_);clear h2;rintro r H' m2 aH ⟨l2,rfl,rfl⟩;simp only[go_sem];refine bO (.hoist 0 (.hoist 1 (.hoist 2 (.alt 3 [1,0] (.hoist 4 (.alt 5 [] .done .stop)) .stop)))) aB (by kernel_rfl) (by kernel_rfl) ?_;simp only[go_sem];refine ab ((h3 m2).mono ?_);clear h3;rintro r H' m3 bI ⟨l3,es,a,cp,xs,s5,rfl,ha1,ha2,ha3,ha4,rfl,hR5⟩;simp only[go_sem];refine⟨⟨l3,l3⟩,.inl ⟨(aa (aa l1 l2) l3),⟨13,0,[],t1.name,ai,a,es.length,cp⟩,.mk 13 0 [] t1.name ai es,s5,rfl,lC ⟨by decide,by decide⟩ ⟨by decide,by decide⟩ (aD _) ht3 gn (Nat.le_succ_of_le ha2) ha1 ha3 ha4,rfl,?_⟩⟩;refine aW ep ?_;rw[ah ⟨hb,by rw[<- ax];exact h40⟩];exact aW hR5 (cL _ hR5.inv)
   ·have h2:=nw (en:=en) hT h40;refine ab ((h2 m1).mono ?_);clear h2;rintro r H' m2 aH ⟨l2,rfl,rfl⟩;simp only[go_sem];have h2:=fun m' =>fu ts en s1 [91] m' hT.l8
    have xD:Inv ts (aZ ts en s1 [91]):=fB ep.inv;have aY:s1.i<=(aZ ts en s1 [91]).i:=gZ ep.inv;clear hA;refine ab ((h2 m2).mono ?_);clear h2;rintro r H' m3 bI ⟨l3,rfl,rfl⟩;simp only[go_sem];refine dA aB (fun y:PSt×Ty×Mem=>⟨[⟨0,[],.box 0 0⟩,⟨2,[],.box 2 0⟩,⟨3,[],.box 5 0⟩],[],[⟨5,30,[.v (.int .i64 y.2.1.dim),.v (.int .u8 y.2.1.base),.v (.string (bs y.2.1.name))]⟩,na en y.1,A5 2],[kM ts],40,y.2.2⟩)
     (fun y=>ae m3 y.2.2/\Inv ts y.1/\s.i<=y.1.i/\y.2.1.name.length<=1000000/\(0<=y.2.1.base/\y.2.1.base<256)/\(0<=y.2.1.dim/\y.2.1.dim<=y.1.i)/\∀a s',Res ts en y.1 (an (yx y.2.1 (ts.drop y.1.i)) UE) a s' ->Res ts en s (Lz (ts.drop s.i)) a s')
     (fun y=>ts.length - y.1.i) (aZ ts en s1 [91],t1,m3) (fun _ _=>dC rfl) (fun y hy=>hy.1) ?_ ?_ ?_
    ·simp only[go_sem]
    ·exact⟨.inl rfl,xD,by dsimp only;omega,ht3,ht2,⟨by dsimp only;omega,by dsimp only;omega⟩,fun a s' h=>aW ep (by rw[af (fun q=>h40 (by rw[ax];exact q.2))];exact dZ ep.inv h)⟩
    ·rintro⟨s4,t4,m4⟩ ⟨q1,q2,q3,q4,q5,q6,q7⟩;dsimp only at q1 q2 q3 q4 q5 q6 q7;have hl:=hT.len;have dv:=q2.le;by_cases h93:bC ts s4.i [93]=true
     ·have ha:=dR (en:=en) hT h93;have hi:=bF h93;have gj:=q2.next hi;have he:=fun m' =>fu ts en s4.next [91] m' hT.l8
      have zk:Inv ts (aZ ts en s4.next [91]):=fB gj;have tX:s4.i+1<=(aZ ts en s4.next [91]).i:=gZ gj;clear hE;simp only[go_sem];refine ab ((ha m4).mono ?_);clear ha;rintro r H' m5 cK ⟨l5,rfl,rfl⟩;simp only[go_sem];refine⟨by unfold aF;omega,by kernel_rfl,bo ((he m5).mono ?_)⟩;clear he;rintro r H' m6 ej ⟨l6,rfl,rfl⟩;simp only[go_sem];refine⟨(aZ ts en s4.next [91],t4.up,m6),⟨⟨⟨rfl,rfl,rfl⟩,⟨rfl,rfl,rfl⟩⟩,.inl rfl⟩,⟨aa q1 (aa l5 l6),zk,by dsimp only;omega,q4,q5,⟨by show 0<=t4.dim+1;omega,by show t4.dim+1<=((aZ ts en s4.next [91]).i:Int);omega⟩,fun a s' h=>q7 a s' ?_⟩,by dsimp only;omega⟩;rw[FH,ah (by rw[<- ax];exact h93),<- b7,SH];exact cv q2 hi (dZ gj h)
     ·have ha:=dS (en:=en) hT h93;have he:=hE s4 q2 q3;have xu:∀m' :Mem,FnH Tryz.prog 31 [.box 0 0,.v (.int .i64 0)] (pH ts en s4) m' (gX ts en s4 (dQ 0 (ts.drop s4.i)) m'):=he;clear hE he;simp only[go_sem];refine ab ((ha m4).mono ?_);clear ha;rintro r H' m5 cK ⟨l5,rfl,rfl⟩;simp only[go_sem];refine ab ((xu m5).mono ?_);clear xu;rintro r H' m6 ej ⟨l6,x,e,s6,rfl,hx,rfl,hR6⟩;have h7:=fun m' =>fu ts en s6 [93] m' hT.l8
      simp only[go_sem];refine ab ((h7 m6).mono ?_);clear h7;rintro r H' m7 eW ⟨l7,rfl,rfl⟩;simp only[go_sem];exact rI 7 rfl rfl (pH ts en (aZ ts en s6 [93])) (List.Sublist.refl _) (.cons _ (List.Sublist.refl _)) fun a cp mm w1 w2 w3=>⟨aa (aa (aa (aa l1 l2) l3) (aa q1 (aa l5 (aa l6 l7)))) (.inr w1),⟨14,0,[],[],t4,a,1,cp⟩,.mk 14 0 [] [] t4 [e],(aZ ts en s6 [93]),rfl,lC (es:=[e]) ⟨by decide,by decide⟩ ⟨by decide,by decide⟩ (aD _) (aD _) ⟨by unfold aF;omega,q5,by unfold aq;omega⟩ (by simp) w2 w3 (qL (bq (aa l7 (.inr w1)) hx)),rfl,q7 _ _ (by rw[FH,af (by rw[<- ax];exact h93)];exact aW (cL t4 q2) (aW hR6 (dZ hR6.inv (cL _ (fB hR6.inv)))))⟩
  ·have h2:=fun m' =>fu ts en s1 [91] m' hT.l8
   have xD:Inv ts (aZ ts en s1 [91]):=fB ep.inv;have aY:s1.i<=(aZ ts en s1 [91]).i:=gZ ep.inv;clear hA;refine ab ((h2 m1).mono ?_);clear h2;rintro r H' m2 aH ⟨l2,rfl,rfl⟩;simp only[go_sem];refine dA aB (fun y:PSt×Ty×Mem=>⟨[⟨0,[],.box 0 0⟩,⟨2,[],.box 2 0⟩,⟨3,[],.box 5 0⟩],[],[⟨5,30,[.v (.int .i64 y.2.1.dim),.v (.int .u8 y.2.1.base),.v (.string (bs y.2.1.name))]⟩,na en y.1,A5 2],[kM ts],40,y.2.2⟩)
    (fun y=>ae m2 y.2.2/\Inv ts y.1/\s.i<=y.1.i/\y.2.1.name.length<=1000000/\(0<=y.2.1.base/\y.2.1.base<256)/\(0<=y.2.1.dim/\y.2.1.dim<=y.1.i)/\∀a s',Res ts en y.1 (an (yx y.2.1 (ts.drop y.1.i)) UE) a s' ->Res ts en s (Lz (ts.drop s.i)) a s')
    (fun y=>ts.length - y.1.i) (aZ ts en s1 [91],t1,m2) (fun _ _=>dC rfl) (fun y hy=>hy.1) ?_ ?_ ?_
   ·simp only[go_sem]
   ·exact⟨.inl rfl,xD,by dsimp only;omega,ht3,ht2,⟨by dsimp only;omega,by dsimp only;omega⟩,fun a s' h=>aW ep (by rw[af (fun q=>hb q.1)];exact dZ ep.inv h)⟩
   ·rintro⟨s4,t4,m4⟩ ⟨q1,q2,q3,q4,q5,q6,q7⟩;dsimp only at q1 q2 q3 q4 q5 q6 q7;have hl:=hT.len;have dv:=q2.le;by_cases h93:bC ts s4.i [93]=true
    ·have ha:=dR (en:=en) hT h93;have hi:=bF h93;have gj:=q2.next hi;have he:=fun m' =>fu ts en s4.next [91] m' hT.l8
     have zk:Inv ts (aZ ts en s4.next [91]):=fB gj;have tX:s4.i+1<=(aZ ts en s4.next [91]).i:=gZ gj;clear hE;simp only[go_sem];refine ab ((ha m4).mono ?_);clear ha;rintro r H' m5 cK ⟨l5,rfl,rfl⟩;simp only[go_sem];refine⟨by unfold aF;omega,by kernel_rfl,bo ((he m5).mono ?_)⟩;clear he;rintro r H' m6 ej ⟨l6,rfl,rfl⟩;simp only[go_sem];refine⟨(aZ ts en s4.next [91],t4.up,m6),⟨⟨⟨rfl,rfl,rfl⟩,⟨rfl,rfl,rfl⟩⟩,.inl rfl⟩,⟨aa q1 (aa l5 l6),zk,by dsimp only;omega,q4,q5,⟨by show 0<=t4.dim+1;omega,by show t4.dim+1<=((aZ ts en s4.next [91]).i:Int);omega⟩,fun a s' h=>q7 a s' ?_⟩,by dsimp only;omega⟩;rw[FH,ah (by rw[<- ax];exact h93),<- b7,SH];exact cv q2 hi (dZ gj h)
    ·have ha:=dS (en:=en) hT h93;have he:=hE s4 q2 q3;have xu:∀m' :Mem,FnH Tryz.prog 31 [.box 0 0,.v (.int .i64 0)] (pH ts en s4) m' (gX ts en s4 (dQ 0 (ts.drop s4.i)) m'):=he;clear hE he;simp only[go_sem];refine ab ((ha m4).mono ?_);clear ha;rintro r H' m5 cK ⟨l5,rfl,rfl⟩;simp only[go_sem];refine ab ((xu m5).mono ?_);clear xu;rintro r H' m6 ej ⟨l6,x,e,s6,rfl,hx,rfl,hR6⟩;have h7:=fun m' =>fu ts en s6 [93] m' hT.l8
     simp only[go_sem];refine ab ((h7 m6).mono ?_);clear h7;rintro r H' m7 eW ⟨l7,rfl,rfl⟩;simp only[go_sem];exact rI 7 rfl rfl (pH ts en (aZ ts en s6 [93])) (List.Sublist.refl _) (.cons _ (List.Sublist.refl _)) fun a cp mm w1 w2 w3=>⟨aa (aa (aa l1 l2) (aa q1 (aa l5 (aa l6 l7)))) (.inr w1),⟨14,0,[],[],t4,a,1,cp⟩,.mk 14 0 [] [] t4 [e],(aZ ts en s6 [93]),rfl,lC (es:=[e]) ⟨by decide,by decide⟩ ⟨by decide,by decide⟩ (aD _) (aD _) ⟨by unfold aF;omega,q5,by unfold aq;omega⟩ (by simp) w2 w3 (qL (bq (aa l7 (.inr w1)) hx)),rfl,q7 _ _ (by rw[FH,af (by rw[<- ax];exact h93)];exact aW (cL t4 q2) (aW hR6 (dZ hR6.inv (cL _ (fB hR6.inv)))))⟩
end
section
variable {ts:List Tk} {en:Int} {s:PSt}
theorem Yi (hT:TsB ts) (hI:Inv ts s) (hA:∀s1,Inv ts s1->s.i<s1.i->wI ts en s1) (hP:∀s1,Inv ts s1->s.i<s1.i->Ga ts en s1) (hE:∀s1,Inv ts s1->s.i<s1.i->oZ ts en 0 s1) (m:Mem):FnH Tryz.prog 204 [.box 0 0] (pH ts en s) m (gX ts en s (AT (ts.drop s.i)) m):=by
 refine aR aB Tryz.func204 ?_
 ·simp only[go_sem];by_cases h0:bC ts s.i [110,117,108,108]=true
  ·have ha:=dR (en:=en) hT h0;have hi:=bF h0;have fH:=hI.next hi;clear hA hP hE;refine ab ((ha m).mono ?_);clear ha;rintro r H' m1 aN ⟨l1,rfl,rfl⟩;simp only[go_sem];exact⟨l1,⟨4,0,[],[],ai,none,0,0⟩,_,s.next,rfl,uR ⟨by decide,by decide⟩ ⟨by decide,by decide⟩ (aD _) (aD _) gn,rfl,by rw[wa,ah (by rw[<- ax];exact h0),<- b7];exact cv hI hi (cL _ fH)⟩
  ·have ha:=dS (en:=en) hT h0;refine ab ((ha m).mono ?_);clear ha;rintro r H' m1 aN ⟨l1,rfl,rfl⟩;simp only[go_sem];by_cases h1:bC ts s.i [116,104,105,115]=true
   ·have ha:=dR (en:=en) hT h1;have hi:=bF h1;have fH:=hI.next hi;clear hA hP hE;refine ab ((ha m1).mono ?_);clear ha;rintro r H' m2 aH ⟨l2,rfl,rfl⟩;simp only[go_sem];exact⟨(aa l1 l2),⟨5,0,[],[],ai,none,0,0⟩,_,s.next,rfl,uR ⟨by decide,by decide⟩ ⟨by decide,by decide⟩ (aD _) (aD _) gn,rfl,by rw[wa,af (by rw[<- ax];exact h0),ah (by rw[<- ax];exact h1),<- b7];exact cv hI hi (cL _ fH)⟩
   ·have ha:=dS (en:=en) hT h1;refine ab ((ha m1).mono ?_);clear ha;rintro r H' m2 aH ⟨l2,rfl,rfl⟩;simp only[go_sem];by_cases h2:bC ts s.i [115,117,112,101,114]=true
    ·have ha:=dR (en:=en) hT h2;have hi:=bF h2;have fH:=hI.next hi;have hs:=acu (s:=s.next) (en:=en) hT fH (fun s1 g1 g2=>hA s1 g1 (eP (Nat.lt_succ_self _) g2));clear hA hP hE;refine ab ((ha m2).mono ?_);clear ha;rintro r H' m3 bI ⟨l3,rfl,rfl⟩;simp only[go_sem];refine ab ((hs m3).mono ?_);clear hs;rintro r H' m4 cQ ⟨l4,x,e,s1,rfl,hx,rfl,hR⟩;simp only[go_sem];exact⟨(aa (aa (aa l1 l2) l3) l4),x,e,s1,rfl,hx,rfl,by rw[wa,af (by rw[<- ax];exact h0),af (by rw[<- ax];exact h1),ah (by rw[<- ax];exact h2),<- b7];exact cv hI hi hR⟩
    ·have ha:=dS (en:=en) hT h2;refine ab ((ha m2).mono ?_);clear ha;rintro r H' m3 bI ⟨l3,rfl,rfl⟩;simp only[go_sem];by_cases h3:bC ts s.i [110,101,119]=true
     ·have ha:=dR (en:=en) hT h3;have hi:=bF h3;have fH:=hI.next hi;have hs:=Xx (s:=s.next) (en:=en) hT fH (fun s1 g1 g2=>hA s1 g1 (eP (Nat.lt_succ_self _) g2)) (fun s1 g1 g2=>hE s1 g1 (eP (Nat.lt_succ_self _) g2));clear hA hP hE;refine ab ((ha m3).mono ?_);clear ha;rintro r H' m4 cQ ⟨l4,rfl,rfl⟩;simp only[go_sem];refine ab ((hs m4).mono ?_);clear hs;rintro r H' m5 cK ⟨l5,x,e,s1,rfl,hx,rfl,hR⟩;simp only[go_sem];exact⟨(aa (aa (aa (aa l1 l2) l3) l4) l5),x,e,s1,rfl,hx,rfl,by rw[wa,af (by rw[<- ax];exact h0),af (by rw[<- ax];exact h1),af (by rw[<- ax];exact h2),ah (by rw[<- ax];exact h3),<- b7];exact cv hI hi hR⟩
     ·have ha:=dS (en:=en) hT h3;refine ab ((ha m3).mono ?_);clear ha;rintro r H' m4 cQ ⟨l4,rfl,rfl⟩;simp only[go_sem];by_cases h4:bC ts s.i [108,101,110]=true
      ·have ha:=dR (en:=en) hT h4;have hi:=bF h4;have fH:=hI.next hi;have hs:=J0 (s:=s.next) (en:=en) hT 19 ⟨by decide,by decide⟩ (hP s.next fH (Nat.lt_succ_self _));clear hA hP hE;refine ab ((ha m4).mono ?_);clear ha;rintro r H' m5 cK ⟨l5,rfl,rfl⟩;simp only[go_sem];refine ab ((hs m5).mono ?_);clear hs;rintro r H' m6 ej ⟨l6,x,e,s1,rfl,hx,rfl,hR⟩;simp only[go_sem];exact⟨(aa (aa (aa (aa (aa l1 l2) l3) l4) l5) l6),x,e,s1,rfl,hx,rfl,by rw[wa,af (by rw[<- ax];exact h0),af (by rw[<- ax];exact h1),af (by rw[<- ax];exact h2),af (by rw[<- ax];exact h3),ah (by rw[<- ax];exact h4),<- b7];exact cv hI hi hR⟩
      ·have ha:=dS (en:=en) hT h4;refine ab ((ha m4).mono ?_);clear ha;rintro r H' m5 cK ⟨l5,rfl,rfl⟩;simp only[go_sem];by_cases h5:bC ts s.i iM=true
       ·have ha:=dR (en:=en) hT h5;have hi:=bF h5;have fH:=hI.next hi;have hs:=J0 (s:=s.next) (en:=en) hT 20 ⟨by decide,by decide⟩ (hP s.next fH (Nat.lt_succ_self _));clear hA hP hE;refine ab ((ha m5).mono ?_);clear ha;rintro r H' m6 ej ⟨l6,rfl,rfl⟩;simp only[go_sem];refine ab ((hs m6).mono ?_);clear hs;rintro r H' m7 eW ⟨l7,x,e,s1,rfl,hx,rfl,hR⟩;simp only[go_sem];exact⟨(aa (aa (aa (aa (aa (aa l1 l2) l3) l4) l5) l6) l7),x,e,s1,rfl,hx,rfl,by rw[wa,af (by rw[<- ax];exact h0),af (by rw[<- ax];exact h1),af (by rw[<- ax];exact h2),af (by rw[<- ax];exact h3),af (by rw[<- ax];exact h4),ah (by rw[<- ax];exact h5),<- b7];exact cv hI hi hR⟩
       ·have ha:=dS (en:=en) hT h5;refine ab ((ha m5).mono ?_);clear ha;rintro r H' m6 ej ⟨l6,rfl,rfl⟩;simp only[go_sem];by_cases h6:bC ts s.i iI=true
        ·have ha:=dR (en:=en) hT h6;have hi:=bF h6;have fH:=hI.next hi;have hs:=J0 (s:=s.next) (en:=en) hT 21 ⟨by decide,by decide⟩ (hP s.next fH (Nat.lt_succ_self _));clear hA hP hE;refine ab ((ha m6).mono ?_);clear ha;rintro r H' m7 eW ⟨l7,rfl,rfl⟩;simp only[go_sem];refine ab ((hs m7).mono ?_);clear hs;rintro r H' m8 iE ⟨l8,x,e,s1,rfl,hx,rfl,hR⟩;simp only[go_sem];exact⟨(aa (aa (aa (aa (aa (aa (aa l1 l2) l3) l4) l5) l6) l7) l8),x,e,s1,rfl,hx,rfl,by rw[wa,af (by rw[<- ax];exact h0),af (by rw[<- ax];exact h1),af (by rw[<- ax];exact h2),af (by rw[<- ax];exact h3),af (by rw[<- ax];exact h4),af (by rw[<- ax];exact h5),ah (by rw[<- ax];exact h6),<- b7];exact cv hI hi hR⟩
        ·have ha:=dS (en:=en) hT h6;refine ab ((ha m6).mono ?_);clear ha;rintro r H' m7 eW ⟨l7,rfl,rfl⟩;simp only[go_sem];have hf:=fun m' =>BN ts en s m' hT.l8
         clear hA hP hE;refine ab ((hf m7).mono ?_);clear hf;rintro r H' m8 iE ⟨rfl,rfl,rfl⟩;simp only[go_sem];exact⟨(aa (aa (aa (aa (aa (aa l1 l2) l3) l4) l5) l6) l7),⟨0,0,[],[],ai,none,0,0⟩,.mk 0 0 [] [] ai [],_,rfl,uR ⟨by decide,by decide⟩ ⟨by decide,by decide⟩ (aD _) (aD _) gn,rfl,by rw[wa,af (by rw[<- ax];exact h0),af (by rw[<- ax];exact h1),af (by rw[<- ax];exact h2),af (by rw[<- ax];exact h3),af (by rw[<- ax];exact h4),af (by rw[<- ax];exact h5),af (by rw[<- ax];exact h6)];exact Fb _ hI⟩
end
section
variable {ts:List Tk} {en:Int} {s:PSt}
theorem ae6 (hT:TsB ts) (h:kj (ts.drop s.i)=true) (m:Mem):FnH Tryz.prog 190 [.box 0 0] (pH ts en s) m fun r H' m' =>ae m m' /\r= .v (.bool true)/\H' =pH ts en s:=
 (HS ts en s m hT).mono fun r H' m2 _ q=>⟨q.1,by have:=q.2.1;rw[h] at this;exact this,q.2.2⟩
theorem ae7 (hT:TsB ts) (h:¬kj (ts.drop s.i)=true) (m:Mem):FnH Tryz.prog 190 [.box 0 0] (pH ts en s) m fun r H' m' =>ae m m' /\r= .v (.bool false)/\H' =pH ts en s:=
 (HS ts en s m hT).mono fun r H' m2 _ q=>⟨q.1,by have:=q.2.1;rw[(by simpa using h:kj (ts.drop s.i)=false)] at this;exact this,q.2.2⟩
theorem Tu (hT:TsB ts) (h:gp (ts.drop s.i)=true) (m:Mem):FnH Tryz.prog 126 [.box 0 0] (pH ts en s) m fun r H' m' =>ae m m' /\r= .v (.bool true)/\H' =pH ts en s:=
 (HT ts en s m hT).mono fun r H' m2 _ q=>⟨q.1,by have:=q.2.1;rw[h] at this;exact this,q.2.2⟩
theorem Tv (hT:TsB ts) (h:¬gp (ts.drop s.i)=true) (m:Mem):FnH Tryz.prog 126 [.box 0 0] (pH ts en s) m fun r H' m' =>ae m m' /\r= .v (.bool false)/\H' =pH ts en s:=
 (HT ts en s m hT).mono fun r H' m2 _ q=>⟨q.1,by have:=q.2.1;rw[(by simpa using h:gp (ts.drop s.i)=false)] at this;exact this,q.2.2⟩
theorem Yb (hT:TsB ts) (hI:Inv ts s) (hA:∀s1,Inv ts s1->s.i<s1.i->wI ts en s1) (hE:∀s1,Inv ts s1->s.i<s1.i->oZ ts en 0 s1) (hK:∀m,FnH Tryz.prog 204 [.box 0 0] (pH ts en s) m (gX ts en s (AT (ts.drop s.i)) m)) (m:Mem):
  FnH Tryz.prog 150 [.box 0 0] (pH ts en s) m (gX ts en s (xM (ts.drop s.i)) m):=by
 have hp:=zN ts en s m hT.l8;refine aR aB Tryz.func150 ?_
 ·simp only[go_sem];refine ab (hp.mono ?_);clear hp;rintro r H' m1 aN ⟨rfl,rfl⟩;simp only[go_sem];refine⟨fun hk=> ?_,fun hk=> ?_⟩
  ·have hi:s.i<ts.length:=by
    rcases Nat.lt_or_ge s.i ts.length with h |h
    ·exact h
    ·rw[JZ h] at hk;exact absurd hk (by decide)
   have hl:=WV (en:=en) hT hI hi;have e:xM (ts.drop s.i)=GF (ts.drop s.i):=by
    rw[Nu,GF,xV];by_cases h3:(fE ts s.i).k=3
    ·rw[ah h3,ah h3]
    ·by_cases h4:(fE ts s.i).k=4
     ·rw[af h3,af h3,ah h4,ah h4]
     ·rw[af h3,af h3,af h4,af h4,ah (by omega)]
   rw[e];clear hA hE hK;refine ab ((hl m1).mono ?_);clear hl;rintro r H' m2 aH ⟨l2,x,e,s1,rfl,hx,rfl,hR⟩;simp only[go_sem];exact⟨.inr (Tp (.inr aN:ae m m1) aH),x,e,s1,rfl,hx,rfl,hR⟩
  ·have e:xM (ts.drop s.i)=(if kj (ts.drop s.i)=true then an (da (ts.drop s.i)) fun s r=> .ok (.mk 6 0 s [] ai [],r) else if gp (ts.drop s.i)=true then T6 (ts.drop s.i) else if bC ts s.i [40]=true then oL (ts.drop s.i) else AT (ts.drop s.i)):=by
    rw[Nu,xV,af (by omega),af (by omega),af (by omega),ax];rfl
   rw[e];by_cases h1:kj (ts.drop s.i)=true
   ·have ha:=ae6 (en:=en) hT h1;have hb:=Yd (en:=en) hT hI;clear hA hE hK;rw[ah h1];refine ab ((ha m1).mono ?_);clear ha;rintro r H' m2 aH ⟨l2,rfl,rfl⟩;simp only[go_sem];refine ab ((hb m2).mono ?_);clear hb;rintro r H' m3 bI ⟨l3,x,e,s1,rfl,hx,rfl,hR⟩;simp only[go_sem];exact⟨aa (.inr aN) (aa l2 l3),x,e,s1,rfl,hx,rfl,hR⟩
   ·have ha:=ae7 (en:=en) hT h1;rw[af h1];refine ab ((ha m1).mono ?_);clear ha;rintro r H' m2 aH ⟨l2,rfl,rfl⟩;simp only[go_sem];by_cases h2:gp (ts.drop s.i)=true
    ·have ha:=Tu (en:=en) hT h2;have hb:=YP (en:=en) hT hI h2 hA;clear hA hE hK;rw[ah h2];refine ab ((ha m2).mono ?_);clear ha;rintro r H' m3 bI ⟨l3,rfl,rfl⟩;simp only[go_sem];refine ab ((hb m3).mono ?_);clear hb;rintro r H' m4 cQ ⟨l4,x,e,s1,rfl,hx,rfl,hR⟩;simp only[go_sem];exact⟨aa (.inr aN) (aa l2 (aa l3 l4)),x,e,s1,rfl,hx,rfl,hR⟩
    ·have ha:=Tv (en:=en) hT h2;rw[af h2];refine ab ((ha m2).mono ?_);clear ha;rintro r H' m3 bI ⟨l3,rfl,rfl⟩;simp only[go_sem];by_cases h3:bC ts s.i [40]=true
     ·have hi:=bF h3;have e4:aZ ts en s [40]=s.next:=ah h3;have ha:=nv (en:=en) hT h3;have hb:=Qb (en:=en) hT hI (by rw[e4];exact hE s.next (hI.next hi) (Nat.lt_succ_self _));clear hA hE hK;rw[ah h3];refine ab ((ha m3).mono ?_);clear ha;rintro r H' m4 cQ ⟨l4,rfl,rfl⟩;simp only[go_sem];refine ab ((hb m4).mono ?_);clear hb;rintro r H' m5 cK ⟨l5,x,e,s1,rfl,hx,rfl,hR⟩;simp only[go_sem];exact⟨aa (.inr aN) (aa l2 (aa l3 (aa l4 l5))),x,e,s1,rfl,hx,rfl,hR⟩
     ·have ha:=nw (en:=en) hT h3;clear hA hE;rw[af h3];refine ab ((ha m3).mono ?_);clear ha;rintro r H' m4 cQ ⟨l4,rfl,rfl⟩;simp only[go_sem];refine ab ((hK m4).mono ?_);clear hK;rintro r H' m5 cK ⟨l5,x,e,s1,rfl,hx,rfl,hR⟩;simp only[go_sem];exact⟨aa (.inr aN) (aa l2 (aa l3 (aa l4 l5))),x,e,s1,rfl,hx,rfl,hR⟩
end
attribute [go_sem] Za lg Nd.svs
section
variable {ts:List Tk} {en:Int} {s:PSt}
theorem X5 (hT:TsB ts) (hI:Inv ts s) (hA:∀s1,Inv ts s1->s.i<s1.i->wI ts en s1) (hE:∀s1,Inv ts s1->s.i<s1.i->oZ ts en 0 s1) (x:Nd) (e:Ex) (m:Mem) (hx:bw m e x.cs):
  FnH Tryz.prog 149 [.box 0 0,.agg x.svs] (pH ts en s) m (gX ts en s (tC e (ts.drop s.i)) m):=by
 refine aR aB Tryz.func149 ?_
 ·simp only[go_sem];refine Rb aB 2 (fun y:PSt×Nd×Ex×Mem=>⟨[⟨0,[],.box 0 0⟩,⟨3,[],.box 2 0⟩,⟨4,[],.box 3 0⟩],[],[A5 3,⟨2,33,y.2.1.svs⟩,na en y.1],[kM ts],40,y.2.2.2⟩)
   (fun y=>ae m y.2.2.2/\Inv ts y.1/\s.i<=y.1.i/\bw y.2.2.2 y.2.2.1 y.2.1.cs/\∀a s',Res ts en y.1 (tC y.2.2.1 (ts.drop y.1.i)) a s' ->Res ts en s (tC e (ts.drop s.i)) a s')
   (fun y=>ts.length - y.1.i) (by kernel_rfl) (fun _ _=>dC rfl) (fun y hy=>hy.1) (fun _=> ?_) ?_ ?_
  ·simp only[go_sem]
  ·simp only[go_sem];exact⟨(s,x,e,m),⟨⟨⟨rfl,rfl,rfl,rfl,rfl,rfl,rfl,rfl⟩,⟨rfl,rfl,rfl⟩⟩,.inl rfl⟩,.inl rfl,hI,av _,hx,fun a s' h=>h⟩
  ·rintro⟨s4,x4,e4,m4⟩ ⟨q1,q2,q3,q4,q5⟩;dsimp only at q1 q2 q3 q4 q5;have hl:=hT.len;have dv:=q2.le;by_cases h46:bC ts s4.i [46]=true
   ·have ha:=dR (en:=en) hT h46;have hi:=bF h46;have gj:=q2.next hi;have h5:=rC ts en s4.next;simp only[go_sem];refine ab ((ha m4).mono ?_);clear ha;rintro r H' m5 cK ⟨l5,rfl,rfl⟩;simp only[go_sem];refine ab ((h5 m5 hT gj).mono ?_);clear h5;rintro r H' m6 ej ⟨l6,w,s6,rfl,hw,rfl,hR6⟩;have tX:=hR6.mono;have sR:s4.next.i=s4.i+1:=rfl;by_cases h40:bC ts s6.i [40]=true
    ·have ha:=nv (en:=en) hT h40;have hb:=hA s6 hR6.inv (by omega);clear hA hE;simp only[go_sem];refine ab ((ha m6).mono ?_);clear ha;rintro r H' m7 eW ⟨l7,rfl,rfl⟩;simp only[go_sem];refine bO (.hoist 0 (.hoist 1 (.hoist 3 (.alt 2 [3,0] (.alt 4 [0] (.alt 5 [0] (.hoist 6 (.alt 7 [] .done .stop)) .stop) .stop) (.alt 4 [1,0] (.alt 2 [0] (.alt 5 [0] (.hoist 6 (.alt 7 [] .done .stop)) .stop) .stop) .stop))))) aB (by kernel_rfl) (by kernel_rfl) ?_;simp only[go_sem];refine⟨ab ((hb m7).mono ?_),ab ((hb m7).mono ?_)⟩
     ·clear hb;rintro r H' m8 iE ⟨l8,es,a,cp,xs,s8,rfl,ha1,ha2,ha3,ha4,rfl,hR8⟩;simp only[go_sem];refine⟨l8,⟨xs,ha3,Ju ha3.1 ha4,j9 (by omega) (by decide),l8,fun a9 c9 m9 w1 w2 w3=> ?_⟩⟩;have po:1+es.length=(e4::es).length:=by rw[aL,Nat.add_comm]
      rw[po] at w2 w3 ⊢;have kR:=hR8.mono;refine⟨(s8,⟨10,0,w,[],ai,a9,(e4::es).length,c9⟩,.mk 10 0 w [] ai (e4::es),m9),⟨⟨⟨rfl,rfl,rfl,rfl,rfl,rfl,rfl,rfl⟩,⟨rfl,rfl,rfl⟩⟩,.inl rfl⟩,⟨aa q1 (aa l5 (aa l6 (aa l7 (aa l8 (.inr w1))))),hR8.inv,by dsimp only;omega,lC ⟨by decide,by decide⟩ ⟨by decide,by decide⟩ hw (aD _) gn (by rw[aL];omega) w2 w3 (Pj (bq (aa l5 (aa l6 (aa l7 (aa l8 (.inr w1))))) q4) (Cr (.inr w1) ha4)),fun a s' h=>q5 a s' ?_⟩,by dsimp only;omega⟩;rw[B6,ah (by rw[<- ax];exact h46),<- b7];exact cv q2 hi (aW hR6 (by rw[ah (by rw[<- ax];exact h40)];exact aW hR8 h))
     ·clear hb;rintro r H' m8 iE ⟨l8,es,a,cp,xs,s8,rfl,ha1,ha2,ha3,ha4,rfl,hR8⟩;simp only[go_sem];refine⟨⟨l8,l8⟩,l8,⟨xs,ha3,Ju ha3.1 ha4,j9 (by omega) (by decide),l8,fun a9 c9 m9 w1 w2 w3=> ?_⟩⟩;have po:1+es.length=(e4::es).length:=by rw[aL,Nat.add_comm]
      rw[po] at w2 w3 ⊢;have kR:=hR8.mono;refine⟨(s8,⟨10,0,w,[],ai,a9,(e4::es).length,c9⟩,.mk 10 0 w [] ai (e4::es),m9),⟨⟨⟨rfl,rfl,rfl,rfl,rfl,rfl,rfl,rfl⟩,⟨rfl,rfl,rfl⟩⟩,.inl rfl⟩,⟨aa q1 (aa l5 (aa l6 (aa l7 (aa l8 (.inr w1))))),hR8.inv,by dsimp only;omega,lC ⟨by decide,by decide⟩ ⟨by decide,by decide⟩ hw (aD _) gn (by rw[aL];omega) w2 w3 (Pj (bq (aa l5 (aa l6 (aa l7 (aa l8 (.inr w1))))) q4) (Cr (.inr w1) ha4)),fun a s' h=>q5 a s' ?_⟩,by dsimp only;omega⟩;rw[B6,ah (by rw[<- ax];exact h46),<- b7];exact cv q2 hi (aW hR6 (by rw[ah (by rw[<- ax];exact h40)];exact aW hR8 h))
    ·have ha:=nw (en:=en) hT h40;clear hA hE;simp only[go_sem];refine ab ((ha m6).mono ?_);clear ha;rintro r H' m7 eW ⟨l7,rfl,rfl⟩;simp only[go_sem];intro a c m8 w1 w2 w3;refine⟨(s6,⟨7,0,w,[],ai,a,1,c⟩,.mk 7 0 w [] ai [e4],m8),⟨⟨⟨rfl,rfl,rfl,rfl,rfl,rfl,rfl,rfl⟩,⟨rfl,rfl,rfl⟩⟩,.inl rfl⟩,⟨aa q1 (aa l5 (aa l6 (aa l7 (.inr w1)))),hR6.inv,by dsimp only;omega,lC (es:=[e4]) ⟨by decide,by decide⟩ ⟨by decide,by decide⟩ hw (aD _) gn (by simp) w2 w3 (qL (bq (aa l5 (aa l6 (aa l7 (.inr w1)))) q4)),fun a s' h=>q5 a s' ?_⟩,by dsimp only;omega⟩;rw[B6,ah (by rw[<- ax];exact h46),<- b7];exact cv q2 hi (aW hR6 (by rw[af (by rw[<- ax];exact h40)];exact h))
   ·have ha:=dS (en:=en) hT h46;clear hA;simp only[go_sem];refine ab ((ha m4).mono ?_);clear ha;rintro r H' m5 cK ⟨l5,rfl,rfl⟩;simp only[go_sem];by_cases h91:bC ts s4.i [91]=true
    ·have ha:=dR (en:=en) hT h91;have hi:=bF h91;have gj:=q2.next hi;have hb:∀m' :Mem,FnH Tryz.prog 31 [.box 0 0,.v (.int .i64 0)] (pH ts en s4.next) m' (gX ts en s4.next (dQ 0 (ts.drop s4.next.i)) m'):=hE s4.next gj (Nat.lt_succ_of_le q3);clear hE;refine ab ((ha m5).mono ?_);clear ha;rintro r H' m6 ej ⟨l6,rfl,rfl⟩;simp only[go_sem];refine ab ((hb m6).mono ?_);clear hb;rintro r H' m7 eW ⟨l7,x7,e7,s7,rfl,hx7,rfl,hR7⟩;have Dt:=hR7.mono;have sR:s4.next.i=s4.i+1:=rfl;have he:=fun m' =>fu ts en s7 [93] m' hT.l8
     have akQ:s7.i<=(aZ ts en s7 [93]).i:=gZ hR7.inv;simp only[go_sem];refine ab ((he m7).mono ?_);clear he;rintro r H' m8 iE ⟨l8,rfl,rfl⟩;simp only[go_sem];intro a c m9 w1 w2 w3;refine⟨(aZ ts en s7 [93],⟨9,0,[],[],ai,a,2,c⟩,.mk 9 0 [] [] ai [e4,e7],m9),⟨⟨⟨rfl,rfl,rfl,rfl,rfl,rfl,rfl,rfl⟩,⟨rfl,rfl,rfl⟩⟩,.inl rfl⟩,⟨aa q1 (aa l5 (aa l6 (aa l7 (aa l8 (.inr w1))))),fB hR7.inv,by dsimp only;omega,lC (es:=[e4,e7]) ⟨by decide,by decide⟩ ⟨by decide,by decide⟩ (aD _) (aD _) gn (by simp) w2 w3 (UY (bq (aa l5 (aa l6 (aa l7 (aa l8 (.inr w1))))) q4) (bq (aa l8 (.inr w1)) hx7)),fun a s' h=>q5 a s' ?_⟩,by dsimp only;omega⟩;rw[B6,af (by rw[<- ax];exact h46),ah (by rw[<- ax];exact h91),<- b7];exact cv q2 hi (aW hR7 (dZ hR7.inv h))
    ·have ha:=dS (en:=en) hT h91;clear hE;refine ab ((ha m5).mono ?_);clear ha;rintro r H' m6 ej ⟨l6,rfl,rfl⟩;simp only[go_sem];refine⟨aa q1 (aa l5 l6),x4,e4,s4,rfl,bq (aa l5 l6) q4,rfl,q5 _ _ ?_⟩;rw[B6,af (by rw[<- ax];exact h46),af (by rw[<- ax];exact h91)];exact cL _ q2
end
section
variable {ts:List Tk} {en:Int} {s:PSt}
def UA (ts:List Tk) (en:Int) (s:PSt):Prop:=∀(x:Nd) (e:Ex) (m:Mem),bw m e x.cs->FnH Tryz.prog 149 [.box 0 0,.agg x.svs] (pH ts en s) m (gX ts en s (tC e (ts.drop s.i)) m)
def UB (ts:List Tk) (en:Int) (s:PSt):Prop:=∀m:Mem,FnH Tryz.prog 150 [.box 0 0] (pH ts en s) m (gX ts en s (xM (ts.drop s.i)) m)
theorem aag (hT:TsB ts) (hI:Inv ts s) (hU:∀s1,Inv ts s1->s.i<s1.i->Bm ts en s1) (hO:UB ts en s) (hP:∀s1,Inv ts s1->s.i<=s1.i->UA ts en s1):Bm ts en s:=fun m=>by
 refine pF (aR aB Tryz.func61 ?_)
 ·simp only[go_sem];refine dA aB (fun y:Nat×Mem=>⟨[⟨0,[],.box 0 0⟩,⟨2,[],.box 2 0⟩,⟨5,[],.vec 3 0⟩,⟨6,[],.v (.int .i64 2)⟩,⟨7,[],.v (.int .i64 y.1)⟩],[],[A5 2,na en s],[⟨3,0,9,1,2,[.string (bs [45]),.string (bs [33])]⟩,kM ts],40,y.2⟩)
   (fun y=>ae m y.2/\y.1<=2/\(1<=y.1->¬bC ts s.i [45]=true)/\(2<=y.1->¬bC ts s.i [33]=true))
   (fun y=>2 - y.1) (0,m) (fun _ _=>dC rfl) (fun y hy=>hy.1) ?_ ?_ ?_
  ·simp only[go_sem];exact⟨rfl,rfl⟩
  ·exact⟨.inl rfl,aD _,fun h=>absurd h (Nat.not_succ_le_zero _),fun h=>absurd h (Nat.not_succ_le_zero _)⟩
  ·rintro⟨i,m1⟩ ⟨q1,q2,q3,q4⟩;dsimp only at q1 q2 q3 q4;have hs:i=0\/i=1\/i=2:=by omega
   rcases hs with rfl |rfl |rfl
   ·by_cases hc:bC ts s.i [45]=true
    ·have ha:=dR (en:=en) hT hc;have hi:=bF hc;have fH:=hI.next hi;have hu:=hU s.next fH (Nat.lt_succ_self _);clear hU hO hP;simp only[go_sem];refine⟨fun _=>⟨⟨by decide,by decide⟩,by kernel_rfl,bo ((ha m1).mono ?_)⟩,fun h=>absurd (by decide) h⟩;clear ha;rintro r H' m2 aH ⟨l2,rfl,rfl⟩;simp only[go_sem];refine ab ((hu m2).mono ?_);clear hu;rintro r H' m3 bI ⟨l3,x,e,s1,rfl,hx,rfl,hR⟩;simp only[go_sem];exact rI 7 rfl rfl (pH ts en s1) (List.Sublist.refl _) (.cons _ (List.Sublist.refl _)) fun a cp mm w1 w2 w3=>⟨aa (aa q1 (aa l2 l3)) (.inr w1),⟨15,0,[45],[],ai,a,1,cp⟩,.mk 15 0 [45] [] ai [e],s1,rfl,lC (es:=[e]) ⟨by decide,by decide⟩ ⟨by decide,by decide⟩ (by decide) (aD _) gn (by simp) w2 w3 (qL (bq (.inr w1) hx)),rfl,by rw[IA,ah (by rw[<- ax];exact hc),<- b7];exact cv hI hi (aW hR (cL _ hR.inv))⟩
    ·have ha:=dS (en:=en) hT hc;clear hU hO hP;simp only[go_sem];refine⟨fun _=>⟨⟨by decide,by decide⟩,by kernel_rfl,bo ((ha m1).mono ?_)⟩,fun h=>absurd (by decide) h⟩;clear ha;rintro r H' m2 aH ⟨l2,rfl,rfl⟩;simp only[go_sem];exact⟨⟨by decide,by decide⟩,(1,m2),⟨rfl,.inl rfl⟩,⟨aa q1 l2,(by decide:1<=2),fun _=>hc,fun h=>absurd h (by decide:¬2<=1)⟩,(by decide:2 - 1<2 - 0)⟩
   ·by_cases hc:bC ts s.i [33]=true
    ·have ha:=dR (en:=en) hT hc;have hi:=bF hc;have fH:=hI.next hi;have hu:=hU s.next fH (Nat.lt_succ_self _);clear hU hO hP;simp only[go_sem];refine⟨fun _=>⟨⟨by decide,by decide⟩,by kernel_rfl,bo ((ha m1).mono ?_)⟩,fun h=>absurd (by decide) h⟩;clear ha;rintro r H' m2 aH ⟨l2,rfl,rfl⟩;simp only[go_sem];refine ab ((hu m2).mono ?_);clear hu;rintro r H' m3 bI ⟨l3,x,e,s1,rfl,hx,rfl,hR⟩;simp only[go_sem];exact rI 7 rfl rfl (pH ts en s1) (List.Sublist.refl _) (.cons _ (List.Sublist.refl _)) fun a cp mm w1 w2 w3=>⟨aa (aa q1 (aa l2 l3)) (.inr w1),⟨15,0,[33],[],ai,a,1,cp⟩,.mk 15 0 [33] [] ai [e],s1,rfl,lC (es:=[e]) ⟨by decide,by decide⟩ ⟨by decide,by decide⟩ (by decide) (aD _) gn (by simp) w2 w3 (qL (bq (.inr w1) hx)),rfl,by rw[IA,af (by rw[<- ax];exact q3 (av _)),ah (by rw[<- ax];exact hc),<- b7];exact cv hI hi (aW hR (cL _ hR.inv))⟩
    ·have ha:=dS (en:=en) hT hc;clear hU hO hP;simp only[go_sem];refine⟨fun _=>⟨⟨by decide,by decide⟩,by kernel_rfl,bo ((ha m1).mono ?_)⟩,fun h=>absurd (by decide) h⟩;clear ha;rintro r H' m2 aH ⟨l2,rfl,rfl⟩;simp only[go_sem];exact⟨⟨by decide,by decide⟩,(2,m2),⟨rfl,.inl rfl⟩,⟨aa q1 l2,(by decide:2<=2),fun _=>q3 (av _),fun h=>hc⟩,(by decide:2 - 2<2 - 1)⟩
   ·have hu:=hO;clear hU hO;simp only[go_sem];refine⟨fun h=>absurd h (by decide),fun _=>ab ((hu m1).mono ?_)⟩;clear hu;rintro r H' m2 aH ⟨l2,x,e,s1,rfl,hx,rfl,hR⟩;have hp:=fun m' h=>hP s1 hR.inv hR.mono x e m' h
    clear hP;simp only[go_sem];refine ab ((hp m2 hx).mono ?_);clear hp;rintro r H' m3 bI ⟨l3,x2,e2,s2,rfl,pj,rfl,hR2⟩;simp only[go_sem];refine .inl ⟨aa q1 (aa l2 l3),x2,e2,s2,rfl,pj,rfl,?_⟩;rw[IA,af (by rw[<- ax];exact q3 (by decide)),af (by rw[<- ax];exact q4 (by decide))];exact aW hR hR2
end
section
variable {ts:List Tk} {en:Int} {s:PSt}
theorem akr {n:Nat} (hn:n<=9) (hT:TsB ts) (h:iJ n (ts.drop s.i)=true) (m:Mem):FnH Tryz.prog 62 [.box 0 0,.v (.int .i64 n)] (pH ts en s) m fun r H' m' =>ae m m' /\r= .tup [.v (.string (bs (j7 (ts.drop s.i)))),.v (.bool true)]/\H' =pH ts en s.next:=
 (M7 ts en s m n hn hT).mono fun r H' m2 _ ⟨q1,w,q2,q3,q4⟩=>⟨q1,by rw[h] at q2;rw[q2,q3 h],by rw[ah h] at q4;exact q4⟩
theorem aks {n:Nat} (hn:n<=9) (hT:TsB ts) (h:¬iJ n (ts.drop s.i)=true) (m:Mem):FnH Tryz.prog 62 [.box 0 0,.v (.int .i64 n)] (pH ts en s) m fun r H' m' =>ae m m' /\∃w,r= .tup [.v (.string (bs w)),.v (.bool false)]/\H' =pH ts en s:=
 (M7 ts en s m n hn hT).mono fun r H' m2 _ ⟨q1,w,q2,q3,q4⟩=>⟨q1,w,by rw[(by simpa using h:iJ n (ts.drop s.i)=false)] at q2;exact q2,by rw[af h] at q4;exact q4⟩
theorem abx (hT:TsB ts) (hU:Bm ts en s):oZ ts en 10 s:=fun m=>by
 rw[Zy];refine aR aB Tryz.func31 ?_
 ·simp only[go_sem];refine⟨fun _=>ab ((hU m).mono ?_),fun h=>absurd rfl h⟩;clear hU;rintro r H' m1 aN ⟨l1,x,e,s1,rfl,hx,rfl,hR⟩;simp only[go_sem];exact⟨l1,x,e,s1,rfl,hx,rfl,hR⟩
theorem aby (hT:TsB ts) (hI:Inv ts s) (n:Nat) (hn:n<=9) (hN:oZ ts en (n+1) s) (hE:∀s1,Inv ts s1->s.i<s1.i->oZ ts en (n+1) s1):oZ ts en n s:=fun m=>by
 have VT:∀m' :Mem,FnH Tryz.prog 31 [.box 0 0,.v (.int .i64 ((n:Int)+1))] (pH ts en s) m' (gX ts en s (dQ (n+1) (ts.drop s.i)) m'):=hN;clear hN;refine aR aB Tryz.func31 ?_
 ·simp only[go_sem];refine⟨fun h=>absurd h (by omega),fun _=> ?_⟩;refine⟨by unfold aF;omega,by kernel_rfl,bo ((VT m).mono ?_)⟩;clear VT;rintro r H' m1 aN ⟨l1,x,e,s1,rfl,hx,rfl,hR⟩;have lW:=hR.mono;simp only[go_sem];refine Rb aB 5 (fun y:PSt×Nd×Ex×Mem=>⟨[⟨0,[],.box 0 0⟩,⟨1,[],.v (.int .i64 n)⟩,⟨4,[],.box 2 0⟩,⟨5,[],.box 5 0⟩],[],[⟨5,33,y.2.1.svs⟩,na en y.1,A5 2],[kM ts],40,y.2.2.2⟩)
   (fun y=>ae m1 y.2.2.2/\Inv ts y.1/\s.i<=y.1.i/\bw y.2.2.2 y.2.2.1 y.2.1.cs/\∀a s',Res ts en y.1 (yn n y.2.2.1 (ts.drop y.1.i)) a s' ->Res ts en s (dQ n (ts.drop s.i)) a s')
   (fun y=>ts.length - y.1.i) (by kernel_rfl) (fun _ _=>dC rfl) (fun y hy=>hy.1) (fun _=> ?_) ?_ ?_
  ·simp only[go_sem]
  ·simp only[go_sem];exact⟨(s1,x,e,m1),⟨⟨⟨rfl,rfl,rfl,rfl,rfl,rfl,rfl,rfl⟩,⟨rfl,rfl,rfl⟩⟩,.inl rfl⟩,.inl rfl,hR.inv,lW,hx,fun a s' h=>by rw[abB hn];exact aW hR h⟩
  ·rintro⟨s4,x4,e4,m4⟩ ⟨q1,q2,q3,q4,q5⟩;dsimp only at q1 q2 q3 q4 q5;have hl:=hT.len;have dv:=q2.le;by_cases hop:iJ n (ts.drop s4.i)=true
   ·have ha:=akr (en:=en) hn hT hop;have hi:=S8 hop;have gj:=q2.next hi;have hb:∀m' :Mem,FnH Tryz.prog 31 [.box 0 0,.v (.int .i64 ((n:Int)+1))] (pH ts en s4.next) m' (gX ts en s4.next (dQ (n+1) (ts.drop s4.next.i)) m'):=hE s4.next gj (Nat.lt_succ_of_le q3);clear hE;have hw:(j7 (ts.drop s4.i)).length<=1000000:=by rw[uT];exact hT.cs s4.i
    simp only[go_sem];refine ab ((ha m4).mono ?_);clear ha;rintro r H' m5 cK ⟨l5,rfl,rfl⟩;simp only[go_sem];refine bO (.hoist 0 (.hoist 1 (.hoist 2 (.hoist 3 (.hoist 4 (.alt 5 [1,0] (.alt 6 [0] (.hoist 7 (.alt 8 [] .done .stop)) .stop) .stop)))))) aB (by kernel_rfl) (by kernel_rfl) ?_;simp only[go_sem];refine⟨by unfold aF;omega,by kernel_rfl,bo ((hb m5).mono ?_)⟩;clear hb;rintro r H' m6 ej ⟨l6,x6,e6,s6,rfl,hx6,rfl,hR6⟩;have tX:=hR6.mono;have sR:s4.next.i=s4.i+1:=rfl;simp only[go_sem];try simp only[l6,true_and,and_self]
    intro a c m7 w1 w2 w3;refine⟨(s6,⟨16,0,j7 (ts.drop s4.i),[],ai,a,2,c⟩,.mk 16 0 (j7 (ts.drop s4.i)) [] ai [e4,e6],m7),⟨⟨⟨rfl,rfl,rfl,rfl,rfl,rfl,rfl,rfl⟩,⟨rfl,rfl,rfl⟩⟩,.inl rfl⟩,⟨aa q1 (aa l5 (aa l6 (.inr w1))),hR6.inv,by dsimp only;omega,lC (es:=[e4,e6]) ⟨by decide,by decide⟩ ⟨by decide,by decide⟩ hw (aD _) gn (by simp) w2 w3 (UY (bq (aa l5 (aa l6 (.inr w1))) q4) (bq (.inr w1) hx6)),fun a s' h=>q5 a s' ?_⟩,by dsimp only;omega⟩;rw[zX hn,ah hop,<- b7];exact cv q2 hi (aW hR6 h)
   ·have ha:=aks (en:=en) hn hT hop;clear hE;simp only[go_sem];refine ab ((ha m4).mono ?_);clear ha;rintro r H' m5 cK ⟨l5,w5,rfl,rfl⟩;simp only[go_sem];have GS:∀m',ae m5 m' ->(¬(n=6/\az [105,115] (ts.drop s4.i)=true))->(¬(n=6/\az [97,115] (ts.drop s4.i)=true))->gX ts en s (dQ n (ts.drop s.i)) m (.agg x4.svs) (pH ts en s4) m' :=fun m' sU h1 h2=>
     ⟨aa (aa l1 q1) (aa l5 sU),x4,e4,s4,rfl,bq (aa l5 sU) q4,rfl,q5 _ _ (by rw[zX hn,af hop,af h1,af h2];exact cL _ q2)⟩
    refine⟨fun h6=> ?_,fun h6=>⟨fun h=>absurd h h6,fun _=>GS m5 (.inl rfl) (fun h=>h6 (by rw[h.1];rfl)) (fun h=>h6 (by rw[h.1];rfl))⟩⟩;have HE:n=6:=by omega
    by_cases his:bC ts s4.i [105,115]=true
    ·have ha:=dR (en:=en) hT his;have hi:=bF his;have gj:=q2.next hi;have hb:=fun m' =>xK ts en s4.next m' hT gj
     clear GS;refine ab ((ha m5).mono ?_);clear ha;rintro r H' m6 ej ⟨l6,rfl,rfl⟩;simp only[go_sem];refine bO (.hoist 0 (.hoist 2 (.alt 1 [2] (.alt 3 [] (.hoist 4 (.alt 5 [] .done .stop)) .stop) (.alt 3 [0] (.alt 1 [] (.hoist 4 (.alt 5 [] .done .stop)) .stop) .stop)))) aB (by kernel_rfl) (by kernel_rfl) ?_;simp only[go_sem];refine⟨ab ((hb m6).mono ?_),ab ((hb m6).mono ?_)⟩
     ·clear hb;rintro r H' m7 eW ⟨l7,t,s7,rfl,bM,htn,rfl,hR7⟩;have Dt:=hR7.mono;have sR:s4.next.i=s4.i+1:=rfl;simp only[go_sem];try simp only[l7,true_and,and_self]
      intro a c mz w1 w2 w3;refine⟨(s7,⟨18,0,[],[],t,a,1,c⟩,.mk 18 0 [] [] t [e4],mz),⟨⟨⟨rfl,rfl,rfl,rfl,rfl,rfl,rfl,rfl⟩,⟨rfl,rfl,rfl⟩⟩,.inl rfl⟩,⟨aa q1 (aa l5 (aa l6 (aa l7 (.inr w1)))),hR7.inv,by dsimp only;omega,lC (es:=[e4]) ⟨by decide,by decide⟩ ⟨by decide,by decide⟩ (aD _) (aD _) bM (by simp) w2 w3 (qL (bq (aa l5 (aa l6 (aa l7 (.inr w1)))) q4)),fun a s' h=>q5 a s' ?_⟩,by dsimp only;omega⟩;rw[zX hn,af hop,ah ⟨HE,by rw[<- ax];exact his⟩,<- b7];exact cv q2 hi (aW hR7 h)
     ·clear hb;rintro r H' m7 eW ⟨l7,t,s7,rfl,bM,htn,rfl,hR7⟩;have Dt:=hR7.mono;have sR:s4.next.i=s4.i+1:=rfl;simp only[go_sem];try simp only[l7,true_and,and_self]
      intro a c mz w1 w2 w3;refine⟨(s7,⟨18,0,[],[],t,a,1,c⟩,.mk 18 0 [] [] t [e4],mz),⟨⟨⟨rfl,rfl,rfl,rfl,rfl,rfl,rfl,rfl⟩,⟨rfl,rfl,rfl⟩⟩,.inl rfl⟩,⟨aa q1 (aa l5 (aa l6 (aa l7 (.inr w1)))),hR7.inv,by dsimp only;omega,lC (es:=[e4]) ⟨by decide,by decide⟩ ⟨by decide,by decide⟩ (aD _) (aD _) bM (by simp) w2 w3 (qL (bq (aa l5 (aa l6 (aa l7 (.inr w1)))) q4)),fun a s' h=>q5 a s' ?_⟩,by dsimp only;omega⟩;rw[zX hn,af hop,ah ⟨HE,by rw[<- ax];exact his⟩,<- b7];exact cv q2 hi (aW hR7 h)
    ·have ha:=dS (en:=en) hT his;refine ab ((ha m5).mono ?_);clear ha;rintro r H' m6 ej ⟨l6,rfl,rfl⟩;simp only[go_sem];refine⟨fun _=> ?_,fun h=>absurd h6 h⟩;by_cases has:bC ts s4.i [97,115]=true
     ·have ha:=dR (en:=en) hT has;have hi:=bF has;have gj:=q2.next hi;have hb:=fun m' =>xK ts en s4.next m' hT gj
      clear GS;refine ab ((ha m6).mono ?_);clear ha;rintro r H' m7 eW ⟨l7,rfl,rfl⟩;simp only[go_sem];refine bO (.hoist 0 (.hoist 2 (.alt 1 [2] (.alt 3 [] (.hoist 4 (.alt 5 [] .done .stop)) .stop) (.alt 3 [0] (.alt 1 [] (.hoist 4 (.alt 5 [] .done .stop)) .stop) .stop)))) aB (by kernel_rfl) (by kernel_rfl) ?_;simp only[go_sem];refine⟨ab ((hb m7).mono ?_),ab ((hb m7).mono ?_)⟩
      ·clear hb;rintro r H' m8 iE ⟨l8,t,s7,rfl,bM,htn,rfl,hR7⟩;have Dt:=hR7.mono;have sR:s4.next.i=s4.i+1:=rfl;simp only[go_sem];try simp only[l8,true_and,and_self]
       intro a c mz w1 w2 w3;refine⟨(s7,⟨17,0,[],[],t,a,1,c⟩,.mk 17 0 [] [] t [e4],mz),⟨⟨⟨rfl,rfl,rfl,rfl,rfl,rfl,rfl,rfl⟩,⟨rfl,rfl,rfl⟩⟩,.inl rfl⟩,⟨aa q1 (aa l5 (aa l6 (aa l7 (aa l8 (.inr w1))))),hR7.inv,by dsimp only;omega,lC (es:=[e4]) ⟨by decide,by decide⟩ ⟨by decide,by decide⟩ (aD _) (aD _) bM (by simp) w2 w3 (qL (bq (aa l5 (aa l6 (aa l7 (aa l8 (.inr w1))))) q4)),fun a s' h=>q5 a s' ?_⟩,by dsimp only;omega⟩;rw[zX hn,af hop,af (fun h=>his (by rw[ax];exact h.2)),ah ⟨HE,by rw[<- ax];exact has⟩,<- b7];exact cv q2 hi (aW hR7 h)
      ·clear hb;rintro r H' m8 iE ⟨l8,t,s7,rfl,bM,htn,rfl,hR7⟩;have Dt:=hR7.mono;have sR:s4.next.i=s4.i+1:=rfl;simp only[go_sem];try simp only[l8,true_and,and_self]
       intro a c mz w1 w2 w3;refine⟨(s7,⟨17,0,[],[],t,a,1,c⟩,.mk 17 0 [] [] t [e4],mz),⟨⟨⟨rfl,rfl,rfl,rfl,rfl,rfl,rfl,rfl⟩,⟨rfl,rfl,rfl⟩⟩,.inl rfl⟩,⟨aa q1 (aa l5 (aa l6 (aa l7 (aa l8 (.inr w1))))),hR7.inv,by dsimp only;omega,lC (es:=[e4]) ⟨by decide,by decide⟩ ⟨by decide,by decide⟩ (aD _) (aD _) bM (by simp) w2 w3 (qL (bq (aa l5 (aa l6 (aa l7 (aa l8 (.inr w1))))) q4)),fun a s' h=>q5 a s' ?_⟩,by dsimp only;omega⟩;rw[zX hn,af hop,af (fun h=>his (by rw[ax];exact h.2)),ah ⟨HE,by rw[<- ax];exact has⟩,<- b7];exact cv q2 hi (aW hR7 h)
     ·have ha:=dS (en:=en) hT has;refine ab ((ha m6).mono ?_);clear ha;rintro r H' m7 eW ⟨l7,rfl,rfl⟩;simp only[go_sem];exact GS m7 (aa l6 l7) (fun h=>his (by rw[ax];exact h.2)) (fun h=>has (by rw[ax];exact h.2))
end
structure EXW (ts:List Tk) (en:Int) (s:PSt):Prop where
 expr:∀n,n<=10->oZ ts en n s
 un:Bm ts en s
 args:wI ts en s
 paren:Ga ts en s
theorem afH {ts:List Tk} {en:Int} (hT:TsB ts) (L:Nat) (ih:∀s:PSt,Inv ts s->ts.length - s.i<L->EXW ts en s):∀s,Inv ts s->ts.length - s.i=L->EXW ts en s:=by
 have later:∀s:PSt,ts.length - s.i=L->∀s1,Inv ts s1->s.i<s1.i->EXW ts en s1:=fun s hL s1 h1 h2=>ih s1 h1 (by have:=h1.le;omega)
 have hx:∀s,Inv ts s->ts.length - s.i=L->Bm ts en s/\∀n,n<=10->oZ ts en n s:=fun s hI hL=>by
  have lt:=later s hL;have hA:=fun s1 h1 h2=>(lt s1 h1 h2).args
  have hE:=fun s1 h1 h2=>(lt s1 h1 h2).expr 0 (by decide)
  have hK:=Yi hT hI hA (fun s1 h1 h2=>(lt s1 h1 h2).paren) hE;have hO:UB ts en s:=Yb hT hI hA hE hK;have hP:∀s1,Inv ts s1->s.i<=s1.i->UA ts en s1:=fun s1 h1 h2 x e m hx=>
   X5 hT h1 (fun s2 g1 g2=>hA s2 g1 (Nat.lt_of_le_of_lt h2 g2)) (fun s2 g1 g2=>hE s2 g1 (Nat.lt_of_le_of_lt h2 g2)) x e m hx
  have hU:Bm ts en s:=aag hT hI (fun s1 h1 h2=>(lt s1 h1 h2).un) hO hP;have hN:∀k n,n+k=10->oZ ts en n s:=fun k=>by
   induction k with
   |zero=>
    intro n hn;obtain rfl:n=10:=by omega
    exact abx hT hU
   |succ k ihk=>
    intro n hn;exact aby hT hI n (by omega) (ihk (n+1) (by omega)) fun s1 h1 h2=>(lt s1 h1 h2).expr (n+1) (by omega)
  exact⟨hU,fun n hn=>hN (10 - n) n (by omega)⟩
 intro s hI hL;have he:∀s1,Inv ts s1->s.i<=s1.i->oZ ts en 0 s1:=fun s1 h1 h2=>by
  rcases Nat.lt_or_ge s.i s1.i with h |h
  ·exact(later s hL s1 h1 h).expr 0 (by decide)
  ·exact(hx s1 h1 (by omega)).2 0 (by decide)
 exact⟨(hx s hI hL).2,(hx s hI hL).1,aef hT hI he,Qb hT hI (he _ (fB hI) (gZ hI))⟩
theorem JS {ts:List Tk} {en:Int} (hT:TsB ts):∀(L:Nat) (s:PSt),Inv ts s->ts.length - s.i<L->EXW ts en s
 |0,s,_,h=>absurd h (Nat.not_lt_zero _)
 |L+1,s,hI,h=>by
  rcases Nat.lt_or_ge (ts.length - s.i) L with h1 |h1
  ·exact JS hT L s hI h1
  ·exact afH hT L (fun s h2 h3=>JS hT L s h2 h3) s hI (by omega)
theorem uz {ts:List Tk} {en:Int} {s:PSt} (hT:TsB ts) (hI:Inv ts s):EXW ts en s:=JS hT _ s hI (Nat.lt_succ_self _)
abbrev Sd.svs (x:Sd):List SV:=[.v (.int .i64 x.k),.v (.string (bs x.name)),.v (.int .i64 x.ty.dim),.v (.int .u8 x.ty.base),.v (.string (bs x.ty.name)),.v (.int .i64 x.tg.k),.v (.int .i64 x.tg.n),.v (.string (bs x.tg.s)),.v (.string (bs x.tg.c)),.v (.int .i64 x.tg.ty.dim),.v (.int .u8 x.tg.ty.base),.v (.string (bs x.tg.ty.name)),.v (.slice x.tg.a x.tg.l x.tg.cp),.v (.int .i64 x.ex.k),.v (.int .i64 x.ex.n),.v (.string (bs x.ex.s)),.v (.string (bs x.ex.c)),.v (.int .i64 x.ex.ty.dim),.v (.int .u8 x.ex.ty.base),.v (.string (bs x.ex.ty.name)),.v (.slice x.ex.a x.ex.l x.ex.cp),.v (.slice x.a x.l x.cp),.v (.slice x.b x.l2 x.cp2)]
attribute [go_sem] Sd.svs
abbrev sn (ts:List Tk) (en:Int) (s:PSt) (K:PR St) (m:Mem):SV->Hp->Mem->Prop:=fun r H' m' =>ae m m' /\∃(x:Sd) (e:St) (s' :PSt),r= .agg x.svs/\eX m' e x.cs/\H' =pH ts en s' /\Res ts en s K e s'
abbrev alU (ts:List Tk) (en:Int) (s:PSt) (K:PR (List St)) (m:Mem):SV->Hp->Mem->Prop:=fun r H' m' =>ae m m' /\∃(es:List St) (a:Option Addr) (c:Nat) (xs:List Value) (s' :PSt),r= .v (.slice a es.length c)/\es.length<=c/\(es.length+s.i<=s'.i+(if s'.fl=true then 1 else 0)/\es.length<=1000001)/\aX m' a es.length 23 xs/\bS m' es xs/\H' =pH ts en s' /\Res ts en s K es s'
def Dj (ts:List Tk) (en:Int) (s:PSt):Prop:=∀m:Mem,FnH Tryz.prog 38 [.box 0 0] (pH ts en s) m (sn ts en s (Az (ts.drop s.i)) m)
def qA (ts:List Tk) (en:Int) (s:PSt):Prop:=∀m:Mem,FnH Tryz.prog 128 [.box 0 0] (pH ts en s) m (alU ts en s (kY (ts.drop s.i)) m)
theorem pO {m:Mem} {k:Int} {nm:List UInt8} {ty:Ty} {tx ex:Nd} {tg e:Ex} {body alt:List St} {a b:Option Addr} {cp cp2:Nat} {xs ys:List Value} (hk:aF k) (hn:nm.length<=1000000) (ht:ov ty)
  (h1:bw m tg tx.cs) (h2:bw m e ex.cs) (hl:body.length<=1000001) (hc:body.length<=cp) (hr:aX m a body.length 23 xs) (hs:bS m body xs)
  (ct:alt.length<=1000001) (kz:alt.length<=cp2) (lL:aX m b alt.length 23 ys) (uh:bS m alt ys):
  eX m (.mk k nm ty tg e body alt) (Sd.cs ⟨k,nm,ty,tx,ex,a,body.length,cp,b,alt.length,cp2⟩):=by
 simp only[eX];exact⟨⟨k,nm,ty,tx,ex,a,body.length,cp,b,alt.length,cp2⟩,⟨rfl,rfl,rfl,rfl⟩,h1,h2,⟨rfl,hc,rfl,kz⟩,⟨hk,by unfold aq;omega,ht,by unfold aq;omega,by unfold aq;omega⟩,xs,ys,hr,lL,hs,uh⟩
theorem iW (m:Mem) (xs:List Value):bS m [] xs:=by simp only[bS]
theorem ajh {m:Mem} {e:St} {x:Sd} (h:eX m e x.cs):bS m [e] x.cs:=by
 simp only[bS,and_true];exact h
theorem Ja {m:Mem} {e:St} {x:Sd} (hx:eX m e x.cs):∀{es:List St} {xs:List Value},xs.length=es.length * 23->bS m es xs->bS m (es++[e]) (xs++x.cs)
 |[],xs,hl,_=>by
  have:xs=[]:=List.eq_nil_of_length_eq_zero (by simpa using hl);subst this;exact ajh hx
 |y::r,xs,hl,h=>by
  simp only[bS,dW] at h ⊢;simp only[aL] at hl;have h8:23<=xs.length:=by omega
  rw[List.take_append_of_le_length h8,List.drop_append_of_le_length h8];exact⟨h.1,Ja hx (by rw[dG];omega) h.2⟩
theorem tm {m m' :Mem} {es:List St} {xs:List Value} (hle:ae m m') (h:bS m es xs):bS m' es xs:=by
 rcases hle with rfl |hle
 ·exact h
 ·exact BI hle es xs h
section
variable {ts:List Tk} {en:Int} {s:PSt}
theorem CD {α:Type} {K:PR α} (a:α) (hI:Inv ts s) (h:s.fl=true):Res ts en s K a s:=
 ⟨hI,av _,fun _=>rfl,fun e=>(by rw[h] at e;cases e),fun e=>(by rw[h] at e;cases e)⟩
theorem nk {α:Type} {K:PR α} {a:α} {s' :PSt} (h:Res ts en s K a s') (hf:s.fl=false) (hK:∀x r,K= .ok (x,r)->r.length<(ts.drop s.i).length):s'.fl=true\/s.i<s'.i:=by
 cases e:K with
 |error r=>exact .inl (h.er hf r e).1
 |ok p=>
  obtain⟨x,r⟩:=p;obtain⟨_,_,rfl⟩:=h.ok hf x r e;have:=hK x _ e;simp only[dG] at this;exact .inr (by omega)
theorem wF {w:List UInt8} (hT:TsB ts) (h:bC ts s.i w=true) (m:Mem):FnH Tryz.prog 52 [.box 0 0,.v (.string (bs w))] (pH ts en s) m fun r H' m' =>ae m m' /\r= .tup []/\H' =pH ts en s.next:=
 (fu ts en s w m hT.l8).mono fun r H' m2 _ q=>⟨q.1,q.2.1,by have:=q.2.2;rw[aZ,ah h] at this;exact this⟩
theorem Rm (l:List Tk):∀x r,Az l= .ok (x,r)->r.length<l.length:=fun x r h=>((wc l).stmt.good.ok x r h).2 rfl
theorem abW (hT:TsB ts) (hI:Inv ts s) (hS:∀s1,Inv ts s1->s.i<s1.i->Dj ts en s1):qA ts en s:=fun m=>by
 have h1:=fu ts en s [123] m hT.l8;have uw:Inv ts (aZ ts en s [123]):=fB hI;have lW:s.i<=(aZ ts en s [123]).i:=gZ hI;refine pF (aR aB Tryz.func128 ?_)
 ·simp only[go_sem];refine ab (h1.mono ?_);clear h1;rintro r H' m1 aN ⟨l1,rfl,rfl⟩;simp only[go_sem];refine z7 3 73 23 (by decide) rfl ?_;refine dA aB (fun y:PSt×List St×List Value×Nat×Mem=>⟨[⟨0,[],.box 0 0⟩,⟨3,[],.vec 4 y.2.2.2.1⟩],[],[na en y.1],[⟨4,y.2.2.2.1,73,23,y.2.1.length,y.2.2.1⟩,kM ts],40,y.2.2.2.2⟩)
   (fun y=>ae m1 y.2.2.2.2/\Inv ts y.1/\(y.1.fl=false->s.i<y.1.i)/\(y.2.1.length+s.i<=y.1.i+(if y.1.fl=true then 1 else 0))/\y.2.2.1.length=y.2.1.length * 23/\bS y.2.2.2.2 y.2.1 y.2.2.1/\∀a s',Res ts en y.1 (CB y.2.1 (ts.drop y.1.i)) a s' ->Res ts en s (kY (ts.drop s.i)) a s')
   (fun y=>if y.1.fl=true then 0 else ts.length - y.1.i+1) (aZ ts en s [123],[],[],0,m1) (fun _ _=>dC rfl) (fun y hy=>hy.1) ?_ ?_ ?_
  ·simp only[go_sem]
  ·refine⟨.inl rfl,uw,fun h=> ?_,by dsimp only[bg];omega,rfl,iW _ _,fun a s' h=> ?_⟩
   ·dsimp only at h ⊢;unfold aZ at h ⊢;split at h
    ·rename_i h';rw[ah h'];exact Nat.lt_succ_self _
    ·rw[B9] at h;cases h
   ·rw[ZI];exact dZ hI h
  ·rintro⟨s4,es,xs,u,m4⟩ ⟨q1,q2,q3,q4,q5,q6,q7⟩;dsimp only at q1 q2 q3 q4 q5 q6 q7;have hl:=hT.len;have dv:=q2.le;by_cases hf:s4.fl=true
   ·clear hS;have q4' :=q4;rw[ah hf] at q4;simp only[go_sem];refine⟨fun h=>(by rw[hf] at h;cases h),fun _=>Cj (b:=⟨4,u,73,23,es.length,xs⟩) (by simp [eV]) (pH ts en s4) (List.Sublist.refl _) (.cons _ (List.Sublist.refl _)) fun a c mm w1 w2 w3=>⟨aa (aa l1 q1) (.inr w1),es,a,c,xs,s4,rfl,w2,⟨q4',by omega⟩,w3,tm (.inr w1) q6,rfl,q7 _ _ (CD es q2 hf)⟩⟩
   ·have qW:s4.fl=false:=by simpa using hf
    have aw:=q3 qW;by_cases h1:bC ts s4.i [125]=true
    ·have ha:=dR (en:=en) hT h1;have hi:=bF h1;have gj:=q2.next hi;clear hS;rw[af hf] at q4;simp only[go_sem];refine⟨fun _=>ab ((ha m4).mono ?_),fun h=>by rw[qW] at h;cases h⟩;clear ha;rintro r H' m5 cK ⟨l5,rfl,rfl⟩;simp only[go_sem];refine Cj (b:=⟨4,u,73,23,es.length,xs⟩) (by simp [eV]) (pH ts en s4.next) (List.Sublist.refl _) (.cons_cons _ (List.nil_sublist _)) fun a c mm w1 w2 w3=>⟨aa (aa l1 q1) (aa l5 (.inr w1)),es,a,c,xs,s4.next,rfl,w2,⟨by have hn:s4.next.i=s4.i+1:=rfl;omega,by omega⟩,w3,tm (aa l5 (.inr w1)) q6,rfl,q7 _ _ ?_⟩
     rw[Ow,ah (by rw[<- ax];exact h1),<- b7];exact cv q2 hi (cL _ gj)
    ·have ha:=dS (en:=en) hT h1;have hb:=hS s4 q2 aw;clear hS;rw[af hf] at q4;simp only[go_sem];refine⟨fun _=>ab ((ha m4).mono ?_),fun h=>by rw[qW] at h;cases h⟩;clear ha;rintro r H' m5 cK ⟨l5,rfl,rfl⟩;simp only[go_sem];refine ab ((hb m5).mono ?_);clear hb;rintro r H' m6 ej ⟨l6,x6,e6,s6,rfl,hx6,rfl,hR6⟩;have tX:=hR6.mono;have fU:=nk hR6 qW (Rm _);have zk:=hR6.inv.le;simp only[go_sem];refine⟨j9 (by omega) (by decide),(s6,es++[e6],xs++x6.cs,u+1,m6),⟨rfl,⟨rfl,rfl,rfl⟩,⟨rfl,by simp,rfl⟩,.inl rfl⟩,⟨aa q1 (aa l5 l6),hR6.inv,fun h=>by dsimp only;omega,?_,by simp only[aI,iq,q5,Sd.cs,aL,bg];omega,Ja hx6 q5 (tm (aa l5 l6) q6),fun a s' h=>q7 a s' ?_⟩,?_⟩
     ·dsimp only;rw[aI,iq];rcases fU with h |h
      ·rw[ah h];omega
      ·omega
     ·rw[Ow,af (by rw[<- ax];exact h1)];exact aW hR6 h
     ·dsimp only;rw[af hf];rcases fU with h |h
      ·rw[ah h];omega
      ·split<;>omega
end
noncomputable def ifK (l:List Tk):PR St:=an (oL l) fun e r=>an (kY r) fun b r2=>if az pV r2=true then an (kY r2.tail) fun a r3=> .ok (.mk 4 [] ai zE e b a,r3) else .ok (.mk 4 [] ai zE e b [],r2)
noncomputable def TP (k:Int) (l:List Tk):PR St:=an (oL l) fun e r=>an (kY r) fun b r2=> .ok (.mk k [] ai zE e b [],r2)
noncomputable def Lf (l:List Tk):PR St:=if az [59] l=true then .ok (.mk 6 [] ai zE zE [] [],l.tail) else an (dQ 0 l) fun e r=>aV [59] r fun r2=> .ok (.mk 6 [] ai zE e [] [],r2)
noncomputable def aeE (l:List Tk):PR St:=an (dQ 0 l) fun e r=>aV [59] r fun r2=> .ok (.mk 7 [] ai zE e [] [],r2)
noncomputable def ai0 (l:List Tk):PR St:=an (kY l) fun b r=>aV nu r fun r2=>aV [40] r2 fun r3=>an (eY r3) fun t r4=>an (da r4) fun s r5=>aV [41] r5 fun r6=>an (kY r6) fun a r7=> .ok (.mk 8 s t zE zE b a,r7)
noncomputable def ag4 (l:List Tk):PR St:=an (kY l) fun b r=> .ok (.mk 10 [] ai zE zE b [],r)
noncomputable def ah6 (l:List Tk):PR St:=an (oY l) fun es r=>aV [59] r fun r2=> .ok (.mk 11 [] ai zE (.mk 0 0 [] [] ai es) [] [],r2)
noncomputable def ah0 (l:List Tk):PR St:=an (eY l) fun t r=>an (da r) fun s r2=>aV [61] r2 fun r3=>an (dQ 0 r3) fun e r4=>aV [59] r4 fun r5=> .ok (.mk 1 s t zE e [] [],r5)
noncomputable def agj (l:List Tk):PR St:=an (dQ 0 l) fun e r=>
 if az [61] r=true then an (dQ 0 r.tail) fun x r2=>aV [59] r2 fun r3=> .ok (.mk 2 [] ai e x [] [],r3)
 else aV [59] r fun r2=> .ok (.mk 3 [] ai zE e [] [],r2)
section
variable {ts:List Tk} {en:Int} {s:PSt}
theorem ahc (hT:TsB ts) (hI:Inv ts s) (ly:bC ts s.i sN=true) (hB:∀s1,Inv ts s1->s.i<s1.i->qA ts en s1) (m:Mem):FnH Tryz.prog 75 [.box 0 0] (pH ts en s) m (sn ts en s.next (ifK (ts.drop (s.next).i)) m):=by
 have hi:=bF ly;have fH:=hI.next hi;have hn:s.next.i=s.i+1:=rfl;refine aR aB Tryz.func75 ?_
 ·simp only[go_sem];have q1:=fun m' =>wF (en:=en) hT ly m'
  refine ab ((q1 m).mono ?_);clear q1;rintro r H' m1 aN ⟨l1,rfl,rfl⟩;simp only[go_sem];have q2:=fun m' =>(uz (en:=en) hT fH).paren m'
  refine ab ((q2 m1).mono ?_);clear q2;rintro r H' m2 aH ⟨l2,x2,e2,s2,rfl,pj,rfl,hR2⟩;simp only[go_sem];have aY:=hR2.mono;have q3:=hB s2 hR2.inv (by omega);refine ab ((q3 m2).mono ?_);clear q3;rintro r H' m3 bI ⟨l3,bs3,a3,c3,tZ,s3,rfl,ha3,hb3,ra,xy,rfl,hR3⟩;simp only[go_sem];have lH:=hR3.mono;by_cases qZ:bC ts (s3).i pV=true
  ·have q5:=fun m' =>dR (en:=en) hT qZ m'
   refine ab ((q5 m3).mono ?_);clear q5;rintro r H' m4 cQ ⟨l4,rfl,rfl⟩;simp only[go_sem];have gj:=hR3.inv.next (bF qZ);have Du:(s3).next.i=(s3).i+1:=rfl;have q6:=hB (s3).next gj (by omega);refine ab ((q6 m4).mono ?_);clear q6;rintro r H' m5 cK ⟨l5,bs6,a6,c6,xs6,s6,rfl,ha6,hb6,VQ,hd6,rfl,hR6⟩;simp only[go_sem];have tX:=hR6.mono;exact⟨(aa l1 (aa l2 (aa l3 (aa l4 l5)))),⟨4,[],ai,bj,x2,a3,bs3.length,c3,a6,bs6.length,c6⟩,.mk 4 [] ai zE e2 bs3 bs6,s6,rfl,pO ⟨by decide,by decide⟩ (aD _) gn iH (bq (aa l3 (aa l4 l5)) pj) hb3.2 ha3 (ay (aa l4 l5) ra) (tm (aa l4 l5) xy) hb6.2 ha6 VQ hd6,rfl,(aW hR2 (aW hR3 (by rw[ah (by rw[<- ax];exact qZ),<- b7];exact cv hR3.inv (bF qZ) (aW hR6 (cL _ hR6.inv)))))⟩
  ·have q5:=fun m' =>dS (en:=en) hT qZ m'
   refine ab ((q5 m3).mono ?_);clear q5;rintro r H' m4 cQ ⟨l4,rfl,rfl⟩;simp only[go_sem];exact⟨(aa l1 (aa l2 (aa l3 l4))),⟨4,[],ai,bj,x2,a3,bs3.length,c3,none,0,0⟩,.mk 4 [] ai zE e2 bs3 [],s3,rfl,pO ⟨by decide,by decide⟩ (aD _) gn iH (bq (aa l3 l4) pj) hb3.2 ha3 (ay l4 ra) (tm l4 xy) (aD _) (av _) (fI _ _) (iW _ _),rfl,(aW hR2 (aW hR3 (by rw[af (by rw[<- ax];exact qZ)];exact(cL _ hR3.inv))))⟩
theorem ZW (hT:TsB ts) (hI:Inv ts s) (ly:bC ts s.i uU=true) (hB:∀s1,Inv ts s1->s.i<s1.i->qA ts en s1) (m:Mem):FnH Tryz.prog 76 [.box 0 0] (pH ts en s) m (sn ts en s.next (TP 5 (ts.drop (s.next).i)) m):=by
 have hi:=bF ly;have fH:=hI.next hi;have hn:s.next.i=s.i+1:=rfl;refine aR aB Tryz.func76 ?_
 ·simp only[go_sem];have q1:=fun m' =>wF (en:=en) hT ly m'
  refine ab ((q1 m).mono ?_);clear q1;rintro r H' m1 aN ⟨l1,rfl,rfl⟩;simp only[go_sem];have q2:=fun m' =>(uz (en:=en) hT fH).paren m'
  refine ab ((q2 m1).mono ?_);clear q2;rintro r H' m2 aH ⟨l2,x2,e2,s2,rfl,pj,rfl,hR2⟩;simp only[go_sem];have aY:=hR2.mono;have q3:=hB s2 hR2.inv (by omega);refine ab ((q3 m2).mono ?_);clear q3;rintro r H' m3 bI ⟨l3,bs3,a3,c3,tZ,s3,rfl,ha3,hb3,ra,xy,rfl,hR3⟩;simp only[go_sem];have lH:=hR3.mono;exact⟨(aa l1 (aa l2 l3)),⟨5,[],ai,bj,x2,a3,bs3.length,c3,none,0,0⟩,.mk 5 [] ai zE e2 bs3 [],s3,rfl,pO ⟨by decide,by decide⟩ (aD _) gn iH (bq l3 pj) hb3.2 ha3 ra xy (aD _) (av _) (fI _ _) (iW _ _),rfl,(aW hR2 (aW hR3 (cL _ hR3.inv)))⟩
theorem acs (hT:TsB ts) (hI:Inv ts s) (ly:bC ts s.i u9=true) (hB:∀s1,Inv ts s1->s.i<s1.i->qA ts en s1) (m:Mem):FnH Tryz.prog 80 [.box 0 0] (pH ts en s) m (sn ts en s.next (TP 9 (ts.drop (s.next).i)) m):=by
 have hi:=bF ly;have fH:=hI.next hi;have hn:s.next.i=s.i+1:=rfl;refine aR aB Tryz.func80 ?_
 ·simp only[go_sem];have q1:=fun m' =>wF (en:=en) hT ly m'
  refine ab ((q1 m).mono ?_);clear q1;rintro r H' m1 aN ⟨l1,rfl,rfl⟩;simp only[go_sem];have q2:=fun m' =>(uz (en:=en) hT fH).paren m'
  refine ab ((q2 m1).mono ?_);clear q2;rintro r H' m2 aH ⟨l2,x2,e2,s2,rfl,pj,rfl,hR2⟩;simp only[go_sem];have aY:=hR2.mono;have q3:=hB s2 hR2.inv (by omega);refine ab ((q3 m2).mono ?_);clear q3;rintro r H' m3 bI ⟨l3,bs3,a3,c3,tZ,s3,rfl,ha3,hb3,ra,xy,rfl,hR3⟩;simp only[go_sem];have lH:=hR3.mono;exact⟨(aa l1 (aa l2 l3)),⟨9,[],ai,bj,x2,a3,bs3.length,c3,none,0,0⟩,.mk 9 [] ai zE e2 bs3 [],s3,rfl,pO ⟨by decide,by decide⟩ (aD _) gn iH (bq l3 pj) hb3.2 ha3 ra xy (aD _) (av _) (fI _ _) (iW _ _),rfl,(aW hR2 (aW hR3 (cL _ hR3.inv)))⟩
theorem aeK (hT:TsB ts) (hI:Inv ts s) (ly:bC ts s.i tM=true) (m:Mem):FnH Tryz.prog 77 [.box 0 0] (pH ts en s) m (sn ts en s.next (Lf (ts.drop (s.next).i)) m):=by
 have hi:=bF ly;have fH:=hI.next hi;have hn:s.next.i=s.i+1:=rfl;refine aR aB Tryz.func77 ?_
 ·simp only[go_sem];have q1:=fun m' =>wF (en:=en) hT ly m'
  refine ab ((q1 m).mono ?_);clear q1;rintro r H' m1 aN ⟨l1,rfl,rfl⟩;simp only[go_sem];by_cases kz:bC ts (s.next).i [59]=true
  ·have q3:=fun m' =>nv (en:=en) hT kz m'
   refine ab ((q3 m1).mono ?_);clear q3;rintro r H' m2 aH ⟨l2,rfl,rfl⟩;simp only[go_sem];have q4:=fun m' =>wF (en:=en) hT kz m'
   refine ab ((q4 m2).mono ?_);clear q4;rintro r H' m3 bI ⟨l3,rfl,rfl⟩;simp only[go_sem];exact⟨(aa l1 (aa l2 l3)),⟨6,[],ai,bj,bj,none,0,0,none,0,0⟩,.mk 6 [] ai zE zE [] [],(s.next).next,rfl,pO ⟨by decide,by decide⟩ (aD _) gn iH iH (aD _) (av _) (fI _ _) (iW _ _) (aD _) (av _) (fI _ _) (iW _ _),rfl,(by rw[Lf,ah (by rw[<- ax];exact kz),<- b7];exact cv fH (bF kz) (cL _ (fH.next (bF kz))))⟩
  ·have q3:=fun m' =>nw (en:=en) hT kz m'
   refine ab ((q3 m1).mono ?_);clear q3;rintro r H' m2 aH ⟨l2,rfl,rfl⟩;simp only[go_sem];have q4:=fun m' =>(show ∀m' :Mem,FnH Tryz.prog 31 [.box 0 0,.v (.int .i64 0)] (pH ts en s.next) m' (gX ts en s.next (dQ 0 (ts.drop (s.next).i)) m') from(uz hT fH).expr 0 (by decide)) m'
   refine ab ((q4 m2).mono ?_);clear q4;rintro r H' m3 bI ⟨l3,x4,e4,s4,rfl,yT,rfl,hR4⟩;simp only[go_sem];have GN:=hR4.mono;have q5:=fun m' =>fu ts en s4 [59] m' hT.l8
   have gj:Inv ts (aZ ts en s4 [59]):=fB hR4.inv;have Du:(s4).i<=(aZ ts en s4 [59]).i:=gZ hR4.inv;refine ab ((q5 m3).mono ?_);clear q5;rintro r H' m4 cQ ⟨l4,rfl,rfl⟩;simp only[go_sem];exact⟨(aa l1 (aa l2 (aa l3 l4))),⟨6,[],ai,bj,x4,none,0,0,none,0,0⟩,.mk 6 [] ai zE e4 [] [],(aZ ts en s4 [59]),rfl,pO ⟨by decide,by decide⟩ (aD _) gn iH (bq l4 yT) (aD _) (av _) (fI _ _) (iW _ _) (aD _) (av _) (fI _ _) (iW _ _),rfl,(by rw[Lf,af (by rw[<- ax];exact kz)];exact(aW hR4 (dZ hR4.inv (cL _ gj))))⟩
theorem aal (hT:TsB ts) (hI:Inv ts s) (ly:bC ts s.i uV=true) (m:Mem):FnH Tryz.prog 78 [.box 0 0] (pH ts en s) m (sn ts en s.next (aeE (ts.drop (s.next).i)) m):=by
 have hi:=bF ly;have fH:=hI.next hi;have hn:s.next.i=s.i+1:=rfl;refine aR aB Tryz.func78 ?_
 ·simp only[go_sem];have q1:=fun m' =>wF (en:=en) hT ly m'
  refine ab ((q1 m).mono ?_);clear q1;rintro r H' m1 aN ⟨l1,rfl,rfl⟩;simp only[go_sem];have q2:=fun m' =>(show ∀m' :Mem,FnH Tryz.prog 31 [.box 0 0,.v (.int .i64 0)] (pH ts en s.next) m' (gX ts en s.next (dQ 0 (ts.drop (s.next).i)) m') from(uz hT fH).expr 0 (by decide)) m'
  refine ab ((q2 m1).mono ?_);clear q2;rintro r H' m2 aH ⟨l2,x2,e2,s2,rfl,pj,rfl,hR2⟩;simp only[go_sem];have aY:=hR2.mono;have q3:=fun m' =>fu ts en s2 [59] m' hT.l8
  have oC:Inv ts (aZ ts en s2 [59]):=fB hR2.inv;have lH:(s2).i<=(aZ ts en s2 [59]).i:=gZ hR2.inv;refine ab ((q3 m2).mono ?_);clear q3;rintro r H' m3 bI ⟨l3,rfl,rfl⟩;simp only[go_sem];exact⟨(aa l1 (aa l2 l3)),⟨7,[],ai,bj,x2,none,0,0,none,0,0⟩,.mk 7 [] ai zE e2 [] [],(aZ ts en s2 [59]),rfl,pO ⟨by decide,by decide⟩ (aD _) gn iH (bq l3 pj) (aD _) (av _) (fI _ _) (iW _ _) (aD _) (av _) (fI _ _) (iW _ _),rfl,(aW hR2 (dZ hR2.inv (cL _ oC)))⟩
theorem aez (hT:TsB ts) (hI:Inv ts s) (ly:bC ts s.i vg=true) (hB:∀s1,Inv ts s1->s.i<s1.i->qA ts en s1) (m:Mem):FnH Tryz.prog 79 [.box 0 0] (pH ts en s) m (sn ts en s.next (ai0 (ts.drop (s.next).i)) m):=by
 have hi:=bF ly;have fH:=hI.next hi;have hn:s.next.i=s.i+1:=rfl;refine aR aB Tryz.func79 ?_
 ·simp only[go_sem];have q1:=fun m' =>wF (en:=en) hT ly m'
  refine ab ((q1 m).mono ?_);clear q1;rintro r H' m1 aN ⟨l1,rfl,rfl⟩;simp only[go_sem];have q2:=hB s.next fH (by omega);refine ab ((q2 m1).mono ?_);clear q2;rintro r H' m2 aH ⟨l2,bs2,a2,c2,xs2,s2,rfl,ha2,D6,kz,qY,rfl,hR2⟩;simp only[go_sem];have aY:=hR2.mono;have q3:=fun m' =>fu ts en s2 nu m' hT.l8
  have oC:Inv ts (aZ ts en s2 nu):=fB hR2.inv;have lH:(s2).i<=(aZ ts en s2 nu).i:=gZ hR2.inv;refine ab ((q3 m2).mono ?_);clear q3;rintro r H' m3 bI ⟨l3,rfl,rfl⟩;simp only[go_sem];have q4:=fun m' =>fu ts en (aZ ts en s2 nu) [40] m' hT.l8
  have D9:Inv ts (aZ ts en (aZ ts en s2 nu) [40]):=fB oC;have GN:((aZ ts en s2 nu)).i<=(aZ ts en (aZ ts en s2 nu) [40]).i:=gZ oC;refine ab ((q4 m3).mono ?_);clear q4;rintro r H' m4 cQ ⟨l4,rfl,rfl⟩;simp only[go_sem];have q5:=fun m' =>xK ts en (aZ ts en (aZ ts en s2 nu) [40]) m' hT D9
  refine ab ((q5 m4).mono ?_);clear q5;rintro r H' m5 cK ⟨l5,t5,s5,rfl,ht5,hu5,rfl,hR5⟩;simp only[go_sem];have Du:=hR5.mono;have q6:=fun m' =>rC ts en s5 m' hT hR5.inv
  refine ab ((q6 m5).mono ?_);clear q6;rintro r H' m6 ej ⟨l6,w6,s6,rfl,qT,rfl,hR6⟩;simp only[go_sem];have tX:=hR6.mono;have q7:=fun m' =>fu ts en s6 [41] m' hT.l8
  have hI7:Inv ts (aZ ts en s6 [41]):=fB hR6.inv;have Dt:(s6).i<=(aZ ts en s6 [41]).i:=gZ hR6.inv;refine ab ((q7 m6).mono ?_);clear q7;rintro r H' m7 eW ⟨l7,rfl,rfl⟩;simp only[go_sem];have q8:=hB (aZ ts en s6 [41]) hI7 (by omega);refine ab ((q8 m7).mono ?_);clear q8;rintro r H' m8 iE ⟨l8,bs8,a8,c8,xs8,s8,rfl,ha8,hb8,Hr,hd8,rfl,hR8⟩;simp only[go_sem];have akQ:=hR8.mono;exact⟨(aa l1 (aa l2 (aa l3 (aa l4 (aa l5 (aa l6 (aa l7 l8))))))),⟨8,w6,t5,bj,bj,a2,bs2.length,c2,a8,bs8.length,c8⟩,.mk 8 w6 t5 zE zE bs2 bs8,s8,rfl,pO ⟨by decide,by decide⟩ qT ht5 iH iH D6.2 ha2 (ay (aa l3 (aa l4 (aa l5 (aa l6 (aa l7 l8))))) kz) (tm (aa l3 (aa l4 (aa l5 (aa l6 (aa l7 l8))))) qY) hb8.2 ha8 Hr hd8,rfl,(aW hR2 (dZ hR2.inv (dZ oC (aW hR5 (aW hR6 (dZ hR6.inv (aW hR8 (cL _ hR8.inv))))))))⟩
theorem ac2 (hT:TsB ts) (hI:Inv ts s) (jR:qA ts en s) (m:Mem):FnH Tryz.prog 81 [.box 0 0] (pH ts en s) m (sn ts en s (ag4 (ts.drop (s).i)) m):=by
 refine aR aB Tryz.func81 ?_
 ·simp only[go_sem];have q1:=jR;refine ab ((q1 m).mono ?_);clear q1;rintro r H' m1 aN ⟨l1,bs1,a1,c1,xs1,s1,rfl,ha1,ng,D4,hd1,rfl,ep⟩;simp only[go_sem];have lW:=ep.mono;exact⟨l1,⟨10,[],ai,bj,bj,a1,bs1.length,c1,none,0,0⟩,.mk 10 [] ai zE zE bs1 [],s1,rfl,pO ⟨by decide,by decide⟩ (aD _) gn iH iH ng.2 ha1 D4 hd1 (aD _) (av _) (fI _ _) (iW _ _),rfl,(aW ep (cL _ ep.inv))⟩
theorem aec (hT:TsB ts) (hI:Inv ts s) (ly:bC ts s.i rL=true) (m:Mem):FnH Tryz.prog 83 [.box 0 0] (pH ts en s) m (sn ts en s.next (ah6 (ts.drop (s.next).i)) m):=by
 have hi:=bF ly;have fH:=hI.next hi;have hn:s.next.i=s.i+1:=rfl;refine aR aB Tryz.func83 ?_
 ·simp only[go_sem];have q1:=fun m' =>wF (en:=en) hT ly m'
  refine ab ((q1 m).mono ?_);clear q1;rintro r H' m1 aN ⟨l1,rfl,rfl⟩;simp only[go_sem];have q2:=fun m' =>(uz (en:=en) hT fH).args m'
  refine ab ((q2 m1).mono ?_);clear q2;rintro r H' m2 aH ⟨l2,es2,a2,c2,xs2,s2,rfl,ha2,D6,kz,qY,rfl,hR2⟩;simp only[go_sem];have aY:=hR2.mono;have q3:=fun m' =>fu ts en s2 [59] m' hT.l8
  have oC:Inv ts (aZ ts en s2 [59]):=fB hR2.inv;have lH:(s2).i<=(aZ ts en s2 [59]).i:=gZ hR2.inv;refine ab ((q3 m2).mono ?_);clear q3;rintro r H' m3 bI ⟨l3,rfl,rfl⟩;simp only[go_sem];exact⟨(aa l1 (aa l2 l3)),⟨11,[],ai,bj,⟨0,0,[],[],ai,a2,es2.length,c2⟩,none,0,0,none,0,0⟩,.mk 11 [] ai zE (.mk 0 0 [] [] ai es2) [] [],(aZ ts en s2 [59]),rfl,pO ⟨by decide,by decide⟩ (aD _) gn iH (lC ⟨by decide,by decide⟩ ⟨by decide,by decide⟩ (aD _) (aD _) gn (Nat.le_succ_of_le D6) ha2 (ay l3 kz) (Cr l3 qY)) (aD _) (av _) (fI _ _) (iW _ _) (aD _) (av _) (fI _ _) (iW _ _),rfl,(aW hR2 (dZ hR2.inv (cL _ oC)))⟩
theorem SE (hT:TsB ts) (hI:Inv ts s) (m:Mem):FnH Tryz.prog 85 [.box 0 0] (pH ts en s) m (sn ts en s (ah0 (ts.drop (s).i)) m):=by
 refine aR aB Tryz.func85 ?_
 ·simp only[go_sem];have q1:=fun m' =>xK ts en s m' hT hI
  refine ab ((q1 m).mono ?_);clear q1;rintro r H' m1 aN ⟨l1,t1,s1,rfl,ht1,hu1,rfl,ep⟩;simp only[go_sem];have lW:=ep.mono;have q2:=fun m' =>rC ts en s1 m' hT ep.inv
  refine ab ((q2 m1).mono ?_);clear q2;rintro r H' m2 aH ⟨l2,w2,s2,rfl,ue,rfl,hR2⟩;simp only[go_sem];have aY:=hR2.mono;have q3:=fun m' =>fu ts en s2 [61] m' hT.l8
  have oC:Inv ts (aZ ts en s2 [61]):=fB hR2.inv;have lH:(s2).i<=(aZ ts en s2 [61]).i:=gZ hR2.inv;refine ab ((q3 m2).mono ?_);clear q3;rintro r H' m3 bI ⟨l3,rfl,rfl⟩;simp only[go_sem];have q4:=fun m' =>(show ∀m' :Mem,FnH Tryz.prog 31 [.box 0 0,.v (.int .i64 0)] (pH ts en (aZ ts en s2 [61])) m' (gX ts en (aZ ts en s2 [61]) (dQ 0 (ts.drop ((aZ ts en s2 [61])).i)) m') from(uz hT oC).expr 0 (by decide)) m'
  refine ab ((q4 m3).mono ?_);clear q4;rintro r H' m4 cQ ⟨l4,x4,e4,s4,rfl,yT,rfl,hR4⟩;simp only[go_sem];have GN:=hR4.mono;have q5:=fun m' =>fu ts en s4 [59] m' hT.l8
  have gj:Inv ts (aZ ts en s4 [59]):=fB hR4.inv;have Du:(s4).i<=(aZ ts en s4 [59]).i:=gZ hR4.inv;refine ab ((q5 m4).mono ?_);clear q5;rintro r H' m5 cK ⟨l5,rfl,rfl⟩;simp only[go_sem];exact⟨(aa l1 (aa l2 (aa l3 (aa l4 l5)))),⟨1,w2,t1,bj,x4,none,0,0,none,0,0⟩,.mk 1 w2 t1 zE e4 [] [],(aZ ts en s4 [59]),rfl,pO ⟨by decide,by decide⟩ ue ht1 iH (bq l5 yT) (aD _) (av _) (fI _ _) (iW _ _) (aD _) (av _) (fI _ _) (iW _ _),rfl,(aW ep (aW hR2 (dZ hR2.inv (aW hR4 (dZ hR4.inv (cL _ gj))))))⟩
theorem Ro (hT:TsB ts) (hI:Inv ts s) (m:Mem):FnH Tryz.prog 73 [.box 0 0] (pH ts en s) m (sn ts en s (agj (ts.drop (s).i)) m):=by
 refine aR aB Tryz.func73 ?_
 ·simp only[go_sem];have q1:=fun m' =>(show ∀m' :Mem,FnH Tryz.prog 31 [.box 0 0,.v (.int .i64 0)] (pH ts en s) m' (gX ts en s (dQ 0 (ts.drop (s).i)) m') from(uz hT hI).expr 0 (by decide)) m'
  refine ab ((q1 m).mono ?_);clear q1;rintro r H' m1 aN ⟨l1,x1,e1,s1,rfl,mg,rfl,ep⟩;simp only[go_sem];have lW:=ep.mono;by_cases kz:bC ts (s1).i [61]=true
  ·have q3:=fun m' =>dR (en:=en) hT kz m'
   refine ab ((q3 m1).mono ?_);clear q3;rintro r H' m2 aH ⟨l2,rfl,rfl⟩;simp only[go_sem];have oC:=ep.inv.next (bF kz);have lH:(s1).next.i=(s1).i+1:=rfl;refine bO (.hoist 0 (.hoist 1 (.hoist 2 (.alt 3 [1,0] (.hoist 4 (.alt 5 [] .done .stop)) .stop)))) aB (by kernel_rfl) (by kernel_rfl) ?_;simp only[go_sem];have q4:=fun m' =>(show ∀m' :Mem,FnH Tryz.prog 31 [.box 0 0,.v (.int .i64 0)] (pH ts en (s1).next) m' (gX ts en (s1).next (dQ 0 (ts.drop ((s1).next).i)) m') from(uz hT oC).expr 0 (by decide)) m'
   refine ab ((q4 m2).mono ?_);clear q4;rintro r H' m3 bI ⟨l3,x4,e4,s4,rfl,yT,rfl,hR4⟩;simp only[go_sem];have GN:=hR4.mono;try simp only[l3,true_and,and_self]
   have q5:=fun m' =>fu ts en s4 [59] m' hT.l8
   have gj:Inv ts (aZ ts en s4 [59]):=fB hR4.inv;have Du:(s4).i<=(aZ ts en s4 [59]).i:=gZ hR4.inv;refine ab ((q5 m3).mono ?_);clear q5;rintro r H' m4 cQ ⟨l4,rfl,rfl⟩;simp only[go_sem];exact⟨(aa l1 (aa l2 (aa l3 l4))),⟨2,[],ai,x1,x4,none,0,0,none,0,0⟩,.mk 2 [] ai e1 e4 [] [],(aZ ts en s4 [59]),rfl,pO ⟨by decide,by decide⟩ (aD _) gn (bq (aa l2 (aa l3 l4)) mg) (bq l4 yT) (aD _) (av _) (fI _ _) (iW _ _) (aD _) (av _) (fI _ _) (iW _ _),rfl,(aW ep (by rw[ah (by rw[<- ax];exact kz),<- b7];exact cv ep.inv (bF kz) (aW hR4 (dZ hR4.inv (cL _ gj)))))⟩
  ·have q3:=fun m' =>dS (en:=en) hT kz m'
   refine ab ((q3 m1).mono ?_);clear q3;rintro r H' m2 aH ⟨l2,rfl,rfl⟩;simp only[go_sem];have q4:=fun m' =>fu ts en s1 [59] m' hT.l8
   have D9:Inv ts (aZ ts en s1 [59]):=fB ep.inv;have GN:(s1).i<=(aZ ts en s1 [59]).i:=gZ ep.inv;refine ab ((q4 m2).mono ?_);clear q4;rintro r H' m3 bI ⟨l3,rfl,rfl⟩;simp only[go_sem];exact⟨(aa l1 (aa l2 l3)),⟨3,[],ai,bj,x1,none,0,0,none,0,0⟩,.mk 3 [] ai zE e1 [] [],(aZ ts en s1 [59]),rfl,pO ⟨by decide,by decide⟩ (aD _) gn iH (bq (aa l2 l3) mg) (aD _) (av _) (fI _ _) (iW _ _) (aD _) (av _) (fI _ _) (iW _ _),rfl,(aW ep (by rw[af (by rw[<- ax];exact kz)];exact(dZ ep.inv (cL _ D9))))⟩
end
section
variable {ts:List Tk} {en:Int} {s:PSt}
theorem Ew (hT:TsB ts) (hI:Inv ts s) (w:List UInt8) (m:Mem):FnH Tryz.prog 82 [.box 0 0,.v (.string (bs w))] (pH ts en s) m fun r H' m' =>ae m m' /\r= .v (.bool (az w (ts.drop s.i).tail))/\H' =pH ts en s:=by
 have hp:=fun m' =>Fe ts en s.next w m' hT.l8
 have hl:=hT.len;have dv:=hI.le;have e:bC ts s.next.i w=az w (ts.drop s.i).tail:=by rw[ax,b7]
 rw[e] at hp;refine aR aB Tryz.func82 ?_
 ·simp only[go_sem];refine⟨by unfold aF;omega,?_⟩;refine ab ((hp m).mono ?_);clear hp;rintro r H' m1 aN ⟨l1,rfl,rfl⟩;simp only[go_sem];exact l1
theorem Yw (hT:TsB ts) (hI:Inv ts s) (b:Bool) (hb:lE (ts.drop s.i)=b) (m:Mem):FnH Tryz.prog 84 [.box 0 0] (pH ts en s) m fun r H' m' =>ae m m' /\r= .v (.bool b)/\H' =pH ts en s:=by
 refine aR aB Tryz.func84 ?_
 ·simp only[go_sem];by_cases h1:bC ts s.i iM=true
  ·have ha:=nv (en:=en) hT h1;have hf:=fun m' =>Ew (en:=en) hT hI [40] m'
   have e:lE (ts.drop s.i)= !az [40] (ts.drop s.i).tail:=by rw[lE,ah];rw[<- ax,h1];rfl
   refine ab ((ha m).mono ?_);clear ha;rintro r H' m1 aN ⟨l1,rfl,rfl⟩;simp only[go_sem];refine ab ((hf m1).mono ?_);clear hf;rintro r H' m2 aH ⟨l2,rfl,rfl⟩;simp only[go_sem];exact⟨aa l1 l2,by rw[<- hb,e]⟩
  ·have ha:=nw (en:=en) hT h1;refine ab ((ha m).mono ?_);clear ha;rintro r H' m1 aN ⟨l1,rfl,rfl⟩;simp only[go_sem];by_cases h2:bC ts s.i iI=true
   ·have ha:=nv (en:=en) hT h2;have hf:=fun m' =>Ew (en:=en) hT hI [40] m'
    have e:lE (ts.drop s.i)= !az [40] (ts.drop s.i).tail:=by rw[lE,ah];rw[<- ax,<- ax,h2,Bool.or_true]
    refine ab ((ha m1).mono ?_);clear ha;rintro r H' m2 aH ⟨l2,rfl,rfl⟩;simp only[go_sem];refine ab ((hf m2).mono ?_);clear hf;rintro r H' m3 bI ⟨l3,rfl,rfl⟩;simp only[go_sem];exact⟨aa l1 (aa l2 l3),by rw[<- hb,e]⟩
   ·have ha:=nw (en:=en) hT h2;have e:lE (ts.drop s.i)=(gp (ts.drop s.i)&& !az [46] (ts.drop s.i).tail):=by rw[lE,af];rw[<- ax,<- ax,Bool.or_eq_true];rintro(h |h);exact h1 h;exact h2 h
    refine ab ((ha m1).mono ?_);clear ha;rintro r H' m2 aH ⟨l2,rfl,rfl⟩;simp only[go_sem];by_cases h3:gp (ts.drop s.i)=true
    ·have ha:=Tu (en:=en) hT h3;have hf:=fun m' =>Ew (en:=en) hT hI [46] m'
     refine ab ((ha m2).mono ?_);clear ha;rintro r H' m3 bI ⟨l3,rfl,rfl⟩;simp only[go_sem];refine ab ((hf m3).mono ?_);clear hf;rintro r H' m4 cQ ⟨l4,rfl,rfl⟩;simp only[go_sem];exact⟨aa l1 (aa l2 (aa l3 l4)),by rw[<- hb,e,h3];rfl⟩
    ·have ha:=Tv (en:=en) hT h3;refine ab ((ha m2).mono ?_);clear ha;rintro r H' m3 bI ⟨l3,rfl,rfl⟩;simp only[go_sem];exact⟨aa l1 (aa l2 l3),by rw[<- hb,e,(by simpa using h3:gp (ts.drop s.i)=false)];rfl⟩
theorem M9 (hT:TsB ts) (hI:Inv ts s) (m:Mem):FnH Tryz.prog 84 [.box 0 0] (pH ts en s) m fun r H' m' =>ae m m' /\r= .v (.bool (lE (ts.drop s.i)))/\H' =pH ts en s:=Yw hT hI _ rfl m
theorem acv (hT:TsB ts) (hI:Inv ts s) (jR:qA ts en s) (hB:∀s1,Inv ts s1->s.i<s1.i->qA ts en s1):Dj ts en s:=fun m=>by
 refine aR aB Tryz.func38 ?_
 ·simp only[go_sem];by_cases h0:bC ts s.i sN=true
  ·have ha:=nv (en:=en) hT h0;have hb:=ahc (en:=en) hT hI h0 hB;clear hB jR;refine ab ((ha m).mono ?_);clear ha;rintro r H' m1 aN ⟨l1,rfl,rfl⟩;simp only[go_sem];refine ab ((hb m1).mono ?_);clear hb;rintro r H' m2 aH ⟨l2,x,e,s1,rfl,hx,rfl,hR⟩;simp only[go_sem];exact⟨(aa l1 l2),x,e,s1,rfl,hx,rfl,by rw[qo,ah (by rw[<- ax];exact h0),<- b7];exact cv hI (bF h0) hR⟩
  ·have ha:=nw (en:=en) hT h0;refine ab ((ha m).mono ?_);clear ha;rintro r H' m1 aN ⟨l1,rfl,rfl⟩;simp only[go_sem];by_cases h1:bC ts s.i uU=true
   ·have ha:=nv (en:=en) hT h1;have hb:=ZW (en:=en) hT hI h1 hB;clear hB jR;refine ab ((ha m1).mono ?_);clear ha;rintro r H' m2 aH ⟨l2,rfl,rfl⟩;simp only[go_sem];refine ab ((hb m2).mono ?_);clear hb;rintro r H' m3 bI ⟨l3,x,e,s1,rfl,hx,rfl,hR⟩;simp only[go_sem];exact⟨(aa l1 (aa l2 l3)),x,e,s1,rfl,hx,rfl,by rw[qo,af (by rw[<- ax];exact h0),ah (by rw[<- ax];exact h1),<- b7];exact cv hI (bF h1) hR⟩
   ·have ha:=nw (en:=en) hT h1;refine ab ((ha m1).mono ?_);clear ha;rintro r H' m2 aH ⟨l2,rfl,rfl⟩;simp only[go_sem];by_cases h2:bC ts s.i tM=true
    ·have ha:=nv (en:=en) hT h2;have hb:=aeK (en:=en) hT hI h2;clear hB jR;refine ab ((ha m2).mono ?_);clear ha;rintro r H' m3 bI ⟨l3,rfl,rfl⟩;simp only[go_sem];refine ab ((hb m3).mono ?_);clear hb;rintro r H' m4 cQ ⟨l4,x,e,s1,rfl,hx,rfl,hR⟩;simp only[go_sem];exact⟨(aa l1 (aa l2 (aa l3 l4))),x,e,s1,rfl,hx,rfl,by rw[qo,af (by rw[<- ax];exact h0),af (by rw[<- ax];exact h1),ah (by rw[<- ax];exact h2),<- b7];exact cv hI (bF h2) hR⟩
    ·have ha:=nw (en:=en) hT h2;refine ab ((ha m2).mono ?_);clear ha;rintro r H' m3 bI ⟨l3,rfl,rfl⟩;simp only[go_sem];by_cases h3:bC ts s.i uV=true
     ·have ha:=nv (en:=en) hT h3;have hb:=aal (en:=en) hT hI h3;clear hB jR;refine ab ((ha m3).mono ?_);clear ha;rintro r H' m4 cQ ⟨l4,rfl,rfl⟩;simp only[go_sem];refine ab ((hb m4).mono ?_);clear hb;rintro r H' m5 cK ⟨l5,x,e,s1,rfl,hx,rfl,hR⟩;simp only[go_sem];exact⟨(aa l1 (aa l2 (aa l3 (aa l4 l5)))),x,e,s1,rfl,hx,rfl,by rw[qo,af (by rw[<- ax];exact h0),af (by rw[<- ax];exact h1),af (by rw[<- ax];exact h2),ah (by rw[<- ax];exact h3),<- b7];exact cv hI (bF h3) hR⟩
     ·have ha:=nw (en:=en) hT h3;refine ab ((ha m3).mono ?_);clear ha;rintro r H' m4 cQ ⟨l4,rfl,rfl⟩;simp only[go_sem];by_cases h4:bC ts s.i vg=true
      ·have ha:=nv (en:=en) hT h4;have hb:=aez (en:=en) hT hI h4 hB;clear hB jR;refine ab ((ha m4).mono ?_);clear ha;rintro r H' m5 cK ⟨l5,rfl,rfl⟩;simp only[go_sem];refine ab ((hb m5).mono ?_);clear hb;rintro r H' m6 ej ⟨l6,x,e,s1,rfl,hx,rfl,hR⟩;simp only[go_sem];exact⟨(aa l1 (aa l2 (aa l3 (aa l4 (aa l5 l6))))),x,e,s1,rfl,hx,rfl,by rw[qo,af (by rw[<- ax];exact h0),af (by rw[<- ax];exact h1),af (by rw[<- ax];exact h2),af (by rw[<- ax];exact h3),ah (by rw[<- ax];exact h4),<- b7];exact cv hI (bF h4) hR⟩
      ·have ha:=nw (en:=en) hT h4;refine ab ((ha m4).mono ?_);clear ha;rintro r H' m5 cK ⟨l5,rfl,rfl⟩;simp only[go_sem];by_cases h5:bC ts s.i u9=true
       ·have ha:=nv (en:=en) hT h5;have hb:=acs (en:=en) hT hI h5 hB;clear hB jR;refine ab ((ha m5).mono ?_);clear ha;rintro r H' m6 ej ⟨l6,rfl,rfl⟩;simp only[go_sem];refine ab ((hb m6).mono ?_);clear hb;rintro r H' m7 eW ⟨l7,x,e,s1,rfl,hx,rfl,hR⟩;simp only[go_sem];exact⟨(aa l1 (aa l2 (aa l3 (aa l4 (aa l5 (aa l6 l7)))))),x,e,s1,rfl,hx,rfl,by rw[qo,af (by rw[<- ax];exact h0),af (by rw[<- ax];exact h1),af (by rw[<- ax];exact h2),af (by rw[<- ax];exact h3),af (by rw[<- ax];exact h4),ah (by rw[<- ax];exact h5),<- b7];exact cv hI (bF h5) hR⟩
       ·have ha:=nw (en:=en) hT h5;refine ab ((ha m5).mono ?_);clear ha;rintro r H' m6 ej ⟨l6,rfl,rfl⟩;simp only[go_sem];by_cases h6:bC ts s.i [123]=true
        ·have ha:=nv (en:=en) hT h6;have hb:=ac2 (en:=en) hT hI jR;clear hB jR;refine ab ((ha m6).mono ?_);clear ha;rintro r H' m7 eW ⟨l7,rfl,rfl⟩;simp only[go_sem];refine ab ((hb m7).mono ?_);clear hb;rintro r H' m8 iE ⟨l8,x,e,s1,rfl,hx,rfl,hR⟩;simp only[go_sem];exact⟨(aa l1 (aa l2 (aa l3 (aa l4 (aa l5 (aa l6 (aa l7 l8))))))),x,e,s1,rfl,hx,rfl,by rw[qo,af (by rw[<- ax];exact h0),af (by rw[<- ax];exact h1),af (by rw[<- ax];exact h2),af (by rw[<- ax];exact h3),af (by rw[<- ax];exact h4),af (by rw[<- ax];exact h5),ah (by rw[<- ax];exact h6)];exact hR⟩
        ·have ha:=nw (en:=en) hT h6;refine ab ((ha m6).mono ?_);clear ha;rintro r H' m7 eW ⟨l7,rfl,rfl⟩;simp only[go_sem];by_cases h7:bC ts s.i rL=true
         ·have ha:=nv (en:=en) hT h7;have hf:=fun m' =>Ew (en:=en) hT hI [40] m'
          refine ab ((ha m7).mono ?_);clear ha;rintro r H' m8 iE ⟨l8,rfl,rfl⟩;simp only[go_sem];by_cases h8:az [40] (ts.drop s.i).tail=true
          ·rw[h8] at hf;have hb:=aec (en:=en) hT hI h7;clear hB jR;refine ab ((hf m8).mono ?_);clear hf;rintro r H' m9 kR ⟨l9,rfl,rfl⟩;simp only[go_sem];refine ab ((hb m9).mono ?_);clear hb;rintro r H' m10 sb ⟨l10,x,e,s1,rfl,hx,rfl,hR⟩;simp only[go_sem];exact⟨(aa l1 (aa l2 (aa l3 (aa l4 (aa l5 (aa l6 (aa l7 (aa l8 (aa l9 l10))))))))),x,e,s1,rfl,hx,rfl,by rw[qo,af (by rw[<- ax];exact h0),af (by rw[<- ax];exact h1),af (by rw[<- ax];exact h2),af (by rw[<- ax];exact h3),af (by rw[<- ax];exact h4),af (by rw[<- ax];exact h5),af (by rw[<- ax];exact h6),ah ⟨by rw[<- ax];exact h7,h8⟩,<- b7];exact cv hI (bF h7) hR⟩
          ·rw[(by simpa using h8:az [40] (ts.drop s.i).tail=false)] at hf;refine ab ((hf m8).mono ?_);clear hf;rintro r H' m9 kR ⟨l9,rfl,rfl⟩;simp only[go_sem];have hd:=fun m' =>M9 (en:=en) hT hI m'
           refine ab ((hd m9).mono ?_);clear hd;rintro r H' m10 sb ⟨l10,rfl,rfl⟩;simp only[go_sem];refine⟨fun h9=> ?_,fun h9=> ?_⟩
           ·have hb:=SE (en:=en) hT hI;clear hB jR;refine ab ((hb m10).mono ?_);clear hb;rintro r H' m11 AZ ⟨vH,x,e,s1,rfl,hx,rfl,hR⟩;simp only[go_sem];exact⟨(aa l1 (aa l2 (aa l3 (aa l4 (aa l5 (aa l6 (aa l7 (aa l8 (aa l9 (aa l10 vH)))))))))),x,e,s1,rfl,hx,rfl,by rw[qo,af (by rw[<- ax];exact h0),af (by rw[<- ax];exact h1),af (by rw[<- ax];exact h2),af (by rw[<- ax];exact h3),af (by rw[<- ax];exact h4),af (by rw[<- ax];exact h5),af (by rw[<- ax];exact h6),af (fun q=>h8 q.2),ah h9];exact hR⟩
           ·have hb:=Ro (en:=en) hT hI;clear hB jR;refine ab ((hb m10).mono ?_);clear hb;rintro r H' m11 AZ ⟨vH,x,e,s1,rfl,hx,rfl,hR⟩;simp only[go_sem];exact⟨(aa l1 (aa l2 (aa l3 (aa l4 (aa l5 (aa l6 (aa l7 (aa l8 (aa l9 (aa l10 vH)))))))))),x,e,s1,rfl,hx,rfl,by rw[qo,af (by rw[<- ax];exact h0),af (by rw[<- ax];exact h1),af (by rw[<- ax];exact h2),af (by rw[<- ax];exact h3),af (by rw[<- ax];exact h4),af (by rw[<- ax];exact h5),af (by rw[<- ax];exact h6),af (fun q=>h8 q.2),af (by rw[h9];decide)];exact hR⟩
         ·have ha:=nw (en:=en) hT h7;refine ab ((ha m7).mono ?_);clear ha;rintro r H' m8 iE ⟨l8,rfl,rfl⟩;simp only[go_sem];have hd:=fun m' =>M9 (en:=en) hT hI m'
          refine ab ((hd m8).mono ?_);clear hd;rintro r H' m9 kR ⟨l9,rfl,rfl⟩;simp only[go_sem];refine⟨fun h9=> ?_,fun h9=> ?_⟩
          ·have hb:=SE (en:=en) hT hI;clear hB jR;refine ab ((hb m9).mono ?_);clear hb;rintro r H' m10 sb ⟨l10,x,e,s1,rfl,hx,rfl,hR⟩;simp only[go_sem];exact⟨(aa l1 (aa l2 (aa l3 (aa l4 (aa l5 (aa l6 (aa l7 (aa l8 (aa l9 l10))))))))),x,e,s1,rfl,hx,rfl,by rw[qo,af (by rw[<- ax];exact h0),af (by rw[<- ax];exact h1),af (by rw[<- ax];exact h2),af (by rw[<- ax];exact h3),af (by rw[<- ax];exact h4),af (by rw[<- ax];exact h5),af (by rw[<- ax];exact h6),af (fun q=>h7 (by rw[ax];exact q.1)),ah h9];exact hR⟩
          ·have hb:=Ro (en:=en) hT hI;clear hB jR;refine ab ((hb m9).mono ?_);clear hb;rintro r H' m10 sb ⟨l10,x,e,s1,rfl,hx,rfl,hR⟩;simp only[go_sem];exact⟨(aa l1 (aa l2 (aa l3 (aa l4 (aa l5 (aa l6 (aa l7 (aa l8 (aa l9 l10))))))))),x,e,s1,rfl,hx,rfl,by rw[qo,af (by rw[<- ax];exact h0),af (by rw[<- ax];exact h1),af (by rw[<- ax];exact h2),af (by rw[<- ax];exact h3),af (by rw[<- ax];exact h4),af (by rw[<- ax];exact h5),af (by rw[<- ax];exact h6),af (fun q=>h7 (by rw[ax];exact q.1)),af (by rw[h9];decide)];exact hR⟩
end
theorem JC {ts:List Tk} {en:Int} (hT:TsB ts):∀(L:Nat) (s:PSt),Inv ts s->ts.length - s.i<L->Dj ts en s/\qA ts en s
 |0,s,_,h=>absurd h (Nat.not_lt_zero _)
 |L+1,s,hI,h=>by
  have later:∀s1,Inv ts s1->s.i<s1.i->Dj ts en s1/\qA ts en s1:=fun s1 h1 h2=>JC hT L s1 h1 (by have:=h1.le;omega)
  have hb:qA ts en s:=abW hT hI fun s1 h1 h2=>(later s1 h1 h2).1
  exact⟨acv hT hI hb fun s1 h1 h2=>(later s1 h1 h2).2,hb⟩
theorem stw {ts:List Tk} {en:Int} {s:PSt} (hT:TsB ts) (hI:Inv ts s):Dj ts en s:=(JC hT _ s hI (Nat.lt_succ_self _)).1
theorem zp {ts:List Tk} {en:Int} {s:PSt} (hT:TsB ts) (hI:Inv ts s):qA ts en s:=(JC hT _ s hI (Nat.lt_succ_self _)).2
theorem akq:∀fl:Int,0<=fl->fl<1->bits .or .i64 fl 1=fl+1:=fun fl h0 h1=>by
 have h:(List.range 1).all (fun n=>decide (bits .or .i64 (n:Int) 1=(n:Int)+1))=true:=by kernel_rfl
 obtain⟨k,rfl⟩:=Int.eq_ofNat_of_zero_le h0;exact of_decide_eq_true (List.all_eq_true.1 h k (List.mem_range.2 (by omega)))
theorem akp:∀fl:Int,0<=fl->fl<2->bits .or .i64 fl 2=fl+2:=fun fl h0 h1=>by
 have h:(List.range 2).all (fun n=>decide (bits .or .i64 (n:Int) 2=(n:Int)+2))=true:=by kernel_rfl
 obtain⟨k,rfl⟩:=Int.eq_ofNat_of_zero_le h0;exact of_decide_eq_true (List.all_eq_true.1 h k (List.mem_range.2 (by omega)))
theorem ako:∀fl:Int,0<=fl->fl<4->bits .or .i64 fl 4=fl+4:=fun fl h0 h1=>by
 have h:(List.range 4).all (fun n=>decide (bits .or .i64 (n:Int) 4=(n:Int)+4))=true:=by kernel_rfl
 obtain⟨k,rfl⟩:=Int.eq_ofNat_of_zero_le h0;exact of_decide_eq_true (List.all_eq_true.1 h k (List.mem_range.2 (by omega)))
theorem akn:∀fl:Int,0<=fl->fl<8->bits .or .i64 fl 8=fl+8:=fun fl h0 h1=>by
 have h:(List.range 8).all (fun n=>decide (bits .or .i64 (n:Int) 8=(n:Int)+8))=true:=by kernel_rfl
 obtain⟨k,rfl⟩:=Int.eq_ofNat_of_zero_le h0;exact of_decide_eq_true (List.all_eq_true.1 h k (List.mem_range.2 (by omega)))
theorem T8:∀fl:Int,0<=fl->fl<16->bits .or .i64 fl 16=fl+16:=fun fl h0 h1=>by
 have h:(List.range 16).all (fun n=>decide (bits .or .i64 (n:Int) 16=(n:Int)+16))=true:=by kernel_rfl
 obtain⟨k,rfl⟩:=Int.eq_ofNat_of_zero_le h0;exact of_decide_eq_true (List.all_eq_true.1 h k (List.mem_range.2 (by omega)))
theorem ag2:∀fl:Int,0<=fl->fl<32->bits .or .i64 fl 32=fl+32:=fun fl h0 h1=>by
 have h:(List.range 32).all (fun n=>decide (bits .or .i64 (n:Int) 32=(n:Int)+32))=true:=by kernel_rfl
 obtain⟨k,rfl⟩:=Int.eq_ofNat_of_zero_le h0;exact of_decide_eq_true (List.all_eq_true.1 h k (List.mem_range.2 (by omega)))
theorem JH:∀fl:Int,0<=fl->fl<64->bits .or .i64 fl 1024=fl+1024:=fun fl h0 h1=>by
 have h:(List.range 64).all (fun n=>decide (bits .or .i64 (n:Int) 1024=(n:Int)+1024))=true:=by kernel_rfl
 obtain⟨k,rfl⟩:=Int.eq_ofNat_of_zero_le h0;exact of_decide_eq_true (List.all_eq_true.1 h k (List.mem_range.2 (by omega)))
theorem afL:iU Tryz.prog 155=some 3:=by kernel_rfl
theorem acg:fC Tryz.prog 3=some [.v (.int .i64 0)]:=by kernel_rfl
attribute [go_sem] afL acg
theorem gk (p:Int×List UInt8) (q:List (Int×List UInt8)) (fl:Int) (l:List Tk):bN (p::q) fl l=if az p.2 l=true then bN q (fl+p.1) l.tail else bN q fl l:=rfl
structure ModR (ts:List Tk) (q:List (Int×List UInt8)) (fl0:Int) (s:PSt) (v:Int) (s' :PSt):Prop where
 inv:Inv ts s'
 mono:s.i<=s'.i
 fl:s'.fl=s.fl
 same:s.fl=true->s' =s
 val:bN q fl0 (ts.drop s.i)=(v,ts.drop s'.i)
section
variable {ts:List Tk} {en:Int} {s:PSt}
theorem Wz (hT:TsB ts) (hI:Inv ts s) (m:Mem):FnH Tryz.prog 127 [.box 0 0] (pH ts en s) m fun r H' m' =>ae m m' /\∃fl s',r= .v (.int .i64 fl)/\(0<=fl/\fl<2048)/\H' =pH ts en s' /\ModR ts bK 0 s fl s' :=by
 refine aR aB Tryz.func127 ?_
 ·simp only[go_sem];refine dA aB (fun y:Nat×PSt×Int×Mem=>⟨[⟨0,[],.box 0 0⟩,⟨3,[],.v (.int .i64 y.2.2.1)⟩,⟨6,[],.vec 2 0⟩,⟨7,[],.v (.int .i64 7)⟩,⟨8,[],.v (.int .i64 y.1)⟩],[],[na en y.2.1],[⟨2,0,9,1,7,[.string (bs [112,117,98,108,105,99]),.string (bs [112,114,105,118,97,116,101]),.string (bs [112,114,111,116,101,99,116,101,100]),.string (bs [115,116,97,116,105,99]),.string (bs [102,105,110,97,108]),.string (bs [115,121,110,99]),.string (bs [97,98,115,116,114,97,99,116])]⟩,kM ts],40,y.2.2.2⟩)
   (fun y=>ae m y.2.2.2/\y.1<=7/\Inv ts y.2.1/\s.i<=y.2.1.i/\y.2.1.fl=s.fl/\(s.fl=true->y.2.1=s)/\(0<=y.2.2.1/\y.2.2.1<2048/\(y.1<=6->y.2.2.1<2 ^ y.1))/\bN (bK.drop y.1) y.2.2.1 (ts.drop y.2.1.i)=bN bK 0 (ts.drop s.i))
   (fun y=>7 - y.1) (0,s,0,m) (fun _ _=>dC rfl) (fun y hy=>hy.1) ?_ ?_ ?_
  ·simp only[go_sem];exact⟨rfl,rfl⟩
  ·exact⟨.inl rfl,aD _,hI,av _,rfl,fun _=>rfl,⟨by dsimp only;omega,by dsimp only;omega,fun _=>by dsimp only;omega⟩,rfl⟩
  ·rintro⟨i,s1,fl,m1⟩ ⟨q1,q2,q3,q4,q5,q6,⟨q7,q8,q9⟩,fm⟩;dsimp only at q1 q2 q3 q4 q5 q6 q7 q8 q9 fm;have hs:i=0\/i=1\/i=2\/i=3\/i=4\/i=5\/i=6\/i=7:=by omega
   rcases hs with rfl |rfl |rfl |rfl |rfl |rfl |rfl |rfl
   ·have ky:fl<1:=q9 (by decide);have qf:=akq fl q7 ky;by_cases hc:bC ts s1.i [112,117,98,108,105,99]=true
    ·have ha:=dR (en:=en) hT hc;have hi:=bF hc;simp only[go_sem];refine⟨fun _=>⟨⟨by decide,by decide⟩,by kernel_rfl,bo ((ha m1).mono ?_)⟩,fun h=>absurd (by decide) h⟩;clear ha;rintro r H' m2 aH ⟨l2,rfl,rfl⟩;simp only[go_sem,qf];refine⟨⟨by decide,by decide⟩,⟨by decide,by decide⟩,(1,s1.next,fl+1,m2),⟨⟨rfl,rfl⟩,⟨rfl,rfl,rfl⟩,.inl rfl⟩,⟨aa q1 l2,(by decide:1<=7),q3.next hi,Nat.le_succ_of_le q4,q5,fun h=> ?_,⟨by dsimp only;omega,by dsimp only;omega,fun h=> ?_⟩,?_⟩,(by decide:7 - 1<7 - 0)⟩
     ·have h1:=q3.nfl hi;rw[q5,h] at h1;cases h1
     ·first |(exact absurd h (by decide:¬7<=6)) |(dsimp only;omega)
     ·rw[show bK.drop 0=(1,[112,117,98,108,105,99])::bK.drop 1 from rfl,gk,ah (by rw[<- ax];exact hc),<- b7] at fm;exact fm
    ·have ha:=dS (en:=en) hT hc;simp only[go_sem];refine⟨fun _=>⟨⟨by decide,by decide⟩,by kernel_rfl,bo ((ha m1).mono ?_)⟩,fun h=>absurd (by decide) h⟩;clear ha;rintro r H' m2 aH ⟨l2,rfl,rfl⟩;simp only[go_sem];refine⟨⟨by decide,by decide⟩,(1,s1,fl,m2),⟨⟨rfl,rfl⟩,⟨rfl,rfl,rfl⟩,.inl rfl⟩,⟨aa q1 l2,(by decide:1<=7),q3,q4,q5,q6,⟨q7,q8,fun h=> ?_⟩,?_⟩,(by decide:7 - 1<7 - 0)⟩
     ·first |(exact absurd h (by decide:¬7<=6)) |(dsimp only;omega)
     ·rw[show bK.drop 0=(1,[112,117,98,108,105,99])::bK.drop 1 from rfl,gk,af (by rw[<- ax];exact hc)] at fm;exact fm
   ·have ky:fl<2:=q9 (by decide);have qf:=akp fl q7 ky;by_cases hc:bC ts s1.i [112,114,105,118,97,116,101]=true
    ·have ha:=dR (en:=en) hT hc;have hi:=bF hc;simp only[go_sem];refine⟨fun _=>⟨⟨by decide,by decide⟩,by kernel_rfl,bo ((ha m1).mono ?_)⟩,fun h=>absurd (by decide) h⟩;clear ha;rintro r H' m2 aH ⟨l2,rfl,rfl⟩;simp only[go_sem,qf];refine⟨⟨by decide,by decide⟩,⟨by decide,by decide⟩,(2,s1.next,fl+2,m2),⟨⟨rfl,rfl⟩,⟨rfl,rfl,rfl⟩,.inl rfl⟩,⟨aa q1 l2,(by decide:2<=7),q3.next hi,Nat.le_succ_of_le q4,q5,fun h=> ?_,⟨by dsimp only;omega,by dsimp only;omega,fun h=> ?_⟩,?_⟩,(by decide:7 - 2<7 - 1)⟩
     ·have h1:=q3.nfl hi;rw[q5,h] at h1;cases h1
     ·first |(exact absurd h (by decide:¬7<=6)) |(dsimp only;omega)
     ·rw[show bK.drop 1=(2,[112,114,105,118,97,116,101])::bK.drop 2 from rfl,gk,ah (by rw[<- ax];exact hc),<- b7] at fm;exact fm
    ·have ha:=dS (en:=en) hT hc;simp only[go_sem];refine⟨fun _=>⟨⟨by decide,by decide⟩,by kernel_rfl,bo ((ha m1).mono ?_)⟩,fun h=>absurd (by decide) h⟩;clear ha;rintro r H' m2 aH ⟨l2,rfl,rfl⟩;simp only[go_sem];refine⟨⟨by decide,by decide⟩,(2,s1,fl,m2),⟨⟨rfl,rfl⟩,⟨rfl,rfl,rfl⟩,.inl rfl⟩,⟨aa q1 l2,(by decide:2<=7),q3,q4,q5,q6,⟨q7,q8,fun h=> ?_⟩,?_⟩,(by decide:7 - 2<7 - 1)⟩
     ·first |(exact absurd h (by decide:¬7<=6)) |(dsimp only;omega)
     ·rw[show bK.drop 1=(2,[112,114,105,118,97,116,101])::bK.drop 2 from rfl,gk,af (by rw[<- ax];exact hc)] at fm;exact fm
   ·have ky:fl<4:=q9 (by decide);have qf:=ako fl q7 ky;by_cases hc:bC ts s1.i [112,114,111,116,101,99,116,101,100]=true
    ·have ha:=dR (en:=en) hT hc;have hi:=bF hc;simp only[go_sem];refine⟨fun _=>⟨⟨by decide,by decide⟩,by kernel_rfl,bo ((ha m1).mono ?_)⟩,fun h=>absurd (by decide) h⟩;clear ha;rintro r H' m2 aH ⟨l2,rfl,rfl⟩;simp only[go_sem,qf];refine⟨⟨by decide,by decide⟩,⟨by decide,by decide⟩,(3,s1.next,fl+4,m2),⟨⟨rfl,rfl⟩,⟨rfl,rfl,rfl⟩,.inl rfl⟩,⟨aa q1 l2,(by decide:3<=7),q3.next hi,Nat.le_succ_of_le q4,q5,fun h=> ?_,⟨by dsimp only;omega,by dsimp only;omega,fun h=> ?_⟩,?_⟩,(by decide:7 - 3<7 - 2)⟩
     ·have h1:=q3.nfl hi;rw[q5,h] at h1;cases h1
     ·first |(exact absurd h (by decide:¬7<=6)) |(dsimp only;omega)
     ·rw[show bK.drop 2=(4,[112,114,111,116,101,99,116,101,100])::bK.drop 3 from rfl,gk,ah (by rw[<- ax];exact hc),<- b7] at fm;exact fm
    ·have ha:=dS (en:=en) hT hc;simp only[go_sem];refine⟨fun _=>⟨⟨by decide,by decide⟩,by kernel_rfl,bo ((ha m1).mono ?_)⟩,fun h=>absurd (by decide) h⟩;clear ha;rintro r H' m2 aH ⟨l2,rfl,rfl⟩;simp only[go_sem];refine⟨⟨by decide,by decide⟩,(3,s1,fl,m2),⟨⟨rfl,rfl⟩,⟨rfl,rfl,rfl⟩,.inl rfl⟩,⟨aa q1 l2,(by decide:3<=7),q3,q4,q5,q6,⟨q7,q8,fun h=> ?_⟩,?_⟩,(by decide:7 - 3<7 - 2)⟩
     ·first |(exact absurd h (by decide:¬7<=6)) |(dsimp only;omega)
     ·rw[show bK.drop 2=(4,[112,114,111,116,101,99,116,101,100])::bK.drop 3 from rfl,gk,af (by rw[<- ax];exact hc)] at fm;exact fm
   ·have ky:fl<8:=q9 (by decide);have qf:=akn fl q7 ky;by_cases hc:bC ts s1.i [115,116,97,116,105,99]=true
    ·have ha:=dR (en:=en) hT hc;have hi:=bF hc;simp only[go_sem];refine⟨fun _=>⟨⟨by decide,by decide⟩,by kernel_rfl,bo ((ha m1).mono ?_)⟩,fun h=>absurd (by decide) h⟩;clear ha;rintro r H' m2 aH ⟨l2,rfl,rfl⟩;simp only[go_sem,qf];refine⟨⟨by decide,by decide⟩,⟨by decide,by decide⟩,(4,s1.next,fl+8,m2),⟨⟨rfl,rfl⟩,⟨rfl,rfl,rfl⟩,.inl rfl⟩,⟨aa q1 l2,(by decide:4<=7),q3.next hi,Nat.le_succ_of_le q4,q5,fun h=> ?_,⟨by dsimp only;omega,by dsimp only;omega,fun h=> ?_⟩,?_⟩,(by decide:7 - 4<7 - 3)⟩
     ·have h1:=q3.nfl hi;rw[q5,h] at h1;cases h1
     ·first |(exact absurd h (by decide:¬7<=6)) |(dsimp only;omega)
     ·rw[show bK.drop 3=(8,[115,116,97,116,105,99])::bK.drop 4 from rfl,gk,ah (by rw[<- ax];exact hc),<- b7] at fm;exact fm
    ·have ha:=dS (en:=en) hT hc;simp only[go_sem];refine⟨fun _=>⟨⟨by decide,by decide⟩,by kernel_rfl,bo ((ha m1).mono ?_)⟩,fun h=>absurd (by decide) h⟩;clear ha;rintro r H' m2 aH ⟨l2,rfl,rfl⟩;simp only[go_sem];refine⟨⟨by decide,by decide⟩,(4,s1,fl,m2),⟨⟨rfl,rfl⟩,⟨rfl,rfl,rfl⟩,.inl rfl⟩,⟨aa q1 l2,(by decide:4<=7),q3,q4,q5,q6,⟨q7,q8,fun h=> ?_⟩,?_⟩,(by decide:7 - 4<7 - 3)⟩
     ·first |(exact absurd h (by decide:¬7<=6)) |(dsimp only;omega)
     ·rw[show bK.drop 3=(8,[115,116,97,116,105,99])::bK.drop 4 from rfl,gk,af (by rw[<- ax];exact hc)] at fm;exact fm
   ·have ky:fl<16:=q9 (by decide);have qf:=T8 fl q7 ky;by_cases hc:bC ts s1.i [102,105,110,97,108]=true
    ·have ha:=dR (en:=en) hT hc;have hi:=bF hc;simp only[go_sem];refine⟨fun _=>⟨⟨by decide,by decide⟩,by kernel_rfl,bo ((ha m1).mono ?_)⟩,fun h=>absurd (by decide) h⟩;clear ha;rintro r H' m2 aH ⟨l2,rfl,rfl⟩;simp only[go_sem,qf];refine⟨⟨by decide,by decide⟩,⟨by decide,by decide⟩,(5,s1.next,fl+16,m2),⟨⟨rfl,rfl⟩,⟨rfl,rfl,rfl⟩,.inl rfl⟩,⟨aa q1 l2,(by decide:5<=7),q3.next hi,Nat.le_succ_of_le q4,q5,fun h=> ?_,⟨by dsimp only;omega,by dsimp only;omega,fun h=> ?_⟩,?_⟩,(by decide:7 - 5<7 - 4)⟩
     ·have h1:=q3.nfl hi;rw[q5,h] at h1;cases h1
     ·first |(exact absurd h (by decide:¬7<=6)) |(dsimp only;omega)
     ·rw[show bK.drop 4=(16,[102,105,110,97,108])::bK.drop 5 from rfl,gk,ah (by rw[<- ax];exact hc),<- b7] at fm;exact fm
    ·have ha:=dS (en:=en) hT hc;simp only[go_sem];refine⟨fun _=>⟨⟨by decide,by decide⟩,by kernel_rfl,bo ((ha m1).mono ?_)⟩,fun h=>absurd (by decide) h⟩;clear ha;rintro r H' m2 aH ⟨l2,rfl,rfl⟩;simp only[go_sem];refine⟨⟨by decide,by decide⟩,(5,s1,fl,m2),⟨⟨rfl,rfl⟩,⟨rfl,rfl,rfl⟩,.inl rfl⟩,⟨aa q1 l2,(by decide:5<=7),q3,q4,q5,q6,⟨q7,q8,fun h=> ?_⟩,?_⟩,(by decide:7 - 5<7 - 4)⟩
     ·first |(exact absurd h (by decide:¬7<=6)) |(dsimp only;omega)
     ·rw[show bK.drop 4=(16,[102,105,110,97,108])::bK.drop 5 from rfl,gk,af (by rw[<- ax];exact hc)] at fm;exact fm
   ·have ky:fl<32:=q9 (by decide);have qf:=ag2 fl q7 ky;by_cases hc:bC ts s1.i [115,121,110,99]=true
    ·have ha:=dR (en:=en) hT hc;have hi:=bF hc;simp only[go_sem];refine⟨fun _=>⟨⟨by decide,by decide⟩,by kernel_rfl,bo ((ha m1).mono ?_)⟩,fun h=>absurd (by decide) h⟩;clear ha;rintro r H' m2 aH ⟨l2,rfl,rfl⟩;simp only[go_sem,qf];refine⟨⟨by decide,by decide⟩,⟨by decide,by decide⟩,(6,s1.next,fl+32,m2),⟨⟨rfl,rfl⟩,⟨rfl,rfl,rfl⟩,.inl rfl⟩,⟨aa q1 l2,(by decide:6<=7),q3.next hi,Nat.le_succ_of_le q4,q5,fun h=> ?_,⟨by dsimp only;omega,by dsimp only;omega,fun h=> ?_⟩,?_⟩,(by decide:7 - 6<7 - 5)⟩
     ·have h1:=q3.nfl hi;rw[q5,h] at h1;cases h1
     ·first |(exact absurd h (by decide:¬7<=6)) |(dsimp only;omega)
     ·rw[show bK.drop 5=(32,[115,121,110,99])::bK.drop 6 from rfl,gk,ah (by rw[<- ax];exact hc),<- b7] at fm;exact fm
    ·have ha:=dS (en:=en) hT hc;simp only[go_sem];refine⟨fun _=>⟨⟨by decide,by decide⟩,by kernel_rfl,bo ((ha m1).mono ?_)⟩,fun h=>absurd (by decide) h⟩;clear ha;rintro r H' m2 aH ⟨l2,rfl,rfl⟩;simp only[go_sem];refine⟨⟨by decide,by decide⟩,(6,s1,fl,m2),⟨⟨rfl,rfl⟩,⟨rfl,rfl,rfl⟩,.inl rfl⟩,⟨aa q1 l2,(by decide:6<=7),q3,q4,q5,q6,⟨q7,q8,fun h=> ?_⟩,?_⟩,(by decide:7 - 6<7 - 5)⟩
     ·first |(exact absurd h (by decide:¬7<=6)) |(dsimp only;omega)
     ·rw[show bK.drop 5=(32,[115,121,110,99])::bK.drop 6 from rfl,gk,af (by rw[<- ax];exact hc)] at fm;exact fm
   ·have ky:fl<64:=q9 (by decide);have qf:=JH fl q7 ky;by_cases hc:bC ts s1.i [97,98,115,116,114,97,99,116]=true
    ·have ha:=dR (en:=en) hT hc;have hi:=bF hc;simp only[go_sem];refine⟨fun _=>⟨⟨by decide,by decide⟩,by kernel_rfl,bo ((ha m1).mono ?_)⟩,fun h=>absurd (by decide) h⟩;clear ha;rintro r H' m2 aH ⟨l2,rfl,rfl⟩;simp only[go_sem,qf];refine⟨⟨by decide,by decide⟩,⟨by decide,by decide⟩,(7,s1.next,fl+1024,m2),⟨⟨rfl,rfl⟩,⟨rfl,rfl,rfl⟩,.inl rfl⟩,⟨aa q1 l2,(by decide:7<=7),q3.next hi,Nat.le_succ_of_le q4,q5,fun h=> ?_,⟨by dsimp only;omega,by dsimp only;omega,fun h=> ?_⟩,?_⟩,(by decide:7 - 7<7 - 6)⟩
     ·have h1:=q3.nfl hi;rw[q5,h] at h1;cases h1
     ·first |(exact absurd h (by decide:¬7<=6)) |(dsimp only;omega)
     ·rw[show bK.drop 6=(1024,[97,98,115,116,114,97,99,116])::bK.drop 7 from rfl,gk,ah (by rw[<- ax];exact hc),<- b7] at fm;exact fm
    ·have ha:=dS (en:=en) hT hc;simp only[go_sem];refine⟨fun _=>⟨⟨by decide,by decide⟩,by kernel_rfl,bo ((ha m1).mono ?_)⟩,fun h=>absurd (by decide) h⟩;clear ha;rintro r H' m2 aH ⟨l2,rfl,rfl⟩;simp only[go_sem];refine⟨⟨by decide,by decide⟩,(7,s1,fl,m2),⟨⟨rfl,rfl⟩,⟨rfl,rfl,rfl⟩,.inl rfl⟩,⟨aa q1 l2,(by decide:7<=7),q3,q4,q5,q6,⟨q7,q8,fun h=> ?_⟩,?_⟩,(by decide:7 - 7<7 - 6)⟩
     ·first |(exact absurd h (by decide:¬7<=6)) |(dsimp only;omega)
     ·rw[show bK.drop 6=(1024,[97,98,115,116,114,97,99,116])::bK.drop 7 from rfl,gk,af (by rw[<- ax];exact hc)] at fm;exact fm
   ·simp only[go_sem];refine⟨fun h=>absurd h (by decide),fun _=>⟨aa (.inl rfl) q1,fl,s1,rfl,⟨q7,q8⟩,rfl,q3,q4,q5,q6,fm.symm⟩⟩
end
theorem alu:oD Tryz.prog 160=48:=by kernel_rfl
attribute [go_sem] alu
abbrev alT (ts:List Tk) (en:Int) (s:PSt) (K:PR (List (List UInt8))) (m:Mem):SV->Hp->Mem->Prop:=fun r H' m' =>ae m m' /\∃(l:List (List UInt8)) (a:Option Addr) (c:Nat) (s' :PSt),r= .v (.slice a l.length c)/\l.length<=c/\l.length<=1000001/\aX m' a l.length 1 (strs l)/\(∀w∈l,w.length<=1000000)/\H' =pH ts en s' /\Res ts en s K l s'
abbrev alO (ts:List Tk) (en:Int) (s:PSt) (K:PR (List Pc)) (m:Mem):SV->Hp->Mem->Prop:=fun r H' m' =>ae m m' /\∃(l:List Pc) (a:Option Addr) (c:Nat) (s' :PSt),r= .v (.slice a l.length c)/\l.length<=c/\l.length<=1000001/\aX m' a l.length 4 (flat Pc.cs l)/\(∀p∈l,PcOk p)/\H' =pH ts en s' /\Res ts en s K l s'
noncomputable def UZ (l:List Tk):PR (List (List UInt8)):=an (fz l) fun s r=>At [s] r
theorem YO (l:List (List UInt8)) (w:List UInt8):strs (l++[w])=strs l++[.string (bs w)]:=by simp [strs]
theorem EV {α:Type} (f:α->List Value) (l:List α) (x:α):flat f (l++[x])=flat f l++f x:=by simp [flat]
theorem Fg {α:Type} {p:α->Prop} {l:List α} {x:α} (h:∀y∈l,p y) (hx:p x):∀y∈l++[x],p y:=fun y hy=>by
 rcases List.mem_append.1 hy with h1 |h1
 ·exact h y h1
 ·rw[List.mem_singleton.1 h1];exact hx
section
variable {ts:List Tk} {en:Int} {s:PSt}
theorem Bs (hT:TsB ts) (hI:Inv ts s) (m:Mem):FnH Tryz.prog 51 [.box 0 0] (pH ts en s) m (alT ts en s (UZ (ts.drop s.i)) m):=by
 have h1:=fun m' =>px ts en s m' hT hI
 refine pF (aR aB Tryz.func51 ?_)
 ·simp only[go_sem];refine ab ((h1 m).mono ?_);clear h1;rintro r H' m1 aN ⟨l1,w,s1,rfl,hw,rfl,ep⟩;simp only[go_sem];refine dA aB (fun y:PSt×List (List UInt8)×Nat×Mem=>⟨[⟨0,[],.box 0 0⟩,⟨3,[],.vec 4 y.2.2.1⟩],[],[na en y.1],[⟨4,y.2.2.1,9,1,y.2.1.length,strs y.2.1⟩,kM ts],40,y.2.2.2⟩)
   (fun y=>ae m1 y.2.2.2/\Inv ts y.1/\y.2.1.length<=y.1.i+1/\(∀w∈y.2.1,w.length<=1000000)/\∀a s',Res ts en y.1 (At y.2.1 (ts.drop y.1.i)) a s' ->Res ts en s (UZ (ts.drop s.i)) a s')
   (fun y=>ts.length - y.1.i) (s1,[w],0,m1) (fun _ _=>dC rfl) (fun y hy=>hy.1) ?_ ?_ ?_
  ·simp only[go_sem];exact rfl
  ·exact⟨.inl rfl,ep.inv,by simp,fun x hx=>by rw[List.mem_singleton.1 hx];exact hw,fun a s' h=>aW ep h⟩
  ·rintro⟨s4,l,u,m4⟩ ⟨q1,q2,q3,q4,q5⟩;dsimp only at q1 q2 q3 q4 q5;have hl:=hT.len;have dv:=q2.le;by_cases hc:bC ts s4.i [44]=true
   ·have ha:=dR (en:=en) hT hc;have hi:=bF hc;have gj:=q2.next hi;have hb:=fun m' =>px ts en s4.next m' hT gj
    simp only[go_sem];refine ab ((ha m4).mono ?_);clear ha;rintro r H' m5 cK ⟨l5,rfl,rfl⟩;simp only[go_sem];refine ab ((hb m5).mono ?_);clear hb;rintro r H' m6 ej ⟨l6,w6,s6,rfl,qT,rfl,hR6⟩;have tX:=hR6.mono;have sR:s4.next.i=s4.i+1:=rfl;simp only[go_sem];refine⟨j9 (by omega) (by decide),(s6,l++[w6],u+1,m6),⟨rfl,⟨rfl,rfl,rfl⟩,⟨rfl,by simp,(YO l w6).symm⟩,.inl rfl⟩,⟨aa q1 (aa l5 l6),hR6.inv,by simp only[aI,iq];omega,Fg q4 qT,fun a s' h=>q5 a s' ?_⟩,by dsimp only;omega⟩;rw[Pt,ah (by rw[<- ax];exact hc),<- b7];exact cv q2 hi (aW hR6 h)
   ·have ha:=dS (en:=en) hT hc;simp only[go_sem];refine ab ((ha m4).mono ?_);clear ha;rintro r H' m5 cK ⟨l5,rfl,rfl⟩;simp only[go_sem];refine Cj (b:=⟨4,u,9,1,l.length,strs l⟩) (by simp [eV]) (pH ts en s4) (List.Sublist.refl _) (.cons_cons _ (List.nil_sublist _)) fun a c mm w1 w2 w3=>⟨aa (aa l1 q1) (aa l5 (.inr w1)),l,a,c,s4,rfl,w2,by omega,w3,q4,rfl,q5 _ _ ?_⟩
    rw[Pt,af (by rw[<- ax];exact hc)];exact cL _ q2
theorem zA (hT:TsB ts) (hI:Inv ts s) (m:Mem):FnH Tryz.prog 129 [.box 0 0] (pH ts en s) m (alO ts en s (uP (ts.drop s.i)) m):=by
 have h1:=fun m' =>fu ts en s [40] m' hT.l8
 have uw:Inv ts (aZ ts en s [40]):=fB hI;by_cases hc:bC ts (aZ ts en s [40]).i [41]=true
 ·have h2:=dR (en:=en) hT hc;have hi:=bF hc;refine pF (aR aB Tryz.func129 ?_)
  ·simp only[go_sem];refine ab ((h1 m).mono ?_);clear h1;rintro r H' m1 aN ⟨l1,rfl,rfl⟩;simp only[go_sem];refine ab ((h2 m1).mono ?_);clear h2;rintro r H' m2 aH ⟨l2,rfl,rfl⟩;simp only[go_sem];refine .inl ⟨aa l1 l2,[],none,0,_,rfl,av _,aD _,fI _ _,fun p hp=>(by cases hp),rfl,?_⟩;unfold uP;refine dZ hI ?_;rw[<- ax,ah hc,<- b7];exact cv uw hi (cL _ (uw.next hi))
 ·have h2:=dS (en:=en) hT hc;refine pF (aR aB Tryz.func129 ?_)
  ·simp only[go_sem];refine ab ((h1 m).mono ?_);clear h1;rintro r H' m1 aN ⟨l1,rfl,rfl⟩;simp only[go_sem];refine ab ((h2 m1).mono ?_);clear h2;rintro r H' m2 aH ⟨l2,rfl,rfl⟩;simp only[go_sem];refine z7 3 160 4 (by decide) rfl ?_;refine dA aB (fun y:PSt×Bool×List Pc×Nat×Mem=>⟨[⟨0,[],.box 0 0⟩,⟨3,[],.vec 6 y.2.2.2.1⟩,⟨4,[],.v (.bool y.2.1)⟩],[],[na en y.1],[⟨6,y.2.2.2.1,160,4,y.2.2.1.length,flat Pc.cs y.2.2.1⟩,kM ts],40,y.2.2.2.2⟩)
    (fun y=>ae m2 y.2.2.2.2/\Inv ts y.1/\(y.2.2.1.length<=y.1.i+(if y.2.1=true then 0 else 1))/\(∀p∈y.2.2.1,PcOk p)/\
     (y.2.1=true->∀a s',Res ts en y.1 (an (eY (ts.drop y.1.i)) fun t r=>an (da r) fun w r2=>CH (y.2.2.1++[⟨t,w⟩]) r2) a s' ->Res ts en s (uP (ts.drop s.i)) a s')/\
     (y.2.1=false->∀a s',Res ts en y.1 (aV [41] (ts.drop y.1.i) fun r=> .ok (y.2.2.1,r)) a s' ->Res ts en s (uP (ts.drop s.i)) a s'))
    (fun y=>if y.2.1=true then ts.length - y.1.i+1 else 0) (aZ ts en s [40],true,[],0,m2) (fun _ _=>dC rfl) (fun y hy=>hy.1) ?_ ?_ ?_
   ·simp only[go_sem];exact rfl
   ·refine⟨.inl rfl,uw,aD _,fun p hp=>(by cases hp),fun _ a s' h=> ?_,fun h=>(by cases h)⟩;unfold uP;refine dZ hI ?_;rw[<- ax,af hc];exact h
   ·rintro⟨s4,b,l,u,m4⟩ ⟨q1,q2,q3,q4,q5,q6⟩;dsimp only at q1 q2 q3 q4 q5 q6;have hl:=hT.len;have dv:=q2.le;cases b with
    |true=>
     rw[ah rfl] at q3;have hb:=fun m' =>xK ts en s4 m' hT q2
     simp only[go_sem];refine ab ((hb m4).mono ?_);clear hb;rintro r H' m5 cK ⟨l5,t,s5,rfl,ht,hu,rfl,hR5⟩;have Du:=hR5.mono;have hb:=fun m' =>rC ts en s5 m' hT hR5.inv
     simp only[go_sem];refine bO (.hoist 0 (.hoist 1 (.hoist 2 (.alt 3 [1,0] (.hoist 4 (.alt 5 [0] (.alt 6 [] (.hoist 7 .done) .stop) .stop)) .stop)))) aB (by kernel_rfl) (by kernel_rfl) ?_;simp only[go_sem];refine ab ((hb m5).mono ?_);clear hb;rintro r H' m6 ej ⟨l6,w6,s6,rfl,qT,rfl,hR6⟩;have tX:=hR6.mono;have xp:PcOk ⟨t,w6⟩:=⟨ht,by unfold aq;dsimp only;omega⟩;have apl:=hR6.inv.le;simp only[go_sem];refine⟨⟨l6,l6⟩,l6,j9 (by omega) (by decide),?_⟩;by_cases h44:bC ts s6.i [44]=true
     ·have ha:=dR (en:=en) hT h44;have hi:=bF h44;have hn:s6.next.i=s6.i+1:=rfl;refine ab ((ha m6).mono ?_);clear ha;rintro r H' m7 eW ⟨l7,rfl,rfl⟩;simp only[go_sem];refine⟨(s6.next,true,l++[⟨t,w6⟩],u+1,m7),⟨⟨rfl,rfl⟩,⟨rfl,rfl,rfl⟩,⟨rfl,by simp,by rw[EV];rfl⟩,.inl rfl⟩,⟨aa q1 (aa l5 (aa l6 l7)),hR6.inv.next hi,?_,Fg q4 xp,fun _ a s' h=>q5 rfl a s' ?_,fun h=>(by cases h)⟩,?_⟩
      ·dsimp only;rw[ah rfl,aI,iq];omega
      ·refine aW hR5 (aW hR6 ?_);rw[OK,ah (by rw[<- ax];exact h44),<- b7];exact cv hR6.inv hi h
      ·dsimp only;try rw[ah rfl]
       omega
     ·have ha:=dS (en:=en) hT h44;refine ab ((ha m6).mono ?_);clear ha;rintro r H' m7 eW ⟨l7,rfl,rfl⟩;simp only[go_sem];refine⟨(s6,false,l++[⟨t,w6⟩],u+1,m7),⟨⟨rfl,rfl⟩,⟨rfl,rfl,rfl⟩,⟨rfl,by simp,by rw[EV];rfl⟩,.inl rfl⟩,⟨aa q1 (aa l5 (aa l6 l7)),hR6.inv,?_,Fg q4 xp,fun h=>(by cases h),fun _ a s' h=>q5 rfl a s' ?_⟩,?_⟩
      ·dsimp only;rw[af (by decide),aI,iq];omega
      ·refine aW hR5 (aW hR6 ?_);rw[OK,af (by rw[<- ax];exact h44)];exact h
      ·dsimp only;rw[af (by decide)];omega
    |false=>
     rw[af (by decide)] at q3;have hb:=fun m' =>fu ts en s4 [41] m' hT.l8
     simp only[go_sem];refine ab ((hb m4).mono ?_);clear hb;rintro r H' m5 cK ⟨l5,rfl,rfl⟩;simp only[go_sem];exact Cj (b:=⟨6,u,160,4,l.length,flat Pc.cs l⟩) (by simp [eV]) (pH ts en (aZ ts en s4 [41])) (List.Sublist.refl _) (.cons_cons _ (List.nil_sublist _)) fun a c mm w1 w2 w3=>⟨aa (aa l1 l2) (aa q1 (aa l5 (.inr w1))),l,a,c,_,rfl,w2,by omega,w3,q4,rfl,q6 rfl _ _ (dZ q2 (cL _ (fB q2)))⟩
end
theorem alx:oD Tryz.prog 94=56:=by kernel_rfl
theorem alv:oD Tryz.prog 98=112:=by kernel_rfl
attribute [go_sem] alx alv
structure DSt where
 d:Cd
 ia:Option Addr
 ic:Nat
 uf:Nat
 um:Nat
 ui:Nat
 ms:List Value
 is:List Value
abbrev mH (ts:List Tk) (en:Int) (s:PSt) (y:DSt):Hp:=⟨[⟨0,62,[.vec 2 0,.v (.int .i64 s.i),.v (.int .i64 en),.v (.bool s.fl),.v (.int .i64 s.off)]⟩,
  ⟨1,59,[.v (.int .i64 y.d.fl),.v (.string (bs y.d.name)),.v (.string (bs y.d.super)),.v (.slice y.ia y.d.ifs.length y.ic),.vec 3 y.uf,.vec 4 y.um,.vec 5 y.ui]⟩],
 [⟨2,0,50,4,ts.length,cw ts⟩,⟨3,y.uf,94,5,y.d.fields.length,flat Fc.cs y.d.fields⟩,⟨4,y.um,98,8,y.d.methods.length,y.ms⟩,⟨5,y.ui,73,23,y.d.init.length,y.is⟩]⟩
structure DOk (m:Mem) (y:DSt) (n:Nat):Prop where
 msl:y.ms.length=y.d.methods.length * 8
 msr:nz (gJ m) 8 y.d.methods y.ms
 isl:y.is.length=y.d.init.length * 23
 isr:bS m y.d.init y.is
 fs:∀f∈y.d.fields,FcOk f
 fn:y.d.fields.length<=n
 mn:y.d.methods.length<=n
 inn:y.d.init.length<=n
structure Same (y y' :DSt):Prop where
 ia:y'.ia=y.ia
 ic:y'.ic=y.ic
 fl:y'.d.fl=y.d.fl
 name:y'.d.name=y.d.name
 super:y'.d.super=y.d.super
 ifs:y'.d.ifs=y.d.ifs
 uf:y.uf<=y'.uf
 um:y.um<=y'.um
 ui:y.ui<=y'.ui
abbrev U8 (ts:List Tk) (en:Int) (s:PSt) (y:DSt) (K:PR Cd) (m:Mem):SV->Hp->Mem->Prop:=fun r H' m' =>ae m m' /\∃(y' :DSt) (s' :PSt),r= .tup []/\H' =mH ts en s' y' /\Same y y' /\DOk m' y' (s'.i+(if s'.fl=true then 1 else 0))/\Res ts en s K y'.d s'
theorem Rl {m:Mem} {l2:List St} {ys:List Value} (h2:bS m l2 ys):∀{l:List St} {xs:List Value},xs.length=l.length * 23->bS m l xs->bS m (l++l2) (xs++ys)
 |[],xs,hl,_=>by
  have:xs=[]:=List.eq_nil_of_length_eq_zero (by simpa using hl);subst this;exact h2
 |y::r,xs,hl,h=>by
  simp only[bS,dW] at h ⊢;simp only[aL] at hl;have h8:23<=xs.length:=by omega
  rw[List.take_append_of_le_length h8,List.drop_append_of_le_length h8];exact⟨h.1,Rl h2 (by rw[dG];omega) h.2⟩
theorem Kd {α:Type} {R:α->List Value->Prop} {sz:Nat} {l2:List α} {ys:List Value} (h2:nz R sz l2 ys):∀{l:List α} {xs:List Value},xs.length=l.length * sz->nz R sz l xs->nz R sz (l++l2) (xs++ys)
 |[],xs,hl,_=>by
  have:xs=[]:=List.eq_nil_of_length_eq_zero (by simpa using hl);subst this;exact h2
 |y::r,xs,hl,h=>by
  simp only[nz,dW] at h ⊢;rw[aL,Nat.succ_mul] at hl;have h8:sz<=xs.length:=by omega
  rw[List.take_append_of_le_length h8,List.drop_append_of_le_length h8];exact⟨h.1,Kd h2 (by rw[dG];omega) h.2⟩
theorem aeG {m:Mem} {e:St} {cs:List Value} (h:eX m e cs):∀u∈cs,u.oneCell' =true:=by
 cases e with
 |mk k nm ty tg ex body alt=>
  simp only[eX] at h;obtain⟨x,⟨rfl,_⟩,_⟩:=h;intro u hu;simp only[Sd.cs,List.mem_cons,List.not_mem_nil,or_false] at hu;rcases hu with rfl |rfl |rfl |rfl |rfl |rfl |rfl |rfl |rfl |rfl |rfl |rfl |rfl |rfl |rfl |rfl |rfl |rfl |rfl |rfl |rfl |rfl |rfl<;>rfl
theorem PN {m:Mem}:∀{es:List St} {xs:List Value},xs.length=es.length * 23->bS m es xs->∀u∈xs,u.oneCell' =true
 |[],xs,hl,_=>by
  have:xs=[]:=List.eq_nil_of_length_eq_zero (by simpa using hl);subst this;intro u hu;cases hu
 |y::r,xs,hl,h=>by
  simp only[bS] at h;simp only[aL] at hl;intro u hu;rw[<- List.take_append_drop 23 xs] at hu;rcases List.mem_append.1 hu with hu |hu
  ·exact aeG h.1 u hu
  ·exact PN (by rw[dG];omega) h.2 u hu
theorem DOk.up {m m' :Mem} {y:DSt} {n n' :Nat} (h:DOk m y n) (hle:ae m m') (hn:n<=n'):DOk m' y n' :=
 ⟨h.msl,wD (fun _ _=>qp hle) h.msr,h.isl,tm hle h.isr,h.fs,cX h.fn hn,cX h.mn hn,cX h.inn hn⟩
section
variable {ts:List Tk} {en:Int} {s:PSt}
theorem jT {α:Type} {K:PR α} {a:α} {q:List (Int×List UInt8)} {v0 v:Int} {s1 s' :PSt} (hm:ModR ts q v0 s v s1) (h:Res ts en s1 K a s'):Res ts en s K a s' :=
 ⟨h.inv,cX hm.mono h.mono,fun e=>by have e1:=hm.same e;subst e1;exact h.fl e,fun e=>h.ok (by rw[hm.fl];exact e),fun e=>h.er (by rw[hm.fl];exact e)⟩
theorem py (d:Cd) (l:List Tk):∀x r,gH d (bN bK 0 l).1 (bN bK 0 l).2= .ok (x,r)->r.length<l.length:=fun x r h=>by
 have g:=(N7 d (bN bK 0 l).1 (bN bK 0 l).2).good;rw[jF (Sa d (bN bK 0 l).1 (bN bK 0 l).2)] at g;exact eP ((g.ok x r h).2 rfl) (uK bK 0 l).length_le
theorem pP {y y' :DSt} {s' :PSt} {K:PR Cd} {m m3:Mem} {H' :Hp} (e:H' =mH ts en s' y') (h:ae m m3/\Same y y' /\DOk m3 y' (s'.i+(if s'.fl=true then 1 else 0))/\Res ts en s K y'.d s'):U7 (U8 ts en s y K m) (.tup []) H' m3:=by
 subst e;exact⟨mH ts en s' y',⟨⟨rfl,rfl,rfl,rfl,trivial⟩,⟨rfl,rfl,rfl,rfl,rfl,rfl,rfl,rfl,trivial⟩⟩,h.1,y',s',rfl,rfl,h.2⟩
theorem Al:ov eZ:=⟨⟨by decide,by decide⟩,⟨by decide,by decide⟩,by decide⟩
theorem tD {m:Mem} {v:Int} {ty:Ty} {w:List UInt8} {ps:List Pc} {hb:Bool} {body:List St} {pa a:Option Addr} {pc cp:Nat} {xs:List Value} (hv:0<=v/\v<2048) (ht:ov ty) (hw:w.length<=1000000)
  (j6:ps.length<=1000001) (xp:ps.length<=pc) (hpr:aX m pa ps.length 4 (flat Pc.cs ps)) (qe:∀p∈ps,PcOk p) (hl:body.length<=1000001) (ba:body.length<=cp) (hr:aX m a body.length 23 xs) (hs:bS m body xs):
  gJ m ⟨v,ty,w,ps,hb,body⟩ (Mc.cs ⟨v,ty,w,pa,ps.length,pc,hb,a,body.length,cp⟩):=
 ⟨⟨v,ty,w,pa,ps.length,pc,hb,a,body.length,cp⟩,⟨rfl,rfl,rfl,rfl,rfl⟩,⟨rfl,xp,rfl,ba⟩,⟨by unfold aF;dsimp only;omega,ht,by unfold aq;dsimp only;omega,by unfold aq;dsimp only;omega,qe,by unfold aq;dsimp only;omega⟩,hpr,xs,hr,hs⟩
theorem qz {s s' :PSt} (h:s'.fl=true\/s.i<s'.i) (h2:s.i<=s'.i):s.i+1<=s'.i+(if s'.fl=true then 1 else 0):=by
 rcases h with h |h
 ·rw[ah h];omega
 ·omega
theorem DOk.addM {m:Mem} {d:Cd} {ia:Option Addr} {ic uf um ui n n' :Nat} {ms is:List Value} (h:DOk m ⟨d,ia,ic,uf,um,ui,ms,is⟩ n) {x:Md} {cs:List Value} (hx:gJ m x cs) (hl:cs.length=8) (hn:n+1<=n'):DOk m ⟨d.addM x,ia,ic,uf,um+1,ui,ms++cs,is⟩ n' :=by
 have h1:=h.msl;have h2:=h.mn;have h3:=h.fn;have h4:=h.inn;dsimp only at h1 h2 h3 h4;refine⟨by simp only[Cd.addM,aI,iq,h1,hl];omega,Kd (l2:=[x]) ⟨by rw[fj (by omega)];exact hx,trivial⟩ h1 h.msr,h.isl,h.isr,h.fs,by show d.fields.length<=n';omega,by simp only[Cd.addM,aI,iq];omega,by show d.init.length<=n';omega⟩
theorem DOk.addF {m:Mem} {d:Cd} {ia:Option Addr} {ic uf um ui n n' :Nat} {ms is:List Value} (h:DOk m ⟨d,ia,ic,uf,um,ui,ms,is⟩ n) {x:Fc} (hx:FcOk x) (hn:n+1<=n'):DOk m ⟨d.addF x,ia,ic,uf+1,um,ui,ms,is⟩ n' :=by
 have h2:=h.mn;have h3:=h.fn;have h4:=h.inn;dsimp only at h2 h3 h4;exact⟨h.msl,h.msr,h.isl,h.isr,Fg h.fs hx,by simp only[Cd.addF,aI,iq];omega,by show d.methods.length<=n';omega,by show d.init.length<=n';omega⟩
theorem DOk.addI {m:Mem} {d:Cd} {ia:Option Addr} {ic uf um ui n n' :Nat} {ms is:List Value} (h:DOk m ⟨d,ia,ic,uf,um,ui,ms,is⟩ n) {l:List St} {ys:List Value} (hx:bS m l ys) (hl:ys.length=l.length * 23) (hn:n+l.length<=n'):DOk m ⟨d.addI l,ia,ic,uf,um,ui+1,ms,is++ys⟩ n' :=by
 have h1:=h.isl;have h2:=h.mn;have h3:=h.fn;have h4:=h.inn;dsimp only at h1 h2 h3 h4;exact⟨h.msl,h.msr,by simp only[Cd.addI,aI,h1,hl];omega,Rl hx h1 h.isr,h.fs,by show d.fields.length<=n';omega,by show d.methods.length<=n';omega,by simp only[Cd.addI,aI];omega⟩
theorem Xr (hT:TsB ts) (hI:Inv ts s) (hs:s.fl=false) (y:DSt) (m:Mem) (hy:DOk m y s.i):FnH Tryz.prog 53 [.box 0 0,.box 1 0] (mH ts en s y) m (U8 ts en s y (gH y.d (bN bK 0 (ts.drop s.i)).1 (bN bK 0 (ts.drop s.i)).2) m):=by
 obtain⟨d,ia,ic,uf,um,ui,ms,is⟩:=y;have VK:=hT.len;have hi0:=hI.le;have h1:=fun m' =>Wz (en:=en) hT hI m'
 refine aek (aR aB Tryz.func53 ?_)
 ·simp only[go_sem];refine ab ((h1 m).mono ?_);clear h1;rintro r H' m1 aN ⟨l1,v,s1,rfl,hv,rfl,hM⟩;simp only[go_sem];refine⟨fun xm=> ?_,fun xm=> ?_⟩
  ·by_cases hbr:bC ts s1.i [123]=true
   ·have q0:=nv (en:=en) hT hbr;refine ab ((q0 m1).mono ?_);clear q0;rintro r H' m2 aH ⟨l2,rfl,rfl⟩;simp only[go_sem];refine bO (.hoist 0 (.hoist 1 (.hoist 2 (.hoist 3 (.hoist 4 (.hoist 5 (.alt 6 [4,3,2,1,0] (.alt 7 [0] (.hoist 8 (.hoist 9 (.alt 10 [] .done .stop))) .stop) .stop))))))) aB (by kernel_rfl) (by kernel_rfl) ?_;simp only[go_sem];have UN:=hM.mono;have jd:=zp (en:=en) hT hM.inv;refine ab ((jd m2).mono ?_);clear jd;rintro r H' m3 bI ⟨l3,U2,a21,c21,xs21,Vd,rfl,ha21,hb21,hc21,hd21,rfl,hR21⟩;simp only[go_sem];have Gs:=hR21.mono;refine⟨⟨l3,l3,l3,l3,l3⟩,xs21,hc21,PN hc21.1 hd21,j9 (by have h0:=hy.inn;have h1:=hI.le;have h2:=hT.len;have h3:=hb21.2;dsimp only at h0;omega) (by decide),l3,?_⟩;have cP:Res ts en s (gH d (bN bK 0 (ts.drop s.i)).1 (bN bK 0 (ts.drop s.i)).2) (d.addI U2) Vd:=(by rw[hM.val];exact jT hM (by unfold gH;rw[ah ⟨xm,by rw[<- ax];exact hbr⟩];exact aW hR21 (cL _ hR21.inv)));exact pP (y' :=⟨d.addI U2,ia,ic,uf,um,ui+1,ms,is++xs21⟩) (s' :=Vd) (by simp only[mH,Cd.addI,aI]<;>rfl) ⟨(aa l1 (aa l2 l3)),⟨rfl,rfl,rfl,rfl,rfl,rfl,by dsimp only;omega,by dsimp only;omega,by dsimp only;omega⟩,(hy.up (aa l1 (aa l2 l3)) (av _)).addI hd21 hc21.1 (by have h1:=hb21.1;omega),cP⟩
   ·have q0:=nw (en:=en) hT hbr;refine ab ((q0 m1).mono ?_);clear q0;rintro r H' m2 aH ⟨l2,rfl,rfl⟩;simp only[go_sem];have UN:=hM.mono;by_cases hc21:bC ts (s1).i wP=true
    ·have j4:=fun m' =>dR (en:=en) hT hc21 m'
     refine ab ((j4 m2).mono ?_);clear j4;rintro r H' m3 bI ⟨l3,rfl,rfl⟩;simp only[go_sem];have Lx:=hM.inv.next (bF hc21);have Dc:(s1).next.i=(s1).i+1:=rfl;have DM:=fun m' =>zA (en:=en) hT Lx m'
     refine ab ((DM m3).mono ?_);clear DM;rintro r H' m4 cQ ⟨l4,ps23,a23,El,s23,rfl,ha23,hb23,hc23,hd23,rfl,hR23⟩;simp only[go_sem];have ahF:=hR23.mono;have mY:=zp (en:=en) hT (hR23.inv);refine ab ((mY m4).mono ?_);clear mY;rintro r H' m5 cK ⟨l5,bs24,a24,c24,xs24,s24,rfl,ha24,hb24,hc24,hd24,rfl,hR24⟩;simp only[go_sem];have KP:=hR24.mono;refine bO (.hoist 0 (.hoist 1 (.hoist 2 (.hoist 3 (.hoist 4 (.hoist 5 (.alt 6 [4,3,2,1,0] (.alt 7 [0] (.hoist 8 (.hoist 9 (.alt 10 [] .done .stop))) .stop) .stop))))))) aB (by kernel_rfl) (by kernel_rfl) ?_;simp only[go_sem];refine⟨j9 (by have h0:=hy.mn;dsimp only at h0;omega) (by decide),?_⟩;have cP:Res ts en s (gH d (bN bK 0 (ts.drop s.i)).1 (bN bK 0 (ts.drop s.i)).2) (d.addM ⟨v,eZ,eK,ps23,true,bs24⟩) s24:=(by rw[hM.val];exact jT hM (by unfold gH;rw[af (fun q=>hbr (by rw[ax];exact q.2)),ah (by rw[<- ax];exact hc21),<- b7];exact cv hM.inv (bF hc21) (aW hR23 (aW hR24 (cL _ hR24.inv)))));have fU:=nk cP hs (py _ _);have lM:gJ m5 ⟨v,eZ,eK,ps23,true,bs24⟩ (Mc.cs ⟨v,eZ,eK,a23,ps23.length,El,true,a24,bs24.length,c24⟩):=tD hv Al (by decide) hb23 ha23 (ay l5 hc23) hd23 hb24.2 ha24 hc24 hd24;exact pP (y' :=⟨d.addM ⟨v,eZ,eK,ps23,true,bs24⟩,ia,ic,uf,um+1,ui,ms++Mc.cs ⟨v,eZ,eK,a23,ps23.length,El,true,a24,bs24.length,c24⟩,is⟩) (s' :=s24) (by simp only[mH,Cd.addM,aI,aL,bg]<;>rfl) ⟨(aa l1 (aa l2 (aa l3 (aa l4 l5)))),⟨rfl,rfl,rfl,rfl,rfl,rfl,by dsimp only;omega,by dsimp only;omega,by dsimp only;omega⟩,(hy.up (aa l1 (aa l2 (aa l3 (aa l4 l5)))) (av _)).addM lM rfl (qz fU cP.mono),cP⟩
    ·have j4:=fun m' =>dS (en:=en) hT hc21 m'
     refine ab ((j4 m2).mono ?_);clear j4;rintro r H' m3 bI ⟨l3,rfl,rfl⟩;simp only[go_sem];by_cases hc23:bC ts (s1).i qB=true
     ·have mY:=fun m' =>dR (en:=en) hT hc23 m'
      refine ab ((mY m3).mono ?_);clear mY;rintro r H' m4 cQ ⟨l4,rfl,rfl⟩;simp only[go_sem];have Lw:=hM.inv.next (bF hc23);have KP:(s1).next.i=(s1).i+1:=rfl;have sA:=fun m' =>rC ts en (s1).next m' hT Lw
      refine ab ((sA m4).mono ?_);clear sA;rintro r H' m5 cK ⟨l5,w25,s25,rfl,hw25,rfl,hR25⟩;simp only[go_sem];have KO:=hR25.mono;have sw:=fun m' =>zA (en:=en) hT hR25.inv m'
      refine ab ((sw m5).mono ?_);clear sw;rintro r H' m6 ej ⟨l6,ps26,a26,vR,j1,rfl,ha26,hb26,hc26,hd26,rfl,hR26⟩;simp only[go_sem];have KN:=hR26.mono;by_cases hc27:bC ts (j1).i [59]=true
      ·have j3:=fun m' =>dR (en:=en) hT hc27 m'
       refine ab ((j3 m6).mono ?_);clear j3;rintro r H' m7 eW ⟨l7,rfl,rfl⟩;simp only[go_sem];have yC:=hR26.inv.next (bF hc27);have KM:(j1).next.i=(j1).i+1:=rfl;refine bO (.hoist 0 (.hoist 1 (.hoist 2 (.hoist 3 (.hoist 4 (.hoist 5 (.alt 6 [4,3,2,1,0] (.alt 7 [0] (.hoist 8 (.hoist 9 (.alt 10 [] .done .stop))) .stop) .stop))))))) aB (by kernel_rfl) (by kernel_rfl) ?_;simp only[go_sem];refine⟨j9 (by have h0:=hy.mn;dsimp only at h0;omega) (by decide),?_⟩;have cP:Res ts en s (gH d (bN bK 0 (ts.drop s.i)).1 (bN bK 0 (ts.drop s.i)).2) (d.addM ⟨v,eZ,w25,ps26,false,[]⟩) (j1).next:=(by rw[hM.val];exact jT hM (by unfold gH;rw[af (fun q=>hbr (by rw[ax];exact q.2)),af (by rw[<- ax];exact hc21),ah (by rw[<- ax];exact hc23),<- b7];exact cv hM.inv (bF hc23) (aW hR25 (by unfold qC;exact(aW hR26 (by rw[ah (by rw[<- ax];exact hc27),<- b7];exact cv hR26.inv (bF hc27) (cL _ yC)))))));have fU:=nk cP hs (py _ _);have lM:gJ m7 ⟨v,eZ,w25,ps26,false,[]⟩ (Mc.cs ⟨v,eZ,w25,a26,ps26.length,vR,false,none,0,0⟩):=tD hv Al hw25 hb26 ha26 (ay l7 hc26) hd26 (aD _) (av _) (fI _ _) (iW _ _);exact pP (y' :=⟨d.addM ⟨v,eZ,w25,ps26,false,[]⟩,ia,ic,uf,um+1,ui,ms++Mc.cs ⟨v,eZ,w25,a26,ps26.length,vR,false,none,0,0⟩,is⟩) (s' :=(j1).next) (by simp only[mH,Cd.addM,aI,aL,bg]<;>rfl) ⟨(aa l1 (aa l2 (aa l3 (aa l4 (aa l5 (aa l6 l7)))))),⟨rfl,rfl,rfl,rfl,rfl,rfl,by dsimp only;omega,by dsimp only;omega,by dsimp only;omega⟩,(hy.up (aa l1 (aa l2 (aa l3 (aa l4 (aa l5 (aa l6 l7)))))) (av _)).addM lM rfl (qz fU cP.mono),cP⟩
      ·have j3:=fun m' =>dS (en:=en) hT hc27 m'
       refine ab ((j3 m6).mono ?_);clear j3;rintro r H' m7 eW ⟨l7,rfl,rfl⟩;simp only[go_sem];have sq:=zp (en:=en) hT (hR26.inv);refine ab ((sq m7).mono ?_);clear sq;rintro r H' m8 iE ⟨l8,bs29,a29,c29,xs29,mX,rfl,ha29,hb29,hc29,hd29,rfl,hR29⟩;simp only[go_sem];have KL:=hR29.mono;refine bO (.hoist 0 (.hoist 1 (.hoist 2 (.hoist 3 (.hoist 4 (.hoist 5 (.alt 6 [4,3,2,1,0] (.alt 7 [0] (.hoist 8 (.hoist 9 (.alt 10 [] .done .stop))) .stop) .stop))))))) aB (by kernel_rfl) (by kernel_rfl) ?_;simp only[go_sem];refine⟨j9 (by have h0:=hy.mn;dsimp only at h0;omega) (by decide),?_⟩;have cP:Res ts en s (gH d (bN bK 0 (ts.drop s.i)).1 (bN bK 0 (ts.drop s.i)).2) (d.addM ⟨v,eZ,w25,ps26,true,bs29⟩) mX:=(by rw[hM.val];exact jT hM (by unfold gH;rw[af (fun q=>hbr (by rw[ax];exact q.2)),af (by rw[<- ax];exact hc21),ah (by rw[<- ax];exact hc23),<- b7];exact cv hM.inv (bF hc23) (aW hR25 (by unfold qC;exact(aW hR26 (by rw[af (by rw[<- ax];exact hc27)];exact(aW hR29 (cL _ hR29.inv))))))));have fU:=nk cP hs (py _ _);have lM:gJ m8 ⟨v,eZ,w25,ps26,true,bs29⟩ (Mc.cs ⟨v,eZ,w25,a26,ps26.length,vR,true,a29,bs29.length,c29⟩):=tD hv Al hw25 hb26 ha26 (ay (aa l7 l8) hc26) hd26 hb29.2 ha29 hc29 hd29;exact pP (y' :=⟨d.addM ⟨v,eZ,w25,ps26,true,bs29⟩,ia,ic,uf,um+1,ui,ms++Mc.cs ⟨v,eZ,w25,a26,ps26.length,vR,true,a29,bs29.length,c29⟩,is⟩) (s' :=mX) (by simp only[mH,Cd.addM,aI,aL,bg]<;>rfl) ⟨(aa l1 (aa l2 (aa l3 (aa l4 (aa l5 (aa l6 (aa l7 l8))))))),⟨rfl,rfl,rfl,rfl,rfl,rfl,by dsimp only;omega,by dsimp only;omega,by dsimp only;omega⟩,(hy.up (aa l1 (aa l2 (aa l3 (aa l4 (aa l5 (aa l6 (aa l7 l8))))))) (av _)).addM lM rfl (qz fU cP.mono),cP⟩
     ·have mY:=fun m' =>dS (en:=en) hT hc23 m'
      refine ab ((mY m3).mono ?_);clear mY;rintro r H' m4 cQ ⟨l4,rfl,rfl⟩;simp only[go_sem];have sA:=fun m' =>xK ts en s1 m' hT hM.inv
      refine ab ((sA m4).mono ?_);clear sA;rintro r H' m5 cK ⟨l5,t25,s25,rfl,ht25,hu25,rfl,hR25⟩;simp only[go_sem];have KO:=hR25.mono;have sw:=fun m' =>rC ts en s25 m' hT hR25.inv
      refine ab ((sw m5).mono ?_);clear sw;rintro r H' m6 ej ⟨l6,w26,j1,rfl,hw26,rfl,hR26⟩;simp only[go_sem];have KN:=hR26.mono;by_cases hc27:bC ts (j1).i [59]=true
      ·have j3:=fun m' =>dR (en:=en) hT hc27 m'
       refine ab ((j3 m6).mono ?_);clear j3;rintro r H' m7 eW ⟨l7,rfl,rfl⟩;simp only[go_sem];have yC:=hR26.inv.next (bF hc27);have KM:(j1).next.i=(j1).i+1:=rfl;refine bO (.hoist 0 (.hoist 1 (.hoist 2 (.hoist 3 (.hoist 4 (.hoist 5 (.hoist 6 (.hoist 7 (.hoist 8 (.hoist 9 (.hoist 10 (.alt 11 [4,3,2,1,0] (.alt 12 [0] (.hoist 13 (.hoist 14 (.alt 15 [] .done .stop))) .stop) .stop)))))))))))) aB (by kernel_rfl) (by kernel_rfl) ?_;simp only[go_sem];refine⟨j9 (by have h0:=hy.fn;dsimp only at h0;omega) (by decide),?_⟩;have cP:Res ts en s (gH d (bN bK 0 (ts.drop s.i)).1 (bN bK 0 (ts.drop s.i)).2) (d.addF ⟨v,t25,w26⟩) ((j1).next):=(by rw[hM.val];exact jT hM (by unfold gH;rw[af (fun q=>hbr (by rw[ax];exact q.2)),af (by rw[<- ax];exact hc21),af (by rw[<- ax];exact hc23)];exact(aW hR25 (aW hR26 (by rw[ah (by rw[<- ax];exact hc27),<- b7];exact cv hR26.inv (bF hc27) (cL _ yC))))));have fU:=nk cP hs (py _ _);exact pP (y' :=⟨d.addF ⟨v,t25,w26⟩,ia,ic,uf+1,um,ui,ms,is⟩) (s' :=((j1).next)) (by simp only[mH,Cd.addF,aI,aL,bg,EV]<;>rfl) ⟨(aa l1 (aa l2 (aa l3 (aa l4 (aa l5 (aa l6 l7)))))),⟨rfl,rfl,rfl,rfl,rfl,rfl,by dsimp only;omega,by dsimp only;omega,by dsimp only;omega⟩,(hy.up (aa l1 (aa l2 (aa l3 (aa l4 (aa l5 (aa l6 l7)))))) (av _)).addF ⟨by unfold aF;dsimp only;omega,ht25,by unfold aq;dsimp only;omega⟩ (qz fU cP.mono),cP⟩
      ·have j3:=fun m' =>dS (en:=en) hT hc27 m'
       refine ab ((j3 m6).mono ?_);clear j3;rintro r H' m7 eW ⟨l7,rfl,rfl⟩;simp only[go_sem];have sq:=fun m' =>zA (en:=en) hT hR26.inv m'
       refine ab ((sq m7).mono ?_);clear sq;rintro r H' m8 iE ⟨l8,ps29,a29,c29,mX,rfl,ha29,hb29,hc29,hd29,rfl,hR29⟩;simp only[go_sem];have KL:=hR29.mono;by_cases hc30:bC ts (mX).i [59]=true
       ·have so:=fun m' =>dR (en:=en) hT hc30 m'
        refine ab ((so m8).mono ?_);clear so;rintro r H' m9 kR ⟨l9,rfl,rfl⟩;simp only[go_sem];have Lv:=hR29.inv.next (bF hc30);have ahE:(mX).next.i=(mX).i+1:=rfl;refine bO (.hoist 0 (.hoist 1 (.hoist 2 (.hoist 3 (.hoist 4 (.hoist 5 (.alt 6 [4,3,2,1,0] (.alt 7 [0] (.hoist 8 (.hoist 9 (.alt 10 [] .done .stop))) .stop) .stop))))))) aB (by kernel_rfl) (by kernel_rfl) ?_;simp only[go_sem];refine⟨j9 (by have h0:=hy.mn;dsimp only at h0;omega) (by decide),?_⟩;have cP:Res ts en s (gH d (bN bK 0 (ts.drop s.i)).1 (bN bK 0 (ts.drop s.i)).2) (d.addM ⟨v,t25,w26,ps29,false,[]⟩) (mX).next:=(by rw[hM.val];exact jT hM (by unfold gH;rw[af (fun q=>hbr (by rw[ax];exact q.2)),af (by rw[<- ax];exact hc21),af (by rw[<- ax];exact hc23)];exact(aW hR25 (aW hR26 (by rw[af (by rw[<- ax];exact hc27)];exact(by unfold qC;exact(aW hR29 (by rw[ah (by rw[<- ax];exact hc30),<- b7];exact cv hR29.inv (bF hc30) (cL _ Lv)))))))));have fU:=nk cP hs (py _ _);have lM:gJ m9 ⟨v,t25,w26,ps29,false,[]⟩ (Mc.cs ⟨v,t25,w26,a29,ps29.length,c29,false,none,0,0⟩):=tD hv ht25 hw26 hb29 ha29 (ay l9 hc29) hd29 (aD _) (av _) (fI _ _) (iW _ _);exact pP (y' :=⟨d.addM ⟨v,t25,w26,ps29,false,[]⟩,ia,ic,uf,um+1,ui,ms++Mc.cs ⟨v,t25,w26,a29,ps29.length,c29,false,none,0,0⟩,is⟩) (s' :=(mX).next) (by simp only[mH,Cd.addM,aI,aL,bg]<;>rfl) ⟨(aa l1 (aa l2 (aa l3 (aa l4 (aa l5 (aa l6 (aa l7 (aa l8 l9)))))))),⟨rfl,rfl,rfl,rfl,rfl,rfl,by dsimp only;omega,by dsimp only;omega,by dsimp only;omega⟩,(hy.up (aa l1 (aa l2 (aa l3 (aa l4 (aa l5 (aa l6 (aa l7 (aa l8 l9)))))))) (av _)).addM lM rfl (qz fU cP.mono),cP⟩
       ·have so:=fun m' =>dS (en:=en) hT hc30 m'
        refine ab ((so m8).mono ?_);clear so;rintro r H' m9 kR ⟨l9,rfl,rfl⟩;simp only[go_sem];have DL:=zp (en:=en) hT (hR29.inv);refine ab ((DL m9).mono ?_);clear DL;rintro r H' m10 sb ⟨l10,bs32,a32,Ek,xs32,s32,rfl,ha32,hb32,hc32,hd32,rfl,hR32⟩;simp only[go_sem];have ahD:=hR32.mono;refine bO (.hoist 0 (.hoist 1 (.hoist 2 (.hoist 3 (.hoist 4 (.hoist 5 (.alt 6 [4,3,2,1,0] (.alt 7 [0] (.hoist 8 (.hoist 9 (.alt 10 [] .done .stop))) .stop) .stop))))))) aB (by kernel_rfl) (by kernel_rfl) ?_;simp only[go_sem];refine⟨j9 (by have h0:=hy.mn;dsimp only at h0;omega) (by decide),?_⟩;have cP:Res ts en s (gH d (bN bK 0 (ts.drop s.i)).1 (bN bK 0 (ts.drop s.i)).2) (d.addM ⟨v,t25,w26,ps29,true,bs32⟩) s32:=(by rw[hM.val];exact jT hM (by unfold gH;rw[af (fun q=>hbr (by rw[ax];exact q.2)),af (by rw[<- ax];exact hc21),af (by rw[<- ax];exact hc23)];exact(aW hR25 (aW hR26 (by rw[af (by rw[<- ax];exact hc27)];exact(by unfold qC;exact(aW hR29 (by rw[af (by rw[<- ax];exact hc30)];exact(aW hR32 (cL _ hR32.inv))))))))));have fU:=nk cP hs (py _ _);have lM:gJ m10 ⟨v,t25,w26,ps29,true,bs32⟩ (Mc.cs ⟨v,t25,w26,a29,ps29.length,c29,true,a32,bs32.length,Ek⟩):=tD hv ht25 hw26 hb29 ha29 (ay (aa l9 l10) hc29) hd29 hb32.2 ha32 hc32 hd32;exact pP (y' :=⟨d.addM ⟨v,t25,w26,ps29,true,bs32⟩,ia,ic,uf,um+1,ui,ms++Mc.cs ⟨v,t25,w26,a29,ps29.length,c29,true,a32,bs32.length,Ek⟩,is⟩) (s' :=s32) (by simp only[mH,Cd.addM,aI,aL,bg]<;>rfl) ⟨(aa l1 (aa l2 (aa l3 (aa l4 (aa l5 (aa l6 (aa l7 (aa l8 (aa l9 l10))))))))),⟨rfl,rfl,rfl,rfl,rfl,rfl,by dsimp only;omega,by dsimp only;omega,by dsimp only;omega⟩,(hy.up (aa l1 (aa l2 (aa l3 (aa l4 (aa l5 (aa l6 (aa l7 (aa l8 (aa l9 l10))))))))) (av _)).addM lM rfl (qz fU cP.mono),cP⟩
  ·have UN:=hM.mono;by_cases hc21:bC ts (s1).i wP=true
   ·have j4:=fun m' =>dR (en:=en) hT hc21 m'
    refine ab ((j4 m1).mono ?_);clear j4;rintro r H' m2 aH ⟨l2,rfl,rfl⟩;simp only[go_sem];have Lx:=hM.inv.next (bF hc21);have Dc:(s1).next.i=(s1).i+1:=rfl;have DM:=fun m' =>zA (en:=en) hT Lx m'
    refine ab ((DM m2).mono ?_);clear DM;rintro r H' m3 bI ⟨l3,ps23,a23,El,s23,rfl,ha23,hb23,hc23,hd23,rfl,hR23⟩;simp only[go_sem];have ahF:=hR23.mono;have mY:=zp (en:=en) hT (hR23.inv);refine ab ((mY m3).mono ?_);clear mY;rintro r H' m4 cQ ⟨l4,bs24,a24,c24,xs24,s24,rfl,ha24,hb24,hc24,hd24,rfl,hR24⟩;simp only[go_sem];have KP:=hR24.mono;refine bO (.hoist 0 (.hoist 1 (.hoist 2 (.hoist 3 (.hoist 4 (.hoist 5 (.alt 6 [4,3,2,1,0] (.alt 7 [0] (.hoist 8 (.hoist 9 (.alt 10 [] .done .stop))) .stop) .stop))))))) aB (by kernel_rfl) (by kernel_rfl) ?_;simp only[go_sem];refine⟨j9 (by have h0:=hy.mn;dsimp only at h0;omega) (by decide),?_⟩;have cP:Res ts en s (gH d (bN bK 0 (ts.drop s.i)).1 (bN bK 0 (ts.drop s.i)).2) (d.addM ⟨v,eZ,eK,ps23,true,bs24⟩) s24:=(by rw[hM.val];exact jT hM (by unfold gH;rw[af (fun q=>xm q.1),ah (by rw[<- ax];exact hc21),<- b7];exact cv hM.inv (bF hc21) (aW hR23 (aW hR24 (cL _ hR24.inv)))));have fU:=nk cP hs (py _ _);have lM:gJ m4 ⟨v,eZ,eK,ps23,true,bs24⟩ (Mc.cs ⟨v,eZ,eK,a23,ps23.length,El,true,a24,bs24.length,c24⟩):=tD hv Al (by decide) hb23 ha23 (ay l4 hc23) hd23 hb24.2 ha24 hc24 hd24;exact pP (y' :=⟨d.addM ⟨v,eZ,eK,ps23,true,bs24⟩,ia,ic,uf,um+1,ui,ms++Mc.cs ⟨v,eZ,eK,a23,ps23.length,El,true,a24,bs24.length,c24⟩,is⟩) (s' :=s24) (by simp only[mH,Cd.addM,aI,aL,bg]<;>rfl) ⟨(aa l1 (aa l2 (aa l3 l4))),⟨rfl,rfl,rfl,rfl,rfl,rfl,by dsimp only;omega,by dsimp only;omega,by dsimp only;omega⟩,(hy.up (aa l1 (aa l2 (aa l3 l4))) (av _)).addM lM rfl (qz fU cP.mono),cP⟩
   ·have j4:=fun m' =>dS (en:=en) hT hc21 m'
    refine ab ((j4 m1).mono ?_);clear j4;rintro r H' m2 aH ⟨l2,rfl,rfl⟩;simp only[go_sem];by_cases hc23:bC ts (s1).i qB=true
    ·have mY:=fun m' =>dR (en:=en) hT hc23 m'
     refine ab ((mY m2).mono ?_);clear mY;rintro r H' m3 bI ⟨l3,rfl,rfl⟩;simp only[go_sem];have Lw:=hM.inv.next (bF hc23);have KP:(s1).next.i=(s1).i+1:=rfl;have sA:=fun m' =>rC ts en (s1).next m' hT Lw
     refine ab ((sA m3).mono ?_);clear sA;rintro r H' m4 cQ ⟨l4,w25,s25,rfl,hw25,rfl,hR25⟩;simp only[go_sem];have KO:=hR25.mono;have sw:=fun m' =>zA (en:=en) hT hR25.inv m'
     refine ab ((sw m4).mono ?_);clear sw;rintro r H' m5 cK ⟨l5,ps26,a26,vR,j1,rfl,ha26,hb26,hc26,hd26,rfl,hR26⟩;simp only[go_sem];have KN:=hR26.mono;by_cases hc27:bC ts (j1).i [59]=true
     ·have j3:=fun m' =>dR (en:=en) hT hc27 m'
      refine ab ((j3 m5).mono ?_);clear j3;rintro r H' m6 ej ⟨l6,rfl,rfl⟩;simp only[go_sem];have yC:=hR26.inv.next (bF hc27);have KM:(j1).next.i=(j1).i+1:=rfl;refine bO (.hoist 0 (.hoist 1 (.hoist 2 (.hoist 3 (.hoist 4 (.hoist 5 (.alt 6 [4,3,2,1,0] (.alt 7 [0] (.hoist 8 (.hoist 9 (.alt 10 [] .done .stop))) .stop) .stop))))))) aB (by kernel_rfl) (by kernel_rfl) ?_;simp only[go_sem];refine⟨j9 (by have h0:=hy.mn;dsimp only at h0;omega) (by decide),?_⟩;have cP:Res ts en s (gH d (bN bK 0 (ts.drop s.i)).1 (bN bK 0 (ts.drop s.i)).2) (d.addM ⟨v,eZ,w25,ps26,false,[]⟩) (j1).next:=(by rw[hM.val];exact jT hM (by unfold gH;rw[af (fun q=>xm q.1),af (by rw[<- ax];exact hc21),ah (by rw[<- ax];exact hc23),<- b7];exact cv hM.inv (bF hc23) (aW hR25 (by unfold qC;exact(aW hR26 (by rw[ah (by rw[<- ax];exact hc27),<- b7];exact cv hR26.inv (bF hc27) (cL _ yC)))))));have fU:=nk cP hs (py _ _);have lM:gJ m6 ⟨v,eZ,w25,ps26,false,[]⟩ (Mc.cs ⟨v,eZ,w25,a26,ps26.length,vR,false,none,0,0⟩):=tD hv Al hw25 hb26 ha26 (ay l6 hc26) hd26 (aD _) (av _) (fI _ _) (iW _ _);exact pP (y' :=⟨d.addM ⟨v,eZ,w25,ps26,false,[]⟩,ia,ic,uf,um+1,ui,ms++Mc.cs ⟨v,eZ,w25,a26,ps26.length,vR,false,none,0,0⟩,is⟩) (s' :=(j1).next) (by simp only[mH,Cd.addM,aI,aL,bg]<;>rfl) ⟨(aa l1 (aa l2 (aa l3 (aa l4 (aa l5 l6))))),⟨rfl,rfl,rfl,rfl,rfl,rfl,by dsimp only;omega,by dsimp only;omega,by dsimp only;omega⟩,(hy.up (aa l1 (aa l2 (aa l3 (aa l4 (aa l5 l6))))) (av _)).addM lM rfl (qz fU cP.mono),cP⟩
     ·have j3:=fun m' =>dS (en:=en) hT hc27 m'
      refine ab ((j3 m5).mono ?_);clear j3;rintro r H' m6 ej ⟨l6,rfl,rfl⟩;simp only[go_sem];have sq:=zp (en:=en) hT (hR26.inv);refine ab ((sq m6).mono ?_);clear sq;rintro r H' m7 eW ⟨l7,bs29,a29,c29,xs29,mX,rfl,ha29,hb29,hc29,hd29,rfl,hR29⟩;simp only[go_sem];have KL:=hR29.mono;refine bO (.hoist 0 (.hoist 1 (.hoist 2 (.hoist 3 (.hoist 4 (.hoist 5 (.alt 6 [4,3,2,1,0] (.alt 7 [0] (.hoist 8 (.hoist 9 (.alt 10 [] .done .stop))) .stop) .stop))))))) aB (by kernel_rfl) (by kernel_rfl) ?_;simp only[go_sem];refine⟨j9 (by have h0:=hy.mn;dsimp only at h0;omega) (by decide),?_⟩;have cP:Res ts en s (gH d (bN bK 0 (ts.drop s.i)).1 (bN bK 0 (ts.drop s.i)).2) (d.addM ⟨v,eZ,w25,ps26,true,bs29⟩) mX:=(by rw[hM.val];exact jT hM (by unfold gH;rw[af (fun q=>xm q.1),af (by rw[<- ax];exact hc21),ah (by rw[<- ax];exact hc23),<- b7];exact cv hM.inv (bF hc23) (aW hR25 (by unfold qC;exact(aW hR26 (by rw[af (by rw[<- ax];exact hc27)];exact(aW hR29 (cL _ hR29.inv))))))));have fU:=nk cP hs (py _ _);have lM:gJ m7 ⟨v,eZ,w25,ps26,true,bs29⟩ (Mc.cs ⟨v,eZ,w25,a26,ps26.length,vR,true,a29,bs29.length,c29⟩):=tD hv Al hw25 hb26 ha26 (ay (aa l6 l7) hc26) hd26 hb29.2 ha29 hc29 hd29;exact pP (y' :=⟨d.addM ⟨v,eZ,w25,ps26,true,bs29⟩,ia,ic,uf,um+1,ui,ms++Mc.cs ⟨v,eZ,w25,a26,ps26.length,vR,true,a29,bs29.length,c29⟩,is⟩) (s' :=mX) (by simp only[mH,Cd.addM,aI,aL,bg]<;>rfl) ⟨(aa l1 (aa l2 (aa l3 (aa l4 (aa l5 (aa l6 l7)))))),⟨rfl,rfl,rfl,rfl,rfl,rfl,by dsimp only;omega,by dsimp only;omega,by dsimp only;omega⟩,(hy.up (aa l1 (aa l2 (aa l3 (aa l4 (aa l5 (aa l6 l7)))))) (av _)).addM lM rfl (qz fU cP.mono),cP⟩
    ·have mY:=fun m' =>dS (en:=en) hT hc23 m'
     refine ab ((mY m2).mono ?_);clear mY;rintro r H' m3 bI ⟨l3,rfl,rfl⟩;simp only[go_sem];have sA:=fun m' =>xK ts en s1 m' hT hM.inv
     refine ab ((sA m3).mono ?_);clear sA;rintro r H' m4 cQ ⟨l4,t25,s25,rfl,ht25,hu25,rfl,hR25⟩;simp only[go_sem];have KO:=hR25.mono;have sw:=fun m' =>rC ts en s25 m' hT hR25.inv
     refine ab ((sw m4).mono ?_);clear sw;rintro r H' m5 cK ⟨l5,w26,j1,rfl,hw26,rfl,hR26⟩;simp only[go_sem];have KN:=hR26.mono;by_cases hc27:bC ts (j1).i [59]=true
     ·have j3:=fun m' =>dR (en:=en) hT hc27 m'
      refine ab ((j3 m5).mono ?_);clear j3;rintro r H' m6 ej ⟨l6,rfl,rfl⟩;simp only[go_sem];have yC:=hR26.inv.next (bF hc27);have KM:(j1).next.i=(j1).i+1:=rfl;refine bO (.hoist 0 (.hoist 1 (.hoist 2 (.hoist 3 (.hoist 4 (.hoist 5 (.hoist 6 (.hoist 7 (.hoist 8 (.hoist 9 (.hoist 10 (.alt 11 [4,3,2,1,0] (.alt 12 [0] (.hoist 13 (.hoist 14 (.alt 15 [] .done .stop))) .stop) .stop)))))))))))) aB (by kernel_rfl) (by kernel_rfl) ?_;simp only[go_sem];refine⟨j9 (by have h0:=hy.fn;dsimp only at h0;omega) (by decide),?_⟩;have cP:Res ts en s (gH d (bN bK 0 (ts.drop s.i)).1 (bN bK 0 (ts.drop s.i)).2) (d.addF ⟨v,t25,w26⟩) ((j1).next):=(by rw[hM.val];exact jT hM (by unfold gH;rw[af (fun q=>xm q.1),af (by rw[<- ax];exact hc21),af (by rw[<- ax];exact hc23)];exact(aW hR25 (aW hR26 (by rw[ah (by rw[<- ax];exact hc27),<- b7];exact cv hR26.inv (bF hc27) (cL _ yC))))));have fU:=nk cP hs (py _ _);exact pP (y' :=⟨d.addF ⟨v,t25,w26⟩,ia,ic,uf+1,um,ui,ms,is⟩) (s' :=((j1).next)) (by simp only[mH,Cd.addF,aI,aL,bg,EV]<;>rfl) ⟨(aa l1 (aa l2 (aa l3 (aa l4 (aa l5 l6))))),⟨rfl,rfl,rfl,rfl,rfl,rfl,by dsimp only;omega,by dsimp only;omega,by dsimp only;omega⟩,(hy.up (aa l1 (aa l2 (aa l3 (aa l4 (aa l5 l6))))) (av _)).addF ⟨by unfold aF;dsimp only;omega,ht25,by unfold aq;dsimp only;omega⟩ (qz fU cP.mono),cP⟩
     ·have j3:=fun m' =>dS (en:=en) hT hc27 m'
      refine ab ((j3 m5).mono ?_);clear j3;rintro r H' m6 ej ⟨l6,rfl,rfl⟩;simp only[go_sem];have sq:=fun m' =>zA (en:=en) hT hR26.inv m'
      refine ab ((sq m6).mono ?_);clear sq;rintro r H' m7 eW ⟨l7,ps29,a29,c29,mX,rfl,ha29,hb29,hc29,hd29,rfl,hR29⟩;simp only[go_sem];have KL:=hR29.mono;by_cases hc30:bC ts (mX).i [59]=true
      ·have so:=fun m' =>dR (en:=en) hT hc30 m'
       refine ab ((so m7).mono ?_);clear so;rintro r H' m8 iE ⟨l8,rfl,rfl⟩;simp only[go_sem];have Lv:=hR29.inv.next (bF hc30);have ahE:(mX).next.i=(mX).i+1:=rfl;refine bO (.hoist 0 (.hoist 1 (.hoist 2 (.hoist 3 (.hoist 4 (.hoist 5 (.alt 6 [4,3,2,1,0] (.alt 7 [0] (.hoist 8 (.hoist 9 (.alt 10 [] .done .stop))) .stop) .stop))))))) aB (by kernel_rfl) (by kernel_rfl) ?_;simp only[go_sem];refine⟨j9 (by have h0:=hy.mn;dsimp only at h0;omega) (by decide),?_⟩;have cP:Res ts en s (gH d (bN bK 0 (ts.drop s.i)).1 (bN bK 0 (ts.drop s.i)).2) (d.addM ⟨v,t25,w26,ps29,false,[]⟩) (mX).next:=(by rw[hM.val];exact jT hM (by unfold gH;rw[af (fun q=>xm q.1),af (by rw[<- ax];exact hc21),af (by rw[<- ax];exact hc23)];exact(aW hR25 (aW hR26 (by rw[af (by rw[<- ax];exact hc27)];exact(by unfold qC;exact(aW hR29 (by rw[ah (by rw[<- ax];exact hc30),<- b7];exact cv hR29.inv (bF hc30) (cL _ Lv)))))))));have fU:=nk cP hs (py _ _);have lM:gJ m8 ⟨v,t25,w26,ps29,false,[]⟩ (Mc.cs ⟨v,t25,w26,a29,ps29.length,c29,false,none,0,0⟩):=tD hv ht25 hw26 hb29 ha29 (ay l8 hc29) hd29 (aD _) (av _) (fI _ _) (iW _ _);exact pP (y' :=⟨d.addM ⟨v,t25,w26,ps29,false,[]⟩,ia,ic,uf,um+1,ui,ms++Mc.cs ⟨v,t25,w26,a29,ps29.length,c29,false,none,0,0⟩,is⟩) (s' :=(mX).next) (by simp only[mH,Cd.addM,aI,aL,bg]<;>rfl) ⟨(aa l1 (aa l2 (aa l3 (aa l4 (aa l5 (aa l6 (aa l7 l8))))))),⟨rfl,rfl,rfl,rfl,rfl,rfl,by dsimp only;omega,by dsimp only;omega,by dsimp only;omega⟩,(hy.up (aa l1 (aa l2 (aa l3 (aa l4 (aa l5 (aa l6 (aa l7 l8))))))) (av _)).addM lM rfl (qz fU cP.mono),cP⟩
      ·have so:=fun m' =>dS (en:=en) hT hc30 m'
       refine ab ((so m7).mono ?_);clear so;rintro r H' m8 iE ⟨l8,rfl,rfl⟩;simp only[go_sem];have DL:=zp (en:=en) hT (hR29.inv);refine ab ((DL m8).mono ?_);clear DL;rintro r H' m9 kR ⟨l9,bs32,a32,Ek,xs32,s32,rfl,ha32,hb32,hc32,hd32,rfl,hR32⟩;simp only[go_sem];have ahD:=hR32.mono;refine bO (.hoist 0 (.hoist 1 (.hoist 2 (.hoist 3 (.hoist 4 (.hoist 5 (.alt 6 [4,3,2,1,0] (.alt 7 [0] (.hoist 8 (.hoist 9 (.alt 10 [] .done .stop))) .stop) .stop))))))) aB (by kernel_rfl) (by kernel_rfl) ?_;simp only[go_sem];refine⟨j9 (by have h0:=hy.mn;dsimp only at h0;omega) (by decide),?_⟩;have cP:Res ts en s (gH d (bN bK 0 (ts.drop s.i)).1 (bN bK 0 (ts.drop s.i)).2) (d.addM ⟨v,t25,w26,ps29,true,bs32⟩) s32:=(by rw[hM.val];exact jT hM (by unfold gH;rw[af (fun q=>xm q.1),af (by rw[<- ax];exact hc21),af (by rw[<- ax];exact hc23)];exact(aW hR25 (aW hR26 (by rw[af (by rw[<- ax];exact hc27)];exact(by unfold qC;exact(aW hR29 (by rw[af (by rw[<- ax];exact hc30)];exact(aW hR32 (cL _ hR32.inv))))))))));have fU:=nk cP hs (py _ _);have lM:gJ m9 ⟨v,t25,w26,ps29,true,bs32⟩ (Mc.cs ⟨v,t25,w26,a29,ps29.length,c29,true,a32,bs32.length,Ek⟩):=tD hv ht25 hw26 hb29 ha29 (ay (aa l8 l9) hc29) hd29 hb32.2 ha32 hc32 hd32;exact pP (y' :=⟨d.addM ⟨v,t25,w26,ps29,true,bs32⟩,ia,ic,uf,um+1,ui,ms++Mc.cs ⟨v,t25,w26,a29,ps29.length,c29,true,a32,bs32.length,Ek⟩,is⟩) (s' :=s32) (by simp only[mH,Cd.addM,aI,aL,bg]<;>rfl) ⟨(aa l1 (aa l2 (aa l3 (aa l4 (aa l5 (aa l6 (aa l7 (aa l8 l9)))))))),⟨rfl,rfl,rfl,rfl,rfl,rfl,by dsimp only;omega,by dsimp only;omega,by dsimp only;omega⟩,(hy.up (aa l1 (aa l2 (aa l3 (aa l4 (aa l5 (aa l6 (aa l7 (aa l8 l9)))))))) (av _)).addM lM rfl (qz fU cP.mono),cP⟩
end
section
variable {P:Program} {cfg:Cfg} {C:Ctx} {n:Nat} {st:LS} {V:Vl} {D:Nat->Nat} {w:World}
theorem SatW.reCells {bx:List Bx} {vc:List Vc} {nid:Nat} {m:Mem} (hW:SatW C bx vc nid m V D w) {k:Nat} {b:Bx} {ck:List SV} (hb:iD bx k=some b) (hd:ck.map (bL V)=b.cs.map (bL V)) (ho:fO nid vc ck):SatW C (lg bx k ck) vc nid m V D w:=by
 have fe:=(uS hb).2;refine⟨⟨fun x hx=> ?_,hW.heap.vc,?_,hW.heap.uniq⟩,hW.wf,hW.frm,?_,hW.baseB,hW.baseV,⟨fun x hx=> ?_,hW.ids.2⟩,hW.le0,hW.m0,hW.mle⟩
 ·rcases BY hx with hx |⟨b0,h1,h2,rfl⟩
  ·exact hW.heap.bx x hx
  ·have e:b0=b:=by rw[h2] at hb;exact Option.some.inj hb
   subst e;obtain⟨⟨o,q1,q2⟩,q3⟩:=hW.heap.bx b0 h1;refine⟨⟨o,q1,?_⟩,q3⟩;show nD b0.ty (ck.map (bL V)) o;rw[hd];exact q2
 ·rw[Fu (BZ bx)];exact hW.heap.apart
 ·rw[Fu (BZ bx)];exact hW.own
 ·rcases BY hx with hx |⟨b0,h1,h2,rfl⟩
  ·exact hW.ids.1 x hx
  ·exact⟨(hW.ids.1 b0 h1).1,ho⟩
theorem RV {nid:Nat} {vc:List Vc} {x:SV} (hx:mf nid vc x):∀{l:List SV} {i:Nat},fO nid vc l->fO nid vc (l.set i x)
 |[],_,h=>h
 |s::r,0,h=>⟨hx,h.2⟩
 |s::r,i+1,h=>⟨h.1,RV hx (i:=i) h.2⟩
theorem Nq {V:Vl} {k u:Nat} (hv:(V.γ k u).val= .slice none 0 0):∀{cs:List SV} {i:Nat},cs[i]? =some (.v (.slice none 0 0))->(cs.set i (.vec k u)).map (bL V)=cs.map (bL V)
 |c::r,0,h=>by
  have e:c= .v (.slice none 0 0):=by simpa using h
  subst e;show(V.γ k u).val::_=_::_;rw[hv];rfl
 |c::r,i+1,h=>by
  simp only[List.set_cons_succ,bJ];rw[Nq hv (cs:=r) (i:=i) (by simpa using h)]
theorem I6 {x:Code} {Q:Exit->LS->Prop} (k i:Nat) (b:Bx) (e:TypeId) (sz:Nat) (h0:0<sz) (hb:iD st.bx k=some b) (hc:b.cs[i]? =some (.v (.slice none 0 0)))
  (h:kA (.mk (k:=(P,n,x,Q)) ⟨st.env,st.rho,lg st.bx k (b.cs.set i (.vec st.nid 0)),⟨st.nid,0,e,sz,0,[]⟩::st.vc,st.nid+1,st.m⟩)):kA (.mk (k:=(P,n,x,Q)) st):=by
 rintro C a w ⟨gN,V,D,hS⟩;obtain⟨V',ha,hγ,hW⟩:=hS.w.addVc (w' :=w) (hd:=⟨none,0,0⟩) (e:=e) (sz:=sz) (n:=0) (xs:=[]) rfl rfl rfl (av _) (fun _ _=>rfl) (World.ownsRow_nil w 0 e sz) (fun g hg=>by cases hg) h0 (fun u hu=>by cases hu);have hv:(V'.γ st.nid 0).val= .slice none 0 0:=by rw[hγ];rfl
 have fe:=(uS hb).2;have D7:=hW.reCells hb (Nq hv hc) (RV (x:= .vec st.nid 0) (show st.nid<st.nid+1/\cG (⟨st.nid,0,e,sz,0,[]⟩::st.vc) st.nid 0 from⟨Nat.lt_succ_self _,by simp [cG]⟩) (hW.ids.1 b fe).2);exact h C a w ⟨gN,V',D,hS.to ha (Nat.le_succ _) (fun k u hk hv=>uE rfl k u hk hv) D7⟩
theorem FQ {a rest:Code} {Q:Exit->LS->Prop} {X:Type} (S:X->LS) (J:X->Prop) (hn:∀x,J x->st.nid<=(S x).nid) (hm:∀x,J x->ae st.m (S x).m) (au:∀x,p8 (S x))
  (h:WP P n a (kf (fun ak=>∃x,Match ak (S x)/\J x) Q) st) (hr:∀x,J x->WP P n rest Q (S x)):WP P n (.seq a rest) Q st:=by
 rintro C a1 w ⟨gN,V,D,hS⟩;refine wp_seq (wp_mono (h C a1 w ⟨gN,V,D,hS⟩) ?_);rintro e a2 w2 ⟨cD,cA,hq⟩;cases e with
 |normal=>
  obtain⟨x,hM,hx⟩:=hq;obtain⟨_,V2,D2,hS2⟩:=cA;refine hr x hx C a2 w2 ⟨hM.2.1,V2,D2,hS2.weaken hM (au x) (fun b hb=>eP (hS.w.baseB b hb).2 (hn x hx)) (fun b hb=>eP (hS.w.baseV b hb).2.1 (hn x hx)) ?_⟩;rcases hm x hx with e |h
  ·rw[<- e];exact hS.w.m0
  ·exact Mem.le_trans hS.w.m0 h
 |exit id=>exact⟨cD,cA,hq⟩
 |goto l=>exact⟨cD,cA,hq⟩
 |ret=>exact⟨cD,cA,hq⟩
 |panic ch=>exact⟨cD,cA,hq⟩
 |outgrown=>exact⟨cD,cA,hq⟩
end
@[reducible] def yK (k:Nat):Bx:=⟨k,59,[.v (.int .i64 0),.v (.string (bs [])),.v (.string (bs [])),.v (.slice none 0 0),.v (.slice none 0 0),.v (.slice none 0 0),.v (.slice none 0 0)]⟩
@[reducible] def Wj (v:Int):Bx:=⟨10,59,[.v (.int .i64 v),.v (.string (bs [])),.v (.string (bs [])),.v (.slice none 0 0),.v (.slice none 0 0),.v (.slice none 0 0),.v (.slice none 0 0)]⟩
@[reducible] def V6 (v:Int) (n sp:List UInt8) (is:Value):Bx:=⟨10,59,[.v (.int .i64 v),.v (.string (bs n)),.v (.string (bs sp)),.v is,.v (.slice none 0 0),.v (.slice none 0 0),.v (.slice none 0 0)]⟩
@[reducible] def dB (y:DSt):Bx:=⟨10,59,[.v (.int .i64 y.d.fl),.v (.string (bs y.d.name)),.v (.string (bs y.d.super)),.v (.slice y.ia y.d.ifs.length y.ic),.vec 102 y.uf,.vec 103 y.um,.vec 104 y.ui]⟩
@[reducible] def fV (y:DSt):Vc:=⟨102,y.uf,94,5,y.d.fields.length,flat Fc.cs y.d.fields⟩
@[reducible] def mV (y:DSt):Vc:=⟨103,y.um,98,8,y.d.methods.length,y.ms⟩
@[reducible] def iV (y:DSt):Vc:=⟨104,y.ui,73,23,y.d.init.length,y.is⟩
attribute [go_sem] yK Wj V6 dB fV mV iV
theorem RP:∀fl:Int,0<=fl->fl<2->bits .or .i64 fl 1536=fl+1536:=fun fl h0 h1=>by
 have h:(List.range 2).all (fun n=>decide (bits .or .i64 (n:Int) 1536=(n:Int)+1536))=true:=by kernel_rfl
 obtain⟨k,rfl⟩:=Int.eq_ofNat_of_zero_le h0;exact of_decide_eq_true (List.all_eq_true.1 h k (List.mem_range.2 (by omega)))
abbrev Cc.svs (x:Cc):List SV:=[.v (.int .i64 x.fl),.v (.string (bs x.name)),.v (.string (bs x.super)),.v (.slice x.ia x.il x.ic),.v (.slice x.fa x.fn x.fc),.v (.slice x.ma x.ml x.mc),.v (.slice x.sa x.sl x.sc)]
attribute [go_sem] Cc.svs
abbrev alS (ts:List Tk) (en:Int) (s:PSt) (K:PR Cd) (m:Mem):SV->Hp->Mem->Prop:=fun r H' m' =>ae m m' /\∃(x:Cc) (d:Cd) (s' :PSt),r= .agg x.svs/\jL m' d x.cs/\H' =pH ts en s' /\Res ts en s K d s'
structure HdR (ts:List Tk) (en:Int) (s:PSt) (m:Mem) (s1:PSt) (v:Int) (nm sp:List UInt8) (is:List (List UInt8)) (ia:Option Addr) (ic:Nat):Prop where
 inv:Inv ts s1
 fl:0<=v/\v<4096
 hn:nm.length<=1000000
 hs:sp.length<=1000000
 il:is.length<=1000001
 ic:is.length<=ic
 ir:aX m ia is.length 1 (strs is)
 iw:∀w∈is,w.length<=1000000
 res:∀(a:Cd) (s' :PSt),Res ts en s1 (aV [123] (ts.drop s1.i) fun r=> .ok (⟨v,nm,sp,is,[],[],[]⟩,r)) a s' ->Res ts en s (n8 (ts.drop s.i)) a s'
section
variable {ts:List Tk} {en:Int} {s:PSt}
theorem ZE (hT:TsB ts) (hI:Inv ts s) (m:Mem):FnH Tryz.prog 26 [.box 0 0] (pH ts en s) m (alS ts en s (Ei (ts.drop s.i)) m):=by
 have hl:=hT.len;refine pF (pF (pF (TS Tryz.func26 rfl rfl (dC rfl) ?_ ?_)))
 ·simp only[go_sem]
 ·refine FQ (fun _:Unit=>⟨[⟨0,[],.box 0 0⟩,⟨2,[],.box 2 0⟩],[],[yK 2,na en s],[kM ts],10,m⟩) (fun _=>True) (fun _ _=>dC rfl) (fun _ _=> .inl rfl) (fun _=> ?_) (rz aB (by kernel_rfl) ?_) fun _ _=> ?_
  ·simp only[go_sem]
  ·simp only[go_sem];exact⟨(),trivial⟩
  ·refine FQ (fun _:Unit=>⟨[⟨0,[],.box 0 0⟩,⟨2,[],.box 2 0⟩,⟨3,[],.box 10 0⟩],[],[yK 10,yK 2,na en s],[kM ts],20,m⟩) (fun _=>True) (fun _ _=>dC rfl) (fun _ _=> .inl rfl) (fun _=> ?_) (rz aB (by kernel_rfl) ?_) fun _ _=> ?_
   ·simp only[go_sem]
   ·simp only[go_sem];exact⟨(),trivial⟩
   ·refine FQ (fun y:PSt×Int×Mem=>⟨[⟨0,[],.box 0 0⟩,⟨2,[],.box 2 0⟩,⟨3,[],.box 10 0⟩],[],[Wj y.2.1,yK 2,na en y.1],[kM ts],40,y.2.2⟩) (fun y=>ae m y.2.2/\(0<=y.2.1/\y.2.1<2)/\ModR ts iN 0 s y.2.1 y.1) (fun _ _=>dC rfl) (fun y hy=>hy.1) (fun _=> ?_) (rz aB (by kernel_rfl) ?_) ?_
    ·simp only[go_sem]
    ·by_cases hc:bC ts s.i AN=true
     ·have ha:=dR (en:=en) hT hc;have hi:=bF hc;simp only[go_sem];refine ab ((ha m).mono ?_);clear ha;rintro r H' m1 aN ⟨l1,rfl,rfl⟩;simp only[go_sem];exact⟨(s.next,1,m1),⟨⟨rfl,⟨rfl,rfl,rfl⟩⟩,.inl rfl⟩,l1,⟨(by decide:(0:Int)<=1),(by decide:(1:Int)<2)⟩,⟨hI.next hi,Nat.le_succ _,rfl,fun h=>(by rw[hI.nfl hi] at h;cases h),by rw[iN,gk,ah (by rw[<- ax];exact hc),<- b7];rfl⟩⟩
     ·have ha:=dS (en:=en) hT hc;simp only[go_sem];refine ab ((ha m).mono ?_);clear ha;rintro r H' m1 aN ⟨l1,rfl,rfl⟩;simp only[go_sem];exact⟨(s,0,m1),⟨⟨rfl,⟨rfl,rfl,rfl⟩⟩,.inl rfl⟩,l1,⟨(by decide:(0:Int)<=0),(by decide:(0:Int)<2)⟩,⟨hI,av _,rfl,fun _=>rfl,by rw[iN,gk,af (by rw[<- ax];exact hc)];rfl⟩⟩
    ·rintro⟨s1,v,m1⟩ ⟨q1,⟨q2,q3⟩,hM⟩;dsimp only at q1 q2 q3 hM;refine FQ (fun y:PSt×Int×List UInt8×List UInt8×List (List UInt8)×Option Addr×Nat×Mem=>⟨[⟨0,[],.box 0 0⟩,⟨2,[],.box 2 0⟩,⟨3,[],.box 10 0⟩],[],[V6 y.2.1 y.2.2.1 y.2.2.2.1 (.slice y.2.2.2.2.2.1 y.2.2.2.2.1.length y.2.2.2.2.2.2.1),yK 2,na en y.1],[kM ts],100,y.2.2.2.2.2.2.2⟩)
      (fun y=>ae m1 y.2.2.2.2.2.2.2/\HdR ts en s y.2.2.2.2.2.2.2 y.1 y.2.1 y.2.2.1 y.2.2.2.1 y.2.2.2.2.1 y.2.2.2.2.2.1 y.2.2.2.2.2.2.1) (fun _ _=>dC rfl) (fun y hy=>hy.1) (fun _=> ?_) (rz aB (by kernel_rfl) ?_) ?_
     ·simp only[go_sem]
     ·simp only[go_sem];have fi:=T8 v q2 (by omega);have o1:=JH v q2 (by omega);have o2:=JH (v+16) (by omega) (by omega);have o3:=RP v q2 q3;by_cases lX:bC ts (s1).i wR=true
      ·have kN:=fun m' =>dR (en:=en) hT lX m'
       refine ab ((kN m1).mono ?_);clear kN;rintro r H' m2 aH ⟨l2,rfl,rfl⟩;simp only[go_sem,fi,o1,o2,o3];have akX:=hM.inv.next (bF lX);have ao2:(s1).next.i=(s1).i+1:=rfl;try rw[RP v q2 q3]
       have pg:=fun m' =>px ts en (s1).next m' hT akX
       refine ab ((pg m2).mono ?_);clear pg;rintro r H' m3 bI ⟨l3,A6,ua,rfl,tU,rfl,hR12⟩;simp only[go_sem,fi,o1,o2,o3];have ao1:=hR12.mono;by_cases yA:bC ts (ua).i gh=true
       ·have qQ:=fun m' =>dR (en:=en) hT yA m'
        refine ab ((qQ m3).mono ?_);clear qQ;rintro r H' m4 cQ ⟨l4,rfl,rfl⟩;simp only[go_sem,fi,o1,o2,o3];have akW:=hR12.inv.next (bF yA);have aoZ:(ua).next.i=(ua).i+1:=rfl;have mZ:=fun m' =>Bs (s:=(ua).next) (en:=en) hT akW m'
        refine ab ((mZ m4).mono ?_);clear mZ;rintro r H' m5 cK ⟨l5,l1015,M2,nP,s15,rfl,ha15,hb15,UU,hd15,rfl,hR15⟩;simp only[go_sem,fi,o1,o2,o3];have Us:=hR15.mono;exact⟨(s15,v+1536,A6,kH,l1015,M2,nP,m5),⟨⟨⟨rfl,rfl,rfl,rfl⟩,⟨rfl,rfl,rfl⟩⟩,.inl rfl⟩,(aa l2 (aa l3 (aa l4 l5))),⟨hR15.inv,(by constructor<;>omega:(0:Int)<=v+1536/\v+1536<4096),tU,(by decide:kH.length<=1000000),hb15,ha15,UU,hd15,fun a s' h=>(by unfold n8;rw[hM.val];exact jT hM (by dsimp only;rw[ah (by rw[<- ax];exact lX),<- b7];exact cv hM.inv (bF lX) (aW hR12 (aW (show Res ts en (ua) (jN gh (ts.drop (ua).i)) l1015 s15 from by unfold jN;rw[ah (by rw[<- ax];exact yA),<- b7];exact cv hR12.inv (bF yA) hR15) h))))⟩⟩
       ·have qQ:=fun m' =>dS (en:=en) hT yA m'
        refine ab ((qQ m3).mono ?_);clear qQ;rintro r H' m4 cQ ⟨l4,rfl,rfl⟩;simp only[go_sem,fi,o1,o2,o3];exact⟨(ua,v+1536,A6,kH,[],none,0,m4),⟨⟨⟨rfl,rfl,rfl,rfl⟩,⟨rfl,rfl,rfl⟩⟩,.inl rfl⟩,(aa l2 (aa l3 l4)),⟨hR12.inv,(by constructor<;>omega:(0:Int)<=v+1536/\v+1536<4096),tU,(by decide:kH.length<=1000000),aD _,av _,fI _ _,fun w hw=>(by cases hw),fun a s' h=>(by unfold n8;rw[hM.val];exact jT hM (by dsimp only;rw[ah (by rw[<- ax];exact lX),<- b7];exact cv hM.inv (bF lX) (aW hR12 (aW (show Res ts en (ua) (jN gh (ts.drop (ua).i)) [] (ua) from by unfold jN;rw[af (by rw[<- ax];exact yA)];exact cL _ hR12.inv) h))))⟩⟩
      ·have kN:=fun m' =>dS (en:=en) hT lX m'
       refine ab ((kN m1).mono ?_);clear kN;rintro r H' m2 aH ⟨l2,rfl,rfl⟩;simp only[go_sem,fi,o1,o2,o3];by_cases mW:bC ts (s1).i GZ=true
       ·have sG:=fun m' =>dR (en:=en) hT mW m'
        refine ab ((sG m2).mono ?_);clear sG;rintro r H' m3 bI ⟨l3,rfl,rfl⟩;simp only[go_sem,fi,o1,o2,o3];have yG:=hM.inv.next (bF mW);have ao0:(s1).next.i=(s1).i+1:=rfl;by_cases lq:bC ts ((s1).next).i Dz=true
        ·have mZ:=fun m' =>dR (en:=en) hT lq m'
         refine ab ((mZ m3).mono ?_);clear mZ;rintro r H' m4 cQ ⟨l4,rfl,rfl⟩;simp only[go_sem,fi,o1,o2,o3];have vy:=yG.next (bF lq);have Us:((s1).next).next.i=((s1).next).i+1:=rfl;have sF:=fun m' =>fu ts en ((s1).next).next jS m' hT.l8
         have yF:Inv ts (aZ ts en ((s1).next).next jS):=fB vy;have KT:(((s1).next).next).i<=(aZ ts en ((s1).next).next jS).i:=gZ vy;refine ab ((sF m4).mono ?_);clear sF;rintro r H' m5 cK ⟨l5,rfl,rfl⟩;simp only[go_sem,fi,o1,o2,o3];have sE:=fun m' =>px ts en (aZ ts en ((s1).next).next jS) m' hT yF
         refine ab ((sE m5).mono ?_);clear sE;rintro r H' m6 ej ⟨l6,w17,j2,rfl,hw17,rfl,hR17⟩;simp only[go_sem,fi,o1,o2,o3];have KS:=hR17.mono;have sD:=fun m' =>fu ts en j2 gh m' hT.l8
         have yE:Inv ts (aZ ts en j2 gh):=fB hR17.inv;have KR:(j2).i<=(aZ ts en j2 gh).i:=gZ hR17.inv;refine ab ((sD m6).mono ?_);clear sD;rintro r H' m7 eW ⟨l7,rfl,rfl⟩;simp only[go_sem,fi,o1,o2,o3];have sC:=fun m' =>px ts en (aZ ts en j2 gh) m' hT yE
         refine ab ((sC m7).mono ?_);clear sC;rintro r H' m8 iE ⟨l8,w19,eL,rfl,hw19,rfl,hR19⟩;simp only[go_sem,fi,o1,o2,o3];have KQ:=hR19.mono;by_cases hc20:bC ts (eL).i kn=true
         ·have jd:=fun m' =>dR (en:=en) hT hc20 m'
          refine ab ((jd m8).mono ?_);clear jd;rintro r H' m9 kR ⟨l9,rfl,rfl⟩;simp only[go_sem,fi,o1,o2,o3];have yD:=hR19.inv.next (bF hc20);have Gs:(eL).next.i=(eL).i+1:=rfl;have j4:=fun m' =>Bs (s:=(eL).next) (en:=en) hT yD m'
          refine ab ((j4 m9).mono ?_);clear j4;rintro r H' m10 sb ⟨l10,l1022,a22,lz,s22,rfl,ha22,hb22,hc22,hd22,rfl,hR22⟩;simp only[go_sem,fi,o1,o2,o3];have Dc:=hR22.mono;exact⟨(s22,v+16+1024,w17,w19,l1022,a22,lz,m10),⟨⟨⟨rfl,rfl,rfl,rfl⟩,⟨rfl,rfl,rfl⟩⟩,.inl rfl⟩,(aa l2 (aa l3 (aa l4 (aa l5 (aa l6 (aa l7 (aa l8 (aa l9 l10)))))))),⟨hR22.inv,(by constructor<;>omega:(0:Int)<=v+16+1024/\v+16+1024<4096),hw17,hw19,hb22,ha22,hc22,hd22,fun a s' h=>(by unfold n8;rw[hM.val];exact jT hM (by dsimp only;rw[af (by rw[<- ax];exact lX),show bN j5 v (ts.drop s1.i)=(v+16+1024,ts.drop (((s1).next).next).i) from by rw[j5,gk,ah (by rw[<- ax];exact mW),<- b7,gk,ah (by rw[<- ax];exact lq),<- b7];rfl];exact(cv hM.inv (bF mW) (cv yG (bF lq) (dZ vy (aW hR17 (dZ hR17.inv (aW hR19 (aW (show Res ts en (eL) (jN kn (ts.drop (eL).i)) l1022 s22 from by unfold jN;rw[ah (by rw[<- ax];exact hc20),<- b7];exact cv hR19.inv (bF hc20) hR22) h)))))))))⟩⟩
         ·have jd:=fun m' =>dS (en:=en) hT hc20 m'
          refine ab ((jd m8).mono ?_);clear jd;rintro r H' m9 kR ⟨l9,rfl,rfl⟩;simp only[go_sem,fi,o1,o2,o3];exact⟨(eL,v+16+1024,w17,w19,[],none,0,m9),⟨⟨⟨rfl,rfl,rfl,rfl⟩,⟨rfl,rfl,rfl⟩⟩,.inl rfl⟩,(aa l2 (aa l3 (aa l4 (aa l5 (aa l6 (aa l7 (aa l8 l9))))))),⟨hR19.inv,(by constructor<;>omega:(0:Int)<=v+16+1024/\v+16+1024<4096),hw17,hw19,aD _,av _,fI _ _,fun w hw=>(by cases hw),fun a s' h=>(by unfold n8;rw[hM.val];exact jT hM (by dsimp only;rw[af (by rw[<- ax];exact lX),show bN j5 v (ts.drop s1.i)=(v+16+1024,ts.drop (((s1).next).next).i) from by rw[j5,gk,ah (by rw[<- ax];exact mW),<- b7,gk,ah (by rw[<- ax];exact lq),<- b7];rfl];exact(cv hM.inv (bF mW) (cv yG (bF lq) (dZ vy (aW hR17 (dZ hR17.inv (aW hR19 (aW (show Res ts en (eL) (jN kn (ts.drop (eL).i)) [] (eL) from by unfold jN;rw[af (by rw[<- ax];exact hc20)];exact cL _ hR19.inv) h)))))))))⟩⟩
        ·have mZ:=fun m' =>dS (en:=en) hT lq m'
         refine ab ((mZ m3).mono ?_);clear mZ;rintro r H' m4 cQ ⟨l4,rfl,rfl⟩;simp only[go_sem,fi,o1,o2,o3];have sF:=fun m' =>fu ts en (s1).next jS m' hT.l8
         have yF:Inv ts (aZ ts en (s1).next jS):=fB yG;have KT:((s1).next).i<=(aZ ts en (s1).next jS).i:=gZ yG;refine ab ((sF m4).mono ?_);clear sF;rintro r H' m5 cK ⟨l5,rfl,rfl⟩;simp only[go_sem,fi,o1,o2,o3];have sE:=fun m' =>px ts en (aZ ts en (s1).next jS) m' hT yF
         refine ab ((sE m5).mono ?_);clear sE;rintro r H' m6 ej ⟨l6,w17,j2,rfl,hw17,rfl,hR17⟩;simp only[go_sem,fi,o1,o2,o3];have KS:=hR17.mono;have sD:=fun m' =>fu ts en j2 gh m' hT.l8
         have yE:Inv ts (aZ ts en j2 gh):=fB hR17.inv;have KR:(j2).i<=(aZ ts en j2 gh).i:=gZ hR17.inv;refine ab ((sD m6).mono ?_);clear sD;rintro r H' m7 eW ⟨l7,rfl,rfl⟩;simp only[go_sem,fi,o1,o2,o3];have sC:=fun m' =>px ts en (aZ ts en j2 gh) m' hT yE
         refine ab ((sC m7).mono ?_);clear sC;rintro r H' m8 iE ⟨l8,w19,eL,rfl,hw19,rfl,hR19⟩;simp only[go_sem,fi,o1,o2,o3];have KQ:=hR19.mono;by_cases hc20:bC ts (eL).i kn=true
         ·have jd:=fun m' =>dR (en:=en) hT hc20 m'
          refine ab ((jd m8).mono ?_);clear jd;rintro r H' m9 kR ⟨l9,rfl,rfl⟩;simp only[go_sem,fi,o1,o2,o3];have yD:=hR19.inv.next (bF hc20);have Gs:(eL).next.i=(eL).i+1:=rfl;have j4:=fun m' =>Bs (s:=(eL).next) (en:=en) hT yD m'
          refine ab ((j4 m9).mono ?_);clear j4;rintro r H' m10 sb ⟨l10,l1022,a22,lz,s22,rfl,ha22,hb22,hc22,hd22,rfl,hR22⟩;simp only[go_sem,fi,o1,o2,o3];have Dc:=hR22.mono;exact⟨(s22,v+16,w17,w19,l1022,a22,lz,m10),⟨⟨⟨rfl,rfl,rfl,rfl⟩,⟨rfl,rfl,rfl⟩⟩,.inl rfl⟩,(aa l2 (aa l3 (aa l4 (aa l5 (aa l6 (aa l7 (aa l8 (aa l9 l10)))))))),⟨hR22.inv,(by constructor<;>omega:(0:Int)<=v+16/\v+16<4096),hw17,hw19,hb22,ha22,hc22,hd22,fun a s' h=>(by unfold n8;rw[hM.val];exact jT hM (by dsimp only;rw[af (by rw[<- ax];exact lX),show bN j5 v (ts.drop s1.i)=(v+16,ts.drop ((s1).next).i) from by rw[j5,gk,ah (by rw[<- ax];exact mW),<- b7,gk,af (by rw[<- ax];exact lq)];rfl];exact(cv hM.inv (bF mW) (dZ yG (aW hR17 (dZ hR17.inv (aW hR19 (aW (show Res ts en (eL) (jN kn (ts.drop (eL).i)) l1022 s22 from by unfold jN;rw[ah (by rw[<- ax];exact hc20),<- b7];exact cv hR19.inv (bF hc20) hR22) h))))))))⟩⟩
         ·have jd:=fun m' =>dS (en:=en) hT hc20 m'
          refine ab ((jd m8).mono ?_);clear jd;rintro r H' m9 kR ⟨l9,rfl,rfl⟩;simp only[go_sem,fi,o1,o2,o3];exact⟨(eL,v+16,w17,w19,[],none,0,m9),⟨⟨⟨rfl,rfl,rfl,rfl⟩,⟨rfl,rfl,rfl⟩⟩,.inl rfl⟩,(aa l2 (aa l3 (aa l4 (aa l5 (aa l6 (aa l7 (aa l8 l9))))))),⟨hR19.inv,(by constructor<;>omega:(0:Int)<=v+16/\v+16<4096),hw17,hw19,aD _,av _,fI _ _,fun w hw=>(by cases hw),fun a s' h=>(by unfold n8;rw[hM.val];exact jT hM (by dsimp only;rw[af (by rw[<- ax];exact lX),show bN j5 v (ts.drop s1.i)=(v+16,ts.drop ((s1).next).i) from by rw[j5,gk,ah (by rw[<- ax];exact mW),<- b7,gk,af (by rw[<- ax];exact lq)];rfl];exact(cv hM.inv (bF mW) (dZ yG (aW hR17 (dZ hR17.inv (aW hR19 (aW (show Res ts en (eL) (jN kn (ts.drop (eL).i)) [] (eL) from by unfold jN;rw[af (by rw[<- ax];exact hc20)];exact cL _ hR19.inv) h))))))))⟩⟩
       ·have sG:=fun m' =>dS (en:=en) hT mW m'
        refine ab ((sG m2).mono ?_);clear sG;rintro r H' m3 bI ⟨l3,rfl,rfl⟩;simp only[go_sem,fi,o1,o2,o3];by_cases lq:bC ts (s1).i Dz=true
        ·have mZ:=fun m' =>dR (en:=en) hT lq m'
         refine ab ((mZ m3).mono ?_);clear mZ;rintro r H' m4 cQ ⟨l4,rfl,rfl⟩;simp only[go_sem,fi,o1,o2,o3];have vy:=hM.inv.next (bF lq);have Us:(s1).next.i=(s1).i+1:=rfl;have sF:=fun m' =>fu ts en (s1).next jS m' hT.l8
         have yF:Inv ts (aZ ts en (s1).next jS):=fB vy;have KT:((s1).next).i<=(aZ ts en (s1).next jS).i:=gZ vy;refine ab ((sF m4).mono ?_);clear sF;rintro r H' m5 cK ⟨l5,rfl,rfl⟩;simp only[go_sem,fi,o1,o2,o3];have sE:=fun m' =>px ts en (aZ ts en (s1).next jS) m' hT yF
         refine ab ((sE m5).mono ?_);clear sE;rintro r H' m6 ej ⟨l6,w17,j2,rfl,hw17,rfl,hR17⟩;simp only[go_sem,fi,o1,o2,o3];have KS:=hR17.mono;have sD:=fun m' =>fu ts en j2 gh m' hT.l8
         have yE:Inv ts (aZ ts en j2 gh):=fB hR17.inv;have KR:(j2).i<=(aZ ts en j2 gh).i:=gZ hR17.inv;refine ab ((sD m6).mono ?_);clear sD;rintro r H' m7 eW ⟨l7,rfl,rfl⟩;simp only[go_sem,fi,o1,o2,o3];have sC:=fun m' =>px ts en (aZ ts en j2 gh) m' hT yE
         refine ab ((sC m7).mono ?_);clear sC;rintro r H' m8 iE ⟨l8,w19,eL,rfl,hw19,rfl,hR19⟩;simp only[go_sem,fi,o1,o2,o3];have KQ:=hR19.mono;by_cases hc20:bC ts (eL).i kn=true
         ·have jd:=fun m' =>dR (en:=en) hT hc20 m'
          refine ab ((jd m8).mono ?_);clear jd;rintro r H' m9 kR ⟨l9,rfl,rfl⟩;simp only[go_sem,fi,o1,o2,o3];have yD:=hR19.inv.next (bF hc20);have Gs:(eL).next.i=(eL).i+1:=rfl;have j4:=fun m' =>Bs (s:=(eL).next) (en:=en) hT yD m'
          refine ab ((j4 m9).mono ?_);clear j4;rintro r H' m10 sb ⟨l10,l1022,a22,lz,s22,rfl,ha22,hb22,hc22,hd22,rfl,hR22⟩;simp only[go_sem,fi,o1,o2,o3];have Dc:=hR22.mono;exact⟨(s22,v+1024,w17,w19,l1022,a22,lz,m10),⟨⟨⟨rfl,rfl,rfl,rfl⟩,⟨rfl,rfl,rfl⟩⟩,.inl rfl⟩,(aa l2 (aa l3 (aa l4 (aa l5 (aa l6 (aa l7 (aa l8 (aa l9 l10)))))))),⟨hR22.inv,(by constructor<;>omega:(0:Int)<=v+1024/\v+1024<4096),hw17,hw19,hb22,ha22,hc22,hd22,fun a s' h=>(by unfold n8;rw[hM.val];exact jT hM (by dsimp only;rw[af (by rw[<- ax];exact lX),show bN j5 v (ts.drop s1.i)=(v+1024,ts.drop ((s1).next).i) from by rw[j5,gk,af (by rw[<- ax];exact mW),gk,ah (by rw[<- ax];exact lq),<- b7];rfl];exact(cv hM.inv (bF lq) (dZ vy (aW hR17 (dZ hR17.inv (aW hR19 (aW (show Res ts en (eL) (jN kn (ts.drop (eL).i)) l1022 s22 from by unfold jN;rw[ah (by rw[<- ax];exact hc20),<- b7];exact cv hR19.inv (bF hc20) hR22) h))))))))⟩⟩
         ·have jd:=fun m' =>dS (en:=en) hT hc20 m'
          refine ab ((jd m8).mono ?_);clear jd;rintro r H' m9 kR ⟨l9,rfl,rfl⟩;simp only[go_sem,fi,o1,o2,o3];exact⟨(eL,v+1024,w17,w19,[],none,0,m9),⟨⟨⟨rfl,rfl,rfl,rfl⟩,⟨rfl,rfl,rfl⟩⟩,.inl rfl⟩,(aa l2 (aa l3 (aa l4 (aa l5 (aa l6 (aa l7 (aa l8 l9))))))),⟨hR19.inv,(by constructor<;>omega:(0:Int)<=v+1024/\v+1024<4096),hw17,hw19,aD _,av _,fI _ _,fun w hw=>(by cases hw),fun a s' h=>(by unfold n8;rw[hM.val];exact jT hM (by dsimp only;rw[af (by rw[<- ax];exact lX),show bN j5 v (ts.drop s1.i)=(v+1024,ts.drop ((s1).next).i) from by rw[j5,gk,af (by rw[<- ax];exact mW),gk,ah (by rw[<- ax];exact lq),<- b7];rfl];exact(cv hM.inv (bF lq) (dZ vy (aW hR17 (dZ hR17.inv (aW hR19 (aW (show Res ts en (eL) (jN kn (ts.drop (eL).i)) [] (eL) from by unfold jN;rw[af (by rw[<- ax];exact hc20)];exact cL _ hR19.inv) h))))))))⟩⟩
        ·have mZ:=fun m' =>dS (en:=en) hT lq m'
         refine ab ((mZ m3).mono ?_);clear mZ;rintro r H' m4 cQ ⟨l4,rfl,rfl⟩;simp only[go_sem,fi,o1,o2,o3];have sF:=fun m' =>fu ts en s1 jS m' hT.l8
         have yF:Inv ts (aZ ts en s1 jS):=fB hM.inv;have KT:(s1).i<=(aZ ts en s1 jS).i:=gZ hM.inv;refine ab ((sF m4).mono ?_);clear sF;rintro r H' m5 cK ⟨l5,rfl,rfl⟩;simp only[go_sem,fi,o1,o2,o3];have sE:=fun m' =>px ts en (aZ ts en s1 jS) m' hT yF
         refine ab ((sE m5).mono ?_);clear sE;rintro r H' m6 ej ⟨l6,w17,j2,rfl,hw17,rfl,hR17⟩;simp only[go_sem,fi,o1,o2,o3];have KS:=hR17.mono;have sD:=fun m' =>fu ts en j2 gh m' hT.l8
         have yE:Inv ts (aZ ts en j2 gh):=fB hR17.inv;have KR:(j2).i<=(aZ ts en j2 gh).i:=gZ hR17.inv;refine ab ((sD m6).mono ?_);clear sD;rintro r H' m7 eW ⟨l7,rfl,rfl⟩;simp only[go_sem,fi,o1,o2,o3];have sC:=fun m' =>px ts en (aZ ts en j2 gh) m' hT yE
         refine ab ((sC m7).mono ?_);clear sC;rintro r H' m8 iE ⟨l8,w19,eL,rfl,hw19,rfl,hR19⟩;simp only[go_sem,fi,o1,o2,o3];have KQ:=hR19.mono;by_cases hc20:bC ts (eL).i kn=true
         ·have jd:=fun m' =>dR (en:=en) hT hc20 m'
          refine ab ((jd m8).mono ?_);clear jd;rintro r H' m9 kR ⟨l9,rfl,rfl⟩;simp only[go_sem,fi,o1,o2,o3];have yD:=hR19.inv.next (bF hc20);have Gs:(eL).next.i=(eL).i+1:=rfl;have j4:=fun m' =>Bs (s:=(eL).next) (en:=en) hT yD m'
          refine ab ((j4 m9).mono ?_);clear j4;rintro r H' m10 sb ⟨l10,l1022,a22,lz,s22,rfl,ha22,hb22,hc22,hd22,rfl,hR22⟩;simp only[go_sem,fi,o1,o2,o3];have Dc:=hR22.mono;exact⟨(s22,v,w17,w19,l1022,a22,lz,m10),⟨⟨⟨rfl,rfl,rfl,rfl⟩,⟨rfl,rfl,rfl⟩⟩,.inl rfl⟩,(aa l2 (aa l3 (aa l4 (aa l5 (aa l6 (aa l7 (aa l8 (aa l9 l10)))))))),⟨hR22.inv,(by constructor<;>omega:(0:Int)<=v/\v<4096),hw17,hw19,hb22,ha22,hc22,hd22,fun a s' h=>(by unfold n8;rw[hM.val];exact jT hM (by dsimp only;rw[af (by rw[<- ax];exact lX),show bN j5 v (ts.drop s1.i)=(v,ts.drop (s1).i) from by rw[j5,gk,af (by rw[<- ax];exact mW),gk,af (by rw[<- ax];exact lq)];rfl];exact(dZ hM.inv (aW hR17 (dZ hR17.inv (aW hR19 (aW (show Res ts en (eL) (jN kn (ts.drop (eL).i)) l1022 s22 from by unfold jN;rw[ah (by rw[<- ax];exact hc20),<- b7];exact cv hR19.inv (bF hc20) hR22) h)))))))⟩⟩
         ·have jd:=fun m' =>dS (en:=en) hT hc20 m'
          refine ab ((jd m8).mono ?_);clear jd;rintro r H' m9 kR ⟨l9,rfl,rfl⟩;simp only[go_sem,fi,o1,o2,o3];exact⟨(eL,v,w17,w19,[],none,0,m9),⟨⟨⟨rfl,rfl,rfl,rfl⟩,⟨rfl,rfl,rfl⟩⟩,.inl rfl⟩,(aa l2 (aa l3 (aa l4 (aa l5 (aa l6 (aa l7 (aa l8 l9))))))),⟨hR19.inv,(by constructor<;>omega:(0:Int)<=v/\v<4096),hw17,hw19,aD _,av _,fI _ _,fun w hw=>(by cases hw),fun a s' h=>(by unfold n8;rw[hM.val];exact jT hM (by dsimp only;rw[af (by rw[<- ax];exact lX),show bN j5 v (ts.drop s1.i)=(v,ts.drop (s1).i) from by rw[j5,gk,af (by rw[<- ax];exact mW),gk,af (by rw[<- ax];exact lq)];rfl];exact(dZ hM.inv (aW hR17 (dZ hR17.inv (aW hR19 (aW (show Res ts en (eL) (jN kn (ts.drop (eL).i)) [] (eL) from by unfold jN;rw[af (by rw[<- ax];exact hc20)];exact cL _ hR19.inv) h)))))))⟩⟩
     ·rintro⟨s2,v2,nm,sp,is,ia,ic,m2⟩ ⟨g1,hH⟩;dsimp only at g1 hH;have hE:=fun m' =>fu ts en s2 [123] m' hT.l8
      have VW:Inv ts (aZ ts en s2 [123]):=fB hH.inv;have hRH:Res ts en s (n8 (ts.drop s.i)) ⟨v2,nm,sp,is,[],[],[]⟩ (aZ ts en s2 [123]):=hH.res _ _ (dZ hH.inv (cL _ VW));refine rz aB (by kernel_rfl) ?_;simp only[go_sem];refine ab ((hE m2).mono ?_);clear hE;rintro r H' m3 bI ⟨l3,rfl,rfl⟩;simp only[go_sem];refine I6 10 4 _ 94 5 (by decide) rfl rfl ?_;refine I6 10 5 _ 98 8 (by decide) rfl rfl ?_;refine I6 10 6 _ 73 23 (by decide) rfl rfl ?_;refine dA aB (fun y:PSt×DSt×Mem=>⟨[⟨0,[],.box 0 0⟩,⟨2,[],.box 2 0⟩,⟨3,[],.box 10 0⟩],[],[dB y.2.1,na en y.1,yK 2],[fV y.2.1,mV y.2.1,iV y.2.1,kM ts],200,y.2.2⟩)
       (fun y=>ae m3 y.2.2/\Inv ts y.1/\Same ⟨⟨v2,nm,sp,is,[],[],[]⟩,ia,ic,0,0,0,[],[]⟩ y.2.1/\DOk y.2.2 y.2.1 (y.1.i+(if y.1.fl=true then 1 else 0))/\∀a s',Res ts en y.1 (C2 y.2.1.d (ts.drop y.1.i)) a s' ->Res ts en s (Ei (ts.drop s.i)) a s')
       (fun y=>if y.1.fl=true then 0 else ts.length - y.1.i+1) (aZ ts en s2 [123],⟨⟨v2,nm,sp,is,[],[],[]⟩,ia,ic,0,0,0,[],[]⟩,m3) (fun _ _=>dC rfl) (fun y hy=>hy.1) ?_ ?_ ?_
      ·simp only[go_sem];exact rfl
      ·exact⟨.inl rfl,VW,⟨rfl,rfl,rfl,rfl,rfl,rfl,av _,av _,av _⟩,⟨rfl,trivial,rfl,iW _ _,fun f hf=>(by cases hf),aD _,aD _,aD _⟩,fun a s' h=>aW hRH h⟩
      ·rintro⟨s4,y,m4⟩ ⟨p1,p2,p3,p4,p5⟩;dsimp only at p1 p2 p3 p4 p5;have dv:=p2.le;have gC:=p4.fn;have hmn:=p4.mn;have gQ:=p4.inn;have nf:(if s4.fl=true then 1 else 0)<=1:=by split<;>decide
       by_cases hf:s4.fl=true
       ·simp only[go_sem];refine⟨fun h=>(by rw[hf] at h;cases h),fun _=> ?_⟩;refine rI 4 rfl (b:=fV y) (by simp [eV]) ⟨(pH ts en s4).bx,[mV y,iV y,kM ts]⟩ (List.Sublist.refl _) (.cons _ (List.Sublist.refl _)) fun a1 c1 w1 x1 x2 x3=> ?_
        refine rI 5 rfl (b:=mV y) (by simp [eV]) ⟨(pH ts en s4).bx,[iV y,kM ts]⟩ (List.Sublist.refl _) (.cons _ (List.Sublist.refl _)) fun a2 c2 w2 x4 x5 x6=> ?_
        refine rI 6 rfl (b:=iV y) (by simp [eV]) (pH ts en s4) (List.Sublist.refl _) (.cons _ (List.Sublist.refl _)) fun a3 c3 w3 x7 x8 x9=> ?_
        have hw:ae m4 w3:=aa (.inl rfl:ae m4 m4) (aa (.inr x1) (aa (.inr x4) (.inr x7)));have hy:=p4.up hw (av _);have gu:ae m2 w3:=aa l3 (aa p1 hw);have D3:CdOk y.d:=⟨by rw[p3.fl];have:=hH.fl;unfold aF;dsimp only;omega,by rw[p3.name];have:=hH.hn;unfold aq;dsimp only;omega,by rw[p3.super];have:=hH.hs;unfold aq;dsimp only;omega,by rw[p3.ifs];have:=hH.il;unfold aq;dsimp only;omega,by rw[p3.ifs];intro w hw;have:=hH.iw w hw;unfold aq;omega,by unfold aq;omega,hy.fs,by unfold aq;omega,by unfold aq;omega⟩;exact⟨aa q1 (aa g1 gu),⟨y.d.fl,y.d.name,y.d.super,y.ia,y.d.ifs.length,y.ic,a1,y.d.fields.length,c1,a2,y.d.methods.length,c2,a3,y.d.init.length,c3⟩,y.d,s4,rfl,⟨_,⟨rfl,rfl,rfl,rfl⟩,⟨rfl,by rw[p3.ifs,p3.ic];exact hH.ic,rfl,x2,rfl,x5,rfl,x8⟩,D3,by rw[p3.ia,p3.ifs];exact ay gu hH.ir,ay (aa (.inr x4) (.inr x7)) x3,_,_,ay (.inr x7) x6,hy.msr,x9,hy.isr⟩,rfl,p5 _ _ (CD y.d p2 hf)⟩
       ·have qW:s4.fl=false:=by simpa using hf
        by_cases h1:bC ts s4.i [125]=true
        ·have ha:=dR (en:=en) hT h1;have hi:=bF h1;have gj:=p2.next hi;simp only[go_sem];refine⟨fun _=>ab ((ha m4).mono ?_),fun h=>by rw[qW] at h;cases h⟩;clear ha;rintro r H' m5 cK ⟨l5,rfl,rfl⟩;simp only[go_sem];refine rI 4 rfl (b:=fV y) (by simp [eV]) ⟨(pH ts en s4.next).bx,[kM ts,mV y,iV y]⟩ (List.Sublist.refl _) (.cons_cons _ (.cons _ (List.Sublist.refl _))) fun a1 c1 w1 x1 x2 x3=> ?_
         refine rI 5 rfl (b:=mV y) (by simp [eV]) ⟨(pH ts en s4.next).bx,[kM ts,iV y]⟩ (List.Sublist.refl _) (.cons_cons _ (.cons _ (List.Sublist.refl _))) fun a2 c2 w2 x4 x5 x6=> ?_
         refine rI 6 rfl (b:=iV y) (by simp [eV]) (pH ts en s4.next) (List.Sublist.refl _) (.cons_cons _ (.cons _ (List.Sublist.refl _))) fun a3 c3 w3 x7 x8 x9=> ?_
         have hw:ae m4 w3:=aa l5 (aa (.inr x1) (aa (.inr x4) (.inr x7)));have hy:=p4.up hw (av _);have gu:ae m2 w3:=aa l3 (aa p1 hw);have D3:CdOk y.d:=⟨by rw[p3.fl];have:=hH.fl;unfold aF;dsimp only;omega,by rw[p3.name];have:=hH.hn;unfold aq;dsimp only;omega,by rw[p3.super];have:=hH.hs;unfold aq;dsimp only;omega,by rw[p3.ifs];have:=hH.il;unfold aq;dsimp only;omega,by rw[p3.ifs];intro w hw;have:=hH.iw w hw;unfold aq;omega,by unfold aq;omega,hy.fs,by unfold aq;omega,by unfold aq;omega⟩;exact⟨aa q1 (aa g1 gu),⟨y.d.fl,y.d.name,y.d.super,y.ia,y.d.ifs.length,y.ic,a1,y.d.fields.length,c1,a2,y.d.methods.length,c2,a3,y.d.init.length,c3⟩,y.d,s4.next,rfl,⟨_,⟨rfl,rfl,rfl,rfl⟩,⟨rfl,by rw[p3.ifs,p3.ic];exact hH.ic,rfl,x2,rfl,x5,rfl,x8⟩,D3,by rw[p3.ia,p3.ifs];exact ay gu hH.ir,ay (aa (.inr x4) (.inr x7)) x3,_,_,ay (.inr x7) x6,hy.msr,x9,hy.isr⟩,rfl,p5 _ _ (by rw[Qw,ah (by rw[<- ax];exact h1),<- b7];exact cv p2 hi (cL _ gj))⟩
        ·have ha:=dS (en:=en) hT h1;rw[af hf] at p4;have hb:=fun m' h=>Xr (en:=en) hT p2 qW y m' h
         simp only[go_sem];refine⟨fun _=>ab ((ha m4).mono ?_),fun h=>by rw[qW] at h;cases h⟩;clear ha;rintro r H' m5 cK ⟨l5,rfl,rfl⟩;simp only[go_sem];refine ab ((hb m5 (p4.up l5 (av _))).mono ?_);clear hb;rintro r H' m6 ej ⟨l6,y6,s6,rfl,rfl,oA,au,hR6⟩;have fU:=nk hR6 qW (py _ _);have zk:=hR6.inv.le;simp only[go_sem];refine⟨⟨oA.uf,oA.um,oA.ui⟩,(s6,y6,m6),⟨⟨⟨rfl,rfl,rfl,rfl,rfl,rfl,rfl⟩,⟨rfl,rfl,rfl⟩⟩,⟨⟨rfl,rfl,rfl⟩,⟨rfl,rfl,rfl⟩,rfl,rfl,rfl⟩,.inl rfl⟩,⟨aa p1 (aa l5 l6),hR6.inv,⟨oA.ia.trans p3.ia,oA.ic.trans p3.ic,oA.fl.trans p3.fl,oA.name.trans p3.name,oA.super.trans p3.super,oA.ifs.trans p3.ifs,aD _,aD _,aD _⟩,au,fun a s' h=>p5 a s' ?_⟩,?_⟩
         ·rw[Qw,af (by rw[<- ax];exact h1)];exact aW hR6 h
         ·dsimp only;rw[af hf];rcases fU with h |h
          ·rw[ah h];omega
          ·split<;>omega
end
end Go.Proofs.YtimddhkipjedcaaGreatDoor.E

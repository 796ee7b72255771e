/- Several texts in one: AstQl, AstQm, AstQn, AstQo, AstQr, AstQt, AstQu, AstQv, AstQw, AstQx, AstQy, AstQz, AstVq, AstVa, AstRw, AstVb, AstRz. -/
import Derived.Test.YtimddhkipjedcaaGreatDoorMrg5
set_option linter.unusedSimpArgs false
set_option linter.unusedVariables false
set_option maxHeartbeats 4000000
set_option maxRecDepth 20000
namespace Go.Proofs.YtimddhkipjedcaaGreatDoor.E
open Go
section
variable {ts:List Tk} {en:Int} {s:PSt}
theorem aeh (hT:TsB ts) (h:kg (ts.drop s.i)=true) (m:Mem):FnH Tryz.prog 190 [.box 0 0] (pH ts en s) m fun r H' m' =>ae m m' /\r= .v (.bool true)/\H' =pH ts en s:=
 (Hg ts en s m hT).mono fun r H' m2 _ q=>⟨q.1,by have:=q.2.1;rw[h] at this;exact this,q.2.2⟩
theorem aei (hT:TsB ts) (h:¬kg (ts.drop s.i)=true) (m:Mem):FnH Tryz.prog 190 [.box 0 0] (pH ts en s) m fun r H' m' =>ae m m' /\r= .v (.bool false)/\H' =pH ts en s:=
 (Hg ts en s m hT).mono fun r H' m2 _ q=>⟨q.1,by have:=q.2.1;rw[(by simpa using h:kg (ts.drop s.i)=false)] at this;exact this,q.2.2⟩
theorem SG (hT:TsB ts) (h:gj (ts.drop s.i)=true) (m:Mem):FnH Tryz.prog 126 [.box 0 0] (pH ts en s) m fun r H' m' =>ae m m' /\r= .v (.bool true)/\H' =pH ts en s:=
 (Hh ts en s m hT).mono fun r H' m2 _ q=>⟨q.1,by have:=q.2.1;rw[h] at this;exact this,q.2.2⟩
theorem SH (hT:TsB ts) (h:¬gj (ts.drop s.i)=true) (m:Mem):FnH Tryz.prog 126 [.box 0 0] (pH ts en s) m fun r H' m' =>ae m m' /\r= .v (.bool false)/\H' =pH ts en s:=
 (Hh ts en s m hT).mono fun r H' m2 _ q=>⟨q.1,by have:=q.2.1;rw[(by simpa using h:gj (ts.drop s.i)=false)] at this;exact this,q.2.2⟩
theorem Xo (hT:TsB ts) (hI:Inv ts s) (hA:∀s1,Inv ts s1->s.i<s1.i->wa ts en s1) (hE:∀s1,Inv ts s1->s.i<s1.i->oI ts en 0 s1) (hK:∀m,FnH Tryz.prog 204 [.box 0 0] (pH ts en s) m (gN ts en s (Ao (ts.drop s.i)) m)) (m:Mem):
  FnH Tryz.prog 150 [.box 0 0] (pH ts en s) m (gN ts en s (xg (ts.drop s.i)) m):=by
 have hp:=ze ts en s m hT.l8;refine aR aB Tryz.func150 ?_
 ·simp only[go_sem];refine ab (hp.mono ?_);clear hp;rintro r H' m1 aN ⟨rfl,rfl⟩;simp only[go_sem];refine⟨fun hk=> ?_,fun hk=> ?_⟩
  ·have hi:s.i<ts.length:=by
    rcases Nat.lt_or_ge s.i ts.length with h |h
    ·exact h
    ·rw[Js h] at hk;exact absurd hk (by decide)
   have hl:=V4 (en:=en) hT hI hi;have e:xg (ts.drop s.i)=F1 (ts.drop s.i):=by
    rw[MX,F1,xr];by_cases h3:(fD ts s.i).k=3
    ·rw[ah h3,ah h3]
    ·by_cases h4:(fD ts s.i).k=4
     ·rw[af h3,af h3,ah h4,ah h4]
     ·rw[af h3,af h3,af h4,af h4,ah (by omega)]
   rw[e];clear hA hE hK;refine ab ((hl m1).mono ?_);clear hl;rintro r H' m2 aH ⟨l2,x,e,s1,rfl,hx,rfl,hR⟩;simp only[go_sem];exact⟨.inr (SB (.inr aN:ae m m1) aH),x,e,s1,rfl,hx,rfl,hR⟩
  ·have e:xg (ts.drop s.i)=(if kg (ts.drop s.i)=true then an (cY (ts.drop s.i)) fun s r=> .ok (.mk 6 0 s [] ai [],r) else if gj (ts.drop s.i)=true then Tf (ts.drop s.i) else if bu ts s.i [40]=true then ot (ts.drop s.i) else Ao (ts.drop s.i)):=by
    rw[MX,xr,af (by omega),af (by omega),af (by omega),aw];rfl
   rw[e];by_cases h1:kg (ts.drop s.i)=true
   ·have ha:=aeh (en:=en) hT h1;have hb:=Xq (en:=en) hT hI;clear hA hE hK;rw[ah h1];refine ab ((ha m1).mono ?_);clear ha;rintro r H' m2 aH ⟨l2,rfl,rfl⟩;simp only[go_sem];refine ab ((hb m2).mono ?_);clear hb;rintro r H' m3 bI ⟨l3,x,e,s1,rfl,hx,rfl,hR⟩;simp only[go_sem];exact⟨aa (.inr aN) (aa l2 l3),x,e,s1,rfl,hx,rfl,hR⟩
   ·have ha:=aei (en:=en) hT h1;rw[af h1];refine ab ((ha m1).mono ?_);clear ha;rintro r H' m2 aH ⟨l2,rfl,rfl⟩;simp only[go_sem];by_cases h2:gj (ts.drop s.i)=true
    ·have ha:=SG (en:=en) hT h2;have hb:=X1 (en:=en) hT hI h2 hA;clear hA hE hK;rw[ah h2];refine ab ((ha m2).mono ?_);clear ha;rintro r H' m3 bI ⟨l3,rfl,rfl⟩;simp only[go_sem];refine ab ((hb m3).mono ?_);clear hb;rintro r H' m4 cT ⟨l4,x,e,s1,rfl,hx,rfl,hR⟩;simp only[go_sem];exact⟨aa (.inr aN) (aa l2 (aa l3 l4)),x,e,s1,rfl,hx,rfl,hR⟩
    ·have ha:=SH (en:=en) hT h2;rw[af h2];refine ab ((ha m2).mono ?_);clear ha;rintro r H' m3 bI ⟨l3,rfl,rfl⟩;simp only[go_sem];by_cases h3:bu ts s.i [40]=true
     ·have hi:=bC h3;have e4:ba ts en s [40]=s.next:=ah h3;have ha:=nc (en:=en) hT h3;have hb:=Pw (en:=en) hT hI (by rw[e4];exact hE s.next (hI.next hi) (Nat.lt_succ_self _));clear hA hE hK;rw[ah h3];refine ab ((ha m3).mono ?_);clear ha;rintro r H' m4 cT ⟨l4,rfl,rfl⟩;simp only[go_sem];refine ab ((hb m4).mono ?_);clear hb;rintro r H' m5 cO ⟨l5,x,e,s1,rfl,hx,rfl,hR⟩;simp only[go_sem];exact⟨aa (.inr aN) (aa l2 (aa l3 (aa l4 l5))),x,e,s1,rfl,hx,rfl,hR⟩
     ·have ha:=nd (en:=en) hT h3;clear hA hE;rw[af h3];refine ab ((ha m3).mono ?_);clear ha;rintro r H' m4 cT ⟨l4,rfl,rfl⟩;simp only[go_sem];refine ab ((hK m4).mono ?_);clear hK;rintro r H' m5 cO ⟨l5,x,e,s1,rfl,hx,rfl,hR⟩;simp only[go_sem];exact⟨aa (.inr aN) (aa l2 (aa l3 (aa l4 l5))),x,e,s1,rfl,hx,rfl,hR⟩
end
attribute [go_sem] Ym kT Nd.svs
section
variable {ts:List Tk} {en:Int} {s:PSt}
theorem Xi (hT:TsB ts) (hI:Inv ts s) (hA:∀s1,Inv ts s1->s.i<s1.i->wa ts en s1) (hE:∀s1,Inv ts s1->s.i<s1.i->oI ts en 0 s1) (x:Nd) (e:Ex) (m:Mem) (hx:bJ m e x.cs):
  FnH Tryz.prog 149 [.box 0 0,.agg x.svs] (pH ts en s) m (gN ts en s (sX e (ts.drop s.i)) m):=by
 refine aR aB Tryz.func149 ?_
 ·simp only[go_sem];refine Qx aB 2 (fun y:PSt×Nd×Ex×Mem=>⟨[⟨0,[],.box 0 0⟩,⟨3,[],.box 2 0⟩,⟨4,[],.box 3 0⟩],[],[AA 3,⟨2,33,y.2.1.svs⟩,mK en y.1],[kF ts],40,y.2.2.2⟩)
   (fun y=>ae m y.2.2.2/\Inv ts y.1/\s.i<=y.1.i/\bJ y.2.2.2 y.2.2.1 y.2.1.cs/\∀a s',Res ts en y.1 (sX y.2.2.1 (ts.drop y.1.i)) a s' ->Res ts en s (sX e (ts.drop s.i)) a s')
   (fun y=>ts.length - y.1.i) (by kernel_rfl) (fun _ _=>dv rfl) (fun y hy=>hy.1) (fun _=> ?_) ?_ ?_
  ·simp only[go_sem]
  ·simp only[go_sem];exact⟨(s,x,e,m),⟨⟨⟨rfl,rfl,rfl,rfl,rfl,rfl,rfl,rfl⟩,⟨rfl,rfl,rfl⟩⟩,.inl rfl⟩,.inl rfl,hI,au _,hx,fun a s' h=>h⟩
  ·rintro⟨s4,x4,e4,m4⟩ ⟨q1,q2,q3,q4,q5⟩;dsimp only at q1 q2 q3 q4 q5;have hl:=hT.len;have dG:=q2.le;by_cases h46:bu ts s4.i [46]=true
   ·have ha:=dO (en:=en) hT h46;have hi:=bC h46;have gd:=q2.next hi;have h5:=qY ts en s4.next;simp only[go_sem];refine ab ((ha m4).mono ?_);clear ha;rintro r H' m5 cO ⟨l5,rfl,rfl⟩;simp only[go_sem];refine ab ((h5 m5 hT gd).mono ?_);clear h5;rintro r H' m6 eo ⟨l6,w,s6,rfl,hw,rfl,hR6⟩;have tE:=hR6.mono;have so:s4.next.i=s4.i+1:=rfl;by_cases h40:bu ts s6.i [40]=true
    ·have ha:=nc (en:=en) hT h40;have hb:=hA s6 hR6.inv (by omega);clear hA hE;simp only[go_sem];refine ab ((ha m6).mono ?_);clear ha;rintro r H' m7 ft ⟨l7,rfl,rfl⟩;simp only[go_sem];refine bO (.hoist 0 (.hoist 1 (.hoist 3 (.alt 2 [3,0] (.alt 4 [0] (.alt 5 [0] (.hoist 6 (.alt 7 [] .done .stop)) .stop) .stop) (.alt 4 [1,0] (.alt 2 [0] (.alt 5 [0] (.hoist 6 (.alt 7 [] .done .stop)) .stop) .stop) .stop))))) aB (by kernel_rfl) (by kernel_rfl) ?_;simp only[go_sem];refine⟨ab ((hb m7).mono ?_),ab ((hb m7).mono ?_)⟩
     ·clear hb;rintro r H' m8 ix ⟨l8,es,a,cp,xs,s8,rfl,ha1,ha2,ha3,ha4,rfl,hR8⟩;simp only[go_sem];refine⟨l8,⟨xs,ha3,IW ha3.1 ha4,j5 (by omega) (by decide),l8,fun a9 c9 m9 w1 w2 w3=> ?_⟩⟩;have oV:1+es.length=(e4::es).length:=by rw[aL,Nat.add_comm]
      rw[oV] at w2 w3 ⊢;have kJ:=hR8.mono;refine⟨(s8,⟨10,0,w,[],ai,a9,(e4::es).length,c9⟩,.mk 10 0 w [] ai (e4::es),m9),⟨⟨⟨rfl,rfl,rfl,rfl,rfl,rfl,rfl,rfl⟩,⟨rfl,rfl,rfl⟩⟩,.inl rfl⟩,⟨aa q1 (aa l5 (aa l6 (aa l7 (aa l8 (.inr w1))))),hR8.inv,by dsimp only;omega,lk ⟨by decide,by decide⟩ ⟨by decide,by decide⟩ hw (aG _) gi (by rw[aL];omega) w2 w3 (OD (bw (aa l5 (aa l6 (aa l7 (aa l8 (.inr w1))))) q4) (BI (.inr w1) ha4)),fun a s' h=>q5 a s' ?_⟩,by dsimp only;omega⟩;rw[Bs,ah (by rw[<- aw];exact h46),<- b7];exact ct q2 hi (aX hR6 (by rw[ah (by rw[<- aw];exact h40)];exact aX hR8 h))
     ·clear hb;rintro r H' m8 ix ⟨l8,es,a,cp,xs,s8,rfl,ha1,ha2,ha3,ha4,rfl,hR8⟩;simp only[go_sem];refine⟨⟨l8,l8⟩,l8,⟨xs,ha3,IW ha3.1 ha4,j5 (by omega) (by decide),l8,fun a9 c9 m9 w1 w2 w3=> ?_⟩⟩;have oV:1+es.length=(e4::es).length:=by rw[aL,Nat.add_comm]
      rw[oV] at w2 w3 ⊢;have kJ:=hR8.mono;refine⟨(s8,⟨10,0,w,[],ai,a9,(e4::es).length,c9⟩,.mk 10 0 w [] ai (e4::es),m9),⟨⟨⟨rfl,rfl,rfl,rfl,rfl,rfl,rfl,rfl⟩,⟨rfl,rfl,rfl⟩⟩,.inl rfl⟩,⟨aa q1 (aa l5 (aa l6 (aa l7 (aa l8 (.inr w1))))),hR8.inv,by dsimp only;omega,lk ⟨by decide,by decide⟩ ⟨by decide,by decide⟩ hw (aG _) gi (by rw[aL];omega) w2 w3 (OD (bw (aa l5 (aa l6 (aa l7 (aa l8 (.inr w1))))) q4) (BI (.inr w1) ha4)),fun a s' h=>q5 a s' ?_⟩,by dsimp only;omega⟩;rw[Bs,ah (by rw[<- aw];exact h46),<- b7];exact ct q2 hi (aX hR6 (by rw[ah (by rw[<- aw];exact h40)];exact aX hR8 h))
    ·have ha:=nd (en:=en) hT h40;clear hA hE;simp only[go_sem];refine ab ((ha m6).mono ?_);clear ha;rintro r H' m7 ft ⟨l7,rfl,rfl⟩;simp only[go_sem];intro a c m8 w1 w2 w3;refine⟨(s6,⟨7,0,w,[],ai,a,1,c⟩,.mk 7 0 w [] ai [e4],m8),⟨⟨⟨rfl,rfl,rfl,rfl,rfl,rfl,rfl,rfl⟩,⟨rfl,rfl,rfl⟩⟩,.inl rfl⟩,⟨aa q1 (aa l5 (aa l6 (aa l7 (.inr w1)))),hR6.inv,by dsimp only;omega,lk (es:=[e4]) ⟨by decide,by decide⟩ ⟨by decide,by decide⟩ hw (aG _) gi (by simp) w2 w3 (qw (bw (aa l5 (aa l6 (aa l7 (.inr w1)))) q4)),fun a s' h=>q5 a s' ?_⟩,by dsimp only;omega⟩;rw[Bs,ah (by rw[<- aw];exact h46),<- b7];exact ct q2 hi (aX hR6 (by rw[af (by rw[<- aw];exact h40)];exact h))
   ·have ha:=dP (en:=en) hT h46;clear hA;simp only[go_sem];refine ab ((ha m4).mono ?_);clear ha;rintro r H' m5 cO ⟨l5,rfl,rfl⟩;simp only[go_sem];by_cases h91:bu ts s4.i [91]=true
    ·have ha:=dO (en:=en) hT h91;have hi:=bC h91;have gd:=q2.next hi;have hb:∀m' :Mem,FnH Tryz.prog 31 [.box 0 0,.v (.int .i64 0)] (pH ts en s4.next) m' (gN ts en s4.next (dZ 0 (ts.drop s4.next.i)) m'):=hE s4.next gd (Nat.lt_succ_of_le q3);clear hE;refine ab ((ha m5).mono ?_);clear ha;rintro r H' m6 eo ⟨l6,rfl,rfl⟩;simp only[go_sem];refine ab ((hb m6).mono ?_);clear hb;rintro r H' m7 ft ⟨l7,x7,e7,s7,rfl,hx7,rfl,hR7⟩;have CQ:=hR7.mono;have so:s4.next.i=s4.i+1:=rfl;have he:=fun m' =>fu ts en s7 [93] m' hT.l8
     have ajZ:s7.i<=(ba ts en s7 [93]).i:=gQ hR7.inv;simp only[go_sem];refine ab ((he m7).mono ?_);clear he;rintro r H' m8 ix ⟨l8,rfl,rfl⟩;simp only[go_sem];intro a c m9 w1 w2 w3;refine⟨(ba ts en s7 [93],⟨9,0,[],[],ai,a,2,c⟩,.mk 9 0 [] [] ai [e4,e7],m9),⟨⟨⟨rfl,rfl,rfl,rfl,rfl,rfl,rfl,rfl⟩,⟨rfl,rfl,rfl⟩⟩,.inl rfl⟩,⟨aa q1 (aa l5 (aa l6 (aa l7 (aa l8 (.inr w1))))),fA hR7.inv,by dsimp only;omega,lk (es:=[e4,e7]) ⟨by decide,by decide⟩ ⟨by decide,by decide⟩ (aG _) (aG _) gi (by simp) w2 w3 (Ug (bw (aa l5 (aa l6 (aa l7 (aa l8 (.inr w1))))) q4) (bw (aa l8 (.inr w1)) hx7)),fun a s' h=>q5 a s' ?_⟩,by dsimp only;omega⟩;rw[Bs,af (by rw[<- aw];exact h46),ah (by rw[<- aw];exact h91),<- b7];exact ct q2 hi (aX hR7 (dX hR7.inv h))
    ·have ha:=dP (en:=en) hT h91;clear hE;refine ab ((ha m5).mono ?_);clear ha;rintro r H' m6 eo ⟨l6,rfl,rfl⟩;simp only[go_sem];refine⟨aa q1 (aa l5 l6),x4,e4,s4,rfl,bw (aa l5 l6) q4,rfl,q5 _ _ ?_⟩;rw[Bs,af (by rw[<- aw];exact h46),af (by rw[<- aw];exact h91)];exact cJ _ q2
end
section
variable {ts:List Tk} {en:Int} {s:PSt}
def TP (ts:List Tk) (en:Int) (s:PSt):Prop:=∀(x:Nd) (e:Ex) (m:Mem),bJ m e x.cs->FnH Tryz.prog 149 [.box 0 0,.agg x.svs] (pH ts en s) m (gN ts en s (sX e (ts.drop s.i)) m)
def TQ (ts:List Tk) (en:Int) (s:PSt):Prop:=∀m:Mem,FnH Tryz.prog 150 [.box 0 0] (pH ts en s) m (gN ts en s (xg (ts.drop s.i)) m)
theorem Zr (hT:TsB ts) (hI:Inv ts s) (hU:∀s1,Inv ts s1->s.i<s1.i->AQ ts en s1) (hO:TQ ts en s) (hP:∀s1,Inv ts s1->s.i<=s1.i->TP ts en s1):AQ ts en s:=fun m=>by
 refine ph (aR aB Tryz.func61 ?_)
 ·simp only[go_sem];refine du aB (fun y:Nat×Mem=>⟨[⟨0,[],.box 0 0⟩,⟨2,[],.box 2 0⟩,⟨5,[],.vec 3 0⟩,⟨6,[],.v (.int .i64 2)⟩,⟨7,[],.v (.int .i64 y.1)⟩],[],[AA 2,mK en s],[⟨3,0,9,1,2,[.string (bs [45]),.string (bs [33])]⟩,kF ts],40,y.2⟩)
   (fun y=>ae m y.2/\y.1<=2/\(1<=y.1->¬bu ts s.i [45]=true)/\(2<=y.1->¬bu ts s.i [33]=true))
   (fun y=>2 - y.1) (0,m) (fun _ _=>dv rfl) (fun y hy=>hy.1) ?_ ?_ ?_
  ·simp only[go_sem];exact⟨rfl,rfl⟩
  ·exact⟨.inl rfl,aG _,fun h=>absurd h (Nat.not_succ_le_zero _),fun h=>absurd h (Nat.not_succ_le_zero _)⟩
  ·rintro⟨i,m1⟩ ⟨q1,q2,q3,q4⟩;dsimp only at q1 q2 q3 q4;have hs:i=0\/i=1\/i=2:=by omega
   rcases hs with rfl |rfl |rfl
   ·by_cases hc:bu ts s.i [45]=true
    ·have ha:=dO (en:=en) hT hc;have hi:=bC hc;have fG:=hI.next hi;have hu:=hU s.next fG (Nat.lt_succ_self _);clear hU hO hP;simp only[go_sem];refine⟨fun _=>⟨⟨by decide,by decide⟩,by kernel_rfl,bo ((ha m1).mono ?_)⟩,fun h=>absurd (by decide) h⟩;clear ha;rintro r H' m2 aH ⟨l2,rfl,rfl⟩;simp only[go_sem];refine ab ((hu m2).mono ?_);clear hu;rintro r H' m3 bI ⟨l3,x,e,s1,rfl,hx,rfl,hR⟩;simp only[go_sem];exact rk 7 rfl rfl (pH ts en s1) (List.Sublist.refl _) (.cons _ (List.Sublist.refl _)) fun a cp mm w1 w2 w3=>⟨aa (aa q1 (aa l2 l3)) (.inr w1),⟨15,0,[45],[],ai,a,1,cp⟩,.mk 15 0 [45] [] ai [e],s1,rfl,lk (es:=[e]) ⟨by decide,by decide⟩ ⟨by decide,by decide⟩ (by decide) (aG _) gi (by simp) w2 w3 (qw (bw (.inr w1) hx)),rfl,by rw[HV,ah (by rw[<- aw];exact hc),<- b7];exact ct hI hi (aX hR (cJ _ hR.inv))⟩
    ·have ha:=dP (en:=en) hT hc;clear hU hO hP;simp only[go_sem];refine⟨fun _=>⟨⟨by decide,by decide⟩,by kernel_rfl,bo ((ha m1).mono ?_)⟩,fun h=>absurd (by decide) h⟩;clear ha;rintro r H' m2 aH ⟨l2,rfl,rfl⟩;simp only[go_sem];exact⟨⟨by decide,by decide⟩,(1,m2),⟨rfl,.inl rfl⟩,⟨aa q1 l2,(by decide:1<=2),fun _=>hc,fun h=>absurd h (by decide:¬2<=1)⟩,(by decide:2 - 1<2 - 0)⟩
   ·by_cases hc:bu ts s.i [33]=true
    ·have ha:=dO (en:=en) hT hc;have hi:=bC hc;have fG:=hI.next hi;have hu:=hU s.next fG (Nat.lt_succ_self _);clear hU hO hP;simp only[go_sem];refine⟨fun _=>⟨⟨by decide,by decide⟩,by kernel_rfl,bo ((ha m1).mono ?_)⟩,fun h=>absurd (by decide) h⟩;clear ha;rintro r H' m2 aH ⟨l2,rfl,rfl⟩;simp only[go_sem];refine ab ((hu m2).mono ?_);clear hu;rintro r H' m3 bI ⟨l3,x,e,s1,rfl,hx,rfl,hR⟩;simp only[go_sem];exact rk 7 rfl rfl (pH ts en s1) (List.Sublist.refl _) (.cons _ (List.Sublist.refl _)) fun a cp mm w1 w2 w3=>⟨aa (aa q1 (aa l2 l3)) (.inr w1),⟨15,0,[33],[],ai,a,1,cp⟩,.mk 15 0 [33] [] ai [e],s1,rfl,lk (es:=[e]) ⟨by decide,by decide⟩ ⟨by decide,by decide⟩ (by decide) (aG _) gi (by simp) w2 w3 (qw (bw (.inr w1) hx)),rfl,by rw[HV,af (by rw[<- aw];exact q3 (au _)),ah (by rw[<- aw];exact hc),<- b7];exact ct hI hi (aX hR (cJ _ hR.inv))⟩
    ·have ha:=dP (en:=en) hT hc;clear hU hO hP;simp only[go_sem];refine⟨fun _=>⟨⟨by decide,by decide⟩,by kernel_rfl,bo ((ha m1).mono ?_)⟩,fun h=>absurd (by decide) h⟩;clear ha;rintro r H' m2 aH ⟨l2,rfl,rfl⟩;simp only[go_sem];exact⟨⟨by decide,by decide⟩,(2,m2),⟨rfl,.inl rfl⟩,⟨aa q1 l2,(by decide:2<=2),fun _=>q3 (au _),fun h=>hc⟩,(by decide:2 - 2<2 - 1)⟩
   ·have hu:=hO;clear hU hO;simp only[go_sem];refine⟨fun h=>absurd h (by decide),fun _=>ab ((hu m1).mono ?_)⟩;clear hu;rintro r H' m2 aH ⟨l2,x,e,s1,rfl,hx,rfl,hR⟩;have hp:=fun m' h=>hP s1 hR.inv hR.mono x e m' h
    clear hP;simp only[go_sem];refine ab ((hp m2 hx).mono ?_);clear hp;rintro r H' m3 bI ⟨l3,x2,e2,s2,rfl,oT,rfl,hR2⟩;simp only[go_sem];refine .inl ⟨aa q1 (aa l2 l3),x2,e2,s2,rfl,oT,rfl,?_⟩;rw[HV,af (by rw[<- aw];exact q3 (by decide)),af (by rw[<- aw];exact q4 (by decide))];exact aX hR hR2
end
section
variable {ts:List Tk} {en:Int} {s:PSt}
theorem ajA {n:Nat} (hn:n<=9) (hT:TsB ts) (h:iU n (ts.drop s.i)=true) (m:Mem):FnH Tryz.prog 62 [.box 0 0,.v (.int .i64 n)] (pH ts en s) m fun r H' m' =>ae m m' /\r= .tup [.v (.string (bs (j3 (ts.drop s.i)))),.v (.bool true)]/\H' =pH ts en s.next:=
 (MB ts en s m n hn hT).mono fun r H' m2 _ ⟨q1,w,q2,q3,q4⟩=>⟨q1,by rw[h] at q2;rw[q2,q3 h],by rw[ah h] at q4;exact q4⟩
theorem ajB {n:Nat} (hn:n<=9) (hT:TsB ts) (h:¬iU n (ts.drop s.i)=true) (m:Mem):FnH Tryz.prog 62 [.box 0 0,.v (.int .i64 n)] (pH ts en s) m fun r H' m' =>ae m m' /\∃w,r= .tup [.v (.string (bs w)),.v (.bool false)]/\H' =pH ts en s:=
 (MB ts en s m n hn hT).mono fun r H' m2 _ ⟨q1,w,q2,q3,q4⟩=>⟨q1,w,by rw[(by simpa using h:iU n (ts.drop s.i)=false)] at q2;exact q2,by rw[af h] at q4;exact q4⟩
theorem aaF (hT:TsB ts) (hU:AQ ts en s):oI ts en 10 s:=fun m=>by
 rw[YI];refine aR aB Tryz.func31 ?_
 ·simp only[go_sem];refine⟨fun _=>ab ((hU m).mono ?_),fun h=>absurd rfl h⟩;clear hU;rintro r H' m1 aN ⟨l1,x,e,s1,rfl,hx,rfl,hR⟩;simp only[go_sem];exact⟨l1,x,e,s1,rfl,hx,rfl,hR⟩
theorem aaG (hT:TsB ts) (hI:Inv ts s) (n:Nat) (hn:n<=9) (hN:oI ts en (n+1) s) (hE:∀s1,Inv ts s1->s.i<s1.i->oI ts en (n+1) s1):oI ts en n s:=fun m=>by
 have U7:∀m' :Mem,FnH Tryz.prog 31 [.box 0 0,.v (.int .i64 ((n:Int)+1))] (pH ts en s) m' (gN ts en s (dZ (n+1) (ts.drop s.i)) m'):=hN;clear hN;refine aR aB Tryz.func31 ?_
 ·simp only[go_sem];refine⟨fun h=>absurd h (by omega),fun _=> ?_⟩;refine⟨by unfold aF;omega,by kernel_rfl,bo ((U7 m).mono ?_)⟩;clear U7;rintro r H' m1 aN ⟨l1,x,e,s1,rfl,hx,rfl,hR⟩;have lO:=hR.mono;simp only[go_sem];refine Qx aB 5 (fun y:PSt×Nd×Ex×Mem=>⟨[⟨0,[],.box 0 0⟩,⟨1,[],.v (.int .i64 n)⟩,⟨4,[],.box 2 0⟩,⟨5,[],.box 5 0⟩],[],[⟨5,33,y.2.1.svs⟩,mK en y.1,AA 2],[kF ts],40,y.2.2.2⟩)
   (fun y=>ae m1 y.2.2.2/\Inv ts y.1/\s.i<=y.1.i/\bJ y.2.2.2 y.2.2.1 y.2.1.cs/\∀a s',Res ts en y.1 (xN n y.2.2.1 (ts.drop y.1.i)) a s' ->Res ts en s (dZ n (ts.drop s.i)) a s')
   (fun y=>ts.length - y.1.i) (by kernel_rfl) (fun _ _=>dv rfl) (fun y hy=>hy.1) (fun _=> ?_) ?_ ?_
  ·simp only[go_sem]
  ·simp only[go_sem];exact⟨(s1,x,e,m1),⟨⟨⟨rfl,rfl,rfl,rfl,rfl,rfl,rfl,rfl⟩,⟨rfl,rfl,rfl⟩⟩,.inl rfl⟩,.inl rfl,hR.inv,lO,hx,fun a s' h=>by rw[aaI hn];exact aX hR h⟩
  ·rintro⟨s4,x4,e4,m4⟩ ⟨q1,q2,q3,q4,q5⟩;dsimp only at q1 q2 q3 q4 q5;have hl:=hT.len;have dG:=q2.le;by_cases hop:iU n (ts.drop s4.i)=true
   ·have ha:=ajA (en:=en) hn hT hop;have hi:=Sj hop;have gd:=q2.next hi;have hb:∀m' :Mem,FnH Tryz.prog 31 [.box 0 0,.v (.int .i64 ((n:Int)+1))] (pH ts en s4.next) m' (gN ts en s4.next (dZ (n+1) (ts.drop s4.next.i)) m'):=hE s4.next gd (Nat.lt_succ_of_le q3);clear hE;have hw:(j3 (ts.drop s4.i)).length<=1000000:=by rw[uA];exact hT.cs s4.i
    simp only[go_sem];refine ab ((ha m4).mono ?_);clear ha;rintro r H' m5 cO ⟨l5,rfl,rfl⟩;simp only[go_sem];refine bO (.hoist 0 (.hoist 1 (.hoist 2 (.hoist 3 (.hoist 4 (.alt 5 [1,0] (.alt 6 [0] (.hoist 7 (.alt 8 [] .done .stop)) .stop) .stop)))))) aB (by kernel_rfl) (by kernel_rfl) ?_;simp only[go_sem];refine⟨by unfold aF;omega,by kernel_rfl,bo ((hb m5).mono ?_)⟩;clear hb;rintro r H' m6 eo ⟨l6,x6,e6,s6,rfl,hx6,rfl,hR6⟩;have tE:=hR6.mono;have so:s4.next.i=s4.i+1:=rfl;simp only[go_sem];try simp only[l6,true_and,and_self]
    intro a c m7 w1 w2 w3;refine⟨(s6,⟨16,0,j3 (ts.drop s4.i),[],ai,a,2,c⟩,.mk 16 0 (j3 (ts.drop s4.i)) [] ai [e4,e6],m7),⟨⟨⟨rfl,rfl,rfl,rfl,rfl,rfl,rfl,rfl⟩,⟨rfl,rfl,rfl⟩⟩,.inl rfl⟩,⟨aa q1 (aa l5 (aa l6 (.inr w1))),hR6.inv,by dsimp only;omega,lk (es:=[e4,e6]) ⟨by decide,by decide⟩ ⟨by decide,by decide⟩ hw (aG _) gi (by simp) w2 w3 (Ug (bw (aa l5 (aa l6 (.inr w1))) q4) (bw (.inr w1) hx6)),fun a s' h=>q5 a s' ?_⟩,by dsimp only;omega⟩;rw[zm hn,ah hop,<- b7];exact ct q2 hi (aX hR6 h)
   ·have ha:=ajB (en:=en) hn hT hop;clear hE;simp only[go_sem];refine ab ((ha m4).mono ?_);clear ha;rintro r H' m5 cO ⟨l5,w5,rfl,rfl⟩;simp only[go_sem];have Gg:∀m',ae m5 m' ->(¬(n=6/\az [105,115] (ts.drop s4.i)=true))->(¬(n=6/\az [97,115] (ts.drop s4.i)=true))->gN ts en s (dZ n (ts.drop s.i)) m (.agg x4.svs) (pH ts en s4) m' :=fun m' sw h1 h2=>
     ⟨aa (aa l1 q1) (aa l5 sw),x4,e4,s4,rfl,bw (aa l5 sw) q4,rfl,q5 _ _ (by rw[zm hn,af hop,af h1,af h2];exact cJ _ q2)⟩
    refine⟨fun h6=> ?_,fun h6=>⟨fun h=>absurd h h6,fun _=>Gg m5 (.inl rfl) (fun h=>h6 (by rw[h.1];rfl)) (fun h=>h6 (by rw[h.1];rfl))⟩⟩;have G1:n=6:=by omega
    by_cases his:bu ts s4.i [105,115]=true
    ·have ha:=dO (en:=en) hT his;have hi:=bC his;have gd:=q2.next hi;have hb:=fun m' =>xe ts en s4.next m' hT gd
     clear Gg;refine ab ((ha m5).mono ?_);clear ha;rintro r H' m6 eo ⟨l6,rfl,rfl⟩;simp only[go_sem];refine bO (.hoist 0 (.hoist 2 (.alt 1 [2] (.alt 3 [] (.hoist 4 (.alt 5 [] .done .stop)) .stop) (.alt 3 [0] (.alt 1 [] (.hoist 4 (.alt 5 [] .done .stop)) .stop) .stop)))) aB (by kernel_rfl) (by kernel_rfl) ?_;simp only[go_sem];refine⟨ab ((hb m6).mono ?_),ab ((hb m6).mono ?_)⟩
     ·clear hb;rintro r H' m7 ft ⟨l7,t,s7,rfl,bL,htn,rfl,hR7⟩;have CQ:=hR7.mono;have so:s4.next.i=s4.i+1:=rfl;simp only[go_sem];try simp only[l7,true_and,and_self]
      intro a c mz w1 w2 w3;refine⟨(s7,⟨18,0,[],[],t,a,1,c⟩,.mk 18 0 [] [] t [e4],mz),⟨⟨⟨rfl,rfl,rfl,rfl,rfl,rfl,rfl,rfl⟩,⟨rfl,rfl,rfl⟩⟩,.inl rfl⟩,⟨aa q1 (aa l5 (aa l6 (aa l7 (.inr w1)))),hR7.inv,by dsimp only;omega,lk (es:=[e4]) ⟨by decide,by decide⟩ ⟨by decide,by decide⟩ (aG _) (aG _) bL (by simp) w2 w3 (qw (bw (aa l5 (aa l6 (aa l7 (.inr w1)))) q4)),fun a s' h=>q5 a s' ?_⟩,by dsimp only;omega⟩;rw[zm hn,af hop,ah ⟨G1,by rw[<- aw];exact his⟩,<- b7];exact ct q2 hi (aX hR7 h)
     ·clear hb;rintro r H' m7 ft ⟨l7,t,s7,rfl,bL,htn,rfl,hR7⟩;have CQ:=hR7.mono;have so:s4.next.i=s4.i+1:=rfl;simp only[go_sem];try simp only[l7,true_and,and_self]
      intro a c mz w1 w2 w3;refine⟨(s7,⟨18,0,[],[],t,a,1,c⟩,.mk 18 0 [] [] t [e4],mz),⟨⟨⟨rfl,rfl,rfl,rfl,rfl,rfl,rfl,rfl⟩,⟨rfl,rfl,rfl⟩⟩,.inl rfl⟩,⟨aa q1 (aa l5 (aa l6 (aa l7 (.inr w1)))),hR7.inv,by dsimp only;omega,lk (es:=[e4]) ⟨by decide,by decide⟩ ⟨by decide,by decide⟩ (aG _) (aG _) bL (by simp) w2 w3 (qw (bw (aa l5 (aa l6 (aa l7 (.inr w1)))) q4)),fun a s' h=>q5 a s' ?_⟩,by dsimp only;omega⟩;rw[zm hn,af hop,ah ⟨G1,by rw[<- aw];exact his⟩,<- b7];exact ct q2 hi (aX hR7 h)
    ·have ha:=dP (en:=en) hT his;refine ab ((ha m5).mono ?_);clear ha;rintro r H' m6 eo ⟨l6,rfl,rfl⟩;simp only[go_sem];refine⟨fun _=> ?_,fun h=>absurd h6 h⟩;by_cases has:bu ts s4.i [97,115]=true
     ·have ha:=dO (en:=en) hT has;have hi:=bC has;have gd:=q2.next hi;have hb:=fun m' =>xe ts en s4.next m' hT gd
      clear Gg;refine ab ((ha m6).mono ?_);clear ha;rintro r H' m7 ft ⟨l7,rfl,rfl⟩;simp only[go_sem];refine bO (.hoist 0 (.hoist 2 (.alt 1 [2] (.alt 3 [] (.hoist 4 (.alt 5 [] .done .stop)) .stop) (.alt 3 [0] (.alt 1 [] (.hoist 4 (.alt 5 [] .done .stop)) .stop) .stop)))) aB (by kernel_rfl) (by kernel_rfl) ?_;simp only[go_sem];refine⟨ab ((hb m7).mono ?_),ab ((hb m7).mono ?_)⟩
      ·clear hb;rintro r H' m8 ix ⟨l8,t,s7,rfl,bL,htn,rfl,hR7⟩;have CQ:=hR7.mono;have so:s4.next.i=s4.i+1:=rfl;simp only[go_sem];try simp only[l8,true_and,and_self]
       intro a c mz w1 w2 w3;refine⟨(s7,⟨17,0,[],[],t,a,1,c⟩,.mk 17 0 [] [] t [e4],mz),⟨⟨⟨rfl,rfl,rfl,rfl,rfl,rfl,rfl,rfl⟩,⟨rfl,rfl,rfl⟩⟩,.inl rfl⟩,⟨aa q1 (aa l5 (aa l6 (aa l7 (aa l8 (.inr w1))))),hR7.inv,by dsimp only;omega,lk (es:=[e4]) ⟨by decide,by decide⟩ ⟨by decide,by decide⟩ (aG _) (aG _) bL (by simp) w2 w3 (qw (bw (aa l5 (aa l6 (aa l7 (aa l8 (.inr w1))))) q4)),fun a s' h=>q5 a s' ?_⟩,by dsimp only;omega⟩;rw[zm hn,af hop,af (fun h=>his (by rw[aw];exact h.2)),ah ⟨G1,by rw[<- aw];exact has⟩,<- b7];exact ct q2 hi (aX hR7 h)
      ·clear hb;rintro r H' m8 ix ⟨l8,t,s7,rfl,bL,htn,rfl,hR7⟩;have CQ:=hR7.mono;have so:s4.next.i=s4.i+1:=rfl;simp only[go_sem];try simp only[l8,true_and,and_self]
       intro a c mz w1 w2 w3;refine⟨(s7,⟨17,0,[],[],t,a,1,c⟩,.mk 17 0 [] [] t [e4],mz),⟨⟨⟨rfl,rfl,rfl,rfl,rfl,rfl,rfl,rfl⟩,⟨rfl,rfl,rfl⟩⟩,.inl rfl⟩,⟨aa q1 (aa l5 (aa l6 (aa l7 (aa l8 (.inr w1))))),hR7.inv,by dsimp only;omega,lk (es:=[e4]) ⟨by decide,by decide⟩ ⟨by decide,by decide⟩ (aG _) (aG _) bL (by simp) w2 w3 (qw (bw (aa l5 (aa l6 (aa l7 (aa l8 (.inr w1))))) q4)),fun a s' h=>q5 a s' ?_⟩,by dsimp only;omega⟩;rw[zm hn,af hop,af (fun h=>his (by rw[aw];exact h.2)),ah ⟨G1,by rw[<- aw];exact has⟩,<- b7];exact ct q2 hi (aX hR7 h)
     ·have ha:=dP (en:=en) hT has;refine ab ((ha m6).mono ?_);clear ha;rintro r H' m7 ft ⟨l7,rfl,rfl⟩;simp only[go_sem];exact Gg m7 (aa l6 l7) (fun h=>his (by rw[aw];exact h.2)) (fun h=>has (by rw[aw];exact h.2))
end
structure EXW (ts:List Tk) (en:Int) (s:PSt):Prop where
 expr:∀n,n<=10->oI ts en n s
 un:AQ ts en s
 args:wa ts en s
 paren:Fz ts en s
theorem aeS {ts:List Tk} {en:Int} (hT:TsB ts) (L:Nat) (ih:∀s:PSt,Inv ts s->ts.length - s.i<L->EXW ts en s):∀s,Inv ts s->ts.length - s.i=L->EXW ts en s:=by
 have later:∀s:PSt,ts.length - s.i=L->∀s1,Inv ts s1->s.i<s1.i->EXW ts en s1:=fun s hL s1 h1 h2=>ih s1 h1 (by have:=h1.le;omega)
 have hx:∀s,Inv ts s->ts.length - s.i=L->AQ ts en s/\∀n,n<=10->oI ts en n s:=fun s hI hL=>by
  have lt:=later s hL;have hA:=fun s1 h1 h2=>(lt s1 h1 h2).args
  have hE:=fun s1 h1 h2=>(lt s1 h1 h2).expr 0 (by decide)
  have hK:=Xv hT hI hA (fun s1 h1 h2=>(lt s1 h1 h2).paren) hE;have hO:TQ ts en s:=Xo hT hI hA hE hK;have hP:∀s1,Inv ts s1->s.i<=s1.i->TP ts en s1:=fun s1 h1 h2 x e m hx=>
   Xi hT h1 (fun s2 g1 g2=>hA s2 g1 (Nat.lt_of_le_of_lt h2 g2)) (fun s2 g1 g2=>hE s2 g1 (Nat.lt_of_le_of_lt h2 g2)) x e m hx
  have hU:AQ ts en s:=Zr hT hI (fun s1 h1 h2=>(lt s1 h1 h2).un) hO hP;have hN:∀k n,n+k=10->oI ts en n s:=fun k=>by
   induction k with
   |zero=>
    intro n hn;obtain rfl:n=10:=by omega
    exact aaF hT hU
   |succ k ihk=>
    intro n hn;exact aaG hT hI n (by omega) (ihk (n+1) (by omega)) fun s1 h1 h2=>(lt s1 h1 h2).expr (n+1) (by omega)
  exact⟨hU,fun n hn=>hN (10 - n) n (by omega)⟩
 intro s hI hL;have he:∀s1,Inv ts s1->s.i<=s1.i->oI ts en 0 s1:=fun s1 h1 h2=>by
  rcases Nat.lt_or_ge s.i s1.i with h |h
  ·exact(later s hL s1 h1 h).expr 0 (by decide)
  ·exact(hx s1 h1 (by omega)).2 0 (by decide)
 exact⟨(hx s hI hL).2,(hx s hI hL).1,adm hT hI he,Pw hT hI (he _ (fA hI) (gQ hI))⟩
theorem Jl {ts:List Tk} {en:Int} (hT:TsB ts):∀(L:Nat) (s:PSt),Inv ts s->ts.length - s.i<L->EXW ts en s
 |0,s,_,h=>absurd h (Nat.not_lt_zero _)
 |L+1,s,hI,h=>by
  rcases Nat.lt_or_ge (ts.length - s.i) L with h1 |h1
  ·exact Jl hT L s hI h1
  ·exact aeS hT L (fun s h2 h3=>Jl hT L s h2 h3) s hI (by omega)
theorem tY {ts:List Tk} {en:Int} {s:PSt} (hT:TsB ts) (hI:Inv ts s):EXW ts en s:=Jl hT _ s hI (Nat.lt_succ_self _)
abbrev Sd.svs (x:Sd):List SV:=[.v (.int .i64 x.k),.v (.string (bs x.name)),.v (.int .i64 x.ty.dim),.v (.int .u8 x.ty.base),.v (.string (bs x.ty.name)),.v (.int .i64 x.tg.k),.v (.int .i64 x.tg.n),.v (.string (bs x.tg.s)),.v (.string (bs x.tg.c)),.v (.int .i64 x.tg.ty.dim),.v (.int .u8 x.tg.ty.base),.v (.string (bs x.tg.ty.name)),.v (.slice x.tg.a x.tg.l x.tg.cp),.v (.int .i64 x.ex.k),.v (.int .i64 x.ex.n),.v (.string (bs x.ex.s)),.v (.string (bs x.ex.c)),.v (.int .i64 x.ex.ty.dim),.v (.int .u8 x.ex.ty.base),.v (.string (bs x.ex.ty.name)),.v (.slice x.ex.a x.ex.l x.ex.cp),.v (.slice x.a x.l x.cp),.v (.slice x.b x.l2 x.cp2)]
attribute [go_sem] Sd.svs
abbrev rL (ts:List Tk) (en:Int) (s:PSt) (K:PR St) (m:Mem):SV->Hp->Mem->Prop:=fun r H' m' =>ae m m' /\∃(x:Sd) (e:St) (s' :PSt),r= .agg x.svs/\fK m' e x.cs/\H' =pH ts en s' /\Res ts en s K e s'
abbrev akZ (ts:List Tk) (en:Int) (s:PSt) (K:PR (List St)) (m:Mem):SV->Hp->Mem->Prop:=fun r H' m' =>ae m m' /\∃(es:List St) (a:Option Addr) (c:Nat) (xs:List Value) (s' :PSt),r= .v (.slice a es.length c)/\es.length<=c/\(es.length+s.i<=s'.i+(if s'.fl=true then 1 else 0)/\es.length<=1000001)/\aZ m' a es.length 23 xs/\bZ m' es xs/\H' =pH ts en s' /\Res ts en s K es s'
def CG (ts:List Tk) (en:Int) (s:PSt):Prop:=∀m:Mem,FnH Tryz.prog 38 [.box 0 0] (pH ts en s) m (rL ts en s (zW (ts.drop s.i)) m)
def qg (ts:List Tk) (en:Int) (s:PSt):Prop:=∀m:Mem,FnH Tryz.prog 128 [.box 0 0] (pH ts en s) m (akZ ts en s (kO (ts.drop s.i)) m)
theorem pw {m:Mem} {k:Int} {nm:List UInt8} {ty:Ty} {tx ex:Nd} {tg e:Ex} {body alt:List St} {a b:Option Addr} {cp cp2:Nat} {xs ys:List Value} (hk:aF k) (hn:nm.length<=1000000) (ht:nY ty)
  (h1:bJ m tg tx.cs) (h2:bJ m e ex.cs) (hl:body.length<=1000001) (hc:body.length<=cp) (hr:aZ m a body.length 23 xs) (hs:bZ m body xs)
  (ck:alt.length<=1000001) (ku:alt.length<=cp2) (lC:aZ m b alt.length 23 ys) (tM:bZ m alt ys):
  fK m (.mk k nm ty tg e body alt) (Sd.cs ⟨k,nm,ty,tx,ex,a,body.length,cp,b,alt.length,cp2⟩):=by
 simp only[fK];exact⟨⟨k,nm,ty,tx,ex,a,body.length,cp,b,alt.length,cp2⟩,⟨rfl,rfl,rfl,rfl⟩,h1,h2,⟨rfl,hc,rfl,ku⟩,⟨hk,by unfold av;omega,ht,by unfold av;omega,by unfold av;omega⟩,xs,ys,hr,lC,hs,tM⟩
theorem iQ (m:Mem) (xs:List Value):bZ m [] xs:=by simp only[bZ]
theorem air {m:Mem} {e:St} {x:Sd} (h:fK m e x.cs):bZ m [e] x.cs:=by
 simp only[bZ,and_true];exact h
theorem Iz {m:Mem} {e:St} {x:Sd} (hx:fK m e x.cs):∀{es:List St} {xs:List Value},xs.length=es.length * 23->bZ m es xs->bZ m (es++[e]) (xs++x.cs)
 |[],xs,hl,_=>by
  have:xs=[]:=List.eq_nil_of_length_eq_zero (by simpa using hl);subst this;exact air hx
 |y::r,xs,hl,h=>by
  simp only[bZ,dW] at h ⊢;simp only[aL] at hl;have h8:23<=xs.length:=by omega
  rw[List.take_append_of_le_length h8,List.drop_append_of_le_length h8];exact⟨h.1,Iz hx (by rw[dI];omega) h.2⟩
theorem sP {m m' :Mem} {es:List St} {xs:List Value} (hle:ae m m') (h:bZ m es xs):bZ m' es xs:=by
 rcases hle with rfl |hle
 ·exact h
 ·exact Ba hle es xs h
section
variable {ts:List Tk} {en:Int} {s:PSt}
theorem BU {α:Type} {K:PR α} (a:α) (hI:Inv ts s) (h:s.fl=true):Res ts en s K a s:=
 ⟨hI,au _,fun _=>rfl,fun e=>(by rw[h] at e;cases e),fun e=>(by rw[h] at e;cases e)⟩
theorem mS {α:Type} {K:PR α} {a:α} {s' :PSt} (h:Res ts en s K a s') (hf:s.fl=false) (hK:∀x r,K= .ok (x,r)->r.length<(ts.drop s.i).length):s'.fl=true\/s.i<s'.i:=by
 cases e:K with
 |error r=>exact .inl (h.er hf r e).1
 |ok p=>
  obtain⟨x,r⟩:=p;obtain⟨_,_,rfl⟩:=h.ok hf x r e;have:=hK x _ e;simp only[dI] at this;exact .inr (by omega)
theorem vZ {w:List UInt8} (hT:TsB ts) (h:bu ts s.i w=true) (m:Mem):FnH Tryz.prog 52 [.box 0 0,.v (.string (bs w))] (pH ts en s) m fun r H' m' =>ae m m' /\r= .tup []/\H' =pH ts en s.next:=
 (fu ts en s w m hT.l8).mono fun r H' m2 _ q=>⟨q.1,q.2.1,by have:=q.2.2;rw[ba,ah h] at this;exact this⟩
theorem QG (l:List Tk):∀x r,zW l= .ok (x,r)->r.length<l.length:=fun x r h=>((vH l).stmt.good.ok x r h).2 rfl
theorem aa3 (hT:TsB ts) (hI:Inv ts s) (hS:∀s1,Inv ts s1->s.i<s1.i->CG ts en s1):qg ts en s:=fun m=>by
 have h1:=fu ts en s [123] m hT.l8;have tW:Inv ts (ba ts en s [123]):=fA hI;have lO:s.i<=(ba ts en s [123]).i:=gQ hI;refine ph (aR aB Tryz.func128 ?_)
 ·simp only[go_sem];refine ab (h1.mono ?_);clear h1;rintro r H' m1 aN ⟨l1,rfl,rfl⟩;simp only[go_sem];refine zr 3 73 23 (by decide) rfl ?_;refine du aB (fun y:PSt×List St×List Value×Nat×Mem=>⟨[⟨0,[],.box 0 0⟩,⟨3,[],.vec 4 y.2.2.2.1⟩],[],[mK en y.1],[⟨4,y.2.2.2.1,73,23,y.2.1.length,y.2.2.1⟩,kF ts],40,y.2.2.2.2⟩)
   (fun y=>ae m1 y.2.2.2.2/\Inv ts y.1/\(y.1.fl=false->s.i<y.1.i)/\(y.2.1.length+s.i<=y.1.i+(if y.1.fl=true then 1 else 0))/\y.2.2.1.length=y.2.1.length * 23/\bZ y.2.2.2.2 y.2.1 y.2.2.1/\∀a s',Res ts en y.1 (BS y.2.1 (ts.drop y.1.i)) a s' ->Res ts en s (kO (ts.drop s.i)) a s')
   (fun y=>if y.1.fl=true then 0 else ts.length - y.1.i+1) (ba ts en s [123],[],[],0,m1) (fun _ _=>dv rfl) (fun y hy=>hy.1) ?_ ?_ ?_
  ·simp only[go_sem]
  ·refine⟨.inl rfl,tW,fun h=> ?_,by dsimp only[bh];omega,rfl,iQ _ _,fun a s' h=> ?_⟩
   ·dsimp only at h ⊢;unfold ba at h ⊢;split at h
    ·rename_i h';rw[ah h'];exact Nat.lt_succ_self _
    ·rw[Bv] at h;cases h
   ·rw[YS];exact dX hI h
  ·rintro⟨s4,es,xs,u,m4⟩ ⟨q1,q2,q3,q4,q5,q6,q7⟩;dsimp only at q1 q2 q3 q4 q5 q6 q7;have hl:=hT.len;have dG:=q2.le;by_cases hf:s4.fl=true
   ·clear hS;have q4' :=q4;rw[ah hf] at q4;simp only[go_sem];refine⟨fun h=>(by rw[hf] at h;cases h),fun _=>BC (b:=⟨4,u,73,23,es.length,xs⟩) (by simp [eU]) (pH ts en s4) (List.Sublist.refl _) (.cons _ (List.Sublist.refl _)) fun a c mm w1 w2 w3=>⟨aa (aa l1 q1) (.inr w1),es,a,c,xs,s4,rfl,w2,⟨q4',by omega⟩,w3,sP (.inr w1) q6,rfl,q7 _ _ (BU es q2 hf)⟩⟩
   ·have qI:s4.fl=false:=by simpa using hf
    have ay:=q3 qI;by_cases h1:bu ts s4.i [125]=true
    ·have ha:=dO (en:=en) hT h1;have hi:=bC h1;have gd:=q2.next hi;clear hS;rw[af hf] at q4;simp only[go_sem];refine⟨fun _=>ab ((ha m4).mono ?_),fun h=>by rw[qI] at h;cases h⟩;clear ha;rintro r H' m5 cO ⟨l5,rfl,rfl⟩;simp only[go_sem];refine BC (b:=⟨4,u,73,23,es.length,xs⟩) (by simp [eU]) (pH ts en s4.next) (List.Sublist.refl _) (.cons_cons _ (List.nil_sublist _)) fun a c mm w1 w2 w3=>⟨aa (aa l1 q1) (aa l5 (.inr w1)),es,a,c,xs,s4.next,rfl,w2,⟨by have hn:s4.next.i=s4.i+1:=rfl;omega,by omega⟩,w3,sP (aa l5 (.inr w1)) q6,rfl,q7 _ _ ?_⟩
     rw[NV,ah (by rw[<- aw];exact h1),<- b7];exact ct q2 hi (cJ _ gd)
    ·have ha:=dP (en:=en) hT h1;have hb:=hS s4 q2 ay;clear hS;rw[af hf] at q4;simp only[go_sem];refine⟨fun _=>ab ((ha m4).mono ?_),fun h=>by rw[qI] at h;cases h⟩;clear ha;rintro r H' m5 cO ⟨l5,rfl,rfl⟩;simp only[go_sem];refine ab ((hb m5).mono ?_);clear hb;rintro r H' m6 eo ⟨l6,x6,e6,s6,rfl,hx6,rfl,hR6⟩;have tE:=hR6.mono;have fS:=mS hR6 qI (QG _);have yD:=hR6.inv.le;simp only[go_sem];refine⟨j5 (by omega) (by decide),(s6,es++[e6],xs++x6.cs,u+1,m6),⟨rfl,⟨rfl,rfl,rfl⟩,⟨rfl,by simp,rfl⟩,.inl rfl⟩,⟨aa q1 (aa l5 l6),hR6.inv,fun h=>by dsimp only;omega,?_,by simp only[aI,iB,q5,Sd.cs,aL,bh];omega,Iz hx6 q5 (sP (aa l5 l6) q6),fun a s' h=>q7 a s' ?_⟩,?_⟩
     ·dsimp only;rw[aI,iB];rcases fS with h |h
      ·rw[ah h];omega
      ·omega
     ·rw[NV,af (by rw[<- aw];exact h1)];exact aX hR6 h
     ·dsimp only;rw[af hf];rcases fS with h |h
      ·rw[ah h];omega
      ·split<;>omega
end
noncomputable def ifK (l:List Tk):PR St:=an (ot l) fun e r=>an (kO r) fun b r2=>if az pD r2=true then an (kO r2.tail) fun a r3=> .ok (.mk 4 [] ai zE e b a,r3) else .ok (.mk 4 [] ai zE e b [],r2)
noncomputable def S0 (k:Int) (l:List Tk):PR St:=an (ot l) fun e r=>an (kO r) fun b r2=> .ok (.mk k [] ai zE e b [],r2)
noncomputable def Kx (l:List Tk):PR St:=if az [59] l=true then .ok (.mk 6 [] ai zE zE [] [],l.tail) else an (dZ 0 l) fun e r=>aV [59] r fun r2=> .ok (.mk 6 [] ai zE e [] [],r2)
noncomputable def adM (l:List Tk):PR St:=an (dZ 0 l) fun e r=>aV [59] r fun r2=> .ok (.mk 7 [] ai zE e [] [],r2)
noncomputable def ah9 (l:List Tk):PR St:=an (kO l) fun b r=>aV na r fun r2=>aV [40] r2 fun r3=>an (eV r3) fun t r4=>an (cY r4) fun s r5=>aV [41] r5 fun r6=>an (kO r6) fun a r7=> .ok (.mk 8 s t zE zE b a,r7)
noncomputable def agd (l:List Tk):PR St:=an (kO l) fun b r=> .ok (.mk 10 [] ai zE zE b [],r)
noncomputable def ahg (l:List Tk):PR St:=an (oH l) fun es r=>aV [59] r fun r2=> .ok (.mk 11 [] ai zE (.mk 0 0 [] [] ai es) [] [],r2)
noncomputable def aha (l:List Tk):PR St:=an (eV l) fun t r=>an (cY r) fun s r2=>aV [61] r2 fun r3=>an (dZ 0 r3) fun e r4=>aV [59] r4 fun r5=> .ok (.mk 1 s t zE e [] [],r5)
noncomputable def afs (l:List Tk):PR St:=an (dZ 0 l) fun e r=>
 if az [61] r=true then an (dZ 0 r.tail) fun x r2=>aV [59] r2 fun r3=> .ok (.mk 2 [] ai e x [] [],r3)
 else aV [59] r fun r2=> .ok (.mk 3 [] ai zE e [] [],r2)
section
variable {ts:List Tk} {en:Int} {s:PSt}
theorem agm (hT:TsB ts) (hI:Inv ts s) (lf:bu ts s.i sd=true) (hB:∀s1,Inv ts s1->s.i<s1.i->qg ts en s1) (m:Mem):FnH Tryz.prog 75 [.box 0 0] (pH ts en s) m (rL ts en s.next (ifK (ts.drop (s.next).i)) m):=by
 have hi:=bC lf;have fG:=hI.next hi;have hn:s.next.i=s.i+1:=rfl;refine aR aB Tryz.func75 ?_
 ·simp only[go_sem];have q1:=fun m' =>vZ (en:=en) hT lf m'
  refine ab ((q1 m).mono ?_);clear q1;rintro r H' m1 aN ⟨l1,rfl,rfl⟩;simp only[go_sem];have q2:=fun m' =>(tY (en:=en) hT fG).paren m'
  refine ab ((q2 m1).mono ?_);clear q2;rintro r H' m2 aH ⟨l2,x2,e2,s2,rfl,oT,rfl,hR2⟩;simp only[go_sem];have aY:=hR2.mono;have q3:=hB s2 hR2.inv (by omega);refine ab ((q3 m2).mono ?_);clear q3;rintro r H' m3 bI ⟨l3,bs3,a3,c3,xs3,s3,rfl,ha3,hb3,qM,wT,rfl,hR3⟩;simp only[go_sem];have lx:=hR3.mono;by_cases qL:bu ts (s3).i pD=true
  ·have q5:=fun m' =>dO (en:=en) hT qL m'
   refine ab ((q5 m3).mono ?_);clear q5;rintro r H' m4 cT ⟨l4,rfl,rfl⟩;simp only[go_sem];have gd:=hR3.inv.next (bC qL);have CR:(s3).next.i=(s3).i+1:=rfl;have q6:=hB (s3).next gd (by omega);refine ab ((q6 m4).mono ?_);clear q6;rintro r H' m5 cO ⟨l5,bs6,a6,c6,xs6,s6,rfl,ha6,hb6,U4,hd6,rfl,hR6⟩;simp only[go_sem];have tE:=hR6.mono;exact⟨(aa l1 (aa l2 (aa l3 (aa l4 l5)))),⟨4,[],ai,bk,x2,a3,bs3.length,c3,a6,bs6.length,c6⟩,.mk 4 [] ai zE e2 bs3 bs6,s6,rfl,pw ⟨by decide,by decide⟩ (aG _) gi iC (bw (aa l3 (aa l4 l5)) oT) hb3.2 ha3 (ax (aa l4 l5) qM) (sP (aa l4 l5) wT) hb6.2 ha6 U4 hd6,rfl,(aX hR2 (aX hR3 (by rw[ah (by rw[<- aw];exact qL),<- b7];exact ct hR3.inv (bC qL) (aX hR6 (cJ _ hR6.inv)))))⟩
  ·have q5:=fun m' =>dP (en:=en) hT qL m'
   refine ab ((q5 m3).mono ?_);clear q5;rintro r H' m4 cT ⟨l4,rfl,rfl⟩;simp only[go_sem];exact⟨(aa l1 (aa l2 (aa l3 l4))),⟨4,[],ai,bk,x2,a3,bs3.length,c3,none,0,0⟩,.mk 4 [] ai zE e2 bs3 [],s3,rfl,pw ⟨by decide,by decide⟩ (aG _) gi iC (bw (aa l3 l4) oT) hb3.2 ha3 (ax l4 qM) (sP l4 wT) (aG _) (au _) (fH _ _) (iQ _ _),rfl,(aX hR2 (aX hR3 (by rw[af (by rw[<- aw];exact qL)];exact(cJ _ hR3.inv))))⟩
theorem Y7 (hT:TsB ts) (hI:Inv ts s) (lf:bu ts s.i uB=true) (hB:∀s1,Inv ts s1->s.i<s1.i->qg ts en s1) (m:Mem):FnH Tryz.prog 76 [.box 0 0] (pH ts en s) m (rL ts en s.next (S0 5 (ts.drop (s.next).i)) m):=by
 have hi:=bC lf;have fG:=hI.next hi;have hn:s.next.i=s.i+1:=rfl;refine aR aB Tryz.func76 ?_
 ·simp only[go_sem];have q1:=fun m' =>vZ (en:=en) hT lf m'
  refine ab ((q1 m).mono ?_);clear q1;rintro r H' m1 aN ⟨l1,rfl,rfl⟩;simp only[go_sem];have q2:=fun m' =>(tY (en:=en) hT fG).paren m'
  refine ab ((q2 m1).mono ?_);clear q2;rintro r H' m2 aH ⟨l2,x2,e2,s2,rfl,oT,rfl,hR2⟩;simp only[go_sem];have aY:=hR2.mono;have q3:=hB s2 hR2.inv (by omega);refine ab ((q3 m2).mono ?_);clear q3;rintro r H' m3 bI ⟨l3,bs3,a3,c3,xs3,s3,rfl,ha3,hb3,qM,wT,rfl,hR3⟩;simp only[go_sem];have lx:=hR3.mono;exact⟨(aa l1 (aa l2 l3)),⟨5,[],ai,bk,x2,a3,bs3.length,c3,none,0,0⟩,.mk 5 [] ai zE e2 bs3 [],s3,rfl,pw ⟨by decide,by decide⟩ (aG _) gi iC (bw l3 oT) hb3.2 ha3 qM wT (aG _) (au _) (fH _ _) (iQ _ _),rfl,(aX hR2 (aX hR3 (cJ _ hR3.inv)))⟩
theorem abz (hT:TsB ts) (hI:Inv ts s) (lf:bu ts s.i uJ=true) (hB:∀s1,Inv ts s1->s.i<s1.i->qg ts en s1) (m:Mem):FnH Tryz.prog 80 [.box 0 0] (pH ts en s) m (rL ts en s.next (S0 9 (ts.drop (s.next).i)) m):=by
 have hi:=bC lf;have fG:=hI.next hi;have hn:s.next.i=s.i+1:=rfl;refine aR aB Tryz.func80 ?_
 ·simp only[go_sem];have q1:=fun m' =>vZ (en:=en) hT lf m'
  refine ab ((q1 m).mono ?_);clear q1;rintro r H' m1 aN ⟨l1,rfl,rfl⟩;simp only[go_sem];have q2:=fun m' =>(tY (en:=en) hT fG).paren m'
  refine ab ((q2 m1).mono ?_);clear q2;rintro r H' m2 aH ⟨l2,x2,e2,s2,rfl,oT,rfl,hR2⟩;simp only[go_sem];have aY:=hR2.mono;have q3:=hB s2 hR2.inv (by omega);refine ab ((q3 m2).mono ?_);clear q3;rintro r H' m3 bI ⟨l3,bs3,a3,c3,xs3,s3,rfl,ha3,hb3,qM,wT,rfl,hR3⟩;simp only[go_sem];have lx:=hR3.mono;exact⟨(aa l1 (aa l2 l3)),⟨9,[],ai,bk,x2,a3,bs3.length,c3,none,0,0⟩,.mk 9 [] ai zE e2 bs3 [],s3,rfl,pw ⟨by decide,by decide⟩ (aG _) gi iC (bw l3 oT) hb3.2 ha3 qM wT (aG _) (au _) (fH _ _) (iQ _ _),rfl,(aX hR2 (aX hR3 (cJ _ hR3.inv)))⟩
theorem adS (hT:TsB ts) (hI:Inv ts s) (lf:bu ts s.i tj=true) (m:Mem):FnH Tryz.prog 77 [.box 0 0] (pH ts en s) m (rL ts en s.next (Kx (ts.drop (s.next).i)) m):=by
 have hi:=bC lf;have fG:=hI.next hi;have hn:s.next.i=s.i+1:=rfl;refine aR aB Tryz.func77 ?_
 ·simp only[go_sem];have q1:=fun m' =>vZ (en:=en) hT lf m'
  refine ab ((q1 m).mono ?_);clear q1;rintro r H' m1 aN ⟨l1,rfl,rfl⟩;simp only[go_sem];by_cases ku:bu ts (s.next).i [59]=true
  ·have q3:=fun m' =>nc (en:=en) hT ku m'
   refine ab ((q3 m1).mono ?_);clear q3;rintro r H' m2 aH ⟨l2,rfl,rfl⟩;simp only[go_sem];have q4:=fun m' =>vZ (en:=en) hT ku m'
   refine ab ((q4 m2).mono ?_);clear q4;rintro r H' m3 bI ⟨l3,rfl,rfl⟩;simp only[go_sem];exact⟨(aa l1 (aa l2 l3)),⟨6,[],ai,bk,bk,none,0,0,none,0,0⟩,.mk 6 [] ai zE zE [] [],(s.next).next,rfl,pw ⟨by decide,by decide⟩ (aG _) gi iC iC (aG _) (au _) (fH _ _) (iQ _ _) (aG _) (au _) (fH _ _) (iQ _ _),rfl,(by rw[Kx,ah (by rw[<- aw];exact ku),<- b7];exact ct fG (bC ku) (cJ _ (fG.next (bC ku))))⟩
  ·have q3:=fun m' =>nd (en:=en) hT ku m'
   refine ab ((q3 m1).mono ?_);clear q3;rintro r H' m2 aH ⟨l2,rfl,rfl⟩;simp only[go_sem];have q4:=fun m' =>(show ∀m' :Mem,FnH Tryz.prog 31 [.box 0 0,.v (.int .i64 0)] (pH ts en s.next) m' (gN ts en s.next (dZ 0 (ts.drop (s.next).i)) m') from(tY hT fG).expr 0 (by decide)) m'
   refine ab ((q4 m2).mono ?_);clear q4;rintro r H' m3 bI ⟨l3,x4,e4,s4,rfl,hx4,rfl,hR4⟩;simp only[go_sem];have Ga:=hR4.mono;have q5:=fun m' =>fu ts en s4 [59] m' hT.l8
   have gd:Inv ts (ba ts en s4 [59]):=fA hR4.inv;have CR:(s4).i<=(ba ts en s4 [59]).i:=gQ hR4.inv;refine ab ((q5 m3).mono ?_);clear q5;rintro r H' m4 cT ⟨l4,rfl,rfl⟩;simp only[go_sem];exact⟨(aa l1 (aa l2 (aa l3 l4))),⟨6,[],ai,bk,x4,none,0,0,none,0,0⟩,.mk 6 [] ai zE e4 [] [],(ba ts en s4 [59]),rfl,pw ⟨by decide,by decide⟩ (aG _) gi iC (bw l4 hx4) (aG _) (au _) (fH _ _) (iQ _ _) (aG _) (au _) (fH _ _) (iQ _ _),rfl,(by rw[Kx,af (by rw[<- aw];exact ku)];exact(aX hR4 (dX hR4.inv (cJ _ gd))))⟩
theorem Zw (hT:TsB ts) (hI:Inv ts s) (lf:bu ts s.i uC=true) (m:Mem):FnH Tryz.prog 78 [.box 0 0] (pH ts en s) m (rL ts en s.next (adM (ts.drop (s.next).i)) m):=by
 have hi:=bC lf;have fG:=hI.next hi;have hn:s.next.i=s.i+1:=rfl;refine aR aB Tryz.func78 ?_
 ·simp only[go_sem];have q1:=fun m' =>vZ (en:=en) hT lf m'
  refine ab ((q1 m).mono ?_);clear q1;rintro r H' m1 aN ⟨l1,rfl,rfl⟩;simp only[go_sem];have q2:=fun m' =>(show ∀m' :Mem,FnH Tryz.prog 31 [.box 0 0,.v (.int .i64 0)] (pH ts en s.next) m' (gN ts en s.next (dZ 0 (ts.drop (s.next).i)) m') from(tY hT fG).expr 0 (by decide)) m'
  refine ab ((q2 m1).mono ?_);clear q2;rintro r H' m2 aH ⟨l2,x2,e2,s2,rfl,oT,rfl,hR2⟩;simp only[go_sem];have aY:=hR2.mono;have q3:=fun m' =>fu ts en s2 [59] m' hT.l8
  have oc:Inv ts (ba ts en s2 [59]):=fA hR2.inv;have lx:(s2).i<=(ba ts en s2 [59]).i:=gQ hR2.inv;refine ab ((q3 m2).mono ?_);clear q3;rintro r H' m3 bI ⟨l3,rfl,rfl⟩;simp only[go_sem];exact⟨(aa l1 (aa l2 l3)),⟨7,[],ai,bk,x2,none,0,0,none,0,0⟩,.mk 7 [] ai zE e2 [] [],(ba ts en s2 [59]),rfl,pw ⟨by decide,by decide⟩ (aG _) gi iC (bw l3 oT) (aG _) (au _) (fH _ _) (iQ _ _) (aG _) (au _) (fH _ _) (iQ _ _),rfl,(aX hR2 (dX hR2.inv (cJ _ oc)))⟩
theorem adG (hT:TsB ts) (hI:Inv ts s) (lf:bu ts s.i uO=true) (hB:∀s1,Inv ts s1->s.i<s1.i->qg ts en s1) (m:Mem):FnH Tryz.prog 79 [.box 0 0] (pH ts en s) m (rL ts en s.next (ah9 (ts.drop (s.next).i)) m):=by
 have hi:=bC lf;have fG:=hI.next hi;have hn:s.next.i=s.i+1:=rfl;refine aR aB Tryz.func79 ?_
 ·simp only[go_sem];have q1:=fun m' =>vZ (en:=en) hT lf m'
  refine ab ((q1 m).mono ?_);clear q1;rintro r H' m1 aN ⟨l1,rfl,rfl⟩;simp only[go_sem];have q2:=hB s.next fG (by omega);refine ab ((q2 m1).mono ?_);clear q2;rintro r H' m2 aH ⟨l2,bs2,a2,c2,xs2,s2,rfl,ha2,Dt,ku,qK,rfl,hR2⟩;simp only[go_sem];have aY:=hR2.mono;have q3:=fun m' =>fu ts en s2 na m' hT.l8
  have oc:Inv ts (ba ts en s2 na):=fA hR2.inv;have lx:(s2).i<=(ba ts en s2 na).i:=gQ hR2.inv;refine ab ((q3 m2).mono ?_);clear q3;rintro r H' m3 bI ⟨l3,rfl,rfl⟩;simp only[go_sem];have q4:=fun m' =>fu ts en (ba ts en s2 na) [40] m' hT.l8
  have Dv:Inv ts (ba ts en (ba ts en s2 na) [40]):=fA oc;have Ga:((ba ts en s2 na)).i<=(ba ts en (ba ts en s2 na) [40]).i:=gQ oc;refine ab ((q4 m3).mono ?_);clear q4;rintro r H' m4 cT ⟨l4,rfl,rfl⟩;simp only[go_sem];have q5:=fun m' =>xe ts en (ba ts en (ba ts en s2 na) [40]) m' hT Dv
  refine ab ((q5 m4).mono ?_);clear q5;rintro r H' m5 cO ⟨l5,t5,s5,rfl,ht5,hu5,rfl,hR5⟩;simp only[go_sem];have CR:=hR5.mono;have q6:=fun m' =>qY ts en s5 m' hT hR5.inv
  refine ab ((q6 m5).mono ?_);clear q6;rintro r H' m6 eo ⟨l6,w6,s6,rfl,qF,rfl,hR6⟩;simp only[go_sem];have tE:=hR6.mono;have q7:=fun m' =>fu ts en s6 [41] m' hT.l8
  have hI7:Inv ts (ba ts en s6 [41]):=fA hR6.inv;have CQ:(s6).i<=(ba ts en s6 [41]).i:=gQ hR6.inv;refine ab ((q7 m6).mono ?_);clear q7;rintro r H' m7 ft ⟨l7,rfl,rfl⟩;simp only[go_sem];have q8:=hB (ba ts en s6 [41]) hI7 (by omega);refine ab ((q8 m7).mono ?_);clear q8;rintro r H' m8 ix ⟨l8,bs8,a8,c8,xs8,s8,rfl,ha8,hb8,GN,hd8,rfl,hR8⟩;simp only[go_sem];have ajZ:=hR8.mono;exact⟨(aa l1 (aa l2 (aa l3 (aa l4 (aa l5 (aa l6 (aa l7 l8))))))),⟨8,w6,t5,bk,bk,a2,bs2.length,c2,a8,bs8.length,c8⟩,.mk 8 w6 t5 zE zE bs2 bs8,s8,rfl,pw ⟨by decide,by decide⟩ qF ht5 iC iC Dt.2 ha2 (ax (aa l3 (aa l4 (aa l5 (aa l6 (aa l7 l8))))) ku) (sP (aa l3 (aa l4 (aa l5 (aa l6 (aa l7 l8))))) qK) hb8.2 ha8 GN hd8,rfl,(aX hR2 (dX hR2.inv (dX oc (aX hR5 (aX hR6 (dX hR6.inv (aX hR8 (cJ _ hR8.inv))))))))⟩
theorem ab6 (hT:TsB ts) (hI:Inv ts s) (jM:qg ts en s) (m:Mem):FnH Tryz.prog 81 [.box 0 0] (pH ts en s) m (rL ts en s (agd (ts.drop (s).i)) m):=by
 refine aR aB Tryz.func81 ?_
 ·simp only[go_sem];have q1:=jM;refine ab ((q1 m).mono ?_);clear q1;rintro r H' m1 aN ⟨l1,bs1,a1,c1,xs1,s1,rfl,ha1,oa,Dr,hd1,rfl,eg⟩;simp only[go_sem];have lO:=eg.mono;exact⟨l1,⟨10,[],ai,bk,bk,a1,bs1.length,c1,none,0,0⟩,.mk 10 [] ai zE zE bs1 [],s1,rfl,pw ⟨by decide,by decide⟩ (aG _) gi iC iC oa.2 ha1 Dr hd1 (aG _) (au _) (fH _ _) (iQ _ _),rfl,(aX eg (cJ _ eg.inv))⟩
theorem adj (hT:TsB ts) (hI:Inv ts s) (lf:bu ts s.i rn=true) (m:Mem):FnH Tryz.prog 83 [.box 0 0] (pH ts en s) m (rL ts en s.next (ahg (ts.drop (s.next).i)) m):=by
 have hi:=bC lf;have fG:=hI.next hi;have hn:s.next.i=s.i+1:=rfl;refine aR aB Tryz.func83 ?_
 ·simp only[go_sem];have q1:=fun m' =>vZ (en:=en) hT lf m'
  refine ab ((q1 m).mono ?_);clear q1;rintro r H' m1 aN ⟨l1,rfl,rfl⟩;simp only[go_sem];have q2:=fun m' =>(tY (en:=en) hT fG).args m'
  refine ab ((q2 m1).mono ?_);clear q2;rintro r H' m2 aH ⟨l2,es2,a2,c2,xs2,s2,rfl,ha2,Dt,ku,qK,rfl,hR2⟩;simp only[go_sem];have aY:=hR2.mono;have q3:=fun m' =>fu ts en s2 [59] m' hT.l8
  have oc:Inv ts (ba ts en s2 [59]):=fA hR2.inv;have lx:(s2).i<=(ba ts en s2 [59]).i:=gQ hR2.inv;refine ab ((q3 m2).mono ?_);clear q3;rintro r H' m3 bI ⟨l3,rfl,rfl⟩;simp only[go_sem];exact⟨(aa l1 (aa l2 l3)),⟨11,[],ai,bk,⟨0,0,[],[],ai,a2,es2.length,c2⟩,none,0,0,none,0,0⟩,.mk 11 [] ai zE (.mk 0 0 [] [] ai es2) [] [],(ba ts en s2 [59]),rfl,pw ⟨by decide,by decide⟩ (aG _) gi iC (lk ⟨by decide,by decide⟩ ⟨by decide,by decide⟩ (aG _) (aG _) gi (Nat.le_succ_of_le Dt) ha2 (ax l3 ku) (BI l3 qK)) (aG _) (au _) (fH _ _) (iQ _ _) (aG _) (au _) (fH _ _) (iQ _ _),rfl,(aX hR2 (dX hR2.inv (cJ _ oc)))⟩
theorem RP (hT:TsB ts) (hI:Inv ts s) (m:Mem):FnH Tryz.prog 85 [.box 0 0] (pH ts en s) m (rL ts en s (aha (ts.drop (s).i)) m):=by
 refine aR aB Tryz.func85 ?_
 ·simp only[go_sem];have q1:=fun m' =>xe ts en s m' hT hI
  refine ab ((q1 m).mono ?_);clear q1;rintro r H' m1 aN ⟨l1,t1,s1,rfl,ht1,hu1,rfl,eg⟩;simp only[go_sem];have lO:=eg.mono;have q2:=fun m' =>qY ts en s1 m' hT eg.inv
  refine ab ((q2 m1).mono ?_);clear q2;rintro r H' m2 aH ⟨l2,w2,s2,rfl,tK,rfl,hR2⟩;simp only[go_sem];have aY:=hR2.mono;have q3:=fun m' =>fu ts en s2 [61] m' hT.l8
  have oc:Inv ts (ba ts en s2 [61]):=fA hR2.inv;have lx:(s2).i<=(ba ts en s2 [61]).i:=gQ hR2.inv;refine ab ((q3 m2).mono ?_);clear q3;rintro r H' m3 bI ⟨l3,rfl,rfl⟩;simp only[go_sem];have q4:=fun m' =>(show ∀m' :Mem,FnH Tryz.prog 31 [.box 0 0,.v (.int .i64 0)] (pH ts en (ba ts en s2 [61])) m' (gN ts en (ba ts en s2 [61]) (dZ 0 (ts.drop ((ba ts en s2 [61])).i)) m') from(tY hT oc).expr 0 (by decide)) m'
  refine ab ((q4 m3).mono ?_);clear q4;rintro r H' m4 cT ⟨l4,x4,e4,s4,rfl,hx4,rfl,hR4⟩;simp only[go_sem];have Ga:=hR4.mono;have q5:=fun m' =>fu ts en s4 [59] m' hT.l8
  have gd:Inv ts (ba ts en s4 [59]):=fA hR4.inv;have CR:(s4).i<=(ba ts en s4 [59]).i:=gQ hR4.inv;refine ab ((q5 m4).mono ?_);clear q5;rintro r H' m5 cO ⟨l5,rfl,rfl⟩;simp only[go_sem];exact⟨(aa l1 (aa l2 (aa l3 (aa l4 l5)))),⟨1,w2,t1,bk,x4,none,0,0,none,0,0⟩,.mk 1 w2 t1 zE e4 [] [],(ba ts en s4 [59]),rfl,pw ⟨by decide,by decide⟩ tK ht1 iC (bw l5 hx4) (aG _) (au _) (fH _ _) (iQ _ _) (aG _) (au _) (fH _ _) (iQ _ _),rfl,(aX eg (aX hR2 (dX hR2.inv (aX hR4 (dX hR4.inv (cJ _ gd))))))⟩
theorem QI (hT:TsB ts) (hI:Inv ts s) (m:Mem):FnH Tryz.prog 73 [.box 0 0] (pH ts en s) m (rL ts en s (afs (ts.drop (s).i)) m):=by
 refine aR aB Tryz.func73 ?_
 ·simp only[go_sem];have q1:=fun m' =>(show ∀m' :Mem,FnH Tryz.prog 31 [.box 0 0,.v (.int .i64 0)] (pH ts en s) m' (gN ts en s (dZ 0 (ts.drop (s).i)) m') from(tY hT hI).expr 0 (by decide)) m'
  refine ab ((q1 m).mono ?_);clear q1;rintro r H' m1 aN ⟨l1,x1,e1,s1,rfl,lT,rfl,eg⟩;simp only[go_sem];have lO:=eg.mono;by_cases ku:bu ts (s1).i [61]=true
  ·have q3:=fun m' =>dO (en:=en) hT ku m'
   refine ab ((q3 m1).mono ?_);clear q3;rintro r H' m2 aH ⟨l2,rfl,rfl⟩;simp only[go_sem];have oc:=eg.inv.next (bC ku);have lx:(s1).next.i=(s1).i+1:=rfl;refine bO (.hoist 0 (.hoist 1 (.hoist 2 (.alt 3 [1,0] (.hoist 4 (.alt 5 [] .done .stop)) .stop)))) aB (by kernel_rfl) (by kernel_rfl) ?_;simp only[go_sem];have q4:=fun m' =>(show ∀m' :Mem,FnH Tryz.prog 31 [.box 0 0,.v (.int .i64 0)] (pH ts en (s1).next) m' (gN ts en (s1).next (dZ 0 (ts.drop ((s1).next).i)) m') from(tY hT oc).expr 0 (by decide)) m'
   refine ab ((q4 m2).mono ?_);clear q4;rintro r H' m3 bI ⟨l3,x4,e4,s4,rfl,hx4,rfl,hR4⟩;simp only[go_sem];have Ga:=hR4.mono;try simp only[l3,true_and,and_self]
   have q5:=fun m' =>fu ts en s4 [59] m' hT.l8
   have gd:Inv ts (ba ts en s4 [59]):=fA hR4.inv;have CR:(s4).i<=(ba ts en s4 [59]).i:=gQ hR4.inv;refine ab ((q5 m3).mono ?_);clear q5;rintro r H' m4 cT ⟨l4,rfl,rfl⟩;simp only[go_sem];exact⟨(aa l1 (aa l2 (aa l3 l4))),⟨2,[],ai,x1,x4,none,0,0,none,0,0⟩,.mk 2 [] ai e1 e4 [] [],(ba ts en s4 [59]),rfl,pw ⟨by decide,by decide⟩ (aG _) gi (bw (aa l2 (aa l3 l4)) lT) (bw l4 hx4) (aG _) (au _) (fH _ _) (iQ _ _) (aG _) (au _) (fH _ _) (iQ _ _),rfl,(aX eg (by rw[ah (by rw[<- aw];exact ku),<- b7];exact ct eg.inv (bC ku) (aX hR4 (dX hR4.inv (cJ _ gd)))))⟩
  ·have q3:=fun m' =>dP (en:=en) hT ku m'
   refine ab ((q3 m1).mono ?_);clear q3;rintro r H' m2 aH ⟨l2,rfl,rfl⟩;simp only[go_sem];have q4:=fun m' =>fu ts en s1 [59] m' hT.l8
   have Dv:Inv ts (ba ts en s1 [59]):=fA eg.inv;have Ga:(s1).i<=(ba ts en s1 [59]).i:=gQ eg.inv;refine ab ((q4 m2).mono ?_);clear q4;rintro r H' m3 bI ⟨l3,rfl,rfl⟩;simp only[go_sem];exact⟨(aa l1 (aa l2 l3)),⟨3,[],ai,bk,x1,none,0,0,none,0,0⟩,.mk 3 [] ai zE e1 [] [],(ba ts en s1 [59]),rfl,pw ⟨by decide,by decide⟩ (aG _) gi iC (bw (aa l2 l3) lT) (aG _) (au _) (fH _ _) (iQ _ _) (aG _) (au _) (fH _ _) (iQ _ _),rfl,(aX eg (by rw[af (by rw[<- aw];exact ku)];exact(dX eg.inv (cJ _ Dv))))⟩
end
section
variable {ts:List Tk} {en:Int} {s:PSt}
theorem DS (hT:TsB ts) (hI:Inv ts s) (w:List UInt8) (m:Mem):FnH Tryz.prog 82 [.box 0 0,.v (.string (bs w))] (pH ts en s) m fun r H' m' =>ae m m' /\r= .v (.bool (az w (ts.drop s.i).tail))/\H' =pH ts en s:=by
 have hp:=fun m' =>EC ts en s.next w m' hT.l8
 have hl:=hT.len;have dG:=hI.le;have e:bu ts s.next.i w=az w (ts.drop s.i).tail:=by rw[aw,b7]
 rw[e] at hp;refine aR aB Tryz.func82 ?_
 ·simp only[go_sem];refine⟨by unfold aF;omega,?_⟩;refine ab ((hp m).mono ?_);clear hp;rintro r H' m1 aN ⟨l1,rfl,rfl⟩;simp only[go_sem];exact l1
theorem XI (hT:TsB ts) (hI:Inv ts s) (b:Bool) (hb:lq (ts.drop s.i)=b) (m:Mem):FnH Tryz.prog 84 [.box 0 0] (pH ts en s) m fun r H' m' =>ae m m' /\r= .v (.bool b)/\H' =pH ts en s:=by
 refine aR aB Tryz.func84 ?_
 ·simp only[go_sem];by_cases h1:bu ts s.i iH=true
  ·have ha:=nc (en:=en) hT h1;have hf:=fun m' =>DS (en:=en) hT hI [40] m'
   have e:lq (ts.drop s.i)= !az [40] (ts.drop s.i).tail:=by rw[lq,ah];rw[<- aw,h1];rfl
   refine ab ((ha m).mono ?_);clear ha;rintro r H' m1 aN ⟨l1,rfl,rfl⟩;simp only[go_sem];refine ab ((hf m1).mono ?_);clear hf;rintro r H' m2 aH ⟨l2,rfl,rfl⟩;simp only[go_sem];exact⟨aa l1 l2,by rw[<- hb,e]⟩
  ·have ha:=nd (en:=en) hT h1;refine ab ((ha m).mono ?_);clear ha;rintro r H' m1 aN ⟨l1,rfl,rfl⟩;simp only[go_sem];by_cases h2:bu ts s.i iE=true
   ·have ha:=nc (en:=en) hT h2;have hf:=fun m' =>DS (en:=en) hT hI [40] m'
    have e:lq (ts.drop s.i)= !az [40] (ts.drop s.i).tail:=by rw[lq,ah];rw[<- aw,<- aw,h2,Bool.or_true]
    refine ab ((ha m1).mono ?_);clear ha;rintro r H' m2 aH ⟨l2,rfl,rfl⟩;simp only[go_sem];refine ab ((hf m2).mono ?_);clear hf;rintro r H' m3 bI ⟨l3,rfl,rfl⟩;simp only[go_sem];exact⟨aa l1 (aa l2 l3),by rw[<- hb,e]⟩
   ·have ha:=nd (en:=en) hT h2;have e:lq (ts.drop s.i)=(gj (ts.drop s.i)&& !az [46] (ts.drop s.i).tail):=by rw[lq,af];rw[<- aw,<- aw,Bool.or_eq_true];rintro(h |h);exact h1 h;exact h2 h
    refine ab ((ha m1).mono ?_);clear ha;rintro r H' m2 aH ⟨l2,rfl,rfl⟩;simp only[go_sem];by_cases h3:gj (ts.drop s.i)=true
    ·have ha:=SG (en:=en) hT h3;have hf:=fun m' =>DS (en:=en) hT hI [46] m'
     refine ab ((ha m2).mono ?_);clear ha;rintro r H' m3 bI ⟨l3,rfl,rfl⟩;simp only[go_sem];refine ab ((hf m3).mono ?_);clear hf;rintro r H' m4 cT ⟨l4,rfl,rfl⟩;simp only[go_sem];exact⟨aa l1 (aa l2 (aa l3 l4)),by rw[<- hb,e,h3];rfl⟩
    ·have ha:=SH (en:=en) hT h3;refine ab ((ha m2).mono ?_);clear ha;rintro r H' m3 bI ⟨l3,rfl,rfl⟩;simp only[go_sem];exact⟨aa l1 (aa l2 l3),by rw[<- hb,e,(by simpa using h3:gj (ts.drop s.i)=false)];rfl⟩
theorem MD (hT:TsB ts) (hI:Inv ts s) (m:Mem):FnH Tryz.prog 84 [.box 0 0] (pH ts en s) m fun r H' m' =>ae m m' /\r= .v (.bool (lq (ts.drop s.i)))/\H' =pH ts en s:=XI hT hI _ rfl m
theorem abB (hT:TsB ts) (hI:Inv ts s) (jM:qg ts en s) (hB:∀s1,Inv ts s1->s.i<s1.i->qg ts en s1):CG ts en s:=fun m=>by
 refine aR aB Tryz.func38 ?_
 ·simp only[go_sem];by_cases h0:bu ts s.i sd=true
  ·have ha:=nc (en:=en) hT h0;have hb:=agm (en:=en) hT hI h0 hB;clear hB jM;refine ab ((ha m).mono ?_);clear ha;rintro r H' m1 aN ⟨l1,rfl,rfl⟩;simp only[go_sem];refine ab ((hb m1).mono ?_);clear hb;rintro r H' m2 aH ⟨l2,x,e,s1,rfl,hx,rfl,hR⟩;simp only[go_sem];exact⟨(aa l1 l2),x,e,s1,rfl,hx,rfl,by rw[p7,ah (by rw[<- aw];exact h0),<- b7];exact ct hI (bC h0) hR⟩
  ·have ha:=nd (en:=en) hT h0;refine ab ((ha m).mono ?_);clear ha;rintro r H' m1 aN ⟨l1,rfl,rfl⟩;simp only[go_sem];by_cases h1:bu ts s.i uB=true
   ·have ha:=nc (en:=en) hT h1;have hb:=Y7 (en:=en) hT hI h1 hB;clear hB jM;refine ab ((ha m1).mono ?_);clear ha;rintro r H' m2 aH ⟨l2,rfl,rfl⟩;simp only[go_sem];refine ab ((hb m2).mono ?_);clear hb;rintro r H' m3 bI ⟨l3,x,e,s1,rfl,hx,rfl,hR⟩;simp only[go_sem];exact⟨(aa l1 (aa l2 l3)),x,e,s1,rfl,hx,rfl,by rw[p7,af (by rw[<- aw];exact h0),ah (by rw[<- aw];exact h1),<- b7];exact ct hI (bC h1) hR⟩
   ·have ha:=nd (en:=en) hT h1;refine ab ((ha m1).mono ?_);clear ha;rintro r H' m2 aH ⟨l2,rfl,rfl⟩;simp only[go_sem];by_cases h2:bu ts s.i tj=true
    ·have ha:=nc (en:=en) hT h2;have hb:=adS (en:=en) hT hI h2;clear hB jM;refine ab ((ha m2).mono ?_);clear ha;rintro r H' m3 bI ⟨l3,rfl,rfl⟩;simp only[go_sem];refine ab ((hb m3).mono ?_);clear hb;rintro r H' m4 cT ⟨l4,x,e,s1,rfl,hx,rfl,hR⟩;simp only[go_sem];exact⟨(aa l1 (aa l2 (aa l3 l4))),x,e,s1,rfl,hx,rfl,by rw[p7,af (by rw[<- aw];exact h0),af (by rw[<- aw];exact h1),ah (by rw[<- aw];exact h2),<- b7];exact ct hI (bC h2) hR⟩
    ·have ha:=nd (en:=en) hT h2;refine ab ((ha m2).mono ?_);clear ha;rintro r H' m3 bI ⟨l3,rfl,rfl⟩;simp only[go_sem];by_cases h3:bu ts s.i uC=true
     ·have ha:=nc (en:=en) hT h3;have hb:=Zw (en:=en) hT hI h3;clear hB jM;refine ab ((ha m3).mono ?_);clear ha;rintro r H' m4 cT ⟨l4,rfl,rfl⟩;simp only[go_sem];refine ab ((hb m4).mono ?_);clear hb;rintro r H' m5 cO ⟨l5,x,e,s1,rfl,hx,rfl,hR⟩;simp only[go_sem];exact⟨(aa l1 (aa l2 (aa l3 (aa l4 l5)))),x,e,s1,rfl,hx,rfl,by rw[p7,af (by rw[<- aw];exact h0),af (by rw[<- aw];exact h1),af (by rw[<- aw];exact h2),ah (by rw[<- aw];exact h3),<- b7];exact ct hI (bC h3) hR⟩
     ·have ha:=nd (en:=en) hT h3;refine ab ((ha m3).mono ?_);clear ha;rintro r H' m4 cT ⟨l4,rfl,rfl⟩;simp only[go_sem];by_cases h4:bu ts s.i uO=true
      ·have ha:=nc (en:=en) hT h4;have hb:=adG (en:=en) hT hI h4 hB;clear hB jM;refine ab ((ha m4).mono ?_);clear ha;rintro r H' m5 cO ⟨l5,rfl,rfl⟩;simp only[go_sem];refine ab ((hb m5).mono ?_);clear hb;rintro r H' m6 eo ⟨l6,x,e,s1,rfl,hx,rfl,hR⟩;simp only[go_sem];exact⟨(aa l1 (aa l2 (aa l3 (aa l4 (aa l5 l6))))),x,e,s1,rfl,hx,rfl,by rw[p7,af (by rw[<- aw];exact h0),af (by rw[<- aw];exact h1),af (by rw[<- aw];exact h2),af (by rw[<- aw];exact h3),ah (by rw[<- aw];exact h4),<- b7];exact ct hI (bC h4) hR⟩
      ·have ha:=nd (en:=en) hT h4;refine ab ((ha m4).mono ?_);clear ha;rintro r H' m5 cO ⟨l5,rfl,rfl⟩;simp only[go_sem];by_cases h5:bu ts s.i uJ=true
       ·have ha:=nc (en:=en) hT h5;have hb:=abz (en:=en) hT hI h5 hB;clear hB jM;refine ab ((ha m5).mono ?_);clear ha;rintro r H' m6 eo ⟨l6,rfl,rfl⟩;simp only[go_sem];refine ab ((hb m6).mono ?_);clear hb;rintro r H' m7 ft ⟨l7,x,e,s1,rfl,hx,rfl,hR⟩;simp only[go_sem];exact⟨(aa l1 (aa l2 (aa l3 (aa l4 (aa l5 (aa l6 l7)))))),x,e,s1,rfl,hx,rfl,by rw[p7,af (by rw[<- aw];exact h0),af (by rw[<- aw];exact h1),af (by rw[<- aw];exact h2),af (by rw[<- aw];exact h3),af (by rw[<- aw];exact h4),ah (by rw[<- aw];exact h5),<- b7];exact ct hI (bC h5) hR⟩
       ·have ha:=nd (en:=en) hT h5;refine ab ((ha m5).mono ?_);clear ha;rintro r H' m6 eo ⟨l6,rfl,rfl⟩;simp only[go_sem];by_cases h6:bu ts s.i [123]=true
        ·have ha:=nc (en:=en) hT h6;have hb:=ab6 (en:=en) hT hI jM;clear hB jM;refine ab ((ha m6).mono ?_);clear ha;rintro r H' m7 ft ⟨l7,rfl,rfl⟩;simp only[go_sem];refine ab ((hb m7).mono ?_);clear hb;rintro r H' m8 ix ⟨l8,x,e,s1,rfl,hx,rfl,hR⟩;simp only[go_sem];exact⟨(aa l1 (aa l2 (aa l3 (aa l4 (aa l5 (aa l6 (aa l7 l8))))))),x,e,s1,rfl,hx,rfl,by rw[p7,af (by rw[<- aw];exact h0),af (by rw[<- aw];exact h1),af (by rw[<- aw];exact h2),af (by rw[<- aw];exact h3),af (by rw[<- aw];exact h4),af (by rw[<- aw];exact h5),ah (by rw[<- aw];exact h6)];exact hR⟩
        ·have ha:=nd (en:=en) hT h6;refine ab ((ha m6).mono ?_);clear ha;rintro r H' m7 ft ⟨l7,rfl,rfl⟩;simp only[go_sem];by_cases h7:bu ts s.i rn=true
         ·have ha:=nc (en:=en) hT h7;have hf:=fun m' =>DS (en:=en) hT hI [40] m'
          refine ab ((ha m7).mono ?_);clear ha;rintro r H' m8 ix ⟨l8,rfl,rfl⟩;simp only[go_sem];by_cases h8:az [40] (ts.drop s.i).tail=true
          ·rw[h8] at hf;have hb:=adj (en:=en) hT hI h7;clear hB jM;refine ab ((hf m8).mono ?_);clear hf;rintro r H' m9 kJ ⟨l9,rfl,rfl⟩;simp only[go_sem];refine ab ((hb m9).mono ?_);clear hb;rintro r H' m10 rH ⟨l10,x,e,s1,rfl,hx,rfl,hR⟩;simp only[go_sem];exact⟨(aa l1 (aa l2 (aa l3 (aa l4 (aa l5 (aa l6 (aa l7 (aa l8 (aa l9 l10))))))))),x,e,s1,rfl,hx,rfl,by rw[p7,af (by rw[<- aw];exact h0),af (by rw[<- aw];exact h1),af (by rw[<- aw];exact h2),af (by rw[<- aw];exact h3),af (by rw[<- aw];exact h4),af (by rw[<- aw];exact h5),af (by rw[<- aw];exact h6),ah ⟨by rw[<- aw];exact h7,h8⟩,<- b7];exact ct hI (bC h7) hR⟩
          ·rw[(by simpa using h8:az [40] (ts.drop s.i).tail=false)] at hf;refine ab ((hf m8).mono ?_);clear hf;rintro r H' m9 kJ ⟨l9,rfl,rfl⟩;simp only[go_sem];have hd:=fun m' =>MD (en:=en) hT hI m'
           refine ab ((hd m9).mono ?_);clear hd;rintro r H' m10 rH ⟨l10,rfl,rfl⟩;simp only[go_sem];refine⟨fun h9=> ?_,fun h9=> ?_⟩
           ·have hb:=RP (en:=en) hT hI;clear hB jM;refine ab ((hb m10).mono ?_);clear hb;rintro r H' m11 Au ⟨vi,x,e,s1,rfl,hx,rfl,hR⟩;simp only[go_sem];exact⟨(aa l1 (aa l2 (aa l3 (aa l4 (aa l5 (aa l6 (aa l7 (aa l8 (aa l9 (aa l10 vi)))))))))),x,e,s1,rfl,hx,rfl,by rw[p7,af (by rw[<- aw];exact h0),af (by rw[<- aw];exact h1),af (by rw[<- aw];exact h2),af (by rw[<- aw];exact h3),af (by rw[<- aw];exact h4),af (by rw[<- aw];exact h5),af (by rw[<- aw];exact h6),af (fun q=>h8 q.2),ah h9];exact hR⟩
           ·have hb:=QI (en:=en) hT hI;clear hB jM;refine ab ((hb m10).mono ?_);clear hb;rintro r H' m11 Au ⟨vi,x,e,s1,rfl,hx,rfl,hR⟩;simp only[go_sem];exact⟨(aa l1 (aa l2 (aa l3 (aa l4 (aa l5 (aa l6 (aa l7 (aa l8 (aa l9 (aa l10 vi)))))))))),x,e,s1,rfl,hx,rfl,by rw[p7,af (by rw[<- aw];exact h0),af (by rw[<- aw];exact h1),af (by rw[<- aw];exact h2),af (by rw[<- aw];exact h3),af (by rw[<- aw];exact h4),af (by rw[<- aw];exact h5),af (by rw[<- aw];exact h6),af (fun q=>h8 q.2),af (by rw[h9];decide)];exact hR⟩
         ·have ha:=nd (en:=en) hT h7;refine ab ((ha m7).mono ?_);clear ha;rintro r H' m8 ix ⟨l8,rfl,rfl⟩;simp only[go_sem];have hd:=fun m' =>MD (en:=en) hT hI m'
          refine ab ((hd m8).mono ?_);clear hd;rintro r H' m9 kJ ⟨l9,rfl,rfl⟩;simp only[go_sem];refine⟨fun h9=> ?_,fun h9=> ?_⟩
          ·have hb:=RP (en:=en) hT hI;clear hB jM;refine ab ((hb m9).mono ?_);clear hb;rintro r H' m10 rH ⟨l10,x,e,s1,rfl,hx,rfl,hR⟩;simp only[go_sem];exact⟨(aa l1 (aa l2 (aa l3 (aa l4 (aa l5 (aa l6 (aa l7 (aa l8 (aa l9 l10))))))))),x,e,s1,rfl,hx,rfl,by rw[p7,af (by rw[<- aw];exact h0),af (by rw[<- aw];exact h1),af (by rw[<- aw];exact h2),af (by rw[<- aw];exact h3),af (by rw[<- aw];exact h4),af (by rw[<- aw];exact h5),af (by rw[<- aw];exact h6),af (fun q=>h7 (by rw[aw];exact q.1)),ah h9];exact hR⟩
          ·have hb:=QI (en:=en) hT hI;clear hB jM;refine ab ((hb m9).mono ?_);clear hb;rintro r H' m10 rH ⟨l10,x,e,s1,rfl,hx,rfl,hR⟩;simp only[go_sem];exact⟨(aa l1 (aa l2 (aa l3 (aa l4 (aa l5 (aa l6 (aa l7 (aa l8 (aa l9 l10))))))))),x,e,s1,rfl,hx,rfl,by rw[p7,af (by rw[<- aw];exact h0),af (by rw[<- aw];exact h1),af (by rw[<- aw];exact h2),af (by rw[<- aw];exact h3),af (by rw[<- aw];exact h4),af (by rw[<- aw];exact h5),af (by rw[<- aw];exact h6),af (fun q=>h7 (by rw[aw];exact q.1)),af (by rw[h9];decide)];exact hR⟩
end
theorem I6 {ts:List Tk} {en:Int} (hT:TsB ts):∀(L:Nat) (s:PSt),Inv ts s->ts.length - s.i<L->CG ts en s/\qg ts en s
 |0,s,_,h=>absurd h (Nat.not_lt_zero _)
 |L+1,s,hI,h=>by
  have later:∀s1,Inv ts s1->s.i<s1.i->CG ts en s1/\qg ts en s1:=fun s1 h1 h2=>I6 hT L s1 h1 (by have:=h1.le;omega)
  have hb:qg ts en s:=aa3 hT hI fun s1 h1 h2=>(later s1 h1 h2).1
  exact⟨abB hT hI hb fun s1 h1 h2=>(later s1 h1 h2).2,hb⟩
theorem stw {ts:List Tk} {en:Int} {s:PSt} (hT:TsB ts) (hI:Inv ts s):CG ts en s:=(I6 hT _ s hI (Nat.lt_succ_self _)).1
theorem yJ {ts:List Tk} {en:Int} {s:PSt} (hT:TsB ts) (hI:Inv ts s):qg ts en s:=(I6 hT _ s hI (Nat.lt_succ_self _)).2
theorem ajz:∀fl:Int,0<=fl->fl<1->bits .or .i64 fl 1=fl+1:=fun fl h0 h1=>by
 have h:(List.range 1).all (fun n=>decide (bits .or .i64 (n:Int) 1=(n:Int)+1))=true:=by kernel_rfl
 obtain⟨k,rfl⟩:=Int.eq_ofNat_of_zero_le h0;exact of_decide_eq_true (List.all_eq_true.1 h k (List.mem_range.2 (by omega)))
theorem ajy:∀fl:Int,0<=fl->fl<2->bits .or .i64 fl 2=fl+2:=fun fl h0 h1=>by
 have h:(List.range 2).all (fun n=>decide (bits .or .i64 (n:Int) 2=(n:Int)+2))=true:=by kernel_rfl
 obtain⟨k,rfl⟩:=Int.eq_ofNat_of_zero_le h0;exact of_decide_eq_true (List.all_eq_true.1 h k (List.mem_range.2 (by omega)))
theorem ajw:∀fl:Int,0<=fl->fl<4->bits .or .i64 fl 4=fl+4:=fun fl h0 h1=>by
 have h:(List.range 4).all (fun n=>decide (bits .or .i64 (n:Int) 4=(n:Int)+4))=true:=by kernel_rfl
 obtain⟨k,rfl⟩:=Int.eq_ofNat_of_zero_le h0;exact of_decide_eq_true (List.all_eq_true.1 h k (List.mem_range.2 (by omega)))
theorem ajv:∀fl:Int,0<=fl->fl<8->bits .or .i64 fl 8=fl+8:=fun fl h0 h1=>by
 have h:(List.range 8).all (fun n=>decide (bits .or .i64 (n:Int) 8=(n:Int)+8))=true:=by kernel_rfl
 obtain⟨k,rfl⟩:=Int.eq_ofNat_of_zero_le h0;exact of_decide_eq_true (List.all_eq_true.1 h k (List.mem_range.2 (by omega)))
theorem Th:∀fl:Int,0<=fl->fl<16->bits .or .i64 fl 16=fl+16:=fun fl h0 h1=>by
 have h:(List.range 16).all (fun n=>decide (bits .or .i64 (n:Int) 16=(n:Int)+16))=true:=by kernel_rfl
 obtain⟨k,rfl⟩:=Int.eq_ofNat_of_zero_le h0;exact of_decide_eq_true (List.all_eq_true.1 h k (List.mem_range.2 (by omega)))
theorem aga:∀fl:Int,0<=fl->fl<32->bits .or .i64 fl 32=fl+32:=fun fl h0 h1=>by
 have h:(List.range 32).all (fun n=>decide (bits .or .i64 (n:Int) 32=(n:Int)+32))=true:=by kernel_rfl
 obtain⟨k,rfl⟩:=Int.eq_ofNat_of_zero_le h0;exact of_decide_eq_true (List.all_eq_true.1 h k (List.mem_range.2 (by omega)))
theorem Jb:∀fl:Int,0<=fl->fl<64->bits .or .i64 fl 1024=fl+1024:=fun fl h0 h1=>by
 have h:(List.range 64).all (fun n=>decide (bits .or .i64 (n:Int) 1024=(n:Int)+1024))=true:=by kernel_rfl
 obtain⟨k,rfl⟩:=Int.eq_ofNat_of_zero_le h0;exact of_decide_eq_true (List.all_eq_true.1 h k (List.mem_range.2 (by omega)))
theorem aeW:iP Tryz.prog 155=some 3:=by kernel_rfl
theorem abm:fB Tryz.prog 3=some [.v (.int .i64 0)]:=by kernel_rfl
attribute [go_sem] aeW abm
theorem gf (p:Int×List UInt8) (q:List (Int×List UInt8)) (fl:Int) (l:List Tk):bM (p::q) fl l=if az p.2 l=true then bM q (fl+p.1) l.tail else bM q fl l:=rfl
structure ModR (ts:List Tk) (q:List (Int×List UInt8)) (fl0:Int) (s:PSt) (v:Int) (s' :PSt):Prop where
 inv:Inv ts s'
 mono:s.i<=s'.i
 fl:s'.fl=s.fl
 same:s.fl=true->s' =s
 val:bM q fl0 (ts.drop s.i)=(v,ts.drop s'.i)
section
variable {ts:List Tk} {en:Int} {s:PSt}
theorem VG (hT:TsB ts) (hI:Inv ts s) (m:Mem):FnH Tryz.prog 127 [.box 0 0] (pH ts en s) m fun r H' m' =>ae m m' /\∃fl s',r= .v (.int .i64 fl)/\(0<=fl/\fl<2048)/\H' =pH ts en s' /\ModR ts bH 0 s fl s' :=by
 refine aR aB Tryz.func127 ?_
 ·simp only[go_sem];refine du aB (fun y:Nat×PSt×Int×Mem=>⟨[⟨0,[],.box 0 0⟩,⟨3,[],.v (.int .i64 y.2.2.1)⟩,⟨6,[],.vec 2 0⟩,⟨7,[],.v (.int .i64 7)⟩,⟨8,[],.v (.int .i64 y.1)⟩],[],[mK en y.2.1],[⟨2,0,9,1,7,[.string (bs [112,117,98,108,105,99]),.string (bs [112,114,105,118,97,116,101]),.string (bs [112,114,111,116,101,99,116,101,100]),.string (bs [115,116,97,116,105,99]),.string (bs [102,105,110,97,108]),.string (bs [115,121,110,99]),.string (bs [97,98,115,116,114,97,99,116])]⟩,kF ts],40,y.2.2.2⟩)
   (fun y=>ae m y.2.2.2/\y.1<=7/\Inv ts y.2.1/\s.i<=y.2.1.i/\y.2.1.fl=s.fl/\(s.fl=true->y.2.1=s)/\(0<=y.2.2.1/\y.2.2.1<2048/\(y.1<=6->y.2.2.1<2 ^ y.1))/\bM (bH.drop y.1) y.2.2.1 (ts.drop y.2.1.i)=bM bH 0 (ts.drop s.i))
   (fun y=>7 - y.1) (0,s,0,m) (fun _ _=>dv rfl) (fun y hy=>hy.1) ?_ ?_ ?_
  ·simp only[go_sem];exact⟨rfl,rfl⟩
  ·exact⟨.inl rfl,aG _,hI,au _,rfl,fun _=>rfl,⟨by dsimp only;omega,by dsimp only;omega,fun _=>by dsimp only;omega⟩,rfl⟩
  ·rintro⟨i,s1,fl,m1⟩ ⟨q1,q2,q3,q4,q5,q6,⟨q7,q8,q9⟩,fk⟩;dsimp only at q1 q2 q3 q4 q5 q6 q7 q8 q9 fk;have hs:i=0\/i=1\/i=2\/i=3\/i=4\/i=5\/i=6\/i=7:=by omega
   rcases hs with rfl |rfl |rfl |rfl |rfl |rfl |rfl |rfl
   ·have la:fl<1:=q9 (by decide);have pS:=ajz fl q7 la;by_cases hc:bu ts s1.i [112,117,98,108,105,99]=true
    ·have ha:=dO (en:=en) hT hc;have hi:=bC hc;simp only[go_sem];refine⟨fun _=>⟨⟨by decide,by decide⟩,by kernel_rfl,bo ((ha m1).mono ?_)⟩,fun h=>absurd (by decide) h⟩;clear ha;rintro r H' m2 aH ⟨l2,rfl,rfl⟩;simp only[go_sem,pS];refine⟨⟨by decide,by decide⟩,⟨by decide,by decide⟩,(1,s1.next,fl+1,m2),⟨⟨rfl,rfl⟩,⟨rfl,rfl,rfl⟩,.inl rfl⟩,⟨aa q1 l2,(by decide:1<=7),q3.next hi,Nat.le_succ_of_le q4,q5,fun h=> ?_,⟨by dsimp only;omega,by dsimp only;omega,fun h=> ?_⟩,?_⟩,(by decide:7 - 1<7 - 0)⟩
     ·have h1:=q3.nfl hi;rw[q5,h] at h1;cases h1
     ·first |(exact absurd h (by decide:¬7<=6)) |(dsimp only;omega)
     ·rw[show bH.drop 0=(1,[112,117,98,108,105,99])::bH.drop 1 from rfl,gf,ah (by rw[<- aw];exact hc),<- b7] at fk;exact fk
    ·have ha:=dP (en:=en) hT hc;simp only[go_sem];refine⟨fun _=>⟨⟨by decide,by decide⟩,by kernel_rfl,bo ((ha m1).mono ?_)⟩,fun h=>absurd (by decide) h⟩;clear ha;rintro r H' m2 aH ⟨l2,rfl,rfl⟩;simp only[go_sem];refine⟨⟨by decide,by decide⟩,(1,s1,fl,m2),⟨⟨rfl,rfl⟩,⟨rfl,rfl,rfl⟩,.inl rfl⟩,⟨aa q1 l2,(by decide:1<=7),q3,q4,q5,q6,⟨q7,q8,fun h=> ?_⟩,?_⟩,(by decide:7 - 1<7 - 0)⟩
     ·first |(exact absurd h (by decide:¬7<=6)) |(dsimp only;omega)
     ·rw[show bH.drop 0=(1,[112,117,98,108,105,99])::bH.drop 1 from rfl,gf,af (by rw[<- aw];exact hc)] at fk;exact fk
   ·have la:fl<2:=q9 (by decide);have pS:=ajy fl q7 la;by_cases hc:bu ts s1.i [112,114,105,118,97,116,101]=true
    ·have ha:=dO (en:=en) hT hc;have hi:=bC hc;simp only[go_sem];refine⟨fun _=>⟨⟨by decide,by decide⟩,by kernel_rfl,bo ((ha m1).mono ?_)⟩,fun h=>absurd (by decide) h⟩;clear ha;rintro r H' m2 aH ⟨l2,rfl,rfl⟩;simp only[go_sem,pS];refine⟨⟨by decide,by decide⟩,⟨by decide,by decide⟩,(2,s1.next,fl+2,m2),⟨⟨rfl,rfl⟩,⟨rfl,rfl,rfl⟩,.inl rfl⟩,⟨aa q1 l2,(by decide:2<=7),q3.next hi,Nat.le_succ_of_le q4,q5,fun h=> ?_,⟨by dsimp only;omega,by dsimp only;omega,fun h=> ?_⟩,?_⟩,(by decide:7 - 2<7 - 1)⟩
     ·have h1:=q3.nfl hi;rw[q5,h] at h1;cases h1
     ·first |(exact absurd h (by decide:¬7<=6)) |(dsimp only;omega)
     ·rw[show bH.drop 1=(2,[112,114,105,118,97,116,101])::bH.drop 2 from rfl,gf,ah (by rw[<- aw];exact hc),<- b7] at fk;exact fk
    ·have ha:=dP (en:=en) hT hc;simp only[go_sem];refine⟨fun _=>⟨⟨by decide,by decide⟩,by kernel_rfl,bo ((ha m1).mono ?_)⟩,fun h=>absurd (by decide) h⟩;clear ha;rintro r H' m2 aH ⟨l2,rfl,rfl⟩;simp only[go_sem];refine⟨⟨by decide,by decide⟩,(2,s1,fl,m2),⟨⟨rfl,rfl⟩,⟨rfl,rfl,rfl⟩,.inl rfl⟩,⟨aa q1 l2,(by decide:2<=7),q3,q4,q5,q6,⟨q7,q8,fun h=> ?_⟩,?_⟩,(by decide:7 - 2<7 - 1)⟩
     ·first |(exact absurd h (by decide:¬7<=6)) |(dsimp only;omega)
     ·rw[show bH.drop 1=(2,[112,114,105,118,97,116,101])::bH.drop 2 from rfl,gf,af (by rw[<- aw];exact hc)] at fk;exact fk
   ·have la:fl<4:=q9 (by decide);have pS:=ajw fl q7 la;by_cases hc:bu ts s1.i [112,114,111,116,101,99,116,101,100]=true
    ·have ha:=dO (en:=en) hT hc;have hi:=bC hc;simp only[go_sem];refine⟨fun _=>⟨⟨by decide,by decide⟩,by kernel_rfl,bo ((ha m1).mono ?_)⟩,fun h=>absurd (by decide) h⟩;clear ha;rintro r H' m2 aH ⟨l2,rfl,rfl⟩;simp only[go_sem,pS];refine⟨⟨by decide,by decide⟩,⟨by decide,by decide⟩,(3,s1.next,fl+4,m2),⟨⟨rfl,rfl⟩,⟨rfl,rfl,rfl⟩,.inl rfl⟩,⟨aa q1 l2,(by decide:3<=7),q3.next hi,Nat.le_succ_of_le q4,q5,fun h=> ?_,⟨by dsimp only;omega,by dsimp only;omega,fun h=> ?_⟩,?_⟩,(by decide:7 - 3<7 - 2)⟩
     ·have h1:=q3.nfl hi;rw[q5,h] at h1;cases h1
     ·first |(exact absurd h (by decide:¬7<=6)) |(dsimp only;omega)
     ·rw[show bH.drop 2=(4,[112,114,111,116,101,99,116,101,100])::bH.drop 3 from rfl,gf,ah (by rw[<- aw];exact hc),<- b7] at fk;exact fk
    ·have ha:=dP (en:=en) hT hc;simp only[go_sem];refine⟨fun _=>⟨⟨by decide,by decide⟩,by kernel_rfl,bo ((ha m1).mono ?_)⟩,fun h=>absurd (by decide) h⟩;clear ha;rintro r H' m2 aH ⟨l2,rfl,rfl⟩;simp only[go_sem];refine⟨⟨by decide,by decide⟩,(3,s1,fl,m2),⟨⟨rfl,rfl⟩,⟨rfl,rfl,rfl⟩,.inl rfl⟩,⟨aa q1 l2,(by decide:3<=7),q3,q4,q5,q6,⟨q7,q8,fun h=> ?_⟩,?_⟩,(by decide:7 - 3<7 - 2)⟩
     ·first |(exact absurd h (by decide:¬7<=6)) |(dsimp only;omega)
     ·rw[show bH.drop 2=(4,[112,114,111,116,101,99,116,101,100])::bH.drop 3 from rfl,gf,af (by rw[<- aw];exact hc)] at fk;exact fk
   ·have la:fl<8:=q9 (by decide);have pS:=ajv fl q7 la;by_cases hc:bu ts s1.i [115,116,97,116,105,99]=true
    ·have ha:=dO (en:=en) hT hc;have hi:=bC hc;simp only[go_sem];refine⟨fun _=>⟨⟨by decide,by decide⟩,by kernel_rfl,bo ((ha m1).mono ?_)⟩,fun h=>absurd (by decide) h⟩;clear ha;rintro r H' m2 aH ⟨l2,rfl,rfl⟩;simp only[go_sem,pS];refine⟨⟨by decide,by decide⟩,⟨by decide,by decide⟩,(4,s1.next,fl+8,m2),⟨⟨rfl,rfl⟩,⟨rfl,rfl,rfl⟩,.inl rfl⟩,⟨aa q1 l2,(by decide:4<=7),q3.next hi,Nat.le_succ_of_le q4,q5,fun h=> ?_,⟨by dsimp only;omega,by dsimp only;omega,fun h=> ?_⟩,?_⟩,(by decide:7 - 4<7 - 3)⟩
     ·have h1:=q3.nfl hi;rw[q5,h] at h1;cases h1
     ·first |(exact absurd h (by decide:¬7<=6)) |(dsimp only;omega)
     ·rw[show bH.drop 3=(8,[115,116,97,116,105,99])::bH.drop 4 from rfl,gf,ah (by rw[<- aw];exact hc),<- b7] at fk;exact fk
    ·have ha:=dP (en:=en) hT hc;simp only[go_sem];refine⟨fun _=>⟨⟨by decide,by decide⟩,by kernel_rfl,bo ((ha m1).mono ?_)⟩,fun h=>absurd (by decide) h⟩;clear ha;rintro r H' m2 aH ⟨l2,rfl,rfl⟩;simp only[go_sem];refine⟨⟨by decide,by decide⟩,(4,s1,fl,m2),⟨⟨rfl,rfl⟩,⟨rfl,rfl,rfl⟩,.inl rfl⟩,⟨aa q1 l2,(by decide:4<=7),q3,q4,q5,q6,⟨q7,q8,fun h=> ?_⟩,?_⟩,(by decide:7 - 4<7 - 3)⟩
     ·first |(exact absurd h (by decide:¬7<=6)) |(dsimp only;omega)
     ·rw[show bH.drop 3=(8,[115,116,97,116,105,99])::bH.drop 4 from rfl,gf,af (by rw[<- aw];exact hc)] at fk;exact fk
   ·have la:fl<16:=q9 (by decide);have pS:=Th fl q7 la;by_cases hc:bu ts s1.i [102,105,110,97,108]=true
    ·have ha:=dO (en:=en) hT hc;have hi:=bC hc;simp only[go_sem];refine⟨fun _=>⟨⟨by decide,by decide⟩,by kernel_rfl,bo ((ha m1).mono ?_)⟩,fun h=>absurd (by decide) h⟩;clear ha;rintro r H' m2 aH ⟨l2,rfl,rfl⟩;simp only[go_sem,pS];refine⟨⟨by decide,by decide⟩,⟨by decide,by decide⟩,(5,s1.next,fl+16,m2),⟨⟨rfl,rfl⟩,⟨rfl,rfl,rfl⟩,.inl rfl⟩,⟨aa q1 l2,(by decide:5<=7),q3.next hi,Nat.le_succ_of_le q4,q5,fun h=> ?_,⟨by dsimp only;omega,by dsimp only;omega,fun h=> ?_⟩,?_⟩,(by decide:7 - 5<7 - 4)⟩
     ·have h1:=q3.nfl hi;rw[q5,h] at h1;cases h1
     ·first |(exact absurd h (by decide:¬7<=6)) |(dsimp only;omega)
     ·rw[show bH.drop 4=(16,[102,105,110,97,108])::bH.drop 5 from rfl,gf,ah (by rw[<- aw];exact hc),<- b7] at fk;exact fk
    ·have ha:=dP (en:=en) hT hc;simp only[go_sem];refine⟨fun _=>⟨⟨by decide,by decide⟩,by kernel_rfl,bo ((ha m1).mono ?_)⟩,fun h=>absurd (by decide) h⟩;clear ha;rintro r H' m2 aH ⟨l2,rfl,rfl⟩;simp only[go_sem];refine⟨⟨by decide,by decide⟩,(5,s1,fl,m2),⟨⟨rfl,rfl⟩,⟨rfl,rfl,rfl⟩,.inl rfl⟩,⟨aa q1 l2,(by decide:5<=7),q3,q4,q5,q6,⟨q7,q8,fun h=> ?_⟩,?_⟩,(by decide:7 - 5<7 - 4)⟩
     ·first |(exact absurd h (by decide:¬7<=6)) |(dsimp only;omega)
     ·rw[show bH.drop 4=(16,[102,105,110,97,108])::bH.drop 5 from rfl,gf,af (by rw[<- aw];exact hc)] at fk;exact fk
   ·have la:fl<32:=q9 (by decide);have pS:=aga fl q7 la;by_cases hc:bu ts s1.i [115,121,110,99]=true
    ·have ha:=dO (en:=en) hT hc;have hi:=bC hc;simp only[go_sem];refine⟨fun _=>⟨⟨by decide,by decide⟩,by kernel_rfl,bo ((ha m1).mono ?_)⟩,fun h=>absurd (by decide) h⟩;clear ha;rintro r H' m2 aH ⟨l2,rfl,rfl⟩;simp only[go_sem,pS];refine⟨⟨by decide,by decide⟩,⟨by decide,by decide⟩,(6,s1.next,fl+32,m2),⟨⟨rfl,rfl⟩,⟨rfl,rfl,rfl⟩,.inl rfl⟩,⟨aa q1 l2,(by decide:6<=7),q3.next hi,Nat.le_succ_of_le q4,q5,fun h=> ?_,⟨by dsimp only;omega,by dsimp only;omega,fun h=> ?_⟩,?_⟩,(by decide:7 - 6<7 - 5)⟩
     ·have h1:=q3.nfl hi;rw[q5,h] at h1;cases h1
     ·first |(exact absurd h (by decide:¬7<=6)) |(dsimp only;omega)
     ·rw[show bH.drop 5=(32,[115,121,110,99])::bH.drop 6 from rfl,gf,ah (by rw[<- aw];exact hc),<- b7] at fk;exact fk
    ·have ha:=dP (en:=en) hT hc;simp only[go_sem];refine⟨fun _=>⟨⟨by decide,by decide⟩,by kernel_rfl,bo ((ha m1).mono ?_)⟩,fun h=>absurd (by decide) h⟩;clear ha;rintro r H' m2 aH ⟨l2,rfl,rfl⟩;simp only[go_sem];refine⟨⟨by decide,by decide⟩,(6,s1,fl,m2),⟨⟨rfl,rfl⟩,⟨rfl,rfl,rfl⟩,.inl rfl⟩,⟨aa q1 l2,(by decide:6<=7),q3,q4,q5,q6,⟨q7,q8,fun h=> ?_⟩,?_⟩,(by decide:7 - 6<7 - 5)⟩
     ·first |(exact absurd h (by decide:¬7<=6)) |(dsimp only;omega)
     ·rw[show bH.drop 5=(32,[115,121,110,99])::bH.drop 6 from rfl,gf,af (by rw[<- aw];exact hc)] at fk;exact fk
   ·have la:fl<64:=q9 (by decide);have pS:=Jb fl q7 la;by_cases hc:bu ts s1.i [97,98,115,116,114,97,99,116]=true
    ·have ha:=dO (en:=en) hT hc;have hi:=bC hc;simp only[go_sem];refine⟨fun _=>⟨⟨by decide,by decide⟩,by kernel_rfl,bo ((ha m1).mono ?_)⟩,fun h=>absurd (by decide) h⟩;clear ha;rintro r H' m2 aH ⟨l2,rfl,rfl⟩;simp only[go_sem,pS];refine⟨⟨by decide,by decide⟩,⟨by decide,by decide⟩,(7,s1.next,fl+1024,m2),⟨⟨rfl,rfl⟩,⟨rfl,rfl,rfl⟩,.inl rfl⟩,⟨aa q1 l2,(by decide:7<=7),q3.next hi,Nat.le_succ_of_le q4,q5,fun h=> ?_,⟨by dsimp only;omega,by dsimp only;omega,fun h=> ?_⟩,?_⟩,(by decide:7 - 7<7 - 6)⟩
     ·have h1:=q3.nfl hi;rw[q5,h] at h1;cases h1
     ·first |(exact absurd h (by decide:¬7<=6)) |(dsimp only;omega)
     ·rw[show bH.drop 6=(1024,[97,98,115,116,114,97,99,116])::bH.drop 7 from rfl,gf,ah (by rw[<- aw];exact hc),<- b7] at fk;exact fk
    ·have ha:=dP (en:=en) hT hc;simp only[go_sem];refine⟨fun _=>⟨⟨by decide,by decide⟩,by kernel_rfl,bo ((ha m1).mono ?_)⟩,fun h=>absurd (by decide) h⟩;clear ha;rintro r H' m2 aH ⟨l2,rfl,rfl⟩;simp only[go_sem];refine⟨⟨by decide,by decide⟩,(7,s1,fl,m2),⟨⟨rfl,rfl⟩,⟨rfl,rfl,rfl⟩,.inl rfl⟩,⟨aa q1 l2,(by decide:7<=7),q3,q4,q5,q6,⟨q7,q8,fun h=> ?_⟩,?_⟩,(by decide:7 - 7<7 - 6)⟩
     ·first |(exact absurd h (by decide:¬7<=6)) |(dsimp only;omega)
     ·rw[show bH.drop 6=(1024,[97,98,115,116,114,97,99,116])::bH.drop 7 from rfl,gf,af (by rw[<- aw];exact hc)] at fk;exact fk
   ·simp only[go_sem];refine⟨fun h=>absurd h (by decide),fun _=>⟨aa (.inl rfl) q1,fl,s1,rfl,⟨q7,q8⟩,rfl,q3,q4,q5,q6,fk.symm⟩⟩
end
theorem akB:od Tryz.prog 160=48:=by kernel_rfl
attribute [go_sem] akB
abbrev akY (ts:List Tk) (en:Int) (s:PSt) (K:PR (List (List UInt8))) (m:Mem):SV->Hp->Mem->Prop:=fun r H' m' =>ae m m' /\∃(l:List (List UInt8)) (a:Option Addr) (c:Nat) (s' :PSt),r= .v (.slice a l.length c)/\l.length<=c/\l.length<=1000001/\aZ m' a l.length 1 (strs l)/\(∀w∈l,w.length<=1000000)/\H' =pH ts en s' /\Res ts en s K l s'
abbrev akU (ts:List Tk) (en:Int) (s:PSt) (K:PR (List Pc)) (m:Mem):SV->Hp->Mem->Prop:=fun r H' m' =>ae m m' /\∃(l:List Pc) (a:Option Addr) (c:Nat) (s' :PSt),r= .v (.slice a l.length c)/\l.length<=c/\l.length<=1000001/\aZ m' a l.length 4 (flat Pc.cs l)/\(∀p∈l,PcOk p)/\H' =pH ts en s' /\Res ts en s K l s'
noncomputable def Uh (l:List Tk):PR (List (List UInt8)):=an (fy l) fun s r=>zP [s] r
theorem X0 (l:List (List UInt8)) (w:List UInt8):strs (l++[w])=strs l++[.string (bs w)]:=by simp [strs]
theorem Ei {α:Type} (f:α->List Value) (l:List α) (x:α):flat f (l++[x])=flat f l++f x:=by simp [flat]
theorem EE {α:Type} {p:α->Prop} {l:List α} {x:α} (h:∀y∈l,p y) (hx:p x):∀y∈l++[x],p y:=fun y hy=>by
 rcases List.mem_append.1 hy with h1 |h1
 ·exact h y h1
 ·rw[List.mem_singleton.1 h1];exact hx
section
variable {ts:List Tk} {en:Int} {s:PSt}
theorem AW (hT:TsB ts) (hI:Inv ts s) (m:Mem):FnH Tryz.prog 51 [.box 0 0] (pH ts en s) m (akY ts en s (Uh (ts.drop s.i)) m):=by
 have h1:=fun m' =>oZ ts en s m' hT hI
 refine ph (aR aB Tryz.func51 ?_)
 ·simp only[go_sem];refine ab ((h1 m).mono ?_);clear h1;rintro r H' m1 aN ⟨l1,w,s1,rfl,hw,rfl,eg⟩;simp only[go_sem];refine du aB (fun y:PSt×List (List UInt8)×Nat×Mem=>⟨[⟨0,[],.box 0 0⟩,⟨3,[],.vec 4 y.2.2.1⟩],[],[mK en y.1],[⟨4,y.2.2.1,9,1,y.2.1.length,strs y.2.1⟩,kF ts],40,y.2.2.2⟩)
   (fun y=>ae m1 y.2.2.2/\Inv ts y.1/\y.2.1.length<=y.1.i+1/\(∀w∈y.2.1,w.length<=1000000)/\∀a s',Res ts en y.1 (zP y.2.1 (ts.drop y.1.i)) a s' ->Res ts en s (Uh (ts.drop s.i)) a s')
   (fun y=>ts.length - y.1.i) (s1,[w],0,m1) (fun _ _=>dv rfl) (fun y hy=>hy.1) ?_ ?_ ?_
  ·simp only[go_sem];exact rfl
  ·exact⟨.inl rfl,eg.inv,by simp,fun x hx=>by rw[List.mem_singleton.1 hx];exact hw,fun a s' h=>aX eg h⟩
  ·rintro⟨s4,l,u,m4⟩ ⟨q1,q2,q3,q4,q5⟩;dsimp only at q1 q2 q3 q4 q5;have hl:=hT.len;have dG:=q2.le;by_cases hc:bu ts s4.i [44]=true
   ·have ha:=dO (en:=en) hT hc;have hi:=bC hc;have gd:=q2.next hi;have hb:=fun m' =>oZ ts en s4.next m' hT gd
    simp only[go_sem];refine ab ((ha m4).mono ?_);clear ha;rintro r H' m5 cO ⟨l5,rfl,rfl⟩;simp only[go_sem];refine ab ((hb m5).mono ?_);clear hb;rintro r H' m6 eo ⟨l6,w6,s6,rfl,qF,rfl,hR6⟩;have tE:=hR6.mono;have so:s4.next.i=s4.i+1:=rfl;simp only[go_sem];refine⟨j5 (by omega) (by decide),(s6,l++[w6],u+1,m6),⟨rfl,⟨rfl,rfl,rfl⟩,⟨rfl,by simp,(X0 l w6).symm⟩,.inl rfl⟩,⟨aa q1 (aa l5 l6),hR6.inv,by simp only[aI,iB];omega,EE q4 qF,fun a s' h=>q5 a s' ?_⟩,by dsimp only;omega⟩;rw[OM,ah (by rw[<- aw];exact hc),<- b7];exact ct q2 hi (aX hR6 h)
   ·have ha:=dP (en:=en) hT hc;simp only[go_sem];refine ab ((ha m4).mono ?_);clear ha;rintro r H' m5 cO ⟨l5,rfl,rfl⟩;simp only[go_sem];refine BC (b:=⟨4,u,9,1,l.length,strs l⟩) (by simp [eU]) (pH ts en s4) (List.Sublist.refl _) (.cons_cons _ (List.nil_sublist _)) fun a c mm w1 w2 w3=>⟨aa (aa l1 q1) (aa l5 (.inr w1)),l,a,c,s4,rfl,w2,by omega,w3,q4,rfl,q5 _ _ ?_⟩
    rw[OM,af (by rw[<- aw];exact hc)];exact cJ _ q2
theorem yR (hT:TsB ts) (hI:Inv ts s) (m:Mem):FnH Tryz.prog 129 [.box 0 0] (pH ts en s) m (akU ts en s (uv (ts.drop s.i)) m):=by
 have h1:=fun m' =>fu ts en s [40] m' hT.l8
 have tW:Inv ts (ba ts en s [40]):=fA hI;by_cases hc:bu ts (ba ts en s [40]).i [41]=true
 ·have h2:=dO (en:=en) hT hc;have hi:=bC hc;refine ph (aR aB Tryz.func129 ?_)
  ·simp only[go_sem];refine ab ((h1 m).mono ?_);clear h1;rintro r H' m1 aN ⟨l1,rfl,rfl⟩;simp only[go_sem];refine ab ((h2 m1).mono ?_);clear h2;rintro r H' m2 aH ⟨l2,rfl,rfl⟩;simp only[go_sem];refine .inl ⟨aa l1 l2,[],none,0,_,rfl,au _,aG _,fH _ _,fun p hp=>(by cases hp),rfl,?_⟩;unfold uv;refine dX hI ?_;rw[<- aw,ah hc,<- b7];exact ct tW hi (cJ _ (tW.next hi))
 ·have h2:=dP (en:=en) hT hc;refine ph (aR aB Tryz.func129 ?_)
  ·simp only[go_sem];refine ab ((h1 m).mono ?_);clear h1;rintro r H' m1 aN ⟨l1,rfl,rfl⟩;simp only[go_sem];refine ab ((h2 m1).mono ?_);clear h2;rintro r H' m2 aH ⟨l2,rfl,rfl⟩;simp only[go_sem];refine zr 3 160 4 (by decide) rfl ?_;refine du aB (fun y:PSt×Bool×List Pc×Nat×Mem=>⟨[⟨0,[],.box 0 0⟩,⟨3,[],.vec 6 y.2.2.2.1⟩,⟨4,[],.v (.bool y.2.1)⟩],[],[mK en y.1],[⟨6,y.2.2.2.1,160,4,y.2.2.1.length,flat Pc.cs y.2.2.1⟩,kF ts],40,y.2.2.2.2⟩)
    (fun y=>ae m2 y.2.2.2.2/\Inv ts y.1/\(y.2.2.1.length<=y.1.i+(if y.2.1=true then 0 else 1))/\(∀p∈y.2.2.1,PcOk p)/\
     (y.2.1=true->∀a s',Res ts en y.1 (an (eV (ts.drop y.1.i)) fun t r=>an (cY r) fun w r2=>BY (y.2.2.1++[⟨t,w⟩]) r2) a s' ->Res ts en s (uv (ts.drop s.i)) a s')/\
     (y.2.1=false->∀a s',Res ts en y.1 (aV [41] (ts.drop y.1.i) fun r=> .ok (y.2.2.1,r)) a s' ->Res ts en s (uv (ts.drop s.i)) a s'))
    (fun y=>if y.2.1=true then ts.length - y.1.i+1 else 0) (ba ts en s [40],true,[],0,m2) (fun _ _=>dv rfl) (fun y hy=>hy.1) ?_ ?_ ?_
   ·simp only[go_sem];exact rfl
   ·refine⟨.inl rfl,tW,aG _,fun p hp=>(by cases hp),fun _ a s' h=> ?_,fun h=>(by cases h)⟩;unfold uv;refine dX hI ?_;rw[<- aw,af hc];exact h
   ·rintro⟨s4,b,l,u,m4⟩ ⟨q1,q2,q3,q4,q5,q6⟩;dsimp only at q1 q2 q3 q4 q5 q6;have hl:=hT.len;have dG:=q2.le;cases b with
    |true=>
     rw[ah rfl] at q3;have hb:=fun m' =>xe ts en s4 m' hT q2
     simp only[go_sem];refine ab ((hb m4).mono ?_);clear hb;rintro r H' m5 cO ⟨l5,t,s5,rfl,ht,hu,rfl,hR5⟩;have CR:=hR5.mono;have hb:=fun m' =>qY ts en s5 m' hT hR5.inv
     simp only[go_sem];refine bO (.hoist 0 (.hoist 1 (.hoist 2 (.alt 3 [1,0] (.hoist 4 (.alt 5 [0] (.alt 6 [] (.hoist 7 .done) .stop) .stop)) .stop)))) aB (by kernel_rfl) (by kernel_rfl) ?_;simp only[go_sem];refine ab ((hb m5).mono ?_);clear hb;rintro r H' m6 eo ⟨l6,w6,s6,rfl,qF,rfl,hR6⟩;have tE:=hR6.mono;have wO:PcOk ⟨t,w6⟩:=⟨ht,by unfold av;dsimp only;omega⟩;have aor:=hR6.inv.le;simp only[go_sem];refine⟨⟨l6,l6⟩,l6,j5 (by omega) (by decide),?_⟩;by_cases h44:bu ts s6.i [44]=true
     ·have ha:=dO (en:=en) hT h44;have hi:=bC h44;have hn:s6.next.i=s6.i+1:=rfl;refine ab ((ha m6).mono ?_);clear ha;rintro r H' m7 ft ⟨l7,rfl,rfl⟩;simp only[go_sem];refine⟨(s6.next,true,l++[⟨t,w6⟩],u+1,m7),⟨⟨rfl,rfl⟩,⟨rfl,rfl,rfl⟩,⟨rfl,by simp,by rw[Ei];rfl⟩,.inl rfl⟩,⟨aa q1 (aa l5 (aa l6 l7)),hR6.inv.next hi,?_,EE q4 wO,fun _ a s' h=>q5 rfl a s' ?_,fun h=>(by cases h)⟩,?_⟩
      ·dsimp only;rw[ah rfl,aI,iB];omega
      ·refine aX hR5 (aX hR6 ?_);rw[N7,ah (by rw[<- aw];exact h44),<- b7];exact ct hR6.inv hi h
      ·dsimp only;try rw[ah rfl]
       omega
     ·have ha:=dP (en:=en) hT h44;refine ab ((ha m6).mono ?_);clear ha;rintro r H' m7 ft ⟨l7,rfl,rfl⟩;simp only[go_sem];refine⟨(s6,false,l++[⟨t,w6⟩],u+1,m7),⟨⟨rfl,rfl⟩,⟨rfl,rfl,rfl⟩,⟨rfl,by simp,by rw[Ei];rfl⟩,.inl rfl⟩,⟨aa q1 (aa l5 (aa l6 l7)),hR6.inv,?_,EE q4 wO,fun h=>(by cases h),fun _ a s' h=>q5 rfl a s' ?_⟩,?_⟩
      ·dsimp only;rw[af (by decide),aI,iB];omega
      ·refine aX hR5 (aX hR6 ?_);rw[N7,af (by rw[<- aw];exact h44)];exact h
      ·dsimp only;rw[af (by decide)];omega
    |false=>
     rw[af (by decide)] at q3;have hb:=fun m' =>fu ts en s4 [41] m' hT.l8
     simp only[go_sem];refine ab ((hb m4).mono ?_);clear hb;rintro r H' m5 cO ⟨l5,rfl,rfl⟩;simp only[go_sem];exact BC (b:=⟨6,u,160,4,l.length,flat Pc.cs l⟩) (by simp [eU]) (pH ts en (ba ts en s4 [41])) (List.Sublist.refl _) (.cons_cons _ (List.nil_sublist _)) fun a c mm w1 w2 w3=>⟨aa (aa l1 l2) (aa q1 (aa l5 (.inr w1))),l,a,c,_,rfl,w2,by omega,w3,q4,rfl,q6 rfl _ _ (dX q2 (cJ _ (fA q2)))⟩
end
theorem akE:od Tryz.prog 94=56:=by kernel_rfl
theorem akC:od Tryz.prog 98=112:=by kernel_rfl
attribute [go_sem] akE akC
structure DSt where
 d:Cd
 ia:Option Addr
 ic:Nat
 uf:Nat
 um:Nat
 ui:Nat
 ms:List Value
 is:List Value
abbrev mH (ts:List Tk) (en:Int) (s:PSt) (y:DSt):Hp:=⟨[⟨0,62,[.vec 2 0,.v (.int .i64 s.i),.v (.int .i64 en),.v (.bool s.fl),.v (.int .i64 s.off)]⟩,
  ⟨1,59,[.v (.int .i64 y.d.fl),.v (.string (bs y.d.name)),.v (.string (bs y.d.super)),.v (.slice y.ia y.d.ifs.length y.ic),.vec 3 y.uf,.vec 4 y.um,.vec 5 y.ui]⟩],
 [⟨2,0,50,4,ts.length,cv ts⟩,⟨3,y.uf,94,5,y.d.fields.length,flat Fc.cs y.d.fields⟩,⟨4,y.um,98,8,y.d.methods.length,y.ms⟩,⟨5,y.ui,73,23,y.d.init.length,y.is⟩]⟩
structure DOk (m:Mem) (y:DSt) (n:Nat):Prop where
 msl:y.ms.length=y.d.methods.length * 8
 msr:nJ (gS m) 8 y.d.methods y.ms
 isl:y.is.length=y.d.init.length * 23
 isr:bZ m y.d.init y.is
 fs:∀f∈y.d.fields,FcOk f
 fn:y.d.fields.length<=n
 mn:y.d.methods.length<=n
 inn:y.d.init.length<=n
structure Same (y y' :DSt):Prop where
 ia:y'.ia=y.ia
 ic:y'.ic=y.ic
 fl:y'.d.fl=y.d.fl
 name:y'.d.name=y.d.name
 super:y'.d.super=y.d.super
 ifs:y'.d.ifs=y.d.ifs
 uf:y.uf<=y'.uf
 um:y.um<=y'.um
 ui:y.ui<=y'.ui
abbrev Uq (ts:List Tk) (en:Int) (s:PSt) (y:DSt) (K:PR Cd) (m:Mem):SV->Hp->Mem->Prop:=fun r H' m' =>ae m m' /\∃(y' :DSt) (s' :PSt),r= .tup []/\H' =mH ts en s' y' /\Same y y' /\DOk m' y' (s'.i+(if s'.fl=true then 1 else 0))/\Res ts en s K y'.d s'
theorem QF {m:Mem} {l2:List St} {ys:List Value} (h2:bZ m l2 ys):∀{l:List St} {xs:List Value},xs.length=l.length * 23->bZ m l xs->bZ m (l++l2) (xs++ys)
 |[],xs,hl,_=>by
  have:xs=[]:=List.eq_nil_of_length_eq_zero (by simpa using hl);subst this;exact h2
 |y::r,xs,hl,h=>by
  simp only[bZ,dW] at h ⊢;simp only[aL] at hl;have h8:23<=xs.length:=by omega
  rw[List.take_append_of_le_length h8,List.drop_append_of_le_length h8];exact⟨h.1,QF h2 (by rw[dI];omega) h.2⟩
theorem JF {α:Type} {R:α->List Value->Prop} {sz:Nat} {l2:List α} {ys:List Value} (h2:nJ R sz l2 ys):∀{l:List α} {xs:List Value},xs.length=l.length * sz->nJ R sz l xs->nJ R sz (l++l2) (xs++ys)
 |[],xs,hl,_=>by
  have:xs=[]:=List.eq_nil_of_length_eq_zero (by simpa using hl);subst this;exact h2
 |y::r,xs,hl,h=>by
  simp only[nJ,dW] at h ⊢;rw[aL,Nat.succ_mul] at hl;have h8:sz<=xs.length:=by omega
  rw[List.take_append_of_le_length h8,List.drop_append_of_le_length h8];exact⟨h.1,JF h2 (by rw[dI];omega) h.2⟩
theorem adO {m:Mem} {e:St} {cs:List Value} (h:fK m e cs):∀u∈cs,u.oneCell' =true:=by
 cases e with
 |mk k nm ty tg ex body alt=>
  simp only[fK] at h;obtain⟨x,⟨rfl,_⟩,_⟩:=h;intro u hu;simp only[Sd.cs,List.mem_cons,List.not_mem_nil,or_false] at hu;rcases hu with rfl |rfl |rfl |rfl |rfl |rfl |rfl |rfl |rfl |rfl |rfl |rfl |rfl |rfl |rfl |rfl |rfl |rfl |rfl |rfl |rfl |rfl |rfl<;>rfl
theorem O4 {m:Mem}:∀{es:List St} {xs:List Value},xs.length=es.length * 23->bZ m es xs->∀u∈xs,u.oneCell' =true
 |[],xs,hl,_=>by
  have:xs=[]:=List.eq_nil_of_length_eq_zero (by simpa using hl);subst this;intro u hu;cases hu
 |y::r,xs,hl,h=>by
  simp only[bZ] at h;simp only[aL] at hl;intro u hu;rw[<- List.take_append_drop 23 xs] at hu;rcases List.mem_append.1 hu with hu |hu
  ·exact adO h.1 u hu
  ·exact O4 (by rw[dI];omega) h.2 u hu
theorem DOk.up {m m' :Mem} {y:DSt} {n n' :Nat} (h:DOk m y n) (hle:ae m m') (hn:n<=n'):DOk m' y n' :=
 ⟨h.msl,vX (fun _ _=>p8 hle) h.msr,h.isl,sP hle h.isr,h.fs,cZ h.fn hn,cZ h.mn hn,cZ h.inn hn⟩
section
variable {ts:List Tk} {en:Int} {s:PSt}
theorem jO {α:Type} {K:PR α} {a:α} {q:List (Int×List UInt8)} {v0 v:Int} {s1 s' :PSt} (hm:ModR ts q v0 s v s1) (h:Res ts en s1 K a s'):Res ts en s K a s' :=
 ⟨h.inv,cZ hm.mono h.mono,fun e=>by have e1:=hm.same e;subst e1;exact h.fl e,fun e=>h.ok (by rw[hm.fl];exact e),fun e=>h.er (by rw[hm.fl];exact e)⟩
theorem o4 (d:Cd) (l:List Tk):∀x r,gz d (bM bH 0 l).1 (bM bH 0 l).2= .ok (x,r)->r.length<l.length:=fun x r h=>by
 have g:=(Nz d (bM bH 0 l).1 (bM bH 0 l).2).good;rw[jP (Rn d (bM bH 0 l).1 (bM bH 0 l).2)] at g;exact eM ((g.ok x r h).2 rfl) (uk bH 0 l).length_le
theorem px {y y' :DSt} {s' :PSt} {K:PR Cd} {m m3:Mem} {H' :Hp} (e:H' =mH ts en s' y') (h:ae m m3/\Same y y' /\DOk m3 y' (s'.i+(if s'.fl=true then 1 else 0))/\Res ts en s K y'.d s'):Up (Uq ts en s y K m) (.tup []) H' m3:=by
 subst e;exact⟨mH ts en s' y',⟨⟨rfl,rfl,rfl,rfl,trivial⟩,⟨rfl,rfl,rfl,rfl,rfl,rfl,rfl,rfl,trivial⟩⟩,h.1,y',s',rfl,rfl,h.2⟩
theorem zH:nY eW:=⟨⟨by decide,by decide⟩,⟨by decide,by decide⟩,by decide⟩
theorem sY {m:Mem} {v:Int} {ty:Ty} {w:List UInt8} {ps:List Pc} {hb:Bool} {body:List St} {pa a:Option Addr} {pc cp:Nat} {xs:List Value} (hv:0<=v/\v<2048) (ht:nY ty) (hw:w.length<=1000000)
  (j2:ps.length<=1000001) (wO:ps.length<=pc) (hpr:aZ m pa ps.length 4 (flat Pc.cs ps)) (pR:∀p∈ps,PcOk p) (hl:body.length<=1000001) (bg:body.length<=cp) (hr:aZ m a body.length 23 xs) (hs:bZ m body xs):
  gS m ⟨v,ty,w,ps,hb,body⟩ (Mc.cs ⟨v,ty,w,pa,ps.length,pc,hb,a,body.length,cp⟩):=
 ⟨⟨v,ty,w,pa,ps.length,pc,hb,a,body.length,cp⟩,⟨rfl,rfl,rfl,rfl,rfl⟩,⟨rfl,wO,rfl,bg⟩,⟨by unfold aF;dsimp only;omega,ht,by unfold av;dsimp only;omega,by unfold av;dsimp only;omega,pR,by unfold av;dsimp only;omega⟩,hpr,xs,hr,hs⟩
theorem qf {s s' :PSt} (h:s'.fl=true\/s.i<s'.i) (h2:s.i<=s'.i):s.i+1<=s'.i+(if s'.fl=true then 1 else 0):=by
 rcases h with h |h
 ·rw[ah h];omega
 ·omega
theorem DOk.addM {m:Mem} {d:Cd} {ia:Option Addr} {ic uf um ui n n' :Nat} {ms is:List Value} (h:DOk m ⟨d,ia,ic,uf,um,ui,ms,is⟩ n) {x:Md} {cs:List Value} (hx:gS m x cs) (hl:cs.length=8) (hn:n+1<=n'):DOk m ⟨d.addM x,ia,ic,uf,um+1,ui,ms++cs,is⟩ n' :=by
 have h1:=h.msl;have h2:=h.mn;have h3:=h.fn;have h4:=h.inn;dsimp only at h1 h2 h3 h4;refine⟨by simp only[Cd.addM,aI,iB,h1,hl];omega,JF (l2:=[x]) ⟨by rw[fi (by omega)];exact hx,trivial⟩ h1 h.msr,h.isl,h.isr,h.fs,by show d.fields.length<=n';omega,by simp only[Cd.addM,aI,iB];omega,by show d.init.length<=n';omega⟩
theorem DOk.addF {m:Mem} {d:Cd} {ia:Option Addr} {ic uf um ui n n' :Nat} {ms is:List Value} (h:DOk m ⟨d,ia,ic,uf,um,ui,ms,is⟩ n) {x:Fc} (hx:FcOk x) (hn:n+1<=n'):DOk m ⟨d.addF x,ia,ic,uf+1,um,ui,ms,is⟩ n' :=by
 have h2:=h.mn;have h3:=h.fn;have h4:=h.inn;dsimp only at h2 h3 h4;exact⟨h.msl,h.msr,h.isl,h.isr,EE h.fs hx,by simp only[Cd.addF,aI,iB];omega,by show d.methods.length<=n';omega,by show d.init.length<=n';omega⟩
theorem DOk.addI {m:Mem} {d:Cd} {ia:Option Addr} {ic uf um ui n n' :Nat} {ms is:List Value} (h:DOk m ⟨d,ia,ic,uf,um,ui,ms,is⟩ n) {l:List St} {ys:List Value} (hx:bZ m l ys) (hl:ys.length=l.length * 23) (hn:n+l.length<=n'):DOk m ⟨d.addI l,ia,ic,uf,um,ui+1,ms,is++ys⟩ n' :=by
 have h1:=h.isl;have h2:=h.mn;have h3:=h.fn;have h4:=h.inn;dsimp only at h1 h2 h3 h4;exact⟨h.msl,h.msr,by simp only[Cd.addI,aI,h1,hl];omega,QF hx h1 h.isr,h.fs,by show d.fields.length<=n';omega,by show d.methods.length<=n';omega,by simp only[Cd.addI,aI];omega⟩
theorem Wz (hT:TsB ts) (hI:Inv ts s) (hs:s.fl=false) (y:DSt) (m:Mem) (hy:DOk m y s.i):FnH Tryz.prog 53 [.box 0 0,.box 1 0] (mH ts en s y) m (Uq ts en s y (gz y.d (bM bH 0 (ts.drop s.i)).1 (bM bH 0 (ts.drop s.i)).2) m):=by
 obtain⟨d,ia,ic,uf,um,ui,ms,is⟩:=y;have U0:=hT.len;have hi0:=hI.le;have h1:=fun m' =>VG (en:=en) hT hI m'
 refine adr (aR aB Tryz.func53 ?_)
 ·simp only[go_sem];refine ab ((h1 m).mono ?_);clear h1;rintro r H' m1 aN ⟨l1,v,s1,rfl,hv,rfl,hM⟩;simp only[go_sem];refine⟨fun wM=> ?_,fun wM=> ?_⟩
  ·by_cases hbr:bu ts s1.i [123]=true
   ·have q0:=nc (en:=en) hT hbr;refine ab ((q0 m1).mono ?_);clear q0;rintro r H' m2 aH ⟨l2,rfl,rfl⟩;simp only[go_sem];refine bO (.hoist 0 (.hoist 1 (.hoist 2 (.hoist 3 (.hoist 4 (.hoist 5 (.alt 6 [4,3,2,1,0] (.alt 7 [0] (.hoist 8 (.hoist 9 (.alt 10 [] .done .stop))) .stop) .stop))))))) aB (by kernel_rfl) (by kernel_rfl) ?_;simp only[go_sem];have T5:=hM.mono;have iZ:=yJ (en:=en) hT hM.inv;refine ab ((iZ m2).mono ?_);clear iZ;rintro r H' m3 bI ⟨l3,Uk,a21,c21,xs21,Uv,rfl,ha21,hb21,hc21,hd21,rfl,hR21⟩;simp only[go_sem];have FO:=hR21.mono;refine⟨⟨l3,l3,l3,l3,l3⟩,xs21,hc21,O4 hc21.1 hd21,j5 (by have h0:=hy.inn;have h1:=hI.le;have h2:=hT.len;have h3:=hb21.2;dsimp only at h0;omega) (by decide),l3,?_⟩;have cN:Res ts en s (gz d (bM bH 0 (ts.drop s.i)).1 (bM bH 0 (ts.drop s.i)).2) (d.addI Uk) Uv:=(by rw[hM.val];exact jO hM (by unfold gz;rw[ah ⟨wM,by rw[<- aw];exact hbr⟩];exact aX hR21 (cJ _ hR21.inv)));exact px (y' :=⟨d.addI Uk,ia,ic,uf,um,ui+1,ms,is++xs21⟩) (s' :=Uv) (by simp only[mH,Cd.addI,aI]<;>rfl) ⟨(aa l1 (aa l2 l3)),⟨rfl,rfl,rfl,rfl,rfl,rfl,by dsimp only;omega,by dsimp only;omega,by dsimp only;omega⟩,(hy.up (aa l1 (aa l2 l3)) (au _)).addI hd21 hc21.1 (by have h1:=hb21.1;omega),cN⟩
   ·have q0:=nd (en:=en) hT hbr;refine ab ((q0 m1).mono ?_);clear q0;rintro r H' m2 aH ⟨l2,rfl,rfl⟩;simp only[go_sem];have T5:=hM.mono;by_cases hc21:bu ts (s1).i wi=true
    ·have j0:=fun m' =>dO (en:=en) hT hc21 m'
     refine ab ((j0 m2).mono ?_);clear j0;rintro r H' m3 bI ⟨l3,rfl,rfl⟩;simp only[go_sem];have KQ:=hM.inv.next (bC hc21);have Cz:(s1).next.i=(s1).i+1:=rfl;have C8:=fun m' =>yR (en:=en) hT KQ m'
     refine ab ((C8 m3).mono ?_);clear C8;rintro r H' m4 cT ⟨l4,ps23,a23,DH,s23,rfl,ha23,hb23,hc23,hd23,rfl,hR23⟩;simp only[go_sem];have agQ:=hR23.mono;have mI:=yJ (en:=en) hT (hR23.inv);refine ab ((mI m4).mono ?_);clear mI;rintro r H' m5 cO ⟨l5,bs24,a24,c24,xs24,s24,rfl,ha24,hb24,hc24,hd24,rfl,hR24⟩;simp only[go_sem];have Kg:=hR24.mono;refine bO (.hoist 0 (.hoist 1 (.hoist 2 (.hoist 3 (.hoist 4 (.hoist 5 (.alt 6 [4,3,2,1,0] (.alt 7 [0] (.hoist 8 (.hoist 9 (.alt 10 [] .done .stop))) .stop) .stop))))))) aB (by kernel_rfl) (by kernel_rfl) ?_;simp only[go_sem];refine⟨j5 (by have h0:=hy.mn;dsimp only at h0;omega) (by decide),?_⟩;have cN:Res ts en s (gz d (bM bH 0 (ts.drop s.i)).1 (bM bH 0 (ts.drop s.i)).2) (d.addM ⟨v,eW,eI,ps23,true,bs24⟩) s24:=(by rw[hM.val];exact jO hM (by unfold gz;rw[af (fun q=>hbr (by rw[aw];exact q.2)),ah (by rw[<- aw];exact hc21),<- b7];exact ct hM.inv (bC hc21) (aX hR23 (aX hR24 (cJ _ hR24.inv)))));have fS:=mS cN hs (o4 _ _);have lD:gS m5 ⟨v,eW,eI,ps23,true,bs24⟩ (Mc.cs ⟨v,eW,eI,a23,ps23.length,DH,true,a24,bs24.length,c24⟩):=sY hv zH (by decide) hb23 ha23 (ax l5 hc23) hd23 hb24.2 ha24 hc24 hd24;exact px (y' :=⟨d.addM ⟨v,eW,eI,ps23,true,bs24⟩,ia,ic,uf,um+1,ui,ms++Mc.cs ⟨v,eW,eI,a23,ps23.length,DH,true,a24,bs24.length,c24⟩,is⟩) (s' :=s24) (by simp only[mH,Cd.addM,aI,aL,bh]<;>rfl) ⟨(aa l1 (aa l2 (aa l3 (aa l4 l5)))),⟨rfl,rfl,rfl,rfl,rfl,rfl,by dsimp only;omega,by dsimp only;omega,by dsimp only;omega⟩,(hy.up (aa l1 (aa l2 (aa l3 (aa l4 l5)))) (au _)).addM lD rfl (qf fS cN.mono),cN⟩
    ·have j0:=fun m' =>dP (en:=en) hT hc21 m'
     refine ab ((j0 m2).mono ?_);clear j0;rintro r H' m3 bI ⟨l3,rfl,rfl⟩;simp only[go_sem];by_cases hc23:bu ts (s1).i qh=true
     ·have mI:=fun m' =>dO (en:=en) hT hc23 m'
      refine ab ((mI m3).mono ?_);clear mI;rintro r H' m4 cT ⟨l4,rfl,rfl⟩;simp only[go_sem];have KP:=hM.inv.next (bC hc23);have Kg:(s1).next.i=(s1).i+1:=rfl;have rQ:=fun m' =>qY ts en (s1).next m' hT KP
      refine ab ((rQ m4).mono ?_);clear rQ;rintro r H' m5 cO ⟨l5,w25,s25,rfl,hw25,rfl,hR25⟩;simp only[go_sem];have Kf:=hR25.mono;have rP:=fun m' =>yR (en:=en) hT hR25.inv m'
      refine ab ((rP m5).mono ?_);clear rP;rintro r H' m6 eo ⟨l6,ps26,a26,vt,jX,rfl,ha26,hb26,hc26,hd26,rfl,hR26⟩;simp only[go_sem];have Ke:=hR26.mono;by_cases hc27:bu ts (jX).i [59]=true
      ·have jZ:=fun m' =>dO (en:=en) hT hc27 m'
       refine ab ((jZ m6).mono ?_);clear jZ;rintro r H' m7 ft ⟨l7,rfl,rfl⟩;simp only[go_sem];have yb:=hR26.inv.next (bC hc27);have Kd:(jX).next.i=(jX).i+1:=rfl;refine bO (.hoist 0 (.hoist 1 (.hoist 2 (.hoist 3 (.hoist 4 (.hoist 5 (.alt 6 [4,3,2,1,0] (.alt 7 [0] (.hoist 8 (.hoist 9 (.alt 10 [] .done .stop))) .stop) .stop))))))) aB (by kernel_rfl) (by kernel_rfl) ?_;simp only[go_sem];refine⟨j5 (by have h0:=hy.mn;dsimp only at h0;omega) (by decide),?_⟩;have cN:Res ts en s (gz d (bM bH 0 (ts.drop s.i)).1 (bM bH 0 (ts.drop s.i)).2) (d.addM ⟨v,eW,w25,ps26,false,[]⟩) (jX).next:=(by rw[hM.val];exact jO hM (by unfold gz;rw[af (fun q=>hbr (by rw[aw];exact q.2)),af (by rw[<- aw];exact hc21),ah (by rw[<- aw];exact hc23),<- b7];exact ct hM.inv (bC hc23) (aX hR25 (by unfold qi;exact(aX hR26 (by rw[ah (by rw[<- aw];exact hc27),<- b7];exact ct hR26.inv (bC hc27) (cJ _ yb)))))));have fS:=mS cN hs (o4 _ _);have lD:gS m7 ⟨v,eW,w25,ps26,false,[]⟩ (Mc.cs ⟨v,eW,w25,a26,ps26.length,vt,false,none,0,0⟩):=sY hv zH hw25 hb26 ha26 (ax l7 hc26) hd26 (aG _) (au _) (fH _ _) (iQ _ _);exact px (y' :=⟨d.addM ⟨v,eW,w25,ps26,false,[]⟩,ia,ic,uf,um+1,ui,ms++Mc.cs ⟨v,eW,w25,a26,ps26.length,vt,false,none,0,0⟩,is⟩) (s' :=(jX).next) (by simp only[mH,Cd.addM,aI,aL,bh]<;>rfl) ⟨(aa l1 (aa l2 (aa l3 (aa l4 (aa l5 (aa l6 l7)))))),⟨rfl,rfl,rfl,rfl,rfl,rfl,by dsimp only;omega,by dsimp only;omega,by dsimp only;omega⟩,(hy.up (aa l1 (aa l2 (aa l3 (aa l4 (aa l5 (aa l6 l7)))))) (au _)).addM lD rfl (qf fS cN.mono),cN⟩
      ·have jZ:=fun m' =>dP (en:=en) hT hc27 m'
       refine ab ((jZ m6).mono ?_);clear jZ;rintro r H' m7 ft ⟨l7,rfl,rfl⟩;simp only[go_sem];have rO:=yJ (en:=en) hT (hR26.inv);refine ab ((rO m7).mono ?_);clear rO;rintro r H' m8 ix ⟨l8,bs29,a29,c29,xs29,mG,rfl,ha29,hb29,hc29,hd29,rfl,hR29⟩;simp only[go_sem];have Kc:=hR29.mono;refine bO (.hoist 0 (.hoist 1 (.hoist 2 (.hoist 3 (.hoist 4 (.hoist 5 (.alt 6 [4,3,2,1,0] (.alt 7 [0] (.hoist 8 (.hoist 9 (.alt 10 [] .done .stop))) .stop) .stop))))))) aB (by kernel_rfl) (by kernel_rfl) ?_;simp only[go_sem];refine⟨j5 (by have h0:=hy.mn;dsimp only at h0;omega) (by decide),?_⟩;have cN:Res ts en s (gz d (bM bH 0 (ts.drop s.i)).1 (bM bH 0 (ts.drop s.i)).2) (d.addM ⟨v,eW,w25,ps26,true,bs29⟩) mG:=(by rw[hM.val];exact jO hM (by unfold gz;rw[af (fun q=>hbr (by rw[aw];exact q.2)),af (by rw[<- aw];exact hc21),ah (by rw[<- aw];exact hc23),<- b7];exact ct hM.inv (bC hc23) (aX hR25 (by unfold qi;exact(aX hR26 (by rw[af (by rw[<- aw];exact hc27)];exact(aX hR29 (cJ _ hR29.inv))))))));have fS:=mS cN hs (o4 _ _);have lD:gS m8 ⟨v,eW,w25,ps26,true,bs29⟩ (Mc.cs ⟨v,eW,w25,a26,ps26.length,vt,true,a29,bs29.length,c29⟩):=sY hv zH hw25 hb26 ha26 (ax (aa l7 l8) hc26) hd26 hb29.2 ha29 hc29 hd29;exact px (y' :=⟨d.addM ⟨v,eW,w25,ps26,true,bs29⟩,ia,ic,uf,um+1,ui,ms++Mc.cs ⟨v,eW,w25,a26,ps26.length,vt,true,a29,bs29.length,c29⟩,is⟩) (s' :=mG) (by simp only[mH,Cd.addM,aI,aL,bh]<;>rfl) ⟨(aa l1 (aa l2 (aa l3 (aa l4 (aa l5 (aa l6 (aa l7 l8))))))),⟨rfl,rfl,rfl,rfl,rfl,rfl,by dsimp only;omega,by dsimp only;omega,by dsimp only;omega⟩,(hy.up (aa l1 (aa l2 (aa l3 (aa l4 (aa l5 (aa l6 (aa l7 l8))))))) (au _)).addM lD rfl (qf fS cN.mono),cN⟩
     ·have mI:=fun m' =>dP (en:=en) hT hc23 m'
      refine ab ((mI m3).mono ?_);clear mI;rintro r H' m4 cT ⟨l4,rfl,rfl⟩;simp only[go_sem];have rQ:=fun m' =>xe ts en s1 m' hT hM.inv
      refine ab ((rQ m4).mono ?_);clear rQ;rintro r H' m5 cO ⟨l5,t25,s25,rfl,ht25,hu25,rfl,hR25⟩;simp only[go_sem];have Kf:=hR25.mono;have rP:=fun m' =>qY ts en s25 m' hT hR25.inv
      refine ab ((rP m5).mono ?_);clear rP;rintro r H' m6 eo ⟨l6,w26,jX,rfl,hw26,rfl,hR26⟩;simp only[go_sem];have Ke:=hR26.mono;by_cases hc27:bu ts (jX).i [59]=true
      ·have jZ:=fun m' =>dO (en:=en) hT hc27 m'
       refine ab ((jZ m6).mono ?_);clear jZ;rintro r H' m7 ft ⟨l7,rfl,rfl⟩;simp only[go_sem];have yb:=hR26.inv.next (bC hc27);have Kd:(jX).next.i=(jX).i+1:=rfl;refine bO (.hoist 0 (.hoist 1 (.hoist 2 (.hoist 3 (.hoist 4 (.hoist 5 (.hoist 6 (.hoist 7 (.hoist 8 (.hoist 9 (.hoist 10 (.alt 11 [4,3,2,1,0] (.alt 12 [0] (.hoist 13 (.hoist 14 (.alt 15 [] .done .stop))) .stop) .stop)))))))))))) aB (by kernel_rfl) (by kernel_rfl) ?_;simp only[go_sem];refine⟨j5 (by have h0:=hy.fn;dsimp only at h0;omega) (by decide),?_⟩;have cN:Res ts en s (gz d (bM bH 0 (ts.drop s.i)).1 (bM bH 0 (ts.drop s.i)).2) (d.addF ⟨v,t25,w26⟩) ((jX).next):=(by rw[hM.val];exact jO hM (by unfold gz;rw[af (fun q=>hbr (by rw[aw];exact q.2)),af (by rw[<- aw];exact hc21),af (by rw[<- aw];exact hc23)];exact(aX hR25 (aX hR26 (by rw[ah (by rw[<- aw];exact hc27),<- b7];exact ct hR26.inv (bC hc27) (cJ _ yb))))));have fS:=mS cN hs (o4 _ _);exact px (y' :=⟨d.addF ⟨v,t25,w26⟩,ia,ic,uf+1,um,ui,ms,is⟩) (s' :=((jX).next)) (by simp only[mH,Cd.addF,aI,aL,bh,Ei]<;>rfl) ⟨(aa l1 (aa l2 (aa l3 (aa l4 (aa l5 (aa l6 l7)))))),⟨rfl,rfl,rfl,rfl,rfl,rfl,by dsimp only;omega,by dsimp only;omega,by dsimp only;omega⟩,(hy.up (aa l1 (aa l2 (aa l3 (aa l4 (aa l5 (aa l6 l7)))))) (au _)).addF ⟨by unfold aF;dsimp only;omega,ht25,by unfold av;dsimp only;omega⟩ (qf fS cN.mono),cN⟩
      ·have jZ:=fun m' =>dP (en:=en) hT hc27 m'
       refine ab ((jZ m6).mono ?_);clear jZ;rintro r H' m7 ft ⟨l7,rfl,rfl⟩;simp only[go_sem];have rO:=fun m' =>yR (en:=en) hT hR26.inv m'
       refine ab ((rO m7).mono ?_);clear rO;rintro r H' m8 ix ⟨l8,ps29,a29,c29,mG,rfl,ha29,hb29,hc29,hd29,rfl,hR29⟩;simp only[go_sem];have Kc:=hR29.mono;by_cases hc30:bu ts (mG).i [59]=true
       ·have rN:=fun m' =>dO (en:=en) hT hc30 m'
        refine ab ((rN m8).mono ?_);clear rN;rintro r H' m9 kJ ⟨l9,rfl,rfl⟩;simp only[go_sem];have KO:=hR29.inv.next (bC hc30);have agP:(mG).next.i=(mG).i+1:=rfl;refine bO (.hoist 0 (.hoist 1 (.hoist 2 (.hoist 3 (.hoist 4 (.hoist 5 (.alt 6 [4,3,2,1,0] (.alt 7 [0] (.hoist 8 (.hoist 9 (.alt 10 [] .done .stop))) .stop) .stop))))))) aB (by kernel_rfl) (by kernel_rfl) ?_;simp only[go_sem];refine⟨j5 (by have h0:=hy.mn;dsimp only at h0;omega) (by decide),?_⟩;have cN:Res ts en s (gz d (bM bH 0 (ts.drop s.i)).1 (bM bH 0 (ts.drop s.i)).2) (d.addM ⟨v,t25,w26,ps29,false,[]⟩) (mG).next:=(by rw[hM.val];exact jO hM (by unfold gz;rw[af (fun q=>hbr (by rw[aw];exact q.2)),af (by rw[<- aw];exact hc21),af (by rw[<- aw];exact hc23)];exact(aX hR25 (aX hR26 (by rw[af (by rw[<- aw];exact hc27)];exact(by unfold qi;exact(aX hR29 (by rw[ah (by rw[<- aw];exact hc30),<- b7];exact ct hR29.inv (bC hc30) (cJ _ KO)))))))));have fS:=mS cN hs (o4 _ _);have lD:gS m9 ⟨v,t25,w26,ps29,false,[]⟩ (Mc.cs ⟨v,t25,w26,a29,ps29.length,c29,false,none,0,0⟩):=sY hv ht25 hw26 hb29 ha29 (ax l9 hc29) hd29 (aG _) (au _) (fH _ _) (iQ _ _);exact px (y' :=⟨d.addM ⟨v,t25,w26,ps29,false,[]⟩,ia,ic,uf,um+1,ui,ms++Mc.cs ⟨v,t25,w26,a29,ps29.length,c29,false,none,0,0⟩,is⟩) (s' :=(mG).next) (by simp only[mH,Cd.addM,aI,aL,bh]<;>rfl) ⟨(aa l1 (aa l2 (aa l3 (aa l4 (aa l5 (aa l6 (aa l7 (aa l8 l9)))))))),⟨rfl,rfl,rfl,rfl,rfl,rfl,by dsimp only;omega,by dsimp only;omega,by dsimp only;omega⟩,(hy.up (aa l1 (aa l2 (aa l3 (aa l4 (aa l5 (aa l6 (aa l7 (aa l8 l9)))))))) (au _)).addM lD rfl (qf fS cN.mono),cN⟩
       ·have rN:=fun m' =>dP (en:=en) hT hc30 m'
        refine ab ((rN m8).mono ?_);clear rN;rintro r H' m9 kJ ⟨l9,rfl,rfl⟩;simp only[go_sem];have C7:=yJ (en:=en) hT (hR29.inv);refine ab ((C7 m9).mono ?_);clear C7;rintro r H' m10 rH ⟨l10,bs32,a32,DG,xs32,s32,rfl,ha32,hb32,hc32,hd32,rfl,hR32⟩;simp only[go_sem];have agO:=hR32.mono;refine bO (.hoist 0 (.hoist 1 (.hoist 2 (.hoist 3 (.hoist 4 (.hoist 5 (.alt 6 [4,3,2,1,0] (.alt 7 [0] (.hoist 8 (.hoist 9 (.alt 10 [] .done .stop))) .stop) .stop))))))) aB (by kernel_rfl) (by kernel_rfl) ?_;simp only[go_sem];refine⟨j5 (by have h0:=hy.mn;dsimp only at h0;omega) (by decide),?_⟩;have cN:Res ts en s (gz d (bM bH 0 (ts.drop s.i)).1 (bM bH 0 (ts.drop s.i)).2) (d.addM ⟨v,t25,w26,ps29,true,bs32⟩) s32:=(by rw[hM.val];exact jO hM (by unfold gz;rw[af (fun q=>hbr (by rw[aw];exact q.2)),af (by rw[<- aw];exact hc21),af (by rw[<- aw];exact hc23)];exact(aX hR25 (aX hR26 (by rw[af (by rw[<- aw];exact hc27)];exact(by unfold qi;exact(aX hR29 (by rw[af (by rw[<- aw];exact hc30)];exact(aX hR32 (cJ _ hR32.inv))))))))));have fS:=mS cN hs (o4 _ _);have lD:gS m10 ⟨v,t25,w26,ps29,true,bs32⟩ (Mc.cs ⟨v,t25,w26,a29,ps29.length,c29,true,a32,bs32.length,DG⟩):=sY hv ht25 hw26 hb29 ha29 (ax (aa l9 l10) hc29) hd29 hb32.2 ha32 hc32 hd32;exact px (y' :=⟨d.addM ⟨v,t25,w26,ps29,true,bs32⟩,ia,ic,uf,um+1,ui,ms++Mc.cs ⟨v,t25,w26,a29,ps29.length,c29,true,a32,bs32.length,DG⟩,is⟩) (s' :=s32) (by simp only[mH,Cd.addM,aI,aL,bh]<;>rfl) ⟨(aa l1 (aa l2 (aa l3 (aa l4 (aa l5 (aa l6 (aa l7 (aa l8 (aa l9 l10))))))))),⟨rfl,rfl,rfl,rfl,rfl,rfl,by dsimp only;omega,by dsimp only;omega,by dsimp only;omega⟩,(hy.up (aa l1 (aa l2 (aa l3 (aa l4 (aa l5 (aa l6 (aa l7 (aa l8 (aa l9 l10))))))))) (au _)).addM lD rfl (qf fS cN.mono),cN⟩
  ·have T5:=hM.mono;by_cases hc21:bu ts (s1).i wi=true
   ·have j0:=fun m' =>dO (en:=en) hT hc21 m'
    refine ab ((j0 m1).mono ?_);clear j0;rintro r H' m2 aH ⟨l2,rfl,rfl⟩;simp only[go_sem];have KQ:=hM.inv.next (bC hc21);have Cz:(s1).next.i=(s1).i+1:=rfl;have C8:=fun m' =>yR (en:=en) hT KQ m'
    refine ab ((C8 m2).mono ?_);clear C8;rintro r H' m3 bI ⟨l3,ps23,a23,DH,s23,rfl,ha23,hb23,hc23,hd23,rfl,hR23⟩;simp only[go_sem];have agQ:=hR23.mono;have mI:=yJ (en:=en) hT (hR23.inv);refine ab ((mI m3).mono ?_);clear mI;rintro r H' m4 cT ⟨l4,bs24,a24,c24,xs24,s24,rfl,ha24,hb24,hc24,hd24,rfl,hR24⟩;simp only[go_sem];have Kg:=hR24.mono;refine bO (.hoist 0 (.hoist 1 (.hoist 2 (.hoist 3 (.hoist 4 (.hoist 5 (.alt 6 [4,3,2,1,0] (.alt 7 [0] (.hoist 8 (.hoist 9 (.alt 10 [] .done .stop))) .stop) .stop))))))) aB (by kernel_rfl) (by kernel_rfl) ?_;simp only[go_sem];refine⟨j5 (by have h0:=hy.mn;dsimp only at h0;omega) (by decide),?_⟩;have cN:Res ts en s (gz d (bM bH 0 (ts.drop s.i)).1 (bM bH 0 (ts.drop s.i)).2) (d.addM ⟨v,eW,eI,ps23,true,bs24⟩) s24:=(by rw[hM.val];exact jO hM (by unfold gz;rw[af (fun q=>wM q.1),ah (by rw[<- aw];exact hc21),<- b7];exact ct hM.inv (bC hc21) (aX hR23 (aX hR24 (cJ _ hR24.inv)))));have fS:=mS cN hs (o4 _ _);have lD:gS m4 ⟨v,eW,eI,ps23,true,bs24⟩ (Mc.cs ⟨v,eW,eI,a23,ps23.length,DH,true,a24,bs24.length,c24⟩):=sY hv zH (by decide) hb23 ha23 (ax l4 hc23) hd23 hb24.2 ha24 hc24 hd24;exact px (y' :=⟨d.addM ⟨v,eW,eI,ps23,true,bs24⟩,ia,ic,uf,um+1,ui,ms++Mc.cs ⟨v,eW,eI,a23,ps23.length,DH,true,a24,bs24.length,c24⟩,is⟩) (s' :=s24) (by simp only[mH,Cd.addM,aI,aL,bh]<;>rfl) ⟨(aa l1 (aa l2 (aa l3 l4))),⟨rfl,rfl,rfl,rfl,rfl,rfl,by dsimp only;omega,by dsimp only;omega,by dsimp only;omega⟩,(hy.up (aa l1 (aa l2 (aa l3 l4))) (au _)).addM lD rfl (qf fS cN.mono),cN⟩
   ·have j0:=fun m' =>dP (en:=en) hT hc21 m'
    refine ab ((j0 m1).mono ?_);clear j0;rintro r H' m2 aH ⟨l2,rfl,rfl⟩;simp only[go_sem];by_cases hc23:bu ts (s1).i qh=true
    ·have mI:=fun m' =>dO (en:=en) hT hc23 m'
     refine ab ((mI m2).mono ?_);clear mI;rintro r H' m3 bI ⟨l3,rfl,rfl⟩;simp only[go_sem];have KP:=hM.inv.next (bC hc23);have Kg:(s1).next.i=(s1).i+1:=rfl;have rQ:=fun m' =>qY ts en (s1).next m' hT KP
     refine ab ((rQ m3).mono ?_);clear rQ;rintro r H' m4 cT ⟨l4,w25,s25,rfl,hw25,rfl,hR25⟩;simp only[go_sem];have Kf:=hR25.mono;have rP:=fun m' =>yR (en:=en) hT hR25.inv m'
     refine ab ((rP m4).mono ?_);clear rP;rintro r H' m5 cO ⟨l5,ps26,a26,vt,jX,rfl,ha26,hb26,hc26,hd26,rfl,hR26⟩;simp only[go_sem];have Ke:=hR26.mono;by_cases hc27:bu ts (jX).i [59]=true
     ·have jZ:=fun m' =>dO (en:=en) hT hc27 m'
      refine ab ((jZ m5).mono ?_);clear jZ;rintro r H' m6 eo ⟨l6,rfl,rfl⟩;simp only[go_sem];have yb:=hR26.inv.next (bC hc27);have Kd:(jX).next.i=(jX).i+1:=rfl;refine bO (.hoist 0 (.hoist 1 (.hoist 2 (.hoist 3 (.hoist 4 (.hoist 5 (.alt 6 [4,3,2,1,0] (.alt 7 [0] (.hoist 8 (.hoist 9 (.alt 10 [] .done .stop))) .stop) .stop))))))) aB (by kernel_rfl) (by kernel_rfl) ?_;simp only[go_sem];refine⟨j5 (by have h0:=hy.mn;dsimp only at h0;omega) (by decide),?_⟩;have cN:Res ts en s (gz d (bM bH 0 (ts.drop s.i)).1 (bM bH 0 (ts.drop s.i)).2) (d.addM ⟨v,eW,w25,ps26,false,[]⟩) (jX).next:=(by rw[hM.val];exact jO hM (by unfold gz;rw[af (fun q=>wM q.1),af (by rw[<- aw];exact hc21),ah (by rw[<- aw];exact hc23),<- b7];exact ct hM.inv (bC hc23) (aX hR25 (by unfold qi;exact(aX hR26 (by rw[ah (by rw[<- aw];exact hc27),<- b7];exact ct hR26.inv (bC hc27) (cJ _ yb)))))));have fS:=mS cN hs (o4 _ _);have lD:gS m6 ⟨v,eW,w25,ps26,false,[]⟩ (Mc.cs ⟨v,eW,w25,a26,ps26.length,vt,false,none,0,0⟩):=sY hv zH hw25 hb26 ha26 (ax l6 hc26) hd26 (aG _) (au _) (fH _ _) (iQ _ _);exact px (y' :=⟨d.addM ⟨v,eW,w25,ps26,false,[]⟩,ia,ic,uf,um+1,ui,ms++Mc.cs ⟨v,eW,w25,a26,ps26.length,vt,false,none,0,0⟩,is⟩) (s' :=(jX).next) (by simp only[mH,Cd.addM,aI,aL,bh]<;>rfl) ⟨(aa l1 (aa l2 (aa l3 (aa l4 (aa l5 l6))))),⟨rfl,rfl,rfl,rfl,rfl,rfl,by dsimp only;omega,by dsimp only;omega,by dsimp only;omega⟩,(hy.up (aa l1 (aa l2 (aa l3 (aa l4 (aa l5 l6))))) (au _)).addM lD rfl (qf fS cN.mono),cN⟩
     ·have jZ:=fun m' =>dP (en:=en) hT hc27 m'
      refine ab ((jZ m5).mono ?_);clear jZ;rintro r H' m6 eo ⟨l6,rfl,rfl⟩;simp only[go_sem];have rO:=yJ (en:=en) hT (hR26.inv);refine ab ((rO m6).mono ?_);clear rO;rintro r H' m7 ft ⟨l7,bs29,a29,c29,xs29,mG,rfl,ha29,hb29,hc29,hd29,rfl,hR29⟩;simp only[go_sem];have Kc:=hR29.mono;refine bO (.hoist 0 (.hoist 1 (.hoist 2 (.hoist 3 (.hoist 4 (.hoist 5 (.alt 6 [4,3,2,1,0] (.alt 7 [0] (.hoist 8 (.hoist 9 (.alt 10 [] .done .stop))) .stop) .stop))))))) aB (by kernel_rfl) (by kernel_rfl) ?_;simp only[go_sem];refine⟨j5 (by have h0:=hy.mn;dsimp only at h0;omega) (by decide),?_⟩;have cN:Res ts en s (gz d (bM bH 0 (ts.drop s.i)).1 (bM bH 0 (ts.drop s.i)).2) (d.addM ⟨v,eW,w25,ps26,true,bs29⟩) mG:=(by rw[hM.val];exact jO hM (by unfold gz;rw[af (fun q=>wM q.1),af (by rw[<- aw];exact hc21),ah (by rw[<- aw];exact hc23),<- b7];exact ct hM.inv (bC hc23) (aX hR25 (by unfold qi;exact(aX hR26 (by rw[af (by rw[<- aw];exact hc27)];exact(aX hR29 (cJ _ hR29.inv))))))));have fS:=mS cN hs (o4 _ _);have lD:gS m7 ⟨v,eW,w25,ps26,true,bs29⟩ (Mc.cs ⟨v,eW,w25,a26,ps26.length,vt,true,a29,bs29.length,c29⟩):=sY hv zH hw25 hb26 ha26 (ax (aa l6 l7) hc26) hd26 hb29.2 ha29 hc29 hd29;exact px (y' :=⟨d.addM ⟨v,eW,w25,ps26,true,bs29⟩,ia,ic,uf,um+1,ui,ms++Mc.cs ⟨v,eW,w25,a26,ps26.length,vt,true,a29,bs29.length,c29⟩,is⟩) (s' :=mG) (by simp only[mH,Cd.addM,aI,aL,bh]<;>rfl) ⟨(aa l1 (aa l2 (aa l3 (aa l4 (aa l5 (aa l6 l7)))))),⟨rfl,rfl,rfl,rfl,rfl,rfl,by dsimp only;omega,by dsimp only;omega,by dsimp only;omega⟩,(hy.up (aa l1 (aa l2 (aa l3 (aa l4 (aa l5 (aa l6 l7)))))) (au _)).addM lD rfl (qf fS cN.mono),cN⟩
    ·have mI:=fun m' =>dP (en:=en) hT hc23 m'
     refine ab ((mI m2).mono ?_);clear mI;rintro r H' m3 bI ⟨l3,rfl,rfl⟩;simp only[go_sem];have rQ:=fun m' =>xe ts en s1 m' hT hM.inv
     refine ab ((rQ m3).mono ?_);clear rQ;rintro r H' m4 cT ⟨l4,t25,s25,rfl,ht25,hu25,rfl,hR25⟩;simp only[go_sem];have Kf:=hR25.mono;have rP:=fun m' =>qY ts en s25 m' hT hR25.inv
     refine ab ((rP m4).mono ?_);clear rP;rintro r H' m5 cO ⟨l5,w26,jX,rfl,hw26,rfl,hR26⟩;simp only[go_sem];have Ke:=hR26.mono;by_cases hc27:bu ts (jX).i [59]=true
     ·have jZ:=fun m' =>dO (en:=en) hT hc27 m'
      refine ab ((jZ m5).mono ?_);clear jZ;rintro r H' m6 eo ⟨l6,rfl,rfl⟩;simp only[go_sem];have yb:=hR26.inv.next (bC hc27);have Kd:(jX).next.i=(jX).i+1:=rfl;refine bO (.hoist 0 (.hoist 1 (.hoist 2 (.hoist 3 (.hoist 4 (.hoist 5 (.hoist 6 (.hoist 7 (.hoist 8 (.hoist 9 (.hoist 10 (.alt 11 [4,3,2,1,0] (.alt 12 [0] (.hoist 13 (.hoist 14 (.alt 15 [] .done .stop))) .stop) .stop)))))))))))) aB (by kernel_rfl) (by kernel_rfl) ?_;simp only[go_sem];refine⟨j5 (by have h0:=hy.fn;dsimp only at h0;omega) (by decide),?_⟩;have cN:Res ts en s (gz d (bM bH 0 (ts.drop s.i)).1 (bM bH 0 (ts.drop s.i)).2) (d.addF ⟨v,t25,w26⟩) ((jX).next):=(by rw[hM.val];exact jO hM (by unfold gz;rw[af (fun q=>wM q.1),af (by rw[<- aw];exact hc21),af (by rw[<- aw];exact hc23)];exact(aX hR25 (aX hR26 (by rw[ah (by rw[<- aw];exact hc27),<- b7];exact ct hR26.inv (bC hc27) (cJ _ yb))))));have fS:=mS cN hs (o4 _ _);exact px (y' :=⟨d.addF ⟨v,t25,w26⟩,ia,ic,uf+1,um,ui,ms,is⟩) (s' :=((jX).next)) (by simp only[mH,Cd.addF,aI,aL,bh,Ei]<;>rfl) ⟨(aa l1 (aa l2 (aa l3 (aa l4 (aa l5 l6))))),⟨rfl,rfl,rfl,rfl,rfl,rfl,by dsimp only;omega,by dsimp only;omega,by dsimp only;omega⟩,(hy.up (aa l1 (aa l2 (aa l3 (aa l4 (aa l5 l6))))) (au _)).addF ⟨by unfold aF;dsimp only;omega,ht25,by unfold av;dsimp only;omega⟩ (qf fS cN.mono),cN⟩
     ·have jZ:=fun m' =>dP (en:=en) hT hc27 m'
      refine ab ((jZ m5).mono ?_);clear jZ;rintro r H' m6 eo ⟨l6,rfl,rfl⟩;simp only[go_sem];have rO:=fun m' =>yR (en:=en) hT hR26.inv m'
      refine ab ((rO m6).mono ?_);clear rO;rintro r H' m7 ft ⟨l7,ps29,a29,c29,mG,rfl,ha29,hb29,hc29,hd29,rfl,hR29⟩;simp only[go_sem];have Kc:=hR29.mono;by_cases hc30:bu ts (mG).i [59]=true
      ·have rN:=fun m' =>dO (en:=en) hT hc30 m'
       refine ab ((rN m7).mono ?_);clear rN;rintro r H' m8 ix ⟨l8,rfl,rfl⟩;simp only[go_sem];have KO:=hR29.inv.next (bC hc30);have agP:(mG).next.i=(mG).i+1:=rfl;refine bO (.hoist 0 (.hoist 1 (.hoist 2 (.hoist 3 (.hoist 4 (.hoist 5 (.alt 6 [4,3,2,1,0] (.alt 7 [0] (.hoist 8 (.hoist 9 (.alt 10 [] .done .stop))) .stop) .stop))))))) aB (by kernel_rfl) (by kernel_rfl) ?_;simp only[go_sem];refine⟨j5 (by have h0:=hy.mn;dsimp only at h0;omega) (by decide),?_⟩;have cN:Res ts en s (gz d (bM bH 0 (ts.drop s.i)).1 (bM bH 0 (ts.drop s.i)).2) (d.addM ⟨v,t25,w26,ps29,false,[]⟩) (mG).next:=(by rw[hM.val];exact jO hM (by unfold gz;rw[af (fun q=>wM q.1),af (by rw[<- aw];exact hc21),af (by rw[<- aw];exact hc23)];exact(aX hR25 (aX hR26 (by rw[af (by rw[<- aw];exact hc27)];exact(by unfold qi;exact(aX hR29 (by rw[ah (by rw[<- aw];exact hc30),<- b7];exact ct hR29.inv (bC hc30) (cJ _ KO)))))))));have fS:=mS cN hs (o4 _ _);have lD:gS m8 ⟨v,t25,w26,ps29,false,[]⟩ (Mc.cs ⟨v,t25,w26,a29,ps29.length,c29,false,none,0,0⟩):=sY hv ht25 hw26 hb29 ha29 (ax l8 hc29) hd29 (aG _) (au _) (fH _ _) (iQ _ _);exact px (y' :=⟨d.addM ⟨v,t25,w26,ps29,false,[]⟩,ia,ic,uf,um+1,ui,ms++Mc.cs ⟨v,t25,w26,a29,ps29.length,c29,false,none,0,0⟩,is⟩) (s' :=(mG).next) (by simp only[mH,Cd.addM,aI,aL,bh]<;>rfl) ⟨(aa l1 (aa l2 (aa l3 (aa l4 (aa l5 (aa l6 (aa l7 l8))))))),⟨rfl,rfl,rfl,rfl,rfl,rfl,by dsimp only;omega,by dsimp only;omega,by dsimp only;omega⟩,(hy.up (aa l1 (aa l2 (aa l3 (aa l4 (aa l5 (aa l6 (aa l7 l8))))))) (au _)).addM lD rfl (qf fS cN.mono),cN⟩
      ·have rN:=fun m' =>dP (en:=en) hT hc30 m'
       refine ab ((rN m7).mono ?_);clear rN;rintro r H' m8 ix ⟨l8,rfl,rfl⟩;simp only[go_sem];have C7:=yJ (en:=en) hT (hR29.inv);refine ab ((C7 m8).mono ?_);clear C7;rintro r H' m9 kJ ⟨l9,bs32,a32,DG,xs32,s32,rfl,ha32,hb32,hc32,hd32,rfl,hR32⟩;simp only[go_sem];have agO:=hR32.mono;refine bO (.hoist 0 (.hoist 1 (.hoist 2 (.hoist 3 (.hoist 4 (.hoist 5 (.alt 6 [4,3,2,1,0] (.alt 7 [0] (.hoist 8 (.hoist 9 (.alt 10 [] .done .stop))) .stop) .stop))))))) aB (by kernel_rfl) (by kernel_rfl) ?_;simp only[go_sem];refine⟨j5 (by have h0:=hy.mn;dsimp only at h0;omega) (by decide),?_⟩;have cN:Res ts en s (gz d (bM bH 0 (ts.drop s.i)).1 (bM bH 0 (ts.drop s.i)).2) (d.addM ⟨v,t25,w26,ps29,true,bs32⟩) s32:=(by rw[hM.val];exact jO hM (by unfold gz;rw[af (fun q=>wM q.1),af (by rw[<- aw];exact hc21),af (by rw[<- aw];exact hc23)];exact(aX hR25 (aX hR26 (by rw[af (by rw[<- aw];exact hc27)];exact(by unfold qi;exact(aX hR29 (by rw[af (by rw[<- aw];exact hc30)];exact(aX hR32 (cJ _ hR32.inv))))))))));have fS:=mS cN hs (o4 _ _);have lD:gS m9 ⟨v,t25,w26,ps29,true,bs32⟩ (Mc.cs ⟨v,t25,w26,a29,ps29.length,c29,true,a32,bs32.length,DG⟩):=sY hv ht25 hw26 hb29 ha29 (ax (aa l8 l9) hc29) hd29 hb32.2 ha32 hc32 hd32;exact px (y' :=⟨d.addM ⟨v,t25,w26,ps29,true,bs32⟩,ia,ic,uf,um+1,ui,ms++Mc.cs ⟨v,t25,w26,a29,ps29.length,c29,true,a32,bs32.length,DG⟩,is⟩) (s' :=s32) (by simp only[mH,Cd.addM,aI,aL,bh]<;>rfl) ⟨(aa l1 (aa l2 (aa l3 (aa l4 (aa l5 (aa l6 (aa l7 (aa l8 l9)))))))),⟨rfl,rfl,rfl,rfl,rfl,rfl,by dsimp only;omega,by dsimp only;omega,by dsimp only;omega⟩,(hy.up (aa l1 (aa l2 (aa l3 (aa l4 (aa l5 (aa l6 (aa l7 (aa l8 l9)))))))) (au _)).addM lD rfl (qf fS cN.mono),cN⟩
end
section
variable {P:Program} {cfg:Cfg} {C:Ctx} {n:Nat} {st:LS} {V:Vl} {D:Nat->Nat} {w:World}
theorem SatW.reCells {bx:List Bx} {vc:List Vc} {nid:Nat} {m:Mem} (hW:SatW C bx vc nid m V D w) {k:Nat} {b:Bx} {dH:List SV} (hb:iv bx k=some b) (hd:dH.map (bK V)=b.cs.map (bK V)) (ho:fO nid vc dH):SatW C (kT bx k dH) vc nid m V D w:=by
 have eY:=(uz hb).2;refine⟨⟨fun x hx=> ?_,hW.heap.vc,?_,hW.heap.uniq⟩,hW.wf,hW.frm,?_,hW.baseB,hW.baseV,⟨fun x hx=> ?_,hW.ids.2⟩,hW.le0,hW.m0,hW.mle⟩
 ·rcases Bp hx with hx |⟨b0,h1,h2,rfl⟩
  ·exact hW.heap.bx x hx
  ·have e:b0=b:=by rw[h2] at hb;exact Option.some.inj hb
   subst e;obtain⟨⟨o,q1,q2⟩,q3⟩:=hW.heap.bx b0 h1;refine⟨⟨o,q1,?_⟩,q3⟩;show ni b0.ty (dH.map (bK V)) o;rw[hd];exact q2
 ·rw[EO (Bq bx)];exact hW.heap.apart
 ·rw[EO (Bq bx)];exact hW.own
 ·rcases Bp hx with hx |⟨b0,h1,h2,rfl⟩
  ·exact hW.ids.1 x hx
  ·exact⟨(hW.ids.1 b0 h1).1,ho⟩
theorem Q8 {nid:Nat} {vc:List Vc} {x:SV} (hx:lS nid vc x):∀{l:List SV} {i:Nat},fO nid vc l->fO nid vc (l.set i x)
 |[],_,h=>h
 |s::r,0,h=>⟨hx,h.2⟩
 |s::r,i+1,h=>⟨h.1,Q8 hx (i:=i) h.2⟩
theorem MR {V:Vl} {k u:Nat} (hv:(V.γ k u).val= .slice none 0 0):∀{cs:List SV} {i:Nat},cs[i]? =some (.v (.slice none 0 0))->(cs.set i (.vec k u)).map (bK V)=cs.map (bK V)
 |c::r,0,h=>by
  have e:c= .v (.slice none 0 0):=by simpa using h
  subst e;show(V.γ k u).val::_=_::_;rw[hv];rfl
 |c::r,i+1,h=>by
  simp only[List.set_cons_succ,bN];rw[MR hv (cs:=r) (i:=i) (by simpa using h)]
theorem Iv {x:Code} {Q:Exit->LS->Prop} (k i:Nat) (b:Bx) (e:TypeId) (sz:Nat) (h0:0<sz) (hb:iv st.bx k=some b) (hc:b.cs[i]? =some (.v (.slice none 0 0)))
  (h:kv (.mk (k:=(P,n,x,Q)) ⟨st.env,st.rho,kT st.bx k (b.cs.set i (.vec st.nid 0)),⟨st.nid,0,e,sz,0,[]⟩::st.vc,st.nid+1,st.m⟩)):kv (.mk (k:=(P,n,x,Q)) st):=by
 rintro C a w ⟨gE,V,D,hS⟩;obtain⟨V',ha,hγ,hW⟩:=hS.w.addVc (w' :=w) (hd:=⟨none,0,0⟩) (e:=e) (sz:=sz) (n:=0) (xs:=[]) rfl rfl rfl (au _) (fun _ _=>rfl) (World.ownsRow_nil w 0 e sz) (fun g hg=>by cases hg) h0 (fun u hu=>by cases hu);have hv:(V'.γ st.nid 0).val= .slice none 0 0:=by rw[hγ];rfl
 have eY:=(uz hb).2;have GR:=hW.reCells hb (MR hv hc) (Q8 (x:= .vec st.nid 0) (show st.nid<st.nid+1/\cD (⟨st.nid,0,e,sz,0,[]⟩::st.vc) st.nid 0 from⟨Nat.lt_succ_self _,by simp [cD]⟩) (hW.ids.1 b eY).2);exact h C a w ⟨gE,V',D,hS.to ha (Nat.le_succ _) (fun k u hk hv=>ud rfl k u hk hv) GR⟩
theorem Fe {a rest:Code} {Q:Exit->LS->Prop} {X:Type} (S:X->LS) (J:X->Prop) (hn:∀x,J x->st.nid<=(S x).nid) (hm:∀x,J x->ae st.m (S x).m) (ar:∀x,pL (S x))
  (h:WP P n a (j9 (fun ak=>∃x,Match ak (S x)/\J x) Q) st) (hr:∀x,J x->WP P n rest Q (S x)):WP P n (.seq a rest) Q st:=by
 rintro C a1 w ⟨gE,V,D,hS⟩;refine wp_seq (wp_mono (h C a1 w ⟨gE,V,D,hS⟩) ?_);rintro e a2 w2 ⟨cA,cu,hq⟩;cases e with
 |normal=>
  obtain⟨x,hM,hx⟩:=hq;obtain⟨_,V2,D2,hS2⟩:=cu;refine hr x hx C a2 w2 ⟨hM.2.1,V2,D2,hS2.weaken hM (ar x) (fun b hb=>eM (hS.w.baseB b hb).2 (hn x hx)) (fun b hb=>eM (hS.w.baseV b hb).2.1 (hn x hx)) ?_⟩;rcases hm x hx with e |h
  ·rw[<- e];exact hS.w.m0
  ·exact Mem.le_trans hS.w.m0 h
 |exit id=>exact⟨cA,cu,hq⟩
 |goto l=>exact⟨cA,cu,hq⟩
 |ret=>exact⟨cA,cu,hq⟩
 |panic ch=>exact⟨cA,cu,hq⟩
 |outgrown=>exact⟨cA,cu,hq⟩
end
@[reducible] def yj (k:Nat):Bx:=⟨k,59,[.v (.int .i64 0),.v (.string (bs [])),.v (.string (bs [])),.v (.slice none 0 0),.v (.slice none 0 0),.v (.slice none 0 0),.v (.slice none 0 0)]⟩
@[reducible] def Vq (v:Int):Bx:=⟨10,59,[.v (.int .i64 v),.v (.string (bs [])),.v (.string (bs [])),.v (.slice none 0 0),.v (.slice none 0 0),.v (.slice none 0 0),.v (.slice none 0 0)]⟩
@[reducible] def Vg (v:Int) (n sp:List UInt8) (is:Value):Bx:=⟨10,59,[.v (.int .i64 v),.v (.string (bs n)),.v (.string (bs sp)),.v is,.v (.slice none 0 0),.v (.slice none 0 0),.v (.slice none 0 0)]⟩
@[reducible] def dB (y:DSt):Bx:=⟨10,59,[.v (.int .i64 y.d.fl),.v (.string (bs y.d.name)),.v (.string (bs y.d.super)),.v (.slice y.ia y.d.ifs.length y.ic),.vec 102 y.uf,.vec 103 y.um,.vec 104 y.ui]⟩
@[reducible] def fV (y:DSt):Vc:=⟨102,y.uf,94,5,y.d.fields.length,flat Fc.cs y.d.fields⟩
@[reducible] def mV (y:DSt):Vc:=⟨103,y.um,98,8,y.d.methods.length,y.ms⟩
@[reducible] def iV (y:DSt):Vc:=⟨104,y.ui,73,23,y.d.init.length,y.is⟩
attribute [go_sem] yj Vq Vg dB fV mV iV
theorem Q6:∀fl:Int,0<=fl->fl<2->bits .or .i64 fl 1536=fl+1536:=fun fl h0 h1=>by
 have h:(List.range 2).all (fun n=>decide (bits .or .i64 (n:Int) 1536=(n:Int)+1536))=true:=by kernel_rfl
 obtain⟨k,rfl⟩:=Int.eq_ofNat_of_zero_le h0;exact of_decide_eq_true (List.all_eq_true.1 h k (List.mem_range.2 (by omega)))
abbrev Cc.svs (x:Cc):List SV:=[.v (.int .i64 x.fl),.v (.string (bs x.name)),.v (.string (bs x.super)),.v (.slice x.ia x.il x.ic),.v (.slice x.fa x.fn x.fc),.v (.slice x.ma x.ml x.mc),.v (.slice x.sa x.sl x.sc)]
attribute [go_sem] Cc.svs
abbrev akX (ts:List Tk) (en:Int) (s:PSt) (K:PR Cd) (m:Mem):SV->Hp->Mem->Prop:=fun r H' m' =>ae m m' /\∃(x:Cc) (d:Cd) (s' :PSt),r= .agg x.svs/\ki m' d x.cs/\H' =pH ts en s' /\Res ts en s K d s'
structure HdR (ts:List Tk) (en:Int) (s:PSt) (m:Mem) (s1:PSt) (v:Int) (nm sp:List UInt8) (is:List (List UInt8)) (ia:Option Addr) (ic:Nat):Prop where
 inv:Inv ts s1
 fl:0<=v/\v<4096
 hn:nm.length<=1000000
 hs:sp.length<=1000000
 il:is.length<=1000001
 ic:is.length<=ic
 ir:aZ m ia is.length 1 (strs is)
 iw:∀w∈is,w.length<=1000000
 res:∀(a:Cd) (s' :PSt),Res ts en s1 (aV [123] (ts.drop s1.i) fun r=> .ok (⟨v,nm,sp,is,[],[],[]⟩,r)) a s' ->Res ts en s (nL (ts.drop s.i)) a s'
section
variable {ts:List Tk} {en:Int} {s:PSt}
theorem YO (hT:TsB ts) (hI:Inv ts s) (m:Mem):FnH Tryz.prog 26 [.box 0 0] (pH ts en s) m (akX ts en s (DE (ts.drop s.i)) m):=by
 have hl:=hT.len;refine ph (ph (ph (S3 Tryz.func26 rfl rfl (dv rfl) ?_ ?_)))
 ·simp only[go_sem]
 ·refine Fe (fun _:Unit=>⟨[⟨0,[],.box 0 0⟩,⟨2,[],.box 2 0⟩],[],[yj 2,mK en s],[kF ts],10,m⟩) (fun _=>True) (fun _ _=>dv rfl) (fun _ _=> .inl rfl) (fun _=> ?_) (qV aB (by kernel_rfl) ?_) fun _ _=> ?_
  ·simp only[go_sem]
  ·simp only[go_sem];exact⟨(),trivial⟩
  ·refine Fe (fun _:Unit=>⟨[⟨0,[],.box 0 0⟩,⟨2,[],.box 2 0⟩,⟨3,[],.box 10 0⟩],[],[yj 10,yj 2,mK en s],[kF ts],20,m⟩) (fun _=>True) (fun _ _=>dv rfl) (fun _ _=> .inl rfl) (fun _=> ?_) (qV aB (by kernel_rfl) ?_) fun _ _=> ?_
   ·simp only[go_sem]
   ·simp only[go_sem];exact⟨(),trivial⟩
   ·refine Fe (fun y:PSt×Int×Mem=>⟨[⟨0,[],.box 0 0⟩,⟨2,[],.box 2 0⟩,⟨3,[],.box 10 0⟩],[],[Vq y.2.1,yj 2,mK en y.1],[kF ts],40,y.2.2⟩) (fun y=>ae m y.2.2/\(0<=y.2.1/\y.2.1<2)/\ModR ts iI 0 s y.2.1 y.1) (fun _ _=>dv rfl) (fun y hy=>hy.1) (fun _=> ?_) (qV aB (by kernel_rfl) ?_) ?_
    ·simp only[go_sem]
    ·by_cases hc:bu ts s.i Ai=true
     ·have ha:=dO (en:=en) hT hc;have hi:=bC hc;simp only[go_sem];refine ab ((ha m).mono ?_);clear ha;rintro r H' m1 aN ⟨l1,rfl,rfl⟩;simp only[go_sem];exact⟨(s.next,1,m1),⟨⟨rfl,⟨rfl,rfl,rfl⟩⟩,.inl rfl⟩,l1,⟨(by decide:(0:Int)<=1),(by decide:(1:Int)<2)⟩,⟨hI.next hi,Nat.le_succ _,rfl,fun h=>(by rw[hI.nfl hi] at h;cases h),by rw[iI,gf,ah (by rw[<- aw];exact hc),<- b7];rfl⟩⟩
     ·have ha:=dP (en:=en) hT hc;simp only[go_sem];refine ab ((ha m).mono ?_);clear ha;rintro r H' m1 aN ⟨l1,rfl,rfl⟩;simp only[go_sem];exact⟨(s,0,m1),⟨⟨rfl,⟨rfl,rfl,rfl⟩⟩,.inl rfl⟩,l1,⟨(by decide:(0:Int)<=0),(by decide:(0:Int)<2)⟩,⟨hI,au _,rfl,fun _=>rfl,by rw[iI,gf,af (by rw[<- aw];exact hc)];rfl⟩⟩
    ·rintro⟨s1,v,m1⟩ ⟨q1,⟨q2,q3⟩,hM⟩;dsimp only at q1 q2 q3 hM;refine Fe (fun y:PSt×Int×List UInt8×List UInt8×List (List UInt8)×Option Addr×Nat×Mem=>⟨[⟨0,[],.box 0 0⟩,⟨2,[],.box 2 0⟩,⟨3,[],.box 10 0⟩],[],[Vg y.2.1 y.2.2.1 y.2.2.2.1 (.slice y.2.2.2.2.2.1 y.2.2.2.2.1.length y.2.2.2.2.2.2.1),yj 2,mK en y.1],[kF ts],100,y.2.2.2.2.2.2.2⟩)
      (fun y=>ae m1 y.2.2.2.2.2.2.2/\HdR ts en s y.2.2.2.2.2.2.2 y.1 y.2.1 y.2.2.1 y.2.2.2.1 y.2.2.2.2.1 y.2.2.2.2.2.1 y.2.2.2.2.2.2.1) (fun _ _=>dv rfl) (fun y hy=>hy.1) (fun _=> ?_) (qV aB (by kernel_rfl) ?_) ?_
     ·simp only[go_sem]
     ·simp only[go_sem];have fh:=Th v q2 (by omega);have o1:=Jb v q2 (by omega);have o2:=Jb (v+16) (by omega) (by omega);have o3:=Q6 v q2 q3;by_cases lP:bu ts (s1).i wm=true
      ·have kG:=fun m' =>dO (en:=en) hT lP m'
       refine ab ((kG m1).mono ?_);clear kG;rintro r H' m2 aH ⟨l2,rfl,rfl⟩;simp only[go_sem,fh,o1,o2,o3];have aj6:=hM.inv.next (bC lP);have an9:(s1).next.i=(s1).i+1:=rfl;try rw[Q6 v q2 q3]
       have oR:=fun m' =>oZ ts en (s1).next m' hT aj6
       refine ab ((oR m2).mono ?_);clear oR;rintro r H' m3 bI ⟨l3,AB,tG,rfl,tC,rfl,hR12⟩;simp only[go_sem,fh,o1,o2,o3];have an8:=hR12.mono;by_cases xZ:bu ts (tG).i ga=true
       ·have qC:=fun m' =>dO (en:=en) hT xZ m'
        refine ab ((qC m3).mono ?_);clear qC;rintro r H' m4 cT ⟨l4,rfl,rfl⟩;simp only[go_sem,fh,o1,o2,o3];have aj5:=hR12.inv.next (bC xZ);have an6:(tG).next.i=(tG).i+1:=rfl;have mJ:=fun m' =>AW (s:=(tG).next) (en:=en) hT aj5 m'
        refine ab ((mJ m4).mono ?_);clear mJ;rintro r H' m5 cO ⟨l5,l1015,Mw,yI,s15,rfl,ha15,hb15,Uc,hd15,rfl,hR15⟩;simp only[go_sem,fh,o1,o2,o3];have TH:=hR15.mono;exact⟨(s15,v+1536,AB,lv,l1015,Mw,yI,m5),⟨⟨⟨rfl,rfl,rfl,rfl⟩,⟨rfl,rfl,rfl⟩⟩,.inl rfl⟩,(aa l2 (aa l3 (aa l4 l5))),⟨hR15.inv,(by constructor<;>omega:(0:Int)<=v+1536/\v+1536<4096),tC,(by decide:lv.length<=1000000),hb15,ha15,Uc,hd15,fun a s' h=>(by unfold nL;rw[hM.val];exact jO hM (by dsimp only;rw[ah (by rw[<- aw];exact lP),<- b7];exact ct hM.inv (bC lP) (aX hR12 (aX (show Res ts en (tG) (jI ga (ts.drop (tG).i)) l1015 s15 from by unfold jI;rw[ah (by rw[<- aw];exact xZ),<- b7];exact ct hR12.inv (bC xZ) hR15) h))))⟩⟩
       ·have qC:=fun m' =>dP (en:=en) hT xZ m'
        refine ab ((qC m3).mono ?_);clear qC;rintro r H' m4 cT ⟨l4,rfl,rfl⟩;simp only[go_sem,fh,o1,o2,o3];exact⟨(tG,v+1536,AB,lv,[],none,0,m4),⟨⟨⟨rfl,rfl,rfl,rfl⟩,⟨rfl,rfl,rfl⟩⟩,.inl rfl⟩,(aa l2 (aa l3 l4)),⟨hR12.inv,(by constructor<;>omega:(0:Int)<=v+1536/\v+1536<4096),tC,(by decide:lv.length<=1000000),aG _,au _,fH _ _,fun w hw=>(by cases hw),fun a s' h=>(by unfold nL;rw[hM.val];exact jO hM (by dsimp only;rw[ah (by rw[<- aw];exact lP),<- b7];exact ct hM.inv (bC lP) (aX hR12 (aX (show Res ts en (tG) (jI ga (ts.drop (tG).i)) [] (tG) from by unfold jI;rw[af (by rw[<- aw];exact xZ)];exact cJ _ hR12.inv) h))))⟩⟩
      ·have kG:=fun m' =>dP (en:=en) hT lP m'
       refine ab ((kG m1).mono ?_);clear kG;rintro r H' m2 aH ⟨l2,rfl,rfl⟩;simp only[go_sem,fh,o1,o2,o3];by_cases mF:bu ts (s1).i Gm=true
       ·have rV:=fun m' =>dO (en:=en) hT mF m'
        refine ab ((rV m2).mono ?_);clear rV;rintro r H' m3 bI ⟨l3,rfl,rfl⟩;simp only[go_sem,fh,o1,o2,o3];have yf:=hM.inv.next (bC mF);have an7:(s1).next.i=(s1).i+1:=rfl;by_cases kW:bu ts ((s1).next).i CW=true
        ·have mJ:=fun m' =>dO (en:=en) hT kW m'
         refine ab ((mJ m3).mono ?_);clear mJ;rintro r H' m4 cT ⟨l4,rfl,rfl⟩;simp only[go_sem,fh,o1,o2,o3];have u6:=yf.next (bC kW);have TH:((s1).next).next.i=((s1).next).i+1:=rfl;have rU:=fun m' =>fu ts en ((s1).next).next jN m' hT.l8
         have ye:Inv ts (ba ts en ((s1).next).next jN):=fA u6;have Kk:(((s1).next).next).i<=(ba ts en ((s1).next).next jN).i:=gQ u6;refine ab ((rU m4).mono ?_);clear rU;rintro r H' m5 cO ⟨l5,rfl,rfl⟩;simp only[go_sem,fh,o1,o2,o3];have rT:=fun m' =>oZ ts en (ba ts en ((s1).next).next jN) m' hT ye
         refine ab ((rT m5).mono ?_);clear rT;rintro r H' m6 eo ⟨l6,w17,jY,rfl,hw17,rfl,hR17⟩;simp only[go_sem,fh,o1,o2,o3];have Kj:=hR17.mono;have rS:=fun m' =>fu ts en jY ga m' hT.l8
         have yd:Inv ts (ba ts en jY ga):=fA hR17.inv;have Ki:(jY).i<=(ba ts en jY ga).i:=gQ hR17.inv;refine ab ((rS m6).mono ?_);clear rS;rintro r H' m7 ft ⟨l7,rfl,rfl⟩;simp only[go_sem,fh,o1,o2,o3];have rR:=fun m' =>oZ ts en (ba ts en jY ga) m' hT yd
         refine ab ((rR m7).mono ?_);clear rR;rintro r H' m8 ix ⟨l8,w19,eJ,rfl,hw19,rfl,hR19⟩;simp only[go_sem,fh,o1,o2,o3];have Kh:=hR19.mono;by_cases hc20:bu ts (eJ).i kj=true
         ·have iZ:=fun m' =>dO (en:=en) hT hc20 m'
          refine ab ((iZ m8).mono ?_);clear iZ;rintro r H' m9 kJ ⟨l9,rfl,rfl⟩;simp only[go_sem,fh,o1,o2,o3];have yc:=hR19.inv.next (bC hc20);have FO:(eJ).next.i=(eJ).i+1:=rfl;have j0:=fun m' =>AW (s:=(eJ).next) (en:=en) hT yc m'
          refine ab ((j0 m9).mono ?_);clear j0;rintro r H' m10 rH ⟨l10,l1022,a22,sF,s22,rfl,ha22,hb22,hc22,hd22,rfl,hR22⟩;simp only[go_sem,fh,o1,o2,o3];have Cz:=hR22.mono;exact⟨(s22,v+16+1024,w17,w19,l1022,a22,sF,m10),⟨⟨⟨rfl,rfl,rfl,rfl⟩,⟨rfl,rfl,rfl⟩⟩,.inl rfl⟩,(aa l2 (aa l3 (aa l4 (aa l5 (aa l6 (aa l7 (aa l8 (aa l9 l10)))))))),⟨hR22.inv,(by constructor<;>omega:(0:Int)<=v+16+1024/\v+16+1024<4096),hw17,hw19,hb22,ha22,hc22,hd22,fun a s' h=>(by unfold nL;rw[hM.val];exact jO hM (by dsimp only;rw[af (by rw[<- aw];exact lP),show bM j1 v (ts.drop s1.i)=(v+16+1024,ts.drop (((s1).next).next).i) from by rw[j1,gf,ah (by rw[<- aw];exact mF),<- b7,gf,ah (by rw[<- aw];exact kW),<- b7];rfl];exact(ct hM.inv (bC mF) (ct yf (bC kW) (dX u6 (aX hR17 (dX hR17.inv (aX hR19 (aX (show Res ts en (eJ) (jI kj (ts.drop (eJ).i)) l1022 s22 from by unfold jI;rw[ah (by rw[<- aw];exact hc20),<- b7];exact ct hR19.inv (bC hc20) hR22) h)))))))))⟩⟩
         ·have iZ:=fun m' =>dP (en:=en) hT hc20 m'
          refine ab ((iZ m8).mono ?_);clear iZ;rintro r H' m9 kJ ⟨l9,rfl,rfl⟩;simp only[go_sem,fh,o1,o2,o3];exact⟨(eJ,v+16+1024,w17,w19,[],none,0,m9),⟨⟨⟨rfl,rfl,rfl,rfl⟩,⟨rfl,rfl,rfl⟩⟩,.inl rfl⟩,(aa l2 (aa l3 (aa l4 (aa l5 (aa l6 (aa l7 (aa l8 l9))))))),⟨hR19.inv,(by constructor<;>omega:(0:Int)<=v+16+1024/\v+16+1024<4096),hw17,hw19,aG _,au _,fH _ _,fun w hw=>(by cases hw),fun a s' h=>(by unfold nL;rw[hM.val];exact jO hM (by dsimp only;rw[af (by rw[<- aw];exact lP),show bM j1 v (ts.drop s1.i)=(v+16+1024,ts.drop (((s1).next).next).i) from by rw[j1,gf,ah (by rw[<- aw];exact mF),<- b7,gf,ah (by rw[<- aw];exact kW),<- b7];rfl];exact(ct hM.inv (bC mF) (ct yf (bC kW) (dX u6 (aX hR17 (dX hR17.inv (aX hR19 (aX (show Res ts en (eJ) (jI kj (ts.drop (eJ).i)) [] (eJ) from by unfold jI;rw[af (by rw[<- aw];exact hc20)];exact cJ _ hR19.inv) h)))))))))⟩⟩
        ·have mJ:=fun m' =>dP (en:=en) hT kW m'
         refine ab ((mJ m3).mono ?_);clear mJ;rintro r H' m4 cT ⟨l4,rfl,rfl⟩;simp only[go_sem,fh,o1,o2,o3];have rU:=fun m' =>fu ts en (s1).next jN m' hT.l8
         have ye:Inv ts (ba ts en (s1).next jN):=fA yf;have Kk:((s1).next).i<=(ba ts en (s1).next jN).i:=gQ yf;refine ab ((rU m4).mono ?_);clear rU;rintro r H' m5 cO ⟨l5,rfl,rfl⟩;simp only[go_sem,fh,o1,o2,o3];have rT:=fun m' =>oZ ts en (ba ts en (s1).next jN) m' hT ye
         refine ab ((rT m5).mono ?_);clear rT;rintro r H' m6 eo ⟨l6,w17,jY,rfl,hw17,rfl,hR17⟩;simp only[go_sem,fh,o1,o2,o3];have Kj:=hR17.mono;have rS:=fun m' =>fu ts en jY ga m' hT.l8
         have yd:Inv ts (ba ts en jY ga):=fA hR17.inv;have Ki:(jY).i<=(ba ts en jY ga).i:=gQ hR17.inv;refine ab ((rS m6).mono ?_);clear rS;rintro r H' m7 ft ⟨l7,rfl,rfl⟩;simp only[go_sem,fh,o1,o2,o3];have rR:=fun m' =>oZ ts en (ba ts en jY ga) m' hT yd
         refine ab ((rR m7).mono ?_);clear rR;rintro r H' m8 ix ⟨l8,w19,eJ,rfl,hw19,rfl,hR19⟩;simp only[go_sem,fh,o1,o2,o3];have Kh:=hR19.mono;by_cases hc20:bu ts (eJ).i kj=true
         ·have iZ:=fun m' =>dO (en:=en) hT hc20 m'
          refine ab ((iZ m8).mono ?_);clear iZ;rintro r H' m9 kJ ⟨l9,rfl,rfl⟩;simp only[go_sem,fh,o1,o2,o3];have yc:=hR19.inv.next (bC hc20);have FO:(eJ).next.i=(eJ).i+1:=rfl;have j0:=fun m' =>AW (s:=(eJ).next) (en:=en) hT yc m'
          refine ab ((j0 m9).mono ?_);clear j0;rintro r H' m10 rH ⟨l10,l1022,a22,sF,s22,rfl,ha22,hb22,hc22,hd22,rfl,hR22⟩;simp only[go_sem,fh,o1,o2,o3];have Cz:=hR22.mono;exact⟨(s22,v+16,w17,w19,l1022,a22,sF,m10),⟨⟨⟨rfl,rfl,rfl,rfl⟩,⟨rfl,rfl,rfl⟩⟩,.inl rfl⟩,(aa l2 (aa l3 (aa l4 (aa l5 (aa l6 (aa l7 (aa l8 (aa l9 l10)))))))),⟨hR22.inv,(by constructor<;>omega:(0:Int)<=v+16/\v+16<4096),hw17,hw19,hb22,ha22,hc22,hd22,fun a s' h=>(by unfold nL;rw[hM.val];exact jO hM (by dsimp only;rw[af (by rw[<- aw];exact lP),show bM j1 v (ts.drop s1.i)=(v+16,ts.drop ((s1).next).i) from by rw[j1,gf,ah (by rw[<- aw];exact mF),<- b7,gf,af (by rw[<- aw];exact kW)];rfl];exact(ct hM.inv (bC mF) (dX yf (aX hR17 (dX hR17.inv (aX hR19 (aX (show Res ts en (eJ) (jI kj (ts.drop (eJ).i)) l1022 s22 from by unfold jI;rw[ah (by rw[<- aw];exact hc20),<- b7];exact ct hR19.inv (bC hc20) hR22) h))))))))⟩⟩
         ·have iZ:=fun m' =>dP (en:=en) hT hc20 m'
          refine ab ((iZ m8).mono ?_);clear iZ;rintro r H' m9 kJ ⟨l9,rfl,rfl⟩;simp only[go_sem,fh,o1,o2,o3];exact⟨(eJ,v+16,w17,w19,[],none,0,m9),⟨⟨⟨rfl,rfl,rfl,rfl⟩,⟨rfl,rfl,rfl⟩⟩,.inl rfl⟩,(aa l2 (aa l3 (aa l4 (aa l5 (aa l6 (aa l7 (aa l8 l9))))))),⟨hR19.inv,(by constructor<;>omega:(0:Int)<=v+16/\v+16<4096),hw17,hw19,aG _,au _,fH _ _,fun w hw=>(by cases hw),fun a s' h=>(by unfold nL;rw[hM.val];exact jO hM (by dsimp only;rw[af (by rw[<- aw];exact lP),show bM j1 v (ts.drop s1.i)=(v+16,ts.drop ((s1).next).i) from by rw[j1,gf,ah (by rw[<- aw];exact mF),<- b7,gf,af (by rw[<- aw];exact kW)];rfl];exact(ct hM.inv (bC mF) (dX yf (aX hR17 (dX hR17.inv (aX hR19 (aX (show Res ts en (eJ) (jI kj (ts.drop (eJ).i)) [] (eJ) from by unfold jI;rw[af (by rw[<- aw];exact hc20)];exact cJ _ hR19.inv) h))))))))⟩⟩
       ·have rV:=fun m' =>dP (en:=en) hT mF m'
        refine ab ((rV m2).mono ?_);clear rV;rintro r H' m3 bI ⟨l3,rfl,rfl⟩;simp only[go_sem,fh,o1,o2,o3];by_cases kW:bu ts (s1).i CW=true
        ·have mJ:=fun m' =>dO (en:=en) hT kW m'
         refine ab ((mJ m3).mono ?_);clear mJ;rintro r H' m4 cT ⟨l4,rfl,rfl⟩;simp only[go_sem,fh,o1,o2,o3];have u6:=hM.inv.next (bC kW);have TH:(s1).next.i=(s1).i+1:=rfl;have rU:=fun m' =>fu ts en (s1).next jN m' hT.l8
         have ye:Inv ts (ba ts en (s1).next jN):=fA u6;have Kk:((s1).next).i<=(ba ts en (s1).next jN).i:=gQ u6;refine ab ((rU m4).mono ?_);clear rU;rintro r H' m5 cO ⟨l5,rfl,rfl⟩;simp only[go_sem,fh,o1,o2,o3];have rT:=fun m' =>oZ ts en (ba ts en (s1).next jN) m' hT ye
         refine ab ((rT m5).mono ?_);clear rT;rintro r H' m6 eo ⟨l6,w17,jY,rfl,hw17,rfl,hR17⟩;simp only[go_sem,fh,o1,o2,o3];have Kj:=hR17.mono;have rS:=fun m' =>fu ts en jY ga m' hT.l8
         have yd:Inv ts (ba ts en jY ga):=fA hR17.inv;have Ki:(jY).i<=(ba ts en jY ga).i:=gQ hR17.inv;refine ab ((rS m6).mono ?_);clear rS;rintro r H' m7 ft ⟨l7,rfl,rfl⟩;simp only[go_sem,fh,o1,o2,o3];have rR:=fun m' =>oZ ts en (ba ts en jY ga) m' hT yd
         refine ab ((rR m7).mono ?_);clear rR;rintro r H' m8 ix ⟨l8,w19,eJ,rfl,hw19,rfl,hR19⟩;simp only[go_sem,fh,o1,o2,o3];have Kh:=hR19.mono;by_cases hc20:bu ts (eJ).i kj=true
         ·have iZ:=fun m' =>dO (en:=en) hT hc20 m'
          refine ab ((iZ m8).mono ?_);clear iZ;rintro r H' m9 kJ ⟨l9,rfl,rfl⟩;simp only[go_sem,fh,o1,o2,o3];have yc:=hR19.inv.next (bC hc20);have FO:(eJ).next.i=(eJ).i+1:=rfl;have j0:=fun m' =>AW (s:=(eJ).next) (en:=en) hT yc m'
          refine ab ((j0 m9).mono ?_);clear j0;rintro r H' m10 rH ⟨l10,l1022,a22,sF,s22,rfl,ha22,hb22,hc22,hd22,rfl,hR22⟩;simp only[go_sem,fh,o1,o2,o3];have Cz:=hR22.mono;exact⟨(s22,v+1024,w17,w19,l1022,a22,sF,m10),⟨⟨⟨rfl,rfl,rfl,rfl⟩,⟨rfl,rfl,rfl⟩⟩,.inl rfl⟩,(aa l2 (aa l3 (aa l4 (aa l5 (aa l6 (aa l7 (aa l8 (aa l9 l10)))))))),⟨hR22.inv,(by constructor<;>omega:(0:Int)<=v+1024/\v+1024<4096),hw17,hw19,hb22,ha22,hc22,hd22,fun a s' h=>(by unfold nL;rw[hM.val];exact jO hM (by dsimp only;rw[af (by rw[<- aw];exact lP),show bM j1 v (ts.drop s1.i)=(v+1024,ts.drop ((s1).next).i) from by rw[j1,gf,af (by rw[<- aw];exact mF),gf,ah (by rw[<- aw];exact kW),<- b7];rfl];exact(ct hM.inv (bC kW) (dX u6 (aX hR17 (dX hR17.inv (aX hR19 (aX (show Res ts en (eJ) (jI kj (ts.drop (eJ).i)) l1022 s22 from by unfold jI;rw[ah (by rw[<- aw];exact hc20),<- b7];exact ct hR19.inv (bC hc20) hR22) h))))))))⟩⟩
         ·have iZ:=fun m' =>dP (en:=en) hT hc20 m'
          refine ab ((iZ m8).mono ?_);clear iZ;rintro r H' m9 kJ ⟨l9,rfl,rfl⟩;simp only[go_sem,fh,o1,o2,o3];exact⟨(eJ,v+1024,w17,w19,[],none,0,m9),⟨⟨⟨rfl,rfl,rfl,rfl⟩,⟨rfl,rfl,rfl⟩⟩,.inl rfl⟩,(aa l2 (aa l3 (aa l4 (aa l5 (aa l6 (aa l7 (aa l8 l9))))))),⟨hR19.inv,(by constructor<;>omega:(0:Int)<=v+1024/\v+1024<4096),hw17,hw19,aG _,au _,fH _ _,fun w hw=>(by cases hw),fun a s' h=>(by unfold nL;rw[hM.val];exact jO hM (by dsimp only;rw[af (by rw[<- aw];exact lP),show bM j1 v (ts.drop s1.i)=(v+1024,ts.drop ((s1).next).i) from by rw[j1,gf,af (by rw[<- aw];exact mF),gf,ah (by rw[<- aw];exact kW),<- b7];rfl];exact(ct hM.inv (bC kW) (dX u6 (aX hR17 (dX hR17.inv (aX hR19 (aX (show Res ts en (eJ) (jI kj (ts.drop (eJ).i)) [] (eJ) from by unfold jI;rw[af (by rw[<- aw];exact hc20)];exact cJ _ hR19.inv) h))))))))⟩⟩
        ·have mJ:=fun m' =>dP (en:=en) hT kW m'
         refine ab ((mJ m3).mono ?_);clear mJ;rintro r H' m4 cT ⟨l4,rfl,rfl⟩;simp only[go_sem,fh,o1,o2,o3];have rU:=fun m' =>fu ts en s1 jN m' hT.l8
         have ye:Inv ts (ba ts en s1 jN):=fA hM.inv;have Kk:(s1).i<=(ba ts en s1 jN).i:=gQ hM.inv;refine ab ((rU m4).mono ?_);clear rU;rintro r H' m5 cO ⟨l5,rfl,rfl⟩;simp only[go_sem,fh,o1,o2,o3];have rT:=fun m' =>oZ ts en (ba ts en s1 jN) m' hT ye
         refine ab ((rT m5).mono ?_);clear rT;rintro r H' m6 eo ⟨l6,w17,jY,rfl,hw17,rfl,hR17⟩;simp only[go_sem,fh,o1,o2,o3];have Kj:=hR17.mono;have rS:=fun m' =>fu ts en jY ga m' hT.l8
         have yd:Inv ts (ba ts en jY ga):=fA hR17.inv;have Ki:(jY).i<=(ba ts en jY ga).i:=gQ hR17.inv;refine ab ((rS m6).mono ?_);clear rS;rintro r H' m7 ft ⟨l7,rfl,rfl⟩;simp only[go_sem,fh,o1,o2,o3];have rR:=fun m' =>oZ ts en (ba ts en jY ga) m' hT yd
         refine ab ((rR m7).mono ?_);clear rR;rintro r H' m8 ix ⟨l8,w19,eJ,rfl,hw19,rfl,hR19⟩;simp only[go_sem,fh,o1,o2,o3];have Kh:=hR19.mono;by_cases hc20:bu ts (eJ).i kj=true
         ·have iZ:=fun m' =>dO (en:=en) hT hc20 m'
          refine ab ((iZ m8).mono ?_);clear iZ;rintro r H' m9 kJ ⟨l9,rfl,rfl⟩;simp only[go_sem,fh,o1,o2,o3];have yc:=hR19.inv.next (bC hc20);have FO:(eJ).next.i=(eJ).i+1:=rfl;have j0:=fun m' =>AW (s:=(eJ).next) (en:=en) hT yc m'
          refine ab ((j0 m9).mono ?_);clear j0;rintro r H' m10 rH ⟨l10,l1022,a22,sF,s22,rfl,ha22,hb22,hc22,hd22,rfl,hR22⟩;simp only[go_sem,fh,o1,o2,o3];have Cz:=hR22.mono;exact⟨(s22,v,w17,w19,l1022,a22,sF,m10),⟨⟨⟨rfl,rfl,rfl,rfl⟩,⟨rfl,rfl,rfl⟩⟩,.inl rfl⟩,(aa l2 (aa l3 (aa l4 (aa l5 (aa l6 (aa l7 (aa l8 (aa l9 l10)))))))),⟨hR22.inv,(by constructor<;>omega:(0:Int)<=v/\v<4096),hw17,hw19,hb22,ha22,hc22,hd22,fun a s' h=>(by unfold nL;rw[hM.val];exact jO hM (by dsimp only;rw[af (by rw[<- aw];exact lP),show bM j1 v (ts.drop s1.i)=(v,ts.drop (s1).i) from by rw[j1,gf,af (by rw[<- aw];exact mF),gf,af (by rw[<- aw];exact kW)];rfl];exact(dX hM.inv (aX hR17 (dX hR17.inv (aX hR19 (aX (show Res ts en (eJ) (jI kj (ts.drop (eJ).i)) l1022 s22 from by unfold jI;rw[ah (by rw[<- aw];exact hc20),<- b7];exact ct hR19.inv (bC hc20) hR22) h)))))))⟩⟩
         ·have iZ:=fun m' =>dP (en:=en) hT hc20 m'
          refine ab ((iZ m8).mono ?_);clear iZ;rintro r H' m9 kJ ⟨l9,rfl,rfl⟩;simp only[go_sem,fh,o1,o2,o3];exact⟨(eJ,v,w17,w19,[],none,0,m9),⟨⟨⟨rfl,rfl,rfl,rfl⟩,⟨rfl,rfl,rfl⟩⟩,.inl rfl⟩,(aa l2 (aa l3 (aa l4 (aa l5 (aa l6 (aa l7 (aa l8 l9))))))),⟨hR19.inv,(by constructor<;>omega:(0:Int)<=v/\v<4096),hw17,hw19,aG _,au _,fH _ _,fun w hw=>(by cases hw),fun a s' h=>(by unfold nL;rw[hM.val];exact jO hM (by dsimp only;rw[af (by rw[<- aw];exact lP),show bM j1 v (ts.drop s1.i)=(v,ts.drop (s1).i) from by rw[j1,gf,af (by rw[<- aw];exact mF),gf,af (by rw[<- aw];exact kW)];rfl];exact(dX hM.inv (aX hR17 (dX hR17.inv (aX hR19 (aX (show Res ts en (eJ) (jI kj (ts.drop (eJ).i)) [] (eJ) from by unfold jI;rw[af (by rw[<- aw];exact hc20)];exact cJ _ hR19.inv) h)))))))⟩⟩
     ·rintro⟨s2,v2,nm,sp,is,ia,ic,m2⟩ ⟨g1,hH⟩;dsimp only at g1 hH;have hE:=fun m' =>fu ts en s2 [123] m' hT.l8
      have Va:Inv ts (ba ts en s2 [123]):=fA hH.inv;have hRH:Res ts en s (nL (ts.drop s.i)) ⟨v2,nm,sp,is,[],[],[]⟩ (ba ts en s2 [123]):=hH.res _ _ (dX hH.inv (cJ _ Va));refine qV aB (by kernel_rfl) ?_;simp only[go_sem];refine ab ((hE m2).mono ?_);clear hE;rintro r H' m3 bI ⟨l3,rfl,rfl⟩;simp only[go_sem];refine Iv 10 4 _ 94 5 (by decide) rfl rfl ?_;refine Iv 10 5 _ 98 8 (by decide) rfl rfl ?_;refine Iv 10 6 _ 73 23 (by decide) rfl rfl ?_;refine du aB (fun y:PSt×DSt×Mem=>⟨[⟨0,[],.box 0 0⟩,⟨2,[],.box 2 0⟩,⟨3,[],.box 10 0⟩],[],[dB y.2.1,mK en y.1,yj 2],[fV y.2.1,mV y.2.1,iV y.2.1,kF ts],200,y.2.2⟩)
       (fun y=>ae m3 y.2.2/\Inv ts y.1/\Same ⟨⟨v2,nm,sp,is,[],[],[]⟩,ia,ic,0,0,0,[],[]⟩ y.2.1/\DOk y.2.2 y.2.1 (y.1.i+(if y.1.fl=true then 1 else 0))/\∀a s',Res ts en y.1 (Cp y.2.1.d (ts.drop y.1.i)) a s' ->Res ts en s (DE (ts.drop s.i)) a s')
       (fun y=>if y.1.fl=true then 0 else ts.length - y.1.i+1) (ba ts en s2 [123],⟨⟨v2,nm,sp,is,[],[],[]⟩,ia,ic,0,0,0,[],[]⟩,m3) (fun _ _=>dv rfl) (fun y hy=>hy.1) ?_ ?_ ?_
      ·simp only[go_sem];exact rfl
      ·exact⟨.inl rfl,Va,⟨rfl,rfl,rfl,rfl,rfl,rfl,au _,au _,au _⟩,⟨rfl,trivial,rfl,iQ _ _,fun f hf=>(by cases hf),aG _,aG _,aG _⟩,fun a s' h=>aX hRH h⟩
      ·rintro⟨s4,y,m4⟩ ⟨p1,p2,p3,p4,p5⟩;dsimp only at p1 p2 p3 p4 p5;have dG:=p2.le;have fU:=p4.fn;have hmn:=p4.mn;have gH:=p4.inn;have sE:(if s4.fl=true then 1 else 0)<=1:=by split<;>decide
       by_cases hf:s4.fl=true
       ·simp only[go_sem];refine⟨fun h=>(by rw[hf] at h;cases h),fun _=> ?_⟩;refine rk 4 rfl (b:=fV y) (by simp [eU]) ⟨(pH ts en s4).bx,[mV y,iV y,kF ts]⟩ (List.Sublist.refl _) (.cons _ (List.Sublist.refl _)) fun a1 c1 w1 x1 x2 x3=> ?_
        refine rk 5 rfl (b:=mV y) (by simp [eU]) ⟨(pH ts en s4).bx,[iV y,kF ts]⟩ (List.Sublist.refl _) (.cons _ (List.Sublist.refl _)) fun a2 c2 w2 x4 x5 x6=> ?_
        refine rk 6 rfl (b:=iV y) (by simp [eU]) (pH ts en s4) (List.Sublist.refl _) (.cons _ (List.Sublist.refl _)) fun a3 c3 w3 x7 x8 x9=> ?_
        have hw:ae m4 w3:=aa (.inl rfl:ae m4 m4) (aa (.inr x1) (aa (.inr x4) (.inr x7)));have hy:=p4.up hw (au _);have gm:ae m2 w3:=aa l3 (aa p1 hw);have Dq:CdOk y.d:=⟨by rw[p3.fl];have:=hH.fl;unfold aF;dsimp only;omega,by rw[p3.name];have:=hH.hn;unfold av;dsimp only;omega,by rw[p3.super];have:=hH.hs;unfold av;dsimp only;omega,by rw[p3.ifs];have:=hH.il;unfold av;dsimp only;omega,by rw[p3.ifs];intro w hw;have:=hH.iw w hw;unfold av;omega,by unfold av;omega,hy.fs,by unfold av;omega,by unfold av;omega⟩;exact⟨aa q1 (aa g1 gm),⟨y.d.fl,y.d.name,y.d.super,y.ia,y.d.ifs.length,y.ic,a1,y.d.fields.length,c1,a2,y.d.methods.length,c2,a3,y.d.init.length,c3⟩,y.d,s4,rfl,⟨_,⟨rfl,rfl,rfl,rfl⟩,⟨rfl,by rw[p3.ifs,p3.ic];exact hH.ic,rfl,x2,rfl,x5,rfl,x8⟩,Dq,by rw[p3.ia,p3.ifs];exact ax gm hH.ir,ax (aa (.inr x4) (.inr x7)) x3,_,_,ax (.inr x7) x6,hy.msr,x9,hy.isr⟩,rfl,p5 _ _ (BU y.d p2 hf)⟩
       ·have qI:s4.fl=false:=by simpa using hf
        by_cases h1:bu ts s4.i [125]=true
        ·have ha:=dO (en:=en) hT h1;have hi:=bC h1;have gd:=p2.next hi;simp only[go_sem];refine⟨fun _=>ab ((ha m4).mono ?_),fun h=>by rw[qI] at h;cases h⟩;clear ha;rintro r H' m5 cO ⟨l5,rfl,rfl⟩;simp only[go_sem];refine rk 4 rfl (b:=fV y) (by simp [eU]) ⟨(pH ts en s4.next).bx,[kF ts,mV y,iV y]⟩ (List.Sublist.refl _) (.cons_cons _ (.cons _ (List.Sublist.refl _))) fun a1 c1 w1 x1 x2 x3=> ?_
         refine rk 5 rfl (b:=mV y) (by simp [eU]) ⟨(pH ts en s4.next).bx,[kF ts,iV y]⟩ (List.Sublist.refl _) (.cons_cons _ (.cons _ (List.Sublist.refl _))) fun a2 c2 w2 x4 x5 x6=> ?_
         refine rk 6 rfl (b:=iV y) (by simp [eU]) (pH ts en s4.next) (List.Sublist.refl _) (.cons_cons _ (.cons _ (List.Sublist.refl _))) fun a3 c3 w3 x7 x8 x9=> ?_
         have hw:ae m4 w3:=aa l5 (aa (.inr x1) (aa (.inr x4) (.inr x7)));have hy:=p4.up hw (au _);have gm:ae m2 w3:=aa l3 (aa p1 hw);have Dq:CdOk y.d:=⟨by rw[p3.fl];have:=hH.fl;unfold aF;dsimp only;omega,by rw[p3.name];have:=hH.hn;unfold av;dsimp only;omega,by rw[p3.super];have:=hH.hs;unfold av;dsimp only;omega,by rw[p3.ifs];have:=hH.il;unfold av;dsimp only;omega,by rw[p3.ifs];intro w hw;have:=hH.iw w hw;unfold av;omega,by unfold av;omega,hy.fs,by unfold av;omega,by unfold av;omega⟩;exact⟨aa q1 (aa g1 gm),⟨y.d.fl,y.d.name,y.d.super,y.ia,y.d.ifs.length,y.ic,a1,y.d.fields.length,c1,a2,y.d.methods.length,c2,a3,y.d.init.length,c3⟩,y.d,s4.next,rfl,⟨_,⟨rfl,rfl,rfl,rfl⟩,⟨rfl,by rw[p3.ifs,p3.ic];exact hH.ic,rfl,x2,rfl,x5,rfl,x8⟩,Dq,by rw[p3.ia,p3.ifs];exact ax gm hH.ir,ax (aa (.inr x4) (.inr x7)) x3,_,_,ax (.inr x7) x6,hy.msr,x9,hy.isr⟩,rfl,p5 _ _ (by rw[PT,ah (by rw[<- aw];exact h1),<- b7];exact ct p2 hi (cJ _ gd))⟩
        ·have ha:=dP (en:=en) hT h1;rw[af hf] at p4;have hb:=fun m' h=>Wz (en:=en) hT p2 qI y m' h
         simp only[go_sem];refine⟨fun _=>ab ((ha m4).mono ?_),fun h=>by rw[qI] at h;cases h⟩;clear ha;rintro r H' m5 cO ⟨l5,rfl,rfl⟩;simp only[go_sem];refine ab ((hb m5 (p4.up l5 (au _))).mono ?_);clear hb;rintro r H' m6 eo ⟨l6,y6,s6,rfl,rfl,n8,ar,hR6⟩;have fS:=mS hR6 qI (o4 _ _);have yD:=hR6.inv.le;simp only[go_sem];refine⟨⟨n8.uf,n8.um,n8.ui⟩,(s6,y6,m6),⟨⟨⟨rfl,rfl,rfl,rfl,rfl,rfl,rfl⟩,⟨rfl,rfl,rfl⟩⟩,⟨⟨rfl,rfl,rfl⟩,⟨rfl,rfl,rfl⟩,rfl,rfl,rfl⟩,.inl rfl⟩,⟨aa p1 (aa l5 l6),hR6.inv,⟨n8.ia.trans p3.ia,n8.ic.trans p3.ic,n8.fl.trans p3.fl,n8.name.trans p3.name,n8.super.trans p3.super,n8.ifs.trans p3.ifs,aG _,aG _,aG _⟩,ar,fun a s' h=>p5 a s' ?_⟩,?_⟩
         ·rw[PT,af (by rw[<- aw];exact h1)];exact aX hR6 h
         ·dsimp only;rw[af hf];rcases fS with h |h
          ·rw[ah h];omega
          ·split<;>omega
end
end Go.Proofs.YtimddhkipjedcaaGreatDoor.E
namespace Go.Proofs.YtimddhkipjedcaaGreatDoor.E
open Go Go.RowKit
theorem P1 (s:List UInt8):∀(f p:Nat) (acc:List Tk),acc.length<=5000->(rG s f p acc).1.length<=5000
 |0,p,acc,h=>h
 |f+1,p,acc,h=>by
  simp only[rG];split
  ·exact h
  ·split
   ·exact aG _
   ·split
    ·exact aG _
    ·exact P1 s f _ _ (by rw[aI,iB];omega)
theorem xo (s:List UInt8):(aU s).1.length<=5000:=by
 unfold aU;split
 ·exact aG _
 ·exact P1 s _ _ _ (aG _)
theorem IM (s:List UInt8):∀(f gY pos:Nat),∀t∈(jH f gY pos (s.drop pos)).1,∃q:Nat,t.at_=q/\pos<=q/\q<s.length/\∃len,gT (s.drop q)=some (t.k,t.s,t.n,len)
 |0,_,_,t,h=>by cases h
 |f+1,gY,pos,t,h=>by
  simp only[jH] at h;split at h
  ·cases h
  ·rename_i cQ;split at h
   ·cases h
   ·split at h
    ·cases h
    ·rename_i k tt n len ht;have hl:=O2 ht;rw[List.drop_drop] at ht;rw[dI,dI] at hl;unfold qo at h;split at h
     ·rcases List.mem_cons.1 h with rfl |h
      ·exact⟨pos+dV false (s.drop pos),rfl,by omega,by omega,len,ht⟩
      ·rw[List.drop_drop,<- Nat.add_assoc] at h;obtain⟨q,e1,e2,e3,e4⟩:=IM s f _ _ t h;exact⟨q,e1,by omega,e3,e4⟩
     ·cases h
def grow:Int->List Tk->Prop
 |_,[]=>True
 |b,t::r=>b<=t.at_/\grow (t.at_+1) r
theorem ad8 {l:List UInt8} (cQ:l.take (dN l)≠[]) (h:(gL l).2.2.2=true):∃v:Nat,(gL l).2.1=v/\v<=9223372036854775807/\((gL l).1=false->v<=2147483647):=by
 have hp:=Nv cQ (RO l);simp only[gL,aD,bt,decide_eq_false_iff_not] at h ⊢;cases hr:pj 0 (l.take (dN l)) with
 |none=>rw[hr] at hp;rw[hp] at h;exact absurd h.1.1 Bool.false_ne_true
 |some v=>
  rw[hr] at hp;obtain⟨hp,hv⟩:=hp;rw[hp] at h ⊢;refine⟨v,rfl,hv,fun hb=> ?_⟩;have:=h.1.2;rw[af hb] at this;have this:(v:Int)<=2147483647:=this;omega
theorem NT {l:List UInt8} {k:Int} {s:List UInt8} {n:Int} {len:Nat} (h:gT l=some (k,s,n,len)) (q:Int):ff ⟨k,s,n,q⟩≠none/\s.length<=1024/\aF n:=by
 cases l with
 |nil=>cases h
 |cons c r=>
  simp only[gT] at h;split at h
  ·split at h
   ·rename_i hn;simp only[dT,Prod.mk.injEq] at h;obtain⟨rfl,rfl,rfl,_⟩:=h;have hl:(gr (c::r)).length<=64:=by unfold fJ at hn;exact of_decide_eq_true (Bool.and_eq_true_iff.1 hn).1
    refine⟨?_,by omega,by unfold aF;omega⟩;cases hk:gw.contains (gr (c::r)) with
    |true=>have hm:=List.contains_iff_mem.1 hk;simp [ff,hm]
    |false=>
     have hm:¬gr (c::r)∈gw:=fun h=>by rw[List.contains_iff_mem.2 h] at hk;cases hk
     simp [ff,hm,hn]
   ·cases h
  ·split at h
   ·rename_i hd;split at h
    ·rename_i hn;simp only[dT,Prod.mk.injEq] at h;obtain⟨rfl,rfl,rfl,_⟩:=h;have cQ:(c::r).take (dN (c::r))≠[]:=by
      simp only[dN];rw[ah hd,Nat.add_comm,List.take_succ_cons];exact List.cons_ne_nil _ _
     obtain⟨v,e1,e2,e3⟩:=ad8 cQ hn;rw[e1];refine⟨?_,aG _,by unfold aF;omega⟩;cases hB:(gL (c::r)).1 with
     |true=>simp [ff]
     |false=>have:=e3 hB;simp [ff];omega
    ·cases h
   ·split at h
    ·split at h
     ·split at h
      ·rename_i hb;simp only[dT,Prod.mk.injEq] at h;obtain⟨rfl,rfl,rfl,_⟩:=h;exact⟨by simp [ff,hb],hb,by unfold aF;omega⟩
      ·cases h
     ·cases h
    ·obtain⟨o,ho,e⟩:=Option.map_eq_some_iff.1 h;simp only[Prod.mk.injEq] at e;obtain⟨rfl,rfl,rfl,_⟩:=e;have hm:=List.mem_of_find?_eq_some ho;have h1:∀o∈je,o.length<=3:=by decide
     have:=h1 _ hm;exact⟨by simp [ff,hm],by omega,by unfold aF;omega⟩
theorem ach:∀s∈gw,∀c∈s,c≠47:=by decide
theorem Zt {l:List UInt8} {k:Int} {s:List UInt8} {n:Int} {len:Nat} (h:gT l=some (k,s,n,len)) (hk:k=6\/k=2):∃r,l=s++r:=by
 cases l with
 |nil=>cases h
 |cons c r=>
  simp only[gT] at h;split at h
  ·split at h
   ·simp only[dT,Prod.mk.injEq] at h;obtain⟨rfl,rfl,rfl,_⟩:=h;cases hkw:gw.contains (gr (c::r)) with
    |false=>rw[hkw] at hk;simp at hk
    |true=>
     have hm:=ach _ (List.contains_iff_mem.1 hkw);have he:=SM (c::r);have ht:tz ((c::r).length+1) ((c::r).drop (cE true (c::r)))=[]:=by
      simp only[tz];split
      ·rename_i hc;exfalso;refine hm 47 ?_ rfl;rw[he];simp only[tz];rw[ah hc];exact List.mem_append_right _ (bY ..)
      ·rfl
     rw[ht,List.append_nil] at he;exact⟨(c::r).drop (cE true (c::r)),by rw[he,List.take_append_drop]⟩
   ·cases h
  ·split at h
   ·split at h
    ·simp only[dT,Prod.mk.injEq] at h;obtain⟨rfl,_⟩:=h;split at hk<;>omega
    ·cases h
   ·split at h
    ·split at h
     ·split at h
      ·simp only[dT,Prod.mk.injEq] at h;omega
      ·cases h
     ·cases h
    ·obtain⟨o,ho,e⟩:=Option.map_eq_some_iff.1 h;simp only[Prod.mk.injEq] at e;obtain⟨rfl,rfl,rfl,_⟩:=e;exact D7.1 (List.find?_some ho)
structure TkIn (s:List UInt8) (t:Tk):Prop where
 lo:0<=t.at_
 hi:t.at_<s.length
 fmt:ff t≠none
 ok:qA t
 text:t.k=6\/t.k=2->∃r,s.drop t.at_.toNat=t.s++r
theorem adI {s:List UInt8}:∀t∈(aU s).1,TkIn s t:=by
 intro t ht;by_cases hs:s.length<=20000
 ·rw[AY hs] at ht;obtain⟨q,e,h1,h2,len,h3⟩:=IM s (s.length+1) 0 0 t ht;obtain⟨v1,v2,v3⟩:=NT h3 t.at_;refine⟨by omega,by omega,v1,⟨by omega,v3⟩,fun hk=> ?_⟩;rw[e,Int.toNat_natCast];exact Zt h3 hk
 ·have e:aU s=([],0,8):=ah (by omega);rw[e] at ht;cases ht
theorem P0 (s:List UInt8):∀(f gY pos:Nat),0<=(jH f gY pos (s.drop pos)).2.1/\((jH f gY pos (s.drop pos)).2.2=70->(jH f gY pos (s.drop pos)).2.1<s.length)
 |0,_,_=>⟨by simp [jH],by simp [jH]⟩
 |f+1,gY,pos=>by
  simp only[jH];split
  ·exact⟨by simp,by simp⟩
  ·rename_i cQ;have ay:pos+dV false (s.drop pos)<s.length:=by
    rcases Nat.lt_or_ge (pos+dV false (s.drop pos)) s.length with h |h
    ·exact h
    ·exact absurd (by rw[List.drop_drop];exact List.drop_eq_nil_of_le h) cQ
   split
   ·exact⟨by simp,by simp⟩
   ·split
    ·exact⟨by show(0:Int)<=((pos+dV false (s.drop pos):Nat):Int);omega,fun _=>by show((pos+dV false (s.drop pos):Nat):Int)<s.length;omega⟩
    ·rename_i k t n len ht;have ih:=P0 s f (gY+1) (pos+dV false (s.drop pos)+len);rw[List.drop_drop,<- Nat.add_assoc];unfold qo;split
     ·exact⟨ih.1,fun e=>by simp at e⟩
     ·exact ih
theorem aby (s:List UInt8):0<=(aU s).2.1/\((aU s).2.2=70->(aU s).2.1<s.length)/\((aU s).2.2≠0->(aU s).1=[]):=by
 by_cases hs:s.length<=20000
 ·rw[AY hs];have:=P0 s (s.length+1) 0 0;exact⟨this.1,this.2,(Eg _ _ _ _).2⟩
 ·have e:aU s=([],0,8):=ah (by omega);rw[e];exact⟨by simp,by simp,fun _=>rfl⟩
theorem Xy (ts:List Tk):(∃e,e≠0/\lM ts=([],e))\/∃x,x.length<=20000/\lM ts=(x,0):=by
 unfold lM;split
 ·exact .inl ⟨5,by decide,rfl⟩
 ·split
  ·exact .inl ⟨1,by decide,rfl⟩
  ·split
   ·exact .inl ⟨8,by decide,rfl⟩
   ·exact .inr ⟨_,by omega,rfl⟩
theorem Xw {ts:List Tk}:(lM ts).1.length<=20000:=by
 rcases Xy ts with ⟨e,_,h1⟩ |⟨x,h2,h1⟩
 ·rw[h1];exact aG _
 ·rw[h1];exact h2
theorem R5 (s:List UInt8):∀t∈(aU s).1,t.s.length<=1024/\aF t.n:=by
 intro t ht;by_cases hs:s.length<=20000
 ·rw[AY hs] at ht;obtain⟨q,e,h1,h2,len,h3⟩:=IM s (s.length+1) 0 0 t ht;exact(NT h3 t.at_).2
 ·have e:aU s=([],0,8):=ah (by omega);rw[e] at ht;cases ht
theorem abk {P:Program} {f:FuncId} {args:List SV} {m:Mem} {R R' :SV->Hp->Mem->Prop} (h:FnH P f args ⟨[],[]⟩ m R)
  (hR:∀r H' m',m.le m' ->R r H' m' ->R' r H' m' \/∃(g:SV->SV) (k u:Nat) (el:TypeId) (sz n:Nat) (xs:List Value),H' =⟨[],[⟨k,u,el,sz,n,xs⟩]⟩/\r=g (.vec k u)/\
   (∀V V2:Vl,V.γ k u=V2.γ 0 0->den V (g (.vec k u))=den V2 (g (.vec 0 0)))/\R' (g (.vec 0 0)) ⟨[],[⟨0,0,el,sz,n,xs⟩]⟩ m'):FnH P f args ⟨[],[]⟩ m R' :=by
 intro V w D kI hle hH;refine(h V w D kI hle hH).mono ?_;rintro e w' ⟨r,V',D',H',m',e1,e2,e3,e4,e5,e6,e7,e8,e9,jc,lW⟩;rcases hR r H' m' e9 lW with hr |⟨g,k,u,el,sz,n,xs,rfl,rfl,hg,hr⟩
 ·exact⟨r,V',D',H',m',e1,e2,e3,e4,e5,e6,e7,e8,e9,jc,hr⟩
 ·let V2:Vl:=⟨V'.β,fun a b=>if a=0 then V'.γ k u else V'.γ a b⟩
  have hV:V'.γ k u=V2.γ 0 0:=rfl;have hb:bq V2 ⟨[],[⟨0,0,el,sz,n,xs⟩]⟩=bq V' ⟨[],[⟨k,u,el,sz,n,xs⟩]⟩:=rfl;refine⟨g (.vec 0 0),V2,D',⟨[],[⟨0,0,el,sz,n,xs⟩]⟩,m',by rw[e1,hg V' V2 hV],e2,⟨fun b hb=>(by cases hb),fun b hb=> ?_,by rw[hb];exact e3.apart,by simp⟩,fun b hb=>(by cases hb),fun b hb=>(by cases hb),e6,by rw[hb];exact e7,e8,e9,jc,hr⟩;rw[List.mem_singleton.1 hb];exact e3.vc _ (List.mem_singleton.2 rfl)
theorem aia {f:FuncId} {s:List UInt8} {m:Mem} {x:List Tk×Int×Int} (h:FnH Tryz.prog f [.v (.string (bs s))] ⟨[],[]⟩ m fun r H' m' =>ae m m' /\CX x r H'):
  FnH Tryz.prog f [.v (.string (bs s))] ⟨[],[]⟩ m fun r H' m' =>ae m m' /\((x.2.2=0/\r= .tup [.vec 0 0,.v (.int .i64 x.2.1),.v (.int .i64 x.2.2)]/\H' =⟨[],[⟨0,0,50,4,x.1.length,cv x.1⟩]⟩)\/
   (x.2.2≠0/\x.1=[]/\r= .tup [.v (.slice none 0 0),.v (.int .i64 x.2.1),.v (.int .i64 x.2.2)]/\H' =⟨[],[]⟩)):=by
 refine abk h ?_;rintro r H' m' hm ⟨l1,⟨h0,k,u,rfl,rfl⟩ |⟨h0,h1,rfl,rfl⟩⟩
 ·refine .inr ⟨fun z=> .tup [z,.v (.int .i64 x.2.1),.v (.int .i64 x.2.2)],k,u,_,_,_,_,rfl,rfl,fun V V2 e=> ?_,l1,.inl ⟨h0,rfl,rfl⟩⟩;show Value.tuple ⟨[(V.γ k u).val,_,_]⟩=Value.tuple ⟨[(V2.γ 0 0).val,_,_]⟩;rw[e];rfl
 ·exact .inl ⟨l1,.inr ⟨h0,h1,rfl,rfl⟩⟩
theorem I4 (t:List UInt8):TsB (aU t).1:=⟨cZ (xo t) (by decide),fun x hx=>cZ (R5 t x hx).1 (by decide),fun x hx=>(R5 t x hx).2⟩
section
variable {ts:List Tk} {en:Int} {s:PSt}
theorem If (hT:TsB ts) (m:Mem):FnH Tryz.prog 25 [.box 0 0] (pH ts en s) m fun r H' m' =>m' =m/\r= .v (.bool (decide (s.i<ts.length)))/\H' =pH ts en s:=by
 refine aR aB Tryz.func25 ?_
 ·simp only[go_sem];refine bO (.hoist 0 (.hoist 1 (.hoist 2 (.hoist 3 (.hoist 4 (.hoist 5 (.hoist 6 (.hoist 7 (.hoist 8 (.hoist 9 (.hoist 10 .done))))))))))) aB (by kernel_rfl) (by kernel_rfl) ?_;simp only[go_sem];rw[decide_eq_decide];omega
end
theorem Oc (t:List UInt8) (m:Mem) (ht:t.length<=4611686018427387904) (hk:FnH Tryz.prog 48 [.v (.string (bs t))] ⟨[],[]⟩ m fun r H' m' =>ae m m' /\CX (aU t) r H'):
  FnH Tryz.prog 24 [.v (.string (bs t))] ⟨[],[]⟩ m fun r H' m' =>ae m m' /\(((aU t).2.2≠0/\r= .tup [.v (.pointer none),.v (.int .i64 (aU t).2.1),.v (.int .i64 (aU t).2.2)]/\H' =⟨[],[]⟩)\/
   ((aU t).2.2=0/\r= .tup [.box 1 0,.v (.int .i64 0),.v (.int .i64 0)]/\H' =⟨[⟨1,62,[.vec 0 0,.v (.int .i64 0),.v (.int .i64 t.length),.v (.bool false),.v (.int .i64 0)]⟩],[⟨0,0,50,4,(aU t).1.length,cv (aU t).1⟩]⟩)):=by
 have h1:=aia hk;by_cases h0:(aU t).2.2=0
 ·have h2:=h1.mono (R' :=fun r H' m' =>ae m m' /\r= .tup [.vec 0 0,.v (.int .i64 (aU t).2.1),.v (.int .i64 0)]/\H' =⟨[],[⟨0,0,50,4,(aU t).1.length,cv (aU t).1⟩]⟩) fun r H' m' _ h=>by
   rcases h with ⟨l1,⟨_,h3,h4⟩ |⟨h3,_⟩⟩
   ·rw[h0] at h3;exact⟨l1,h3,h4⟩
   ·exact absurd h0 h3
  clear h1;refine aR aB Tryz.func24 ?_
  ·simp only[go_sem];refine ab (h2.mono ?_);clear h2;rintro r H' m1 aN ⟨l1,rfl,rfl⟩;simp only[go_sem];exact⟨fun h=>absurd trivial h,l1,.inr h0⟩
 ·have h2:=h1.mono (R' :=fun r H' m' =>ae m m' /\r= .tup [.v (.slice none 0 0),.v (.int .i64 (aU t).2.1),.v (.int .i64 (aU t).2.2)]/\H' =⟨[],[]⟩) fun r H' m' _ h=>by
   rcases h with ⟨l1,⟨h3,_⟩ |⟨_,_,h3,h4⟩⟩
   ·exact absurd h3 h0
   ·exact⟨l1,h3,h4⟩
  clear h1;refine aR aB Tryz.func24 ?_
  ·simp only[go_sem];refine ab (h2.mono ?_);clear h2;rintro r H' m1 aN ⟨l1,rfl,rfl⟩;simp only[go_sem];exact⟨fun _=>⟨l1,.inl h0⟩,fun h=>absurd h h0⟩
theorem Jc {t:List UInt8} {m:Mem} (ht:t.length<=4611686018427387904) (hk:FnH Tryz.prog 48 [.v (.string (bs t))] ⟨[],[]⟩ m fun r H' m' =>ae m m' /\CX (aU t) r H') (h0:(aU t).2.2=0):
  FnH Tryz.prog 24 [.v (.string (bs t))] ⟨[],[]⟩ m fun r H' m' =>ae m m' /\r= .tup [.box 1 0,.v (.int .i64 0),.v (.int .i64 0)]/\H' =⟨[⟨1,62,[.vec 0 0,.v (.int .i64 0),.v (.int .i64 t.length),.v (.bool false),.v (.int .i64 0)]⟩],[⟨0,0,50,4,(aU t).1.length,cv (aU t).1⟩]⟩:=
 (Oc t m ht hk).mono fun r H' m' _ h=>by
  rcases h with ⟨l1,⟨h1,_⟩ |⟨_,h2,h3⟩⟩
  ·exact absurd h0 h1
  ·exact⟨l1,h2,h3⟩
theorem Jd {t:List UInt8} {m:Mem} (ht:t.length<=4611686018427387904) (hk:FnH Tryz.prog 48 [.v (.string (bs t))] ⟨[],[]⟩ m fun r H' m' =>ae m m' /\CX (aU t) r H') (h0:¬(aU t).2.2=0):
  FnH Tryz.prog 24 [.v (.string (bs t))] ⟨[],[]⟩ m fun r H' m' =>ae m m' /\r= .tup [.v (.pointer none),.v (.int .i64 (aU t).2.1),.v (.int .i64 (aU t).2.2)]/\H' =⟨[],[]⟩:=
 (Oc t m ht hk).mono fun r H' m' _ h=>by
  rcases h with ⟨l1,⟨_,h2,h3⟩ |⟨h1,_⟩⟩
  ·exact⟨l1,h2,h3⟩
  ·exact absurd h1 h0
def SZ {α:Type} (c b:Nat) (g:α->Nat) (K:PR α):Prop:=∀x r,K= .ok (x,r)->g x+c * r.length<=b
section
variable {α β:Type} {c b b1:Nat} {g:α->Nat} {g2:β->Nat} {l:List Tk}
theorem db {x:α} {r:List Tk} (h:g x+c * r.length<=b):SZ c b g (.ok (x,r)):=fun y q e=>by cases e;exact h
theorem ka {r:List Tk}:SZ c b g (.error r):=fun y q e=>by cases e
theorem cL {c1:Nat} {K:PR α} {k:α->List Tk->PR β} (h:SZ c1 b1 g K) (hk:∀x r,g x+c1 * r.length<=b1->SZ c b g2 (k x r)):SZ c b g2 (an K k):=by
 cases K with
 |error r=>exact ka
 |ok p=>exact hk p.1 p.2 (h p.1 p.2 rfl)
theorem ij {s:List UInt8} {k:List Tk->PR α} (h:l.tail.length+1=l.length->SZ c b g (k l.tail)):SZ c b g (aV s l k):=by
 unfold aV;split
 ·rename_i h1;have:=cd h1;exact h (by cases l with |nil=>exact absurd rfl this |cons a r=>rfl)
 ·exact ka
theorem dc {p:Prop} [Decidable p] {a a' :PR α} (h1:p->SZ c b g a) (h2:¬p->SZ c b g a'):SZ c b g (if p then a else a'):=by
 split
 ·rename_i h;exact h1 h
 ·rename_i h;exact h2 h
theorem jD {K:PR α} (h:SZ c b1 g K) (hb:b1<=b):SZ c b g K:=fun x r e=>cZ (h x r e) hb
end
theorem ed {l:List Tk} (h:l≠[]):l.tail.length+1=l.length:=by
 cases l with
 |nil=>exact absurd rfl h
 |cons a r=>rfl
theorem xH (l:List Tk):SZ 1 l.length (fun _=>1) (fy l):=by
 unfold fy;refine dc (fun h=>db ?_) fun _=>ka
 have:=ed (l:=l) (fun e=>by rw[e] at h;cases h);omega
theorem sZ (l:List Tk):SZ 1 l.length (fun _=>1) (cY l):=by
 unfold cY;refine dc (fun h=>db ?_) fun _=>ka
 have:=ed (l:=l) (fun e=>by rw[e] at h;cases h);omega
theorem RX (l:List Tk):SZ 1 l.length (fun _=>1) (jl l):=by
 unfold jl;refine dc (fun h=>db ?_) fun _=>dc (fun h=>db ?_) fun _=>cL (xH l) fun x r h=>db h
 ·have:=ed (cd h);omega
 ·have:=ed (cd h);omega
theorem RJ:∀(f:Nat) (t:Ty) (l:List Tk),SZ 1 l.length (fun _=>0) (jF f t l)
 |0,t,l=>db (by omega)
 |f+1,t,l=>by
  rw[jF];refine dc (fun h=>ij fun h1=>jD (RJ f _ _) ?_) fun _=>db (by omega)
  have:=ed (cd h);have:=cW l.tail;have:=this.length_le;omega
theorem Sn:∀(f:Nat) (t:Ty) (l:List Tk),SZ 1 l.length (fun _=>0) (iF f t l)
 |0,t,l=>db (by omega)
 |f+1,t,l=>by
  rw[iF];refine dc (fun h=>ij fun h1=>jD (Sn f _ _) ?_) fun _=>db (by omega)
  have:=ed (cd h);have:=cW l.tail;have:=this.length_le;omega
theorem xw (l:List Tk):SZ 1 l.length (fun _=>1) (eV l):=by
 unfold eV;refine cL (RX l) fun t r h=> ?_
 intro x q e;have:=RJ _ _ _ x q e;dsimp only at this h ⊢;omega
theorem NY:∀(a b:List Ex),fb (a++b)=fb a+fb b
 |[],b=>by simp [fb]
 |e::r,b=>by simp only[dW,fb,NY r b];omega
structure EZ (f:Nat):Prop where
 expr:∀n l,SZ 1 l.length dM (cw f n l)
 loop:∀n e l,SZ 1 (dM e+l.length) dM (fR f n e l)
 unary:∀l,SZ 1 l.length dM (gJ f l)
 post:∀e l,SZ 1 (dM e+l.length) dM (fY f e l)
 args:∀l,SZ 1 l.length (fun es=>fb es+1) (gB f l)
 more:∀acc l,SZ 1 (fb acc+l.length) fb (kf f acc l)
 paren:∀l,SZ 1 l.length (fun e=>dM e+1) (fj f l)
 operand:∀l,SZ 1 l.length dM (gZ f l)
 key:∀l,SZ 1 l.length dM (jo f l)
theorem JO:∀f,EZ f
 |0=>⟨fun n l=>by rw[cw];exact ka,fun n e l=>by rw[fR];exact ka,fun l=>by rw[gJ];exact ka,fun e l=>by rw[fY];exact ka,fun l=>by rw[gB];exact ka,fun a l=>by rw[kf];exact ka,fun l=>by rw[fj];exact ka,fun l=>by rw[gZ];exact ka,fun l=>by rw[jo];exact ka⟩
 |f+1=>by
  have ih:=JO f;refine⟨fun n l=> ?_,fun n e l=> ?_,fun l=> ?_,fun e l=> ?_,fun l=> ?_,fun acc l=> ?_,fun l=> ?_,fun l=> ?_,fun l=> ?_⟩
  ·rw[cw];exact dc (fun _=>ih.unary l) fun _=>cL (ih.expr (n+1) l) fun e r h=>jD (ih.loop n e r) (by omega)
  ·rw[fR];refine dc (fun h=> ?_) fun _=>dc (fun h=> ?_) fun _=>dc (fun h=> ?_) fun _=>db (by omega)
   ·have h1:=ed (l:=l) (fun e=>by rw[e,iU] at h;cases h);refine cL (ih.expr (n+1) l.tail) fun x r h2=>jD (ih.loop n _ r) ?_
    simp only[dM,fb];omega
   ·have h1:=ed (cd h.2);refine cL (xw l.tail) fun t r h2=>jD (ih.loop n _ r) ?_
    simp only[dM,fb];omega
   ·have h1:=ed (cd h.2);refine cL (xw l.tail) fun t r h2=>jD (ih.loop n _ r) ?_
    simp only[dM,fb];omega
  ·rw[gJ];refine dc (fun h=> ?_) fun _=>dc (fun h=> ?_) fun _=>cL (ih.operand l) fun e r h=>jD (ih.post e r) (by omega)
   ·have h1:=ed (cd h);exact cL (ih.unary l.tail) fun x r h2=>db (by simp only[dM,fb];omega)
   ·have h1:=ed (cd h);exact cL (ih.unary l.tail) fun x r h2=>db (by simp only[dM,fb];omega)
  ·rw[fY];refine dc (fun h=> ?_) fun _=>dc (fun h=> ?_) fun _=>db (by omega)
   ·have h1:=ed (cd h);refine cL (sZ l.tail) fun s r h2=>dc (fun _=> ?_) fun _=> ?_
    ·refine cL (ih.args r) fun es r2 h3=>jD (ih.post _ r2) ?_
     simp only[dM,fb];omega
    ·refine jD (ih.post _ r) ?_;simp only[dM,fb];omega
   ·have h1:=ed (cd h);refine cL (ih.expr 0 l.tail) fun i r h2=>ij fun h3=>jD (ih.post _ _) ?_
    simp only[dM,fb];omega
  ·rw[gB];refine ij fun h1=>dc (fun h=>db ?_) fun _=>cL (ih.expr 0 l.tail) fun e r h2=> ?_
   ·have h2:=ed (cd h);simp only[fb];omega
   ·intro x q e2;have:=ih.more [e] r x q e2;simp only[fb] at this ⊢;omega
  ·rw[kf];refine dc (fun h=> ?_) fun _=>ij fun h1=>db (by omega)
   have h1:=ed (cd h);refine cL (ih.expr 0 l.tail) fun e r h2=>jD (ih.more _ r) ?_
   simp only[NY,fb];omega
  ·rw[fj];exact ij fun h1=>cL (ih.expr 0 l.tail) fun e r h2=>ij fun h3=>db (by omega)
  ·rw[gZ];refine dc (fun h=> ?_) fun _=>dc (fun h=> ?_) fun _=>dc (fun h=> ?_) fun _=>dc (fun h=> ?_) fun _=>dc (fun h=> ?_) fun _=>dc (fun h=> ?_) fun _=>ih.key l
   ·have h1:=ed (uG h (by decide));exact db (by simp only[dM,fb];omega)
   ·have h1:=ed (uG h (by decide));exact db (by simp only[dM,fb];omega)
   ·have h1:=ed (uG h (by decide));exact db (by simp only[dM,fb];omega)
   ·exact cL (sZ l) fun s r h2=>db (by simp only[dM,fb];omega)
   ·refine cL (xH l) fun c r h2=>ij fun h3=>cL (sZ r.tail) fun s r3 h4=>dc (fun _=> ?_) fun _=>db (by simp only[dM,fb];omega)
    exact cL (ih.args r3) fun es r4 h5=>db (by simp only[dM];omega)
   ·intro x q e2;have:=ih.paren l x q e2;dsimp only at this;omega
  ·rw[jo];refine dc (fun h=> ?_) fun _=>dc (fun h=> ?_) fun _=>dc (fun h=> ?_) fun _=>dc (fun h=> ?_) fun _=>dc (fun h=> ?_) fun _=>dc (fun h=> ?_) fun _=>dc (fun h=> ?_) fun _=>ka
   ·have h1:=ed (cd h);exact db (by simp only[dM,fb];omega)
   ·have h1:=ed (cd h);exact db (by simp only[dM,fb];omega)
   ·have h1:=ed (cd h);exact ij fun h2=>cL (sZ _) fun s r2 h3=>cL (ih.args r2) fun es r3 h4=>db (by simp only[dM];omega)
   ·have h1:=ed (cd h);refine cL (RX _) fun t r h2=>dc (fun _=>cL (ih.args r) fun es r2 h3=>db (by simp only[dM];omega)) fun _=> ?_
    refine ij fun h3=>cL (Sn _ t _) fun t2 r3 h4=>cL (ih.expr 0 r3) fun e r4 h5=>ij fun h6=>db (by simp only[dM,fb];omega)
   ·have h1:=ed (cd h);exact cL (ih.paren _) fun e r h2=>db (by simp only[dM,fb];omega)
   ·have h1:=ed (cd h);exact cL (ih.paren _) fun e r h2=>db (by simp only[dM,fb];omega)
   ·have h1:=ed (cd h);exact cL (ih.paren _) fun e r h2=>db (by simp only[dM,fb];omega)
theorem Jv {α:Type} {c b:Nat} {g:α->Nat} {h:Nat->PR α} {K:PR α} (hl:bD h K) (hs:∀f,SZ c b g (h f)):SZ c b g K:=by
 obtain⟨F,hF⟩:=hl;rw[<- hF F (au _)];exact hs F
theorem aaH (l:List Tk):SZ 1 l.length dM (dZ 0 l):=Jv (uM (by decide) l) fun f=>(JO f).expr 0 l
theorem D4:∀(a b:List St),dD (a++b)=dD a+dD b
 |[],b=>by simp [dD]
 |e::r,b=>by simp only[dW,dD,D4 r b];omega
theorem o8:dM zE=1:=rfl
structure TZ (f:Nat):Prop where
 block:∀l,SZ 3 (3 * l.length) (fun b=>dD b+6) (dL f l)
 stmts:∀acc l,SZ 3 (dD acc+3 * l.length) (fun b=>dD b+3) (j6 f acc l)
 stmt:∀l,SZ 3 (3 * l.length) iD (gk f l)
theorem BN:∀f,TZ f
 |0=>⟨fun l=>by rw[dL];exact ka,fun a l=>by rw[j6];exact ka,fun l=>by rw[gk];exact ka⟩
 |f+1=>by
  have ih:=BN f;have ez:=JO f;refine⟨fun l=> ?_,fun acc l=> ?_,fun l=> ?_⟩
  ·rw[dL];refine ij fun h1=> ?_
   intro x q e;have:=ih.stmts [] l.tail x q e;simp only[dD] at this ⊢;omega
  ·rw[j6];refine dc (fun h=>db ?_) fun _=>cL (ih.stmt l) fun x r h=>jD (ih.stmts _ r) ?_
   ·have:=ed (cd h);omega
   ·simp only[D4,dD];omega
  ·have pb:∀(l2:List Tk) (b:Nat) (k:Ex->List St->List Tk->PR St),(∀e bd r,dM e+dD bd+7+3 * r.length<=3 * l2.length->SZ 3 b iD (k e bd r))->SZ 3 b iD (an (fj f l2) fun e r=>an (dL f r) fun bd r2=>k e bd r2):=fun l2 b k hk=>
    cL (ez.paren l2) fun e r h=>cL (ih.block r) fun bd r2 h2=>hk e bd r2 (by first |omega |(dsimp only at h2;omega))
   rw[gk];refine dc (fun h=> ?_) fun _=>dc (fun h=> ?_) fun _=>dc (fun h=> ?_) fun _=>dc (fun h=> ?_) fun _=>dc (fun h=> ?_) fun _=>dc (fun h=> ?_) fun _=>
    dc (fun h=> ?_) fun _=>dc (fun h=> ?_) fun _=>dc (fun h=> ?_) fun _=> ?_
   ·have h1:=ed (cd h);refine pb _ _ _ fun e bd r h2=>dc (fun h3=>cL (ih.block r.tail) fun a r3 h4=>db ?_) fun _=>db ?_
    ·have h5:=ed (cd h3);simp only[iD,o8] at h4 ⊢;omega
    ·simp only[iD,o8,dD];omega
   ·have h1:=ed (cd h);exact pb _ _ _ fun e bd r h2=>db (by simp only[iD,o8,dD];omega)
   ·have h1:=ed (cd h);refine dc (fun h2=>db ?_) fun _=>cL (ez.expr 0 l.tail) fun e r h2=>ij fun h3=>db ?_
    ·have h3:=ed (cd h2);simp only[iD,o8,dD];omega
    ·simp only[iD,o8,dD];omega
   ·have h1:=ed (cd h);exact cL (ez.expr 0 l.tail) fun e r h2=>ij fun h3=>db (by simp only[iD,o8,dD];omega)
   ·have h1:=ed (cd h);refine cL (ih.block l.tail) fun b r h2=>ij fun h3=>ij fun h4=>cL (xw _) fun t r4 h5=>cL (sZ r4) fun s r5 h6=>ij fun h7=>cL (ih.block _) fun a r7 h8=>db ?_
    simp only[iD,o8] at h2 h8 ⊢;omega
   ·have h1:=ed (cd h);exact pb _ _ _ fun e bd r h2=>db (by simp only[iD,o8,dD];omega)
   ·exact cL (ih.block l) fun b r h2=>db (by simp only[iD,o8,dD] at h2 ⊢;omega)
   ·have h1:=ed (cd h.1);exact cL (ez.args l.tail) fun es r h2=>ij fun h3=>db (by simp only[iD,o8,dD,dM] at h2 ⊢;omega)
   ·exact cL (xw l) fun t r h2=>cL (sZ r) fun s r2 h3=>ij fun h4=>cL (ez.expr 0 _) fun e r4 h5=>ij fun h6=>db (by simp only[iD,o8,dD];omega)
   ·refine cL (ez.expr 0 l) fun e r h2=>dc (fun h3=> ?_) fun _=>ij fun h4=>db (by simp only[iD,o8,dD];omega)
    have h4:=ed (cd h3);exact cL (ez.expr 0 r.tail) fun x r2 h5=>ij fun h6=>db (by simp only[iD,o8,dD];omega)
theorem Ps:∀(f:Nat) (acc:List Pc) (l:List Tk),SZ 1 (acc.length+l.length) List.length (jg f acc l)
 |0,acc,l=>by rw[jg];exact ka
 |f+1,acc,l=>by
  rw[jg];refine dc (fun h=> ?_) fun _=>ij fun h1=>db (by omega)
  have h1:=ed (cd h);refine cL (xw l.tail) fun t r h2=>cL (sZ r) fun s r2 h3=>jD (Ps f _ r2) ?_
  rw[aI,iB];omega
theorem N9 (f:Nat) (l:List Tk):SZ 1 l.length (fun ps=>List.length ps) (o9 f l):=by
 unfold o9;refine ij fun h1=>dc (fun h=>db ?_) fun _=>cL (xw _) fun t r h2=>cL (sZ r) fun s r3 h3=>jD (Ps f _ r3) ?_
 ·have:=ed (cd h);simp only[bh];omega
 ·simp only[aL,bh];omega
theorem I7 (d:Cd) (x:Md):eH (d.addM x)=eH d+nb x:=by simp only[eH,Cd.addM,List.map_append,List.sum_append,bN,List.map_nil,List.sum_cons,List.sum_nil];omega
theorem abD (d:Cd) (x:Fc):eH (d.addF x)=eH d+1:=by simp only[eH,Cd.addF,aI,iB];omega
theorem abC (d:Cd) (x:List St):eH (d.addI x)=eH d+dD x:=by simp only[eH,Cd.addI,D4];omega
theorem QP (f:Nat) (d:Cd) (fl:Int) (t:Ty) (s:List UInt8) (l:List Tk):SZ 3 (eH d+3 * l.length) eH (oA f d fl t s l):=by
 unfold oA;refine cL (N9 f l) fun ps r h1=>dc (fun h=>db ?_) fun _=>cL ((BN f).block r) fun b r2 h2=>db ?_
 ·have:=ed (cd h);simp only[I7,nb,dD];omega
 ·simp only[I7,nb];omega
theorem Yw (f:Nat) (d:Cd) (fl:Int) (l:List Tk):SZ 3 (eH d+3 * l.length) eH (lJ f d fl l):=by
 unfold lJ;refine dc (fun h=> ?_) fun _=>dc (fun h=> ?_) fun _=>dc (fun h=> ?_) fun _=> ?_
 ·exact cL ((BN f).block l) fun b r h1=>db (by simp only[abC];omega)
 ·have h1:=ed (cd h);exact cL (N9 f l.tail) fun ps r h2=>cL ((BN f).block r) fun b r2 h3=>db (by simp only[I7,nb];omega)
 ·have h1:=ed (cd h);exact cL (sZ l.tail) fun s r h2=>jD (QP f d fl eW s r) (by omega)
 ·refine cL (xw l) fun t r h1=>cL (sZ r) fun s r2 h2=>dc (fun h=>db ?_) fun _=>jD (QP f d fl t s r2) (by omega)
  have:=ed (cd h);simp only[abD];omega
theorem Rk:∀(f:Nat) (d:Cd) (l:List Tk),SZ 3 (eH d+3 * l.length) eH (fZ f d l)
 |0,d,l=>by rw[fZ];exact ka
 |f+1,d,l=>by
  rw[fZ];refine dc (fun h=>db ?_) fun _=>cL (Yw f d _ _) fun e r h=>jD (Rk f e r) ?_
  ·have:=ed (cd h);omega
  ·have:=(uk bH 0 l).length_le;omega
theorem Qp:∀(f:Nat) (acc:List (List UInt8)) (l:List Tk),SZ 1 (acc.length+l.length) List.length (j8 f acc l)
 |0,acc,l=>by rw[j8];exact ka
 |f+1,acc,l=>by
  rw[j8];refine dc (fun h=> ?_) fun _=>db (by omega)
  have h1:=ed (cd h);refine cL (xH l.tail) fun s r h2=>jD (Qp f _ r) ?_
  rw[aI,iB];omega
theorem SI (f:Nat) (w:List UInt8) (l:List Tk):SZ 1 l.length List.length (nq f w l):=by
 unfold nq;refine dc (fun h=> ?_) fun _=>db (by simp)
 have h1:=ed (cd h);refine cL (xH l.tail) fun s r h2=>jD (Qp f _ r) ?_
 simp only[aL,bh];omega
theorem acp (f:Nat) (l:List Tk):SZ 3 (3 * l.length) eH (pB f l):=by
 have hs1:=(uk iI 0 l).length_le;have tM:=(uk j1 (bM iI 0 l).1 (bM iI 0 l).2).length_le;unfold pB;refine dc (fun h=> ?_) fun _=> ?_
 ·have h1:=ed (cd h);refine cL (xH _) fun n r h2=>cL (SI f ga r) fun is r2 h3=>ij fun h4=>db ?_
  simp only[eH,dD,bh,List.map_nil,List.sum_nil];omega
 ·refine ij fun h1=>cL (xH _) fun n r2 h2=>ij fun h3=>cL (xH _) fun sp r4 h4=>cL (SI f kj r4) fun is r5 h5=>ij fun h6=>db ?_
  simp only[eH,dD,bh,List.map_nil,List.sum_nil];omega
theorem ahh (f:Nat) (l:List Tk):SZ 3 (3 * l.length) eH (tZ f l):=cL (acp f l) fun d r h=>jD (Rk f d r) (by omega)
theorem Q0:∀(f:Nat) (acc:List Cd) (l:List Tk),SZ 3 ((acc.map eH).sum+3 * l.length) (fun p=>(List.map eH p).sum) (kQ f acc l)
 |0,acc,l=>by rw[kQ];exact ka
 |f+1,acc,l=>by
  rw[kQ];refine dc (fun h=>db ?_) fun _=>cL (ahh f l) fun d r h=>jD (Q0 f _ r) ?_
  ·rw[bh];omega
  ·rw[List.map_append,List.sum_append,bN,List.map_nil,List.sum_cons,List.sum_nil];omega
theorem Po (l:List Tk):SZ 3 (3 * l.length) (fun p=>(List.map eH p).sum) (kR [] l):=jD (Jv (FG [] l) fun f=>Q0 f [] l) (by simp)
/-! A sequence of statements, to the end of the text. -/
def qs:Nat->List St->List Tk->PR (List St)
 |0,_,l=> .error l
 |f+1,acc,l=>if l=[] then .ok (acc,[]) else an (gk f l) fun s r=>qs f (acc++[s]) r
theorem abG:∀(N:Nat) (acc:List St) (l:List Tk),l.length<=N->Tot false (fun f=>qs f acc l) l:=fun N=>by
 induction N with
 |zero=>
  intro acc l hl;have:l=[]:=List.eq_nil_of_length_eq_zero (by omega);subst this;refine ky (h:=fun _=> .ok (acc,[])) (fun f=>by rw[qs,ah rfl]) j4
 |succ N ih=>
  intro acc l hl;by_cases h:l=[]
  ·subst h;exact ky (h:=fun _=> .ok (acc,[])) (fun f=>by rw[qs,ah rfl]) j4
  ·refine ky (h:=fun f=>an (gk f l) fun s r=>qs f (acc++[s]) r) (fun f=>by rw[qs,af h]) ?_;exact lZ false (cK (b:=false) (vH l).stmt fun s r h1 h2=>ih _ r (by have:=h2 rfl;omega)) fun h=>by cases h
noncomputable def pI (acc:List St) (l:List Tk):PR (List St):=jU fun f=>qs f acc l
theorem TU (acc:List St) (l:List Tk):bD (fun f=>qs f acc l) (pI acc l):=(abG _ acc l (au _)).lim
theorem QL (acc:List St) (l:List Tk):pI acc l=(if l=[] then .ok (acc,[]) else an (zW l) fun s r=>pI (acc++[s]) r):=
 jP (b8 (fun f=>by rw[qs]) (dC (bb _) (cI (Tj l) fun s r=>TU _ r)))
theorem Sg:∀(f:Nat) (acc:List St) (l:List Tk),SZ 3 (dD acc+3 * l.length) dD (qs f acc l)
 |0,acc,l=>by rw[qs];exact ka
 |f+1,acc,l=>by
  rw[qs];refine dc (fun h=>db ?_) fun _=>cL ((BN f).stmt l) fun d r h=>jD (Sg f _ r) ?_
  ·rw[bh];omega
  ·simp only[D4,dD];omega
theorem abH (l:List Tk):SZ 3 (3 * l.length) dD (pI [] l):=jD (Jv (TU [] l) fun f=>Sg f [] l) (by simp [dD])
noncomputable def pK (l:List Tk):PR Ex:=an (dZ 0 l) fun e r=>if r=[] then .ok (e,[]) else .error r
end Go.Proofs.YtimddhkipjedcaaGreatDoor.E

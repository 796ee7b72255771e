/- Several texts in one. -/
import Derived.Test.YtmdokbohofchgaaGreatDoorRows
import Derived.Test.YtmdokbohofchgaaGreatDoorCards
import Derived.Test.YtmdokbohofchgaaGreatDoorTie
import Derived.ProofKit
import Derived.OpenShut
import Derived.LaidMore
import Derived.Lay
import Derived.SevenTiedAt
import Derived.Stop.Joined
import Derived.Stop.LaidErr
import Derived.Lib.LaidTab
import Derived.Shelf.Vars
import Derived.Deep.Slices
import Derived.Deep.DeepHandedRow
import Derived.Carry
import Derived.Test.YtmdokbohofchgaaGreatDoorMrg6
set_option linter.unusedSimpArgs false
set_option linter.unusedVariables false
set_option maxHeartbeats 4000000
set_option maxRecDepth 20000
namespace Go.Proofs.YtmdokbohofchgaaGreatDoor.E
open Go
/-! Closed facts of the built-in classes. -/
def qZ (s:Nm):Bool:=j4.isPrefixOf s||decide (s=[])
theorem SB:aH.all (fun d=>j4.isPrefixOf d.name&&qZ d.super&&decide (d.ifs=[])&&(!hasB d.fl 512||decide (d.super=aY))&& !(aT aH d.super).contains d.name&&d.fields.all fun f=>(cg aH d.super f.name).isNone)=true:=by kernel_rfl
structure LangOk (d:Cd):Prop where
 nm:j4.isPrefixOf d.name=true
 sup:qZ d.super=true
 ifs:d.ifs=[]
 ifc:hasB d.fl 512=true->d.super=aY
 ac:(aT aH d.super).contains d.name=false
 fl:∀f∈d.fields,cg aH d.super f.name=none
theorem vS {d:Cd} (hd:d∈aH):LangOk d:=by
 have h:=List.all_eq_true.1 SB d hd;simp only[bB,Bool.not_eq_true',cE,Bool.or_eq_true,List.all_eq_true,Option.isNone_iff_eq_none] at h;obtain⟨⟨⟨⟨⟨h1,h2⟩,h3⟩,h4⟩,h5⟩,h6⟩:=h;exact⟨h1,h2,h3,fun hf=>h4.resolve_left (by rw[hf];decide),h5,h6⟩
section
variable {pr:List Cd}
theorem A2 (jI:∀d∈pr,j4.isPrefixOf d.name=false) (b9:∀d∈pr,d.name≠[]) {s:Nm} (hs:qZ s=true):cls (pr++aH) s=cls aH s:=by
 rw[Bt,X6,Option.none_or];intro d hd e;unfold qZ at hs;rw[Bool.or_eq_true,cE] at hs;rcases hs with hs |hs
 ·rw[<- e,jI d hd] at hs;cases hs
 ·exact b9 d hd (by rw[e,hs])
theorem H9 (jI:∀d∈pr,j4.isPrefixOf d.name=false) (b9:∀d∈pr,d.name≠[]):∀{f:Nat} {out:List Nm} {s:Nm},qZ s=true->dv (pr++aH) f out s=dv aH f out s
 |0,_,_,_=>rfl
 |f+1,out,s,hs=>by
  rw[dv,dv,A2 jI b9 hs];cases hc:cls aH s with
  |none=>rfl
  |some d=>
   dsimp only;split
   ·rfl
   ·exact H9 jI b9 (vS (JQ hc)).sup
theorem Jb (jI:∀d∈pr,j4.isPrefixOf d.name=false) (b9:∀d∈pr,d.name≠[]) {s:Nm} (hs:qZ s=true):aT (pr++aH) s=aT aH s:=by
 unfold aT;rw[H9 jI b9 hs,show(pr++aH).length+1=(aH.length+1)+pr.length by rw[bc];omega];exact HI (Vis.nil _) (by simp) _
theorem PB (jI:∀d∈pr,j4.isPrefixOf d.name=false) (b9:∀d∈pr,d.name≠[]) {s:Nm} (hs:qZ s=true) (n:Nm):cg (pr++aH) s n=cg aH s n:=by
 unfold cg;rw[Jb jI b9 hs];have hk:=(kv aH s).kn;revert hk;generalize aT aH s=l
 intro hk;induction l with
 |nil=>rfl
 |cons c r ih=>
  have hc:qZ c=true:=by
   obtain⟨d,hd⟩:=Option.isSome_iff_exists.1 (hk c (bN ..));have:=(vS (JQ hd)).nm;rw[(yu hd).2] at this;unfold qZ;rw[this];rfl
  have e:bI (pr++aH) c=bI aH c:=by unfold bI;rw[A2 jI b9 hc]
  rw[List.findSome?_cons,List.findSome?_cons,e,ih fun x hx=>hk x (bw _ hx)]
theorem K7 (hc:(dT [] pr).2=0) (h:Acc (pr++aH) pr):Good (pr++aH):=by
 obtain⟨c1,c2⟩:=DW.1 hc;have jI:∀d∈pr,j4.isPrefixOf d.name=false:=fun d hd=>(Pr.1 (h.p1 d hd)).pre
 have b9:∀d∈pr,d.name≠[]:=fun d hd=>Tn (c1 d hd).1
 have fj:∀{s d},cls (pr++aH) s=some d->(d∈pr/\d.name=s)\/(d∈aH/\d.name=s):=fun{s d} hd=>by
  rw[Bt] at hd;cases hp:cls pr s with
  |some d' =>rw[hp] at hd;cases hd;exact .inl (yu hp)
  |none=>rw[hp,Option.none_or] at hd;exact .inr (yu hd)
 refine⟨fun s d hd=> ?_,fun s d hd f hf=> ?_,?_,?_,fun s d hd t ht e he=> ?_⟩
 ·rcases fj hd with ⟨h1,h2⟩ |⟨h1,h2⟩
  ·have q:=h.p2 d h1;unfold o8 at q;rcases qy q with ⟨_,q⟩ |⟨q,_⟩
   ·cases q
   ·have q:=(Bool.not_eq_true _).mp q;rw[Bool.or_eq_false_iff,h2] at q;exact q.1
  ·have q:=vS h1;rw[Jb jI b9 q.sup,<- h2];exact q.ac
 ·rcases fj hd with ⟨h1,h2⟩ |⟨h1,h2⟩
  ·have q:=h.p4 d h1;rw[I6] at q;split at q
   ·cases q
   ·rename_i hn;have:=xX.1 hn f hf;cases hx:cg (pr++aH) d.super f.name with
    |none=>rfl
    |some x=>rw[hx] at this;cases this
  ·have q:=vS h1;rw[PB jI b9 q.sup];exact q.fl f hf
 ·obtain⟨o,ho⟩:=Option.isSome_iff_exists.1 SC;have hb:=QL;unfold bI My at hb;rw[ho] at hb;simp only[Option.getD_some,bB,cE] at hb;exact⟨o,by rw[A2 jI b9 (by decide),ho],hb.1.1.1,hb.1.1.2⟩
 ·rw[A2 jI b9 (by decide)];exact Option.isNone_iff_eq_none.1 SD
 ·rcases fj hd with ⟨h1,h2⟩ |⟨h1,h2⟩
  ·have q:=h.p3 d h1;unfold o6 at q;have hf:hasB e.fl 512=true:=by
    rcases qy q with ⟨_,q⟩ |⟨q,_⟩
    ·cases q
    ·have q:=(Bool.not_eq_true _).mp q;rw[Bool.or_eq_false_iff] at q;have:=List.any_eq_false.1 q.2 t ht;have hz:bI (pr++aH) t=e:=by unfold bI;rw[he];rfl
     rw[hz] at this;simpa using this
   rcases fj he with ⟨g1,g2⟩ |⟨g1,g2⟩
   ·have aU:=(c1 e g1).1;unfold iB pb at aU;rw[ak hf] at aU;unfold BE at aU;simp only[bB,cE] at aU;exact aU.1.1.1.2
   ·exact(vS g1).ifc hf
  ·rw[(vS h1).ifs] at ht;cases ht
end
section
variable {E:List Cd}
theorem ua {a b:Ty}:Ty.eq a b=true↔a=b:=by
 obtain⟨d,k,n⟩:=a;obtain⟨d',k',n'⟩:=b;unfold Ty.eq;simp only[bB,cE,Ty.mk.injEq,and_assoc]
def M4 (E:List Cd) (a b:Ty):Prop:=a=b\/(eb a=true/\eb b=true/\b≠fU/\(a=fU\/b=cG aY\/(a.base=76/\b.base=76/\a.dim=b.dim/\eX E a.name b.name=true)\/(b.dim<a.dim/\b.base=76/\b.name=aY)))
theorem E2 {a b:Ty}:cD E a b=true↔M4 E a b:=by
 unfold cD M4;by_cases h1:a=b
 ·rw[ak (ua.2 h1)];exact⟨fun _=> .inl h1,fun _=>rfl⟩
 rw[ae (fun q=>h1 (ua.1 q))];by_cases h2:eb a=true
 ·by_cases h3:eb b=true
  ·by_cases h4:b=fU
   ·rw[ak (by simp [ua.2 h4])];exact⟨fun q=>(by cases q),fun q=>by rcases q with q |⟨_,_,q,_⟩;exact absurd q h1;exact absurd h4 q⟩
   ·have h4' :Ty.eq b fU=false:=(Bool.not_eq_true _).mp fun q=>h4 (ua.1 q)
    rw[ae (by rw[h2,h3,h4'];decide)];by_cases h5:a=fU\/b=cG aY
    ·rw[ak (by rcases h5 with h5 |h5<;>simp [ua.2 h5])];exact⟨fun _=> .inr ⟨h2,h3,h4,h5.imp id .inl⟩,fun _=>rfl⟩
    ·rw[not_or] at h5;have h6:Ty.eq a fU=false:=(Bool.not_eq_true _).mp fun q=>h5.1 (ua.1 q)
     have h7:Ty.eq b (cG aY)=false:=(Bool.not_eq_true _).mp fun q=>h5.2 (ua.1 q)
     rw[ae (by rw[h6,h7];decide)];by_cases h8:a.base=76/\b.base=76/\a.dim=b.dim/\eX E a.name b.name=true
     ·rw[ak (by simp [h8.1,h8.2.1,h8.2.2.1,h8.2.2.2])];exact⟨fun _=> .inr ⟨h2,h3,h4,.inr (.inr (.inl h8))⟩,fun _=>rfl⟩
     ·rw[ae (by simpa only[bB,cE,and_assoc] using h8)];simp only[bB,cE,and_assoc];refine⟨fun q=> .inr ⟨h2,h3,h4,.inr (.inr (.inr q))⟩,fun q=> ?_⟩;rcases q with q |⟨_,_,_,q |q |q |q⟩
      ·exact absurd q h1
      ·exact absurd q h5.1
      ·exact absurd q h5.2
      ·exact absurd q h8
      ·exact q
  ·rw[ak (by simp [h3])];exact⟨fun q=>(by cases q),fun q=>by rcases q with q |⟨_,q,_⟩;exact absurd q h1;exact absurd q h3⟩
 ·rw[ak (by simp [h2])];exact⟨fun q=>(by cases q),fun q=>by rcases q with q |⟨q,_⟩;exact absurd q h1;exact absurd q h2⟩
theorem TB (a:Ty):cD E a a=true:=E2.2 (.inl rfl)
theorem KN (hG:Good E) {u:Nm} (h:eX E aY u=true):u=aY:=by
 rcases D8.1 h with h |⟨_,h⟩
 ·exact h.symm
 ·obtain⟨o1,o2⟩:=Ko hG;rw[o1,o2] at h;simpa using h
def BW (t:Ty):Prop:=t=fU\/0<=t.dim
theorem Rl (hG:Good E) {a b c:Ty} (ha:BW a) (hb:BW b) (hc:BW c) (h1:cD E a b=true) (h2:cD E b c=true):cD E a c=true:=by
 rw[E2] at h1 h2 ⊢;rcases h1 with rfl |⟨a1,a2,a3,a4⟩
 ·exact h2
 rcases h2 with rfl |⟨b1,b2,b3,b4⟩
 ·exact .inr ⟨a1,a2,a3,a4⟩
 by_cases hac:a=c
 ·exact .inl hac
 refine .inr ⟨a1,b2,b3,?_⟩;have CV:0<=b.dim:=hb.resolve_left a3;have tf:0<=c.dim:=hc.resolve_left b3;rcases a4 with a4 |a4 |⟨x1,x2,x3,x4⟩ |⟨x1,x2,x3⟩
 ·exact .inl a4
 ·rcases b4 with b4 |b4 |⟨y1,y2,y3,y4⟩ |⟨y1,y2,y3⟩
  ·exact absurd b4 a3
  ·exact .inr (.inl b4)
  ·rw[a4] at y3 y4;have hn:=KN hG y4;refine .inr (.inl ?_);obtain⟨d,k,n⟩:=c;dsimp only at y2 y3 hn;unfold cG;rw[y2,hn,<- y3];rfl
  ·rw[a4] at y1;have:(cG aY).dim=0:=rfl;omega
 ·rcases b4 with b4 |b4 |⟨y1,y2,y3,y4⟩ |⟨y1,y2,y3⟩
  ·exact absurd b4 a3
  ·exact .inr (.inl b4)
  ·exact .inr (.inr (.inl ⟨x1,y2,by omega,OY hG x4 y4⟩))
  ·exact .inr (.inr (.inr ⟨by omega,y2,y3⟩))
 ·rcases b4 with b4 |b4 |⟨y1,y2,y3,y4⟩ |⟨y1,y2,y3⟩
  ·exact absurd b4 a3
  ·exact .inr (.inl b4)
  ·rw[x3] at y4;exact .inr (.inr (.inr ⟨by omega,y2,KN hG y4⟩))
  ·exact .inr (.inr (.inr ⟨by omega,y2,y3⟩))
/-! Members. -/
theorem Bb {s o:Nm} (h:(cls E s).isSome=true) (ho:o∈aT E s\/o∈bR E s):cD E (cG s) (cG o)=true:=by
 rw[E2];by_cases hso:s=o
 ·rw[hso];exact .inl rfl
 ·refine .inr ⟨rfl,rfl,fun q=> ?_,.inr (.inr (.inl ⟨rfl,rfl,rfl,D8.2 (.inr ⟨h,.inr ho⟩)⟩))⟩;have:=congrArg Ty.dim q;cases this
theorem S6 {s n o:Nm} {f:Fc} (h:cg E s n=some (o,f)):f.name=n/\cD E (cG s) (cG o)=true:=by
 unfold cg at h;obtain⟨c,hc,e⟩:=List.exists_of_findSome?_eq_some h;obtain⟨f',h1,h2⟩:=Option.map_eq_some_iff.1 e;cases h2;exact⟨by simpa using List.find?_some h1,Bb (vu hc) (.inl hc)⟩
theorem Uy {s n o:Nm} {k:Int} {m:Md} (h:eG E s n k=some (o,m)):m.name=n/\(m.params.length:Int)=k/\cD E (cG s) (cG o)=true:=by
 have hf:∀(l:List Nm),ep E l n k=some (o,m)->m.name=n/\(m.params.length:Int)=k/\o∈l:=fun l hx=>by
  unfold ep at hx;obtain⟨c,hc,e⟩:=List.exists_of_findSome?_eq_some hx;obtain⟨m',h1,h2⟩:=Option.map_eq_some_iff.1 e;cases h2;unfold cU at h1;have:=List.find?_some h1;simp only[bB,cE] at this;exact⟨this.1,this.2,hc⟩
 unfold eG at h;split at h
 ·obtain⟨q1,q2,q3⟩:=hf _ h;have q3:=List.mem_of_mem_take q3;exact⟨q1,q2,Bb (vu q3) (.inl q3)⟩
 ·split at h
  ·rename_i x hx;cases h;obtain⟨q1,q2,q3⟩:=hf _ hx;exact⟨q1,q2,Bb (vu q3) (.inl q3)⟩
  ·obtain⟨q1,q2,q3⟩:=hf _ h;exact⟨q1,q2,Bb (Pv q3) (.inr q3)⟩
end
def wX (d:Cd):Bool:=decide (20<d.methods.length)||decide (20<d.fields.length)||decide (9<d.ifs.length)||decide (40<d.init.length)
def qP (l:List Cd):Bool:=decide (l.length<=12)&& !l.any wX
theorem Vr {l:List Cd} (h:qP l=true):l.length<=12:=by
 unfold qP at h;rw[bB,cE] at h;exact h.1
theorem EW (pr:List Cd) (p:Option Addr) (n c:Nat) (m:Mem) (h:fi m pr p n c):FnH Tryz.prog 10 [.v (.slice p n c)] ⟨[],[]⟩ m fun r H' m' =>m' =m/\H' =⟨[],[]⟩/\r= .v (.bool (qP pr)):=by
 have hn:=h.1;have vd:=h.2.2.1;have hA:(pr.drop 0).any wX=pr.any wX:=by rw[List.drop_zero]
 have hK:qP pr=(decide (pr.length<=12)&& !(pr.drop 0).any wX):=by rw[hA];rfl
 revert hK;generalize qP pr=K
 intro hK;refine br aq Tryz.func10 ?_
 ·by_cases vg:pr.length<=12
  ·rw[aQ vg,Bool.true_and] at hK;have aj:((12:Int)<(n:Int))=False:=eq_false (by omega);simp only[go_sem,aj];refine cq aq (fun i:Nat=>⟨[⟨3,[],.v (.int .i64 i)⟩,⟨0,[],.v (.slice p n c)⟩,⟨2,[],.v (.bool false)⟩],[],[],[],0,m⟩)
    (fun i=>i<=pr.length/\K= !(pr.drop i).any wX) (fun i=>pr.length - i) 0 (by kernel_rfl) (fun _ _=>aZ rfl) (fun x hx=> .inl rfl) (fun _=> ?_) ?_ ⟨aF _,hK⟩ ?_
   ·simp only[go_sem]
   ·simp only[go_sem];first |exact rfl |trace_state
   ·rintro i ⟨i1,i2⟩;by_cases hi:i<pr.length
    ·have hc:((i:Int)<(n:Int))=True:=eq_true (by omega);refine Exists.elim (mG h hi) fun X hX=> ?_
     have aI:bS p n (i:Int)=True:=eq_true ⟨by omega,by omega,hX.2.1⟩;have dA:=lD hX.1;have r3:= @r9 m (bk p (i * 7)) X.cs hX.1 3 _ rfl;have r4:= @r9 m (bk p (i * 7)) X.cs hX.1 4 _ rfl;have r5:= @r9 m (bk p (i * 7)) X.cs hX.1 5 _ rfl;have r6:= @r9 m (bk p (i * 7)) X.cs hX.1 6 _ rfl;rw[List.drop_eq_getElem_cons hi,List.any_cons] at i2;have gH:wX pr[i]=(decide (20<X.ml)||decide (20<X.fn)||decide (9<X.il)||decide (40<X.sl)):=by rw[hX.2.2.2.ml,hX.2.2.2.fn,hX.2.2.2.il,hX.2.2.2.sl];rfl
     rw[gH] at i2;have q3:=tR hX.1 3 1 (aZ rfl);have q4:=tR hX.1 4 1 (aZ rfl);have q6:=tR hX.1 6 1 (aZ rfl);simp only[go_sem,hc,aI,dA,r5];refine⟨.slice X.fa X.fn X.fc,fun _=>q4,?_⟩;simp only[go_sem,hc,aI,dA,r5];refine⟨.slice X.ia X.il X.ic,fun _=>q3,?_⟩;simp only[go_sem,hc,aI,dA,r5];refine⟨.slice X.sa X.sl X.sc,fun _=>q6,?_⟩;simp only[go_sem,hc,aI,dA,r5];refine⟨fun hh=> ?_,fun hh=> ?_⟩
     ·rw[i2];rcases hh with ((hh |hh) |hh) |hh
      ·rw[aQ (by omega:20<X.ml)];rfl
      ·rw[aQ (by omega:20<X.fn),Bool.or_true];rfl
      ·rw[aQ (by omega:9<X.il),Bool.or_true];rfl
      ·rw[aQ (by omega:40<X.sl),Bool.or_true];rfl
     ·rw[ab (by omega:¬20<X.ml),ab (by omega:¬20<X.fn),ab (by omega:¬9<X.il),ab (by omega:¬40<X.sl)] at i2;exact⟨by unfold az;omega,i+1,by simp,⟨hi,i2⟩,by omega⟩
    ·have hc:((i:Int)<(n:Int))=False:=eq_false (by omega);rw[List.drop_of_length_le (by omega),List.any_nil] at i2;simp only[go_sem,hc];exact i2.symm
  ·rw[ab vg,Bool.false_and] at hK;have aj:((12:Int)<(n:Int))=True:=eq_true (by omega);simp only[go_sem,aj];exact hK.symm
theorem LM {α:Type} {R:α->List Value->Prop} {z:Nat}:∀{l:List α} {xs ys:List Value} {r:List α},xs.length=l.length * z->dZ R z l xs->dZ R z r ys->dZ R z (l++r) (xs++ys)
 |[],xs,ys,r,hl,_,h2=>by
  have hx:xs=[]:=List.eq_nil_of_length_eq_zero (by simpa using hl);rw[hx];exact h2
 |a::l,xs,ys,r,hl,h1,h2=>by
  have hz:z<=xs.length:=by rw[hl,dk,Nat.succ_mul];omega
  refine⟨?_,?_⟩
  ·rw[List.take_append_of_le_length hz];exact h1.1
  ·rw[List.drop_append_of_le_length hz];refine LM (l:=l) ?_ h1.2 h2;rw[gI,hl,dk,Nat.succ_mul];omega
theorem W1 {α:Type} {R:α->List Value->Prop} {z:Nat} {x:α} {ys:List Value} (h:R x ys) (hz:ys.length=z):dZ R z [x] ys:=by
 subst hz;exact⟨by rw[List.take_length];exact h,trivial⟩
theorem Tq {m:Mem} {l:List Cd} {xs:List Value} {a:Option Addr} {n:Nat} (hr:aw m a n 7 xs) (hn:n=l.length) (hs:dZ (gO m) 7 l xs) {i:Nat} (hi:i<l.length):∃X:Cc,Rd m (bk a (i * 7)) X.cs/\a≠none/\gO m l[i] X.cs:=by
 have hc:=dM hr (by omega:i<n);have he:=oY hs hi;obtain⟨X,e,h2⟩:=he;rw[e.1] at hc;exact⟨X,hc.1,hc.2,X,⟨rfl,e.2⟩,h2⟩
theorem Qv (pr:List Cd) (p:Option Addr) (n c:Nat) (m:Mem) (hg:Glob m) (tj:∀d∈pr,CdB d) (h:fi m pr p n c):FnH Tryz.prog 5 [.v (.slice p n c)] ⟨[],[]⟩ m fun r H' m' =>af m m' /\H' =⟨[],[]⟩/\r= .v (.bool true):=by
 have hn:=h.1;have hF:=EW pr p n c m h;have hW:=fun m' (hle:af m m')=>DY m' (hg.upM hle)
 have dL:=fun(hf:pr.length<=1099000) m' (hle:af m m')=>vt pr p n c m' (hg.upM hle) tj (jv hle h) hf
 have abj:∀d∈pr.reverse,CdB d:=fun d hd=>tj d (List.mem_reverse.1 hd)
 have eF:=fun(hf:pr.length<=1099000) m' (hle:af m m') a k c' (h' :fi m' pr.reverse a k c')=>vt pr.reverse a k c' m' (hg.upM hle) abj h' (by rw[List.length_reverse];exact hf)
 have sM:=Qw pr;have hby:iP Tryz.prog 33<=1000:=aZ (by kernel_rfl);have hub:Tryz.prog.underlying 4=some .bool:=by kernel_rfl
 revert dL eF sM;generalize gJ aH pr=T1
 generalize gJ aH pr.reverse=T2
 intro dL eF sM;refine enter bb aq Tryz.func5 rfl rfl (by kernel_rfl) rfl ?_ ?_
 ·clear hF hW dL eF;simp only[go_sem]
 ·simp only[go_sem];refine ai (hF.mono ?_);clear hF;rintro r H' m1 aR ⟨rfl,rfl,rfl⟩;by_cases ek:qP pr=true
  ·have vg:=Vr ek;refine Exists.elim h.2.2.2 fun xs gF=> ?_
   have Aj:az ((n:Int) - 1)=True:=eq_true (by unfold az;clear hW dL eF;omega);simp only[go_sem,ek,Aj];refine cq aq (fun y:Nat×List Value=>⟨[⟨4,[],.v (.int .i64 ((n:Int) - 1 - y.1))⟩,⟨3,[],.vec 0 y.1⟩,⟨0,[],.v (.slice p n c)⟩,⟨2,[],.v (.bool false)⟩],[],[],[⟨0,y.1,33,7,y.1,y.2⟩],1,m1⟩)
    (fun y=>y.1<=pr.length/\y.2.length=(pr.reverse.take y.1).length * 7/\dZ (gO m1) 7 (pr.reverse.take y.1) y.2) (fun y=>pr.length - y.1) (0,[]) (by kernel_rfl) (fun _ _=>aZ rfl) (fun x hx=> .inl rfl) (fun _=> ?_) ?_ ⟨aF _,by simp,by simp only[List.take_zero];trivial⟩ ?_
   ·clear hW dL eF;simp only[go_sem]
   ·clear hW dL eF;simp only[go_sem];simp
   ·rintro⟨k,zs⟩ ⟨k1,k2,k3⟩;dsimp only at k1 k2 k3;by_cases hk:k<pr.length
    ·have hc:((0:Int)<=(n:Int) - 1 - k)=True:=eq_true (by clear hW dL eF;omega);have aj:pr.length - 1 - k<pr.length:=by omega
     refine Exists.elim (Tq gF.1 hn gF.2 aj) fun X hX=> ?_
     have j6:((n:Int) - 1 - k)=((pr.length - 1 - k:Nat):Int):=by clear hW dL eF;omega
     have aI:bS p n ((pr.length - 1 - k:Nat):Int)=True:=eq_true ⟨by omega,by clear hW dL eF;omega,hX.2.1⟩;have au:= @cC _ _ _ 7 hX.1 rfl;simp only[Cc.cs] at au;clear hW dL eF;have h0c:((0:Int)<=((pr.length - 1 - k:Nat):Int))=True:=eq_true (by omega);simp only[go_sem,hc,j6,h0c,aI,au];have Nz:pr.reverse.take (k+1)=pr.reverse.take k++[pr[pr.length - 1 - k]]:=by
      rw[List.take_succ_eq_append_getElem (by rw[List.length_reverse];exact hk),List.getElem_reverse]
     refine⟨E8 (by clear j6 aI;omega) hby,by unfold az;clear aI;omega,(k+1,zs++X.cs),⟨⟨by clear aI;omega,rfl⟩,rfl,rfl,rfl⟩,⟨by clear aI j6;omega,?_,?_⟩,by clear aI j6;omega⟩
     ·dsimp only;rw[Nz,bc,bc,k2,Nat.add_mul];rfl
     ·dsimp only;rw[Nz];exact LM k2 k3 (W1 hX.2.2 rfl)
    ·have hc:((0:Int)<=(n:Int) - 1 - k)=False:=eq_false (by clear hW dL eF;omega);have dL:=dL (by clear hW dL eF;omega) m1 (.inl rfl);simp only[go_sem,hc];refine ai (dL.mono ?_);clear dL;rintro r H' m2 aK ⟨l2,rfl,rfl⟩;simp only[go_sem];have ru:k=pr.length:=by clear hc eF hW;omega
     have rj:pr.reverse.take k=pr.reverse:=jS (by rw[List.length_reverse];omega);rw[rj] at k3;refine⟨by kernel_rfl,fun a1 c1 m3 e1 e2 e3=> ?_⟩;have l3:af m1 m3:=aa l2 (.inr e1);have eF:=eF (by clear hW eF;omega) m3 l3 a1 k c1 ⟨by rw[List.length_reverse];exact ru,e2,by have:=h.2.2.1;clear eF hW;omega,zs,e3,jf (fun _ _=>vK l3) k3⟩;refine bD (eF.mono ?_);rintro r H' m4 gW ⟨l4,rfl,rfl⟩;have ix:=aa l3 l4;have hW:=hW m4 ix;simp only[go_sem];refine ai (hW.mono ?_);clear hW;rintro r H' m5 mq ⟨l5,rfl,rfl⟩;have mg:=aa ix l5;simp only[go_sem,hub];refine⟨mg,?_⟩;rw[decide_eq_decide.2 sM,beq_self_eq_true]
  ·have hW:=hW m1 (.inl rfl);clear dL eF;have ek:=(Bool.not_eq_true _).mp ek;simp only[go_sem,ek];refine ai (hW.mono ?_);clear hW;rintro r H' m2 aK ⟨l2,rfl,rfl⟩;simp only[go_sem];first |exact l2 |exact⟨l2,rfl⟩
end Go.Proofs.YtmdokbohofchgaaGreatDoor.E
namespace Go.Proofs.YtmdokbohofchgaaGreatDoor.E
open Go Go.ChangeShapes Go.WideShapes Go.ChangeAt Go.RowKit
def dR (W:World) (b:Nat):Nat:=match W.heap[b]? with |some (.cells c _ _)=>c.size+1 |_=>0
theorem L4 (W:World):Wf W (dR W):=fun b hb=>by
 have:W.heap[b]? =none:=Array.getElem?_eq_none hb;simp [dR,this]
theorem L5 {W:World} {b:Nat} {c:Array Value} {t:TypeId} {f:Nat×Nat} (h:W.heap[b]? =some (.cells c t f)):dR W b=c.size+1:=by
 simp [dR,h]
theorem TL {W w:World} {D:Nat->Nat} {b:Nat} {c:Array Value} {t:TypeId} {f:Nat×Nat} (hle:Mem.le ⟨W,dR W⟩ ⟨w,D⟩) (h:W.heap[b]? =some (.cells c t f)):∃t' f',w.heap[b]? =some (.cells c t' f'):=by
 obtain⟨_,hk⟩:=hle b;have hd:dR W b=c.size+1:=L5 h;obtain⟨_,hk⟩:=hk (by show 0<dR W b;omega);obtain⟨c',t',f',ho,hj⟩:=IE hk h;simp only[hd] at ho hj;have e:c' =c:=by
  apply Array.ext_getElem?
  intro i;rcases Nat.lt_or_ge i (c.size+1) with hi |hi
  ·exact hj i hi
  ·have h1:=hj c.size (by omega);rw[Array.getElem?_eq_none (aC c.size)] at h1;have h2:c'.size<=c.size:=by
    rcases Nat.lt_or_ge c.size c'.size with h |h
    ·rw[Array.getElem?_eq_getElem h] at h1;cases h1
    ·exact h
   rw[Array.getElem?_eq_none (by omega),Array.getElem?_eq_none (by omega)]
 subst e;exact⟨t',f',ho⟩
theorem TM {W w:World} {D:Nat->Nat} {g i:Nat} {v:Value} (hle:Mem.le ⟨W,dR W⟩ ⟨w,D⟩) (h:W.cell? ⟨g,i,none⟩=some v):w.cell? ⟨g,i,none⟩=some v:=by
 unfold World.cell? at h ⊢;split at h
 ·rename_i c t f hc;obtain⟨t',f',ho⟩:=TL hle hc;dsimp only at ho;rw[ho];simpa using h
 ·cases h
theorem Da {H:Type} {enc:TypeId×Value->H} {C:Checked} {os:Os} {f:FuncId} {fn:Func} {s:OpenSpec} {conds:List PathCond} {apart:Bool} {laid:List (String×DataW Unit)} (modest:Bool) (w0:World) (args:Array Value) (hos:w0.os=os)
  (kP:(w0.forCall (fun _ _=>0) ⟨#[],args,[]⟩).Shaped C.prog)
  (ao:Input.okWideB C.prog (w0.forCall (fun _ _=>0) ⟨#[],args,[]⟩) f ⟨#[],args,[]⟩=true)
  (qM:s.preRow enc C.prog fn conds apart laid (w0.forCall (fun _ _=>0) ⟨#[],args,[]⟩).memory args):
  ∃(w:World) (tape:Tape) (i:Input),w.os=os/\(w.forCall tape i).Shaped C.prog/\i.vars=[]/\Input.okWide C.prog (w.forCall tape i) .any w.heap.size f i/\
   s.preRow enc C.prog fn conds apart laid (w.forCall tape i).memory i.args/\({modest:=modest}:Assume).holds C.prog (lone (Frame.enter C.prog f i.args .normal) [] (w.forCall tape i)):=
 ⟨w0,fun _ _=>0,⟨#[],args,[]⟩,hos,kP,(Input.okWide_of_okWideB (base:=0) ao).1,(Input.okWide_of_okWideB ao).2,qM,by
  simp only[Assume.holds]
  exact⟨by simp,by simp,fun _=>Modest.zero,by simp,by simp⟩⟩
theorem vG {W:World} {a:Addr} {v:Value} (h:W.cell? a=some v):a.spot=none/\a.off<dR W a.block:=by
 unfold World.cell? at h;split at h
 ·rename_i c t f hc;cases hs:a.spot with
  |some x=>rw[hs] at h;simp at h
  |none=>
   rw[hs] at h;simp only[Option.isSome_none,Bool.false_eq_true,if_false] at h;refine⟨rfl,?_⟩;rw[L5 hc];have:=(Array.getElem?_eq_some_iff.1 h).1;omega
 ·cases h
theorem EB {H:Type} {d:DataW H}:∀{l:List (DataW H)},d∈l->Rows.uptoBulk d<=Rows.uptoBulkAll l
 |[],h=>by cases h
 |x::l,h=>by
  simp only[Rows.uptoBulkAll];rcases List.mem_cons.1 h with rfl |h
  ·omega
  ·have:=EB h;omega
theorem Be {H:Type} (d:DataW H):1<=Rows.uptoBulk d:=by
 cases d with
 |lit l=>cases l<;>simp [Rows.uptoBulk]
 |_=>simp [Rows.uptoBulk]
theorem Ka {H:Type}:∀(l:List (DataW H)),l.length<=Rows.uptoBulkAll l
 |[]=>aF _
 |d::l=>by
  have h1:=Be d;have h2:=Ka l;simp only[Rows.uptoBulkAll,dk];omega
theorem Ez {P:Program} {f:FuncId} {args:List SV} {aO:List Value} {W:World} {x:Value} (zA:∀V,args.map (den V)=aO) (h:FnH P f args ⟨[],[]⟩ ⟨W,dR W⟩ fun r H' m' =>af ⟨W,dR W⟩ m' /\H' =⟨[],[]⟩/\r= .v x):
  Calls P f ⟨aO⟩ W fun e W' =>e= .returned x/\Below W.heap.size W W' :=by
 have:=h ⟨fun _=>0,fun _ _=>⟨none,0,0⟩⟩ W (dR W) (L4 W) (Mem.le_refl ⟨W,dR W⟩ (L4 W)) ⟨fun b hb=>(by cases hb),fun b hb=>(by cases hb),by simp [aE],by simp⟩;rw[zA] at this;refine this.mono ?_;rintro e w' ⟨r,V',D',H',m',rfl,_,_,_,_,hf,_,_,_,_,_,rfl,rfl⟩;exact⟨rfl,hf.os,hf.tape,hf.output,hf.size,fun b hb=>(hf.same b hb (by simp [aE])).1⟩
theorem own:ownKnob Tryz.prog.godebug=none:=by kernel_rfl
def oZ:List (String×DataW Unit):=Rows.typecheckCheckReferenceRow.laid
theorem g1 (W:World) (h:W.ShapedOpen Tryz.prog):∃k,W.cell? ⟨1,0,none⟩=some (.int .i64 k):=
 cell_of_shapedOpen_int (P:=Tryz.prog) (g:=1) (t:=3) (zero:= #[.int .i64 0]) h (of_decide_eq_true (by kernel_rfl)) (by kernel_rfl) rfl (by kernel_rfl) (by kernel_rfl) (by kernel_rfl)
theorem WV {W:World} {rest:List (String×DataW Unit)} (h:laidMet Tryz.prog (("armature/ast.operators",Rows.laid_armature_ast_operators)::rest) W):
  ∃ad c,Rd ⟨W,dR W⟩ (.pointer (some ⟨0,0,none⟩)) [.slice (some ad) 19 c]/\19<=c/\aw ⟨W,dR W⟩ (some ad) 19 1 (strs opsL):=by
 obtain⟨ps,⟨g',t',cs,fuel,p,q,ez,uR,hvar,hd,_,_⟩,_⟩:=h;obtain rfl:=Option.some.inj ((show Tryz.prog.globalNamed "armature/ast.operators" =some 0 by kernel_rfl).symm.trans ez);obtain rfl:=Option.some.inj ((show(Tryz.prog.globals[0]?).map (·.type)=some 28 by kernel_rfl).symm.trans uR);have hl:(Rows.laid_armature_ast_operators:DataW Unit)= .slice (opsL.map fun l=> .lit (.string l)) []:=rfl;rw[hl] at hd;obtain⟨a,cap,dG,zB,hel⟩:=open_row (P:=Tryz.prog) (e:=9) (by kernel_rfl) (by kernel_rfl) hd;have hlen:(opsL.map fun l=>(DataW.lit (.string l):DataW Unit)).length=19:=rfl;rw[hlen] at dG zB;have b8:W.cell? ⟨0,0,none⟩=some (.slice (some a) 19 cap):=by
  have:=World.var?_cell ez hvar 0;rw[Array.eq_one_of_toList dG] at this;simpa using this
 have xA:∀i (hi:i<19),W.cell? (a.add i)=some (.string (bs (opsL[i]'hi))):=fun i hi=>by
  obtain⟨v,n,q',hc,hr⟩:=hel i (.lit (.string (opsL[i]'hi))) (by rw[List.getElem?_map,List.getElem?_eq_getElem (by exact hi)];rfl);obtain⟨s,e1,e2,_⟩:=DataW.trod_string (show Tryz.prog.underlying 9=some .string by kernel_rfl) hr;have e3:v= .string s:=by simpa using e1
  have e4:s.data.toList=opsL[i]'hi:=by simpa using(congrArg Prod.fst e2).symm
  rw[hc,e3,<- e4];rfl
 have Mh:a.spot=none:=by
  have:=(vG (xA 0 (by decide))).1;simpa [Addr.add] using this
 refine⟨a,cap,⟨⟨0,0,none⟩,rfl,rfl,fun j hj=> ?_⟩,zB,rfl,fun _=>⟨a,rfl,Mh,fun j hj=> ?_⟩⟩
 ·have:j=0:=by simpa using hj
  subst this;exact⟨b8,(vG b8).2⟩
 ·have hj:j<19:=by omega
  have h1:=xA j hj;obtain⟨p1,p2,_⟩:=kU a j Mh;have h2:=(vG h1).2;rw[p1,p2] at h2;refine⟨?_,h2⟩;rw[strs,List.getElem?_map,List.getElem?_eq_getElem (by exact hj)];exact h1
def Y8:List (Int×List UInt8):=[(1,[112,117,98,108,105,99]),(2,[112,114,105,118,97,116,101]),(4,[112,114,111,116,101,99,116,101,100]),(8,[115,116,97,116,105,99]),(16,[102,105,110,97,108]),(32,[115,121,110,99]),(1024,[97,98,115,116,114,97,99,116])]
def B9 (fl:Int):List Tk:=(Y8.filter fun p=>hasB fl p.1).map fun p=>kw p.2
def MA (w:List UInt8):List (List UInt8)->List Tk
 |[]=>[]
 |s::r=>kw w::iw s::(r.map fun t=>[sg [44],iw t]).flatten
def XW (f:Fc):List Tk:=B9 f.fl++sC f.ty.dim f.ty.base f.ty.name++[iw f.name]++[sg [59]]
def Zo (d:Cd):List Tk:=
 if hasB d.fl 512=true then B9 (bits .andNot .i64 d.fl 1024)++[kw [105,110,116,101,114,102,97,99,101]]++[iw d.name]++MA [101,120,116,101,110,100,115] d.ifs
 else B9 d.fl++[kw [99,108,97,115,115]]++[iw d.name]++[kw [101,120,116,101,110,100,115]]++[iw d.super]++MA [105,109,112,108,101,109,101,110,116,115] d.ifs
def X7 (IT:List Tk) (MT:Md->List Tk) (d:Cd):List Tk:=
 Zo d++[sg [123]]++(d.fields.map XW).flatten++(if 0<d.init.length then[kw [115,116,97,116,105,99]]++IT else[])++(d.methods.map MT).flatten++[sg [125]]
def rF (l:List Tk):List Tk:=sg [123]::(l++[sg [125]])
def Ex.args:Ex->List Ex | .mk _ _ _ _ _ args=>args
def stT (k:Int) (nm:List UInt8) (ty:Ty) (tg ex:Ex) (B A:List Tk) (al:Nat):List Tk:=
 if k=4 then[kw [105,102]]++lN [n7 ex]++rF B++(if 0<al then[kw [101,108,115,101]]++rF A else[])
 else if k=5 then[kw [119,104,105,108,101]]++lN [n7 ex]++rF B
 else if k=8 then[kw [116,114,121]]++rF B++[kw [99,97,116,99,104]]++[sg [40]]++sC ty.dim ty.base ty.name++[iw nm]++[sg [41]]++rF A
 else if k=9 then[kw [115,121,110,99]]++lN [n7 ex]++rF B
 else if k=10 then rF B
 else(if k=1 then sC ty.dim ty.base ty.name++[iw nm]++[sg [61]]++n7 ex
  else if k=2 then n7 tg++[sg [61]]++n7 ex
  else if k=3 then n7 ex
  else if k=6 then[kw [114,101,116,117,114,110]]++(if ex.k≠0 then n7 ex else[])
  else if k=7 then[kw [116,104,114,111,119]]++n7 ex
  else if k=11 then[kw [115,117,112,101,114]]++lN (ex.args.map n7)
  else[])++[sg [59]]
mutual
def YK:St->List Tk
 | .mk k nm ty tg ex body alt=>stT k nm ty tg ex (yB body) (yB alt) alt.length
def yB:List St->List Tk
 |[]=>[]
 |e::r=>YK e++yB r
end
def WR (p:Pc):List Tk:=sC p.ty.dim p.ty.base p.ty.name++[iw p.name]
def Ux (d:Md):List Tk:=
 B9 d.fl++(if d.name=bJ then[kw [110,101,119]] else sC d.res.dim d.res.base d.res.name++[iw d.name])++lN (d.params.map WR)++(if d.hb=true then rF (yB d.body) else[sg [59]])
def ZF (d:Cd):List Tk:=X7 (rF (yB d.init)) Ux d
def YZ (l:List Cd):List Tk:=(l.map ZF).flatten
def abl (l:List Cd):List UInt8×Int:=if(dT [] l).2=0 then Zc (YZ l) else([],(dT [] l).2)
def aaR:List Cd:=[⟨0,[112,47,65],aY,[],[⟨0,⟨0,74,[]⟩,[120]⟩],[],[]⟩]
def abQ:List Cd:=[⟨0,[112,47,97],aY,[],[],[],[]⟩]
set_option maxRecDepth 100000 in
theorem NX:abl aaR=([99,108,97,115,115,32,112,58,58,65,32,101,120,116,101,110,100,115,32,108,97,110,103,58,58,79,98,106,101,99,116,32,123,32,108,111,110,103,32,120,32,59,32,125],0):=by decide+kernel
theorem NW:(dT [] abQ).2=4:=by decide+kernel
theorem Mk {m:Mem} {k n:Int} {s c:List UInt8} {ty:Ty} {args:List Ex} {a:Option Addr} {cp:Nat} {xs:List Value} (bQ:args.length<=cp) (hr:aw m a args.length 8 xs) (ao:Ct k n s c ty args.length) (cJ:dI m args xs):
  a8 m (.mk k n s c ty args) (en k n s c ty (.slice a args.length cp)):=by
 simp only[a8];exact⟨a,cp,xs,rfl,bQ,hr,ao,cJ⟩
theorem Vs {m:Mem} {xs:List Value}:dI m [] xs:=by simp only[dI]
end Go.Proofs.YtmdokbohofchgaaGreatDoor.E
namespace Go.Proofs.YtmdokbohofchgaaGreatDoor.E
open Go Go.ChangeShapes Go.WideShapes Go.ChangeAt Go.RowKit
theorem JP {α:Type} {p:Nat->α->Prop}:∀(n:Nat),(∀i,i<n->∃t,p i t)->∃ts:List α,ts.length=n/\∀i (hi:i<ts.length),p i ts[i]
 |0,_=>⟨[],rfl,fun i hi=>absurd hi (Nat.not_lt_zero _)⟩
 |n+1,h=>by
  obtain⟨ts,h1,h2⟩:=JP n fun i hi=>h i (by omega)
  obtain⟨t,ht⟩:=h n (Nat.lt_succ_self _);refine⟨ts++[t],by simp [h1],fun i hi=> ?_⟩;rcases Nat.lt_or_ge i ts.length with h3 |h3
  ·rw[List.getElem_append_left h3];exact h2 i h3
  ·have:i=n:=by rw[bc,nJ] at hi;omega
   subst this;rw[List.getElem_append_right h3];simpa using ht
theorem Kw {α:Type} {W:World} {a:Addr} {len sz:Nat} (fe:0<sz) {p:Nat->α->List Value->Prop} (h:∀i,i<len->∃(x:α) (cs:List Value),cs.length=sz/\(∀j,j<sz->W.cell? (a.add (i * sz+j))=cs[j]?)/\p i x cs):
  ∃(l:List α) (xs:List Value),l.length=len/\aw ⟨W,dR W⟩ (some a) len sz xs/\∀i (hi:i<l.length),p i l[i] ((xs.drop (i * sz)).take sz):=by
 obtain⟨ts,hl,hp⟩:=JP (α:=α×{cs:List Value // cs.length=sz}) (p:=fun i x=>(∀j,j<sz->W.cell? (a.add (i * sz+j))=x.2.1[j]?)/\p i x.1 x.2.1) len fun i hi=>by
  obtain⟨x,cs,h1,h2,h3⟩:=h i hi;exact⟨⟨x,cs,h1⟩,h2,h3⟩
 have NL:∀{i:Nat} (hi:i<ts.length),((flat (fun x=>x.2.1) ts).drop (i * sz)).take sz=ts[i].2.1:=fun hi=>mK (fun x=>x.2.2) hi
 have gX:∀(l:List (α×{cs:List Value // cs.length=sz})),(flat (fun x=>x.2.1) l).length=l.length * sz:=fun l=>by
  induction l with
  |nil=>simp [flat]
  |cons x r ih=>
   simp only[flat,aG,List.flatten_cons,bc,dk,Nat.succ_mul] at ih ⊢;rw[ih,x.2.2];omega
 refine⟨ts.map (·.1),flat (fun x=>x.2.1) ts,by simp [hl],⟨by rw[gX,hl],fun h0=>⟨a,rfl,?_,fun j hj=> ?_⟩⟩,fun i hi=> ?_⟩
 ·have h1:=(hp 0 (by omega)).1 0 fe;have h2:(ts[0]'(by omega)).2.1[0]? =some ((ts[0]'(by omega)).2.1[0]'(by rw[(ts[0]'(by omega)).2.2];exact fe)):=List.getElem?_eq_getElem _;rw[h2] at h1;have:=(vG h1).1;simpa [Addr.add] using this
 ·have hq:j / sz<ts.length:=by rw[hl];exact Nat.div_lt_of_lt_mul (by rw[Nat.mul_comm];exact hj)
  have hr:j % sz<sz:=Nat.mod_lt _ fe;have NK:j / sz * sz+j % sz=j:=Nat.div_add_mod' j sz;have h1:=(hp (j / sz) hq).1 (j % sz) hr;rw[NK] at h1;have h2:(flat (fun x=>x.2.1) ts)[j]? =(ts[j / sz]'hq).2.1[j % sz]? :=by
   rw[<- NL hq,List.getElem?_take,ak hr,List.getElem?_drop,NK]
  have h3:(ts[j / sz]'hq).2.1[j % sz]? =some ((ts[j / sz]'hq).2.1[j % sz]'(by rw[(ts[j / sz]'hq).2.2];exact hr)):=List.getElem?_eq_getElem _;refine⟨by rw[h2];exact h1,?_⟩;rw[h3] at h1;have h4:=vG h1;have NV:=(hp 0 (by omega)).1 0 fe;have h5:(ts[0]'(by omega)).2.1[0]? =some ((ts[0]'(by omega)).2.1[0]'(by rw[(ts[0]'(by omega)).2.2];exact fe)):=List.getElem?_eq_getElem _;rw[h5] at NV;have hs:a.spot=none:=by
   have:=(vG NV).1;simpa [Addr.add] using this
  obtain⟨p1,p2,_⟩:=kU a j hs;rw[p1,p2] at h4;exact h4.2
 ·have lr:i<ts.length:=by simpa using hi
  rw[NL lr];simpa using(hp i lr).2
theorem IL {m:Mem}:∀(l:List Ex) (xs:List Value),(∀i (hi:i<l.length),a8 m l[i] ((xs.drop (i * 8)).take 8))->dI m l xs
 |[],_,_=>by simp only[dI]
 |e::r,xs,h=>by
  simp only[dI];have h0:=h 0 (by simp);rw[Nat.zero_mul,List.drop_zero,List.getElem_cons_zero] at h0;refine⟨h0,IL r (xs.drop 8) fun i hi=> ?_⟩;have:=h (i+1) (by simpa using hi);rw[List.getElem_cons_succ] at this;rw[List.drop_drop,show 8+i * 8=(i+1) * 8 by omega];exact this
theorem Ie {H:Type}:∀(l:List Ex) (ds:List (DataW H)),l.length=ds.length->(∀i (h:i<l.length) (h' :i<ds.length),nU l[i]<=Rows.uptoBulk ds[i])->oW l<=Rows.uptoBulkAll ds
 |[],_,_,_=>by simp [oW]
 |e::r,[],h,_=>by simp at h
 |e::r,d::ds,h,hp=>by
  have h1:=hp 0 (by simp) (by simp);have h2:=Ie r ds (by simpa using h) fun i h3 h4=>by
   have:=hp (i+1) (by simpa using h3) (by simpa using h4);simp only[List.getElem_cons_succ] at this;exact this
  simp only[oW,Rows.uptoBulkAll];simp only[List.getElem_cons_zero] at h1;omega
mutual
theorem Dy:∀(e:Ex),eS e<=nU e
 | .mk _ _ _ _ _ args=>by
  have:=Ht args;simp only[eS,nU];omega
theorem Ht:∀(l:List Ex),iX l<=oW l
 |[]=>by simp [iX]
 |e::r=>by
  have h1:=Dy e;have h2:=Ht r;simp only[iX,oW];omega
end
theorem ID:∀(l:List Ex),l.length<=oW l
 |[]=>aF _
 | .mk _ _ _ _ _ args::r=>by
  have:=ID r;simp only[dk,oW,nU];omega
section
variable {H:Type} {enc:TypeId×Value->H} {W:World}
theorem tV {z:Int} (w:(Lit.int .i64 z).wf=true):az z:=by
 have h:decide (IntKind.min .i64<=z)=true/\decide (z<=IntKind.max .i64)=true:=Bool.and_eq_true_iff.1 w;exact⟨of_decide_eq_true h.1,of_decide_eq_true h.2⟩
set_option maxRecDepth 100000 in
theorem vR {fuel:Nat} {cs:List Value} {d:DataW H} {p:List MemPlace} (h:DataW.trod enc Tryz.prog W 0 (fun _=>true) true fuel 35 cs=some (d,p)):∃t:Ty,cs=uH t/\az t.dim/\(0<=t.base/\t.base<256)/\t.name.length<=Rows.uptoBulk d:=by
 obtain⟨ys,n',_,hy,hlen,gg,hf⟩:=DataW.trod_struct Tryz.underlying35 h;have hC:Tryz.prog.cellsOf 35=3:=by kernel_rfl
 have k3:Tryz.prog.cellsOf 3=1:=by kernel_rfl
 have k5:Tryz.prog.cellsOf 5=1:=by kernel_rfl
 have k9:Tryz.prog.cellsOf 9=1:=by kernel_rfl
 rw[hC] at hlen;match cs,hlen with
 |[c0,c1,c2],_=>
  match ys,gg with
  |[y0,y1,y2],_=>
   have f0:DataW.trod enc Tryz.prog W 0 (fun _=>true) true n' 3 [c0]=some y0:=by have this:DataW.trod enc Tryz.prog W 0 (fun _=>true) true n' 3 (([c0,c1,c2].drop 0).take (Tryz.prog.cellsOf 3))=some y0:=hf 0 _ rfl;rw[k3] at this;exact this
   have f1:DataW.trod enc Tryz.prog W 0 (fun _=>true) true n' 5 [c1]=some y1:=by have this:DataW.trod enc Tryz.prog W 0 (fun _=>true) true n' 5 (([c0,c1,c2].drop 1).take (Tryz.prog.cellsOf 5))=some y1:=hf 1 _ rfl;rw[k5] at this;exact this
   have f2:DataW.trod enc Tryz.prog W 0 (fun _=>true) true n' 9 [c2]=some y2:=by have this:DataW.trod enc Tryz.prog W 0 (fun _=>true) true n' 9 (([c0,c1,c2].drop 2).take (Tryz.prog.cellsOf 9))=some y2:=hf 2 _ rfl;rw[k9] at this;exact this
   obtain⟨z0,e0,_,w0⟩:=DataW.trod_int Tryz.underlying3 f0;obtain⟨z1,e1,_,w1⟩:=DataW.trod_int Tryz.underlying5 f1;obtain⟨s,e2,x2,_⟩:=DataW.trod_string Tryz.underlying9 f2;cases e0;cases e1;cases e2;refine⟨⟨z0,z1,tl s⟩,by simp only[uH,eY],tV w0,?_,?_⟩
   ·have h:decide (IntKind.min .u8<=z1)=true/\decide (z1<=IntKind.max .u8)=true:=Bool.and_eq_true_iff.1 w1;have h1:IntKind.min .u8<=z1:=of_decide_eq_true h.1;have h2:z1<=IntKind.max .u8:=of_decide_eq_true h.2;have h3:IntKind.min .u8=0:=by decide
    have h4:IntKind.max .u8=255:=by decide
    simp only;omega
   ·have hD:d= .agg [y0.1,y1.1,y2.1]:=(Prod.mk.inj hy).1;have h2:Rows.uptoBulk d=Rows.uptoBulk y0.1+(Rows.uptoBulk y1.1+(Rows.uptoBulk y2.1+0))+1:=by rw[hD];rfl
    have h3:Rows.uptoBulk y2.1=s.data.toList.length+1:=by rw[x2];rfl
    show(tl s).length<=_;have e:(tl s).length=s.data.toList.length:=rfl;omega
set_option maxHeartbeats 1000000 in
set_option maxRecDepth 100000 in
theorem KG:∀(B:Nat) (fuel:Nat) (cs:List Value) (d:DataW H) (p:List MemPlace),DataW.trod enc Tryz.prog W 0 (fun _=>true) true fuel 57 cs=some (d,p)->Rows.uptoBulk d<=B->B<=1048576->∃e:Ex,a8 ⟨W,dR W⟩ e cs/\nU e<=Rows.uptoBulk d:=by
 intro B;induction B with
 |zero=>intro fuel cs d p _ hB _;have:=Be d;omega
 |succ B ih=>
  intro fuel cs d p h hB hb;obtain⟨ys,n',_,hy,hlen,gg,hf⟩:=DataW.trod_struct Tryz.underlying57 h;have hC:Tryz.prog.cellsOf 57=8:=by kernel_rfl
  have kT:Tryz.prog.cellsOf 35=3:=by kernel_rfl
  have kL:Tryz.prog.cellsOf 55=1:=by kernel_rfl
  have k3:Tryz.prog.cellsOf 3=1:=by kernel_rfl
  have k9:Tryz.prog.cellsOf 9=1:=by kernel_rfl
  rw[hC] at hlen;match cs,hlen with
  |[c0,c1,c2,c3,c4,c5,c6,c7],_=>
   match ys,gg with
   |[y0,y1,y2,y3,y4,y5],_=>
    have f0:DataW.trod enc Tryz.prog W 0 (fun _=>true) true n' 3 [c0]=some y0:=by have this:DataW.trod enc Tryz.prog W 0 (fun _=>true) true n' 3 (([c0,c1,c2,c3,c4,c5,c6,c7].drop 0).take (Tryz.prog.cellsOf 3))=some y0:=hf 0 _ rfl;rw[k3] at this;exact this
    have f1:DataW.trod enc Tryz.prog W 0 (fun _=>true) true n' 3 [c1]=some y1:=by have this:DataW.trod enc Tryz.prog W 0 (fun _=>true) true n' 3 (([c0,c1,c2,c3,c4,c5,c6,c7].drop 1).take (Tryz.prog.cellsOf 3))=some y1:=hf 1 _ rfl;rw[k3] at this;exact this
    have f2:DataW.trod enc Tryz.prog W 0 (fun _=>true) true n' 9 [c2]=some y2:=by have this:DataW.trod enc Tryz.prog W 0 (fun _=>true) true n' 9 (([c0,c1,c2,c3,c4,c5,c6,c7].drop 2).take (Tryz.prog.cellsOf 9))=some y2:=hf 2 _ rfl;rw[k9] at this;exact this
    have f3:DataW.trod enc Tryz.prog W 0 (fun _=>true) true n' 9 [c3]=some y3:=by have this:DataW.trod enc Tryz.prog W 0 (fun _=>true) true n' 9 (([c0,c1,c2,c3,c4,c5,c6,c7].drop 3).take (Tryz.prog.cellsOf 9))=some y3:=hf 3 _ rfl;rw[k9] at this;exact this
    have f4:DataW.trod enc Tryz.prog W 0 (fun _=>true) true n' 35 [c4,c5,c6]=some y4:=by have this:DataW.trod enc Tryz.prog W 0 (fun _=>true) true n' 35 (([c0,c1,c2,c3,c4,c5,c6,c7].drop 4).take (Tryz.prog.cellsOf 35))=some y4:=hf 4 _ rfl;rw[kT] at this;exact this
    have f5:DataW.trod enc Tryz.prog W 0 (fun _=>true) true n' 55 [c7]=some y5:=by have this:DataW.trod enc Tryz.prog W 0 (fun _=>true) true n' 55 (([c0,c1,c2,c3,c4,c5,c6,c7].drop 7).take (Tryz.prog.cellsOf 55))=some y5:=hf 5 _ rfl;rw[kL] at this;exact this
    obtain⟨z0,e0,_,w0⟩:=DataW.trod_int Tryz.underlying3 f0;obtain⟨z1,e1,_,w1⟩:=DataW.trod_int Tryz.underlying3 f1;obtain⟨s2,e2,x2,_⟩:=DataW.trod_string Tryz.underlying9 f2;obtain⟨s3,e3,x3,_⟩:=DataW.trod_string Tryz.underlying9 f3;obtain⟨ty,e4,t1,t2,t3⟩:=vR (d:=y4.1) (p:=y4.2) f4;have hD:d= .agg [y0.1,y1.1,y2.1,y3.1,y4.1,y5.1]:=(Prod.mk.inj hy).1;have oH:Rows.uptoBulk d=Rows.uptoBulk y0.1+(Rows.uptoBulk y1.1+(Rows.uptoBulk y2.1+(Rows.uptoBulk y3.1+(Rows.uptoBulk y4.1+(Rows.uptoBulk y5.1+0)))))+1:=by rw[hD];rfl
    have b2:Rows.uptoBulk y2.1=s2.data.toList.length+1:=by rw[x2];rfl
    have b3:Rows.uptoBulk y3.1=s3.data.toList.length+1:=by rw[x3];rfl
    have l2:(tl s2).length=s2.data.toList.length:=rfl;have l3:(tl s3).length=s3.data.toList.length:=rfl;simp only[uH,List.cons.injEq,and_true] at e4;obtain⟨rfl,rfl,rfl⟩:=e4;cases e0;cases e1;cases e2;cases e3;have ao:∀l:Nat,l<=ay->Ct z0 z1 (tl s2) (tl s3) ty l:=fun l hl=>⟨tV w0,tV w1,by simp only[ay];omega,by simp only[ay];omega,⟨t1,t2,by simp only[ay];omega⟩,hl⟩
    have dG:∀c7,[Value.int .i64 z0,.int .i64 z1,.string s2,.string s3,.int .i64 ty.dim,.int .u8 ty.base,.string (bs ty.name),c7]=en z0 z1 (tl s2) (tl s3) ty c7:=fun c7=>by simp only[en,eY]
    rcases Deep.open_slice Tryz.underlying55 f5 with ⟨hc,hx⟩ |⟨a,len,cap,m,n,D,Pl,hcs7,_,hl,hm,hmm,hx,hi⟩
    ·have u7:c7= .slice none 0 0:=by simpa using hc
     subst u7;refine⟨.mk z0 z1 (tl s2) (tl s3) ty [],?_,by simp only[nU,oW];omega⟩;rw[dG];exact Mk (args:=[]) (aC _) gK (ao _ (aF _)) Vs
    ·have u7:c7= .slice (some a) len cap:=by simpa using hcs7
     have aK:m=cap:=by simpa using hmm
     subst u7;have GD:y5.1= .slice (List.map D (List.range len)) (List.map (fun j=>D (len+j)) (List.range (m - len))):=(Prod.mk.inj hx).1;have hb5:Rows.uptoBulk y5.1=Rows.uptoBulkAll (List.map D (List.range len))+Rows.uptoBulkAll (List.map (fun j=>D (len+j)) (List.range (m - len)))+1:=by rw[GD];rfl
     obtain⟨l,xs,ny,hr,hp⟩:=Kw (W:=W) (a:=a) (len:=len) (sz:=8) (by decide) (p:=fun i (x:Ex) cs=>a8 ⟨W,dR W⟩ x cs/\nU x<=Rows.uptoBulk (D i)) fun i dF=>by
      obtain⟨bh,hc,uR⟩:=hi i (by omega);rw[hC] at hc;obtain⟨_,aU,xA⟩:=World.cells?_some hc;have qO:D i∈List.map D (List.range len):=List.mem_map.2 ⟨i,List.mem_range.2 dF,rfl⟩;have jQ:=EB qO;obtain⟨e,he,hs⟩:=ih n bh (D i) (Pl i) uR (by omega) (by omega);exact⟨e,bh,aU,fun j hj=>by rw[<- Deep.add_add];exact xA j hj,he,hs⟩
     have fe:=Ie l (List.map D (List.range len)) (by simp [ny]) fun i h1 h2=>by simpa using(hp i h1).2
     have CQ:=ID l;subst ny;refine⟨.mk z0 z1 (tl s2) (tl s3) ty l,?_,by simp only[nU];omega⟩;rw[dG];exact Mk hl hr (ao _ (by simp only[ay];omega)) (IL l xs fun i hi=>(hp i hi).1)
end
mutual
def nT:St->Nat
 | .mk _ _ _ tg ex body alt=>1+nU ex+nU tg+iW body+iW alt
def iW:List St->Nat
 |[]=>0
 |e::r=>nT e+iW r
end
end Go.Proofs.YtmdokbohofchgaaGreatDoor.E
namespace Go.Proofs.YtmdokbohofchgaaGreatDoor.E
open Go Go.ChangeShapes Go.WideShapes Go.ChangeAt Go.RowKit
theorem Bs {α:Type} {f:α->List Value} {sz:Nat} (hf:∀x,(f x).length=sz):∀(l:List α) (xs:List Value),xs.length=l.length * sz->(∀i (hi:i<l.length),(xs.drop (i * sz)).take sz=f l[i])->xs=flat f l
 |[],xs,h,_=>by
  have:xs=[]:=List.length_eq_zero_iff.1 (by simpa using h);subst this;rfl
 |x::r,xs,h,hp=>by
  have h0:=hp 0 (by simp);rw[Nat.zero_mul,List.drop_zero,List.getElem_cons_zero] at h0;have hl:(xs.drop sz).length=r.length * sz:=by
   rw[gI,h,dk,Nat.succ_mul];omega
  have hr:=Bs hf r (xs.drop sz) hl fun i hi=>by
   have:=hp (i+1) (by simpa using hi);rw[List.getElem_cons_succ] at this;rw[List.drop_drop,<- this,Nat.succ_mul,Nat.add_comm]
  have e:flat f (x::r)=f x++flat f r:=rfl;rw[e,<- h0,<- hr,List.take_append_drop]
theorem IJ:∀l:List (List UInt8),flat (fun s=>[.string (bs s)]) l=strs l
 |[]=>rfl
 |a::r=>by
  have h:=IJ r;simp only[flat,strs,aG,List.flatten_cons,fv,List.nil_append] at h ⊢;rw[h]
theorem Em {α:Type} {R:α->List Value->Prop} {sz:Nat}:∀(l:List α) (xs:List Value),(∀i (hi:i<l.length),R l[i] ((xs.drop (i * sz)).take sz))->dZ R sz l xs
 |[],_,_=>trivial
 |x::r,xs,h=>by
  have h0:=h 0 (by simp);rw[Nat.zero_mul,List.drop_zero,List.getElem_cons_zero] at h0;refine⟨h0,Em r (xs.drop sz) fun i hi=> ?_⟩;have:=h (i+1) (by simpa using hi);rw[List.getElem_cons_succ] at this;rw[List.drop_drop,show sz+i * sz=(i+1) * sz by rw[Nat.succ_mul,Nat.add_comm]];exact this
theorem xS {m:Mem}:∀(l:List St) (xs:List Value),(∀i (hi:i<l.length),et m l[i] ((xs.drop (i * 23)).take 23))->bL m l xs
 |[],_,_=>by simp only[bL]
 |x::r,xs,h=>by
  simp only[bL];have h0:=h 0 (by simp);rw[Nat.zero_mul,List.drop_zero,List.getElem_cons_zero] at h0;refine⟨h0,xS r (xs.drop 23) fun i hi=> ?_⟩;have:=h (i+1) (by simpa using hi);rw[List.getElem_cons_succ] at this;rw[List.drop_drop,show 23+i * 23=(i+1) * 23 by omega];exact this
theorem Je {H:Type} {α:Type} {size:α->Nat}:∀(l:List α) (ds:List (DataW H)),l.length=ds.length->(∀i (h:i<l.length) (h' :i<ds.length),size l[i]<=Rows.uptoBulk ds[i])->(l.map size).sum<=Rows.uptoBulkAll ds
 |[],_,_,_=>by simp
 |e::r,[],h,_=>by simp at h
 |e::r,d::ds,h,hp=>by
  have h1:=hp 0 (by simp) (by simp);have h2:=Je (size:=size) r ds (by simpa using h) fun i h3 h4=>by
   have:=hp (i+1) (by simpa using h3) (by simpa using h4);simp only[List.getElem_cons_succ] at this;exact this
  simp only[aG,List.sum_cons,Rows.uptoBulkAll];simp only[List.getElem_cons_zero] at h1;omega
theorem AG:∀(l:List St),(l.map nT).sum=iW l
 |[]=>rfl
 |e::r=>by simp only[aG,List.sum_cons,iW,AG r]
section
variable {H:Type} {enc:TypeId×Value->H} {W:World}
theorem pZ {α:Type} {t e:TypeId} {sz:Nat} (ht:Tryz.prog.underlying t=some (.slice e)) (hC:Tryz.prog.cellsOf e=sz) (fe:0<sz) (R:α->List Value->Prop) (size:α->Nat) {fuel:Nat} {c:Value} {d:DataW H} {p:List MemPlace}
  (h:DataW.trod enc Tryz.prog W 0 (fun _=>true) true fuel t [c]=some (d,p)) (ih:∀n bh D Pl,DataW.trod enc Tryz.prog W 0 (fun _=>true) true n e bh=some (D,Pl)->Rows.uptoBulk D<Rows.uptoBulk d->∃x,R x bh/\size x<=Rows.uptoBulk D):
  ∃(l:List α) (a:Option Addr) (n cp:Nat) (xs:List Value),c= .slice a n cp/\n=l.length/\n<=cp/\aw ⟨W,dR W⟩ a n sz xs/\(∀i (hi:i<l.length),R l[i] ((xs.drop (i * sz)).take sz))/\(l.map size).sum+1<=Rows.uptoBulk d/\l.length+1<=Rows.uptoBulk d:=by
 rcases Deep.open_slice ht h with ⟨hc,hx⟩ |⟨a,len,cap,m,n,D,Pl,hcs7,_,hl,hm,hmm,hx,hi⟩
 ·have u7:c= .slice none 0 0:=by simpa using hc
  have:=Be d;exact⟨[],none,0,0,[],u7,rfl,aC _,gK,fun i hi=>absurd hi (Nat.not_lt_zero _),by simpa using this,by simpa using this⟩
 ·have u7:c= .slice (some a) len cap:=by simpa using hcs7
  have aK:m=cap:=by simpa using hmm
  have GD:d= .slice (List.map D (List.range len)) (List.map (fun j=>D (len+j)) (List.range (m - len))):=(Prod.mk.inj hx).1;have hb5:Rows.uptoBulk d=Rows.uptoBulkAll (List.map D (List.range len))+Rows.uptoBulkAll (List.map (fun j=>D (len+j)) (List.range (m - len)))+1:=by rw[GD];rfl
  obtain⟨l,xs,ny,hr,hp⟩:=Kw (W:=W) (a:=a) (len:=len) (sz:=sz) fe (p:=fun i (x:α) cs=>R x cs/\size x<=Rows.uptoBulk (D i)) fun i dF=>by
   obtain⟨bh,hc,uR⟩:=hi i (by omega);rw[hC] at hc;obtain⟨_,aU,xA⟩:=World.cells?_some hc;have qO:D i∈List.map D (List.range len):=List.mem_map.2 ⟨i,List.mem_range.2 dF,rfl⟩;have jQ:=EB qO;obtain⟨e,he,hs⟩:=ih n bh (D i) (Pl i) uR (by omega);exact⟨e,bh,aU,fun j hj=>by rw[<- Deep.add_add];exact xA j hj,he,hs⟩
  have adQ:=Je (size:=size) l (List.map D (List.range len)) (by simp [ny]) fun i h1 h2=>by simpa using(hp i h1).2
  have hlen:=Ka (List.map D (List.range len));rw[List.length_map,List.length_range] at hlen;exact⟨l,some a,len,cap,xs,u7,ny.symm,hl,hr,fun i hi=>(hp i hi).1,by omega,by omega⟩
set_option maxHeartbeats 2000000 in
set_option maxRecDepth 100000 in
theorem KF:∀(B:Nat) (fuel:Nat) (cs:List Value) (d:DataW H) (p:List MemPlace),DataW.trod enc Tryz.prog W 0 (fun _=>true) true fuel 59 cs=some (d,p)->Rows.uptoBulk d<=B->B<=1048576->∃e:St,et ⟨W,dR W⟩ e cs/\nT e<=Rows.uptoBulk d:=by
 intro B;induction B with
 |zero=>intro fuel cs d p _ hB _;have:=Be d;omega
 |succ B ih=>
  intro fuel cs d p h hB hb;obtain⟨ys,n',_,hy,hlen,gg,hf⟩:=DataW.trod_struct Tryz.underlying59 h;rw[show Tryz.prog.cellsOf 59=23 by kernel_rfl] at hlen;match cs,hlen with
  |[c0,c1,c2,c3,c4,c5,c6,c7,c8,c9,tB,tA,tz,c13,tw,tu,tr,c17,tq,c19,c20,c21,c22],_=>
  match ys,gg with
  |[y0,y1,y2,y3,y4,y5,y6],_=>
   have f0:DataW.trod enc Tryz.prog W 0 (fun _=>true) true n' 3 [c0]=some y0:=by have this:DataW.trod enc Tryz.prog W 0 (fun _=>true) true n' 3 (([c0,c1,c2,c3,c4,c5,c6,c7,c8,c9,tB,tA,tz,c13,tw,tu,tr,c17,tq,c19,c20,c21,c22].drop 0).take (Tryz.prog.cellsOf 3))=some y0:=hf 0 _ rfl;rw[show Tryz.prog.cellsOf 3=1 by kernel_rfl] at this;exact this
   have f1:DataW.trod enc Tryz.prog W 0 (fun _=>true) true n' 9 [c1]=some y1:=by have this:DataW.trod enc Tryz.prog W 0 (fun _=>true) true n' 9 (([c0,c1,c2,c3,c4,c5,c6,c7,c8,c9,tB,tA,tz,c13,tw,tu,tr,c17,tq,c19,c20,c21,c22].drop 1).take (Tryz.prog.cellsOf 9))=some y1:=hf 1 _ rfl;rw[show Tryz.prog.cellsOf 9=1 by kernel_rfl] at this;exact this
   have f2:DataW.trod enc Tryz.prog W 0 (fun _=>true) true n' 35 [c2,c3,c4]=some y2:=by have this:DataW.trod enc Tryz.prog W 0 (fun _=>true) true n' 35 (([c0,c1,c2,c3,c4,c5,c6,c7,c8,c9,tB,tA,tz,c13,tw,tu,tr,c17,tq,c19,c20,c21,c22].drop 2).take (Tryz.prog.cellsOf 35))=some y2:=hf 2 _ rfl;rw[show Tryz.prog.cellsOf 35=3 by kernel_rfl] at this;exact this
   have f3:DataW.trod enc Tryz.prog W 0 (fun _=>true) true n' 57 [c5,c6,c7,c8,c9,tB,tA,tz]=some y3:=by have this:DataW.trod enc Tryz.prog W 0 (fun _=>true) true n' 57 (([c0,c1,c2,c3,c4,c5,c6,c7,c8,c9,tB,tA,tz,c13,tw,tu,tr,c17,tq,c19,c20,c21,c22].drop 5).take (Tryz.prog.cellsOf 57))=some y3:=hf 3 _ rfl;rw[show Tryz.prog.cellsOf 57=8 by kernel_rfl] at this;exact this
   have f4:DataW.trod enc Tryz.prog W 0 (fun _=>true) true n' 57 [c13,tw,tu,tr,c17,tq,c19,c20]=some y4:=by have this:DataW.trod enc Tryz.prog W 0 (fun _=>true) true n' 57 (([c0,c1,c2,c3,c4,c5,c6,c7,c8,c9,tB,tA,tz,c13,tw,tu,tr,c17,tq,c19,c20,c21,c22].drop 13).take (Tryz.prog.cellsOf 57))=some y4:=hf 4 _ rfl;rw[show Tryz.prog.cellsOf 57=8 by kernel_rfl] at this;exact this
   have f5:DataW.trod enc Tryz.prog W 0 (fun _=>true) true n' 31 [c21]=some y5:=by have this:DataW.trod enc Tryz.prog W 0 (fun _=>true) true n' 31 (([c0,c1,c2,c3,c4,c5,c6,c7,c8,c9,tB,tA,tz,c13,tw,tu,tr,c17,tq,c19,c20,c21,c22].drop 21).take (Tryz.prog.cellsOf 31))=some y5:=hf 5 _ rfl;rw[show Tryz.prog.cellsOf 31=1 by kernel_rfl] at this;exact this
   have f6:DataW.trod enc Tryz.prog W 0 (fun _=>true) true n' 31 [c22]=some y6:=by have this:DataW.trod enc Tryz.prog W 0 (fun _=>true) true n' 31 (([c0,c1,c2,c3,c4,c5,c6,c7,c8,c9,tB,tA,tz,c13,tw,tu,tr,c17,tq,c19,c20,c21,c22].drop 22).take (Tryz.prog.cellsOf 31))=some y6:=hf 6 _ rfl;rw[show Tryz.prog.cellsOf 31=1 by kernel_rfl] at this;exact this
   have hD:d= .agg [y0.1,y1.1,y2.1,y3.1,y4.1,y5.1,y6.1]:=(Prod.mk.inj hy).1;have oH:Rows.uptoBulk d=Rows.uptoBulk y0.1+(Rows.uptoBulk y1.1+(Rows.uptoBulk y2.1+(Rows.uptoBulk y3.1+(Rows.uptoBulk y4.1+(Rows.uptoBulk y5.1+(Rows.uptoBulk y6.1+0))))))+1:=by rw[hD];rfl
   obtain⟨z0,e0,_,w0⟩:=DataW.trod_int Tryz.underlying3 f0;cases e0;obtain⟨s1,e1,x1,_⟩:=DataW.trod_string Tryz.underlying9 f1;cases e1;have b1:Rows.uptoBulk y1.1=s1.data.toList.length+1:=by rw[x1];rfl
   have l1:(tl s1).length=s1.data.toList.length:=rfl;obtain⟨M6,e2,t2a,t2b,t2c⟩:=vR (d:=y2.1) (p:=y2.2) f2;simp only[uH,List.cons.injEq,and_true] at e2;obtain⟨rfl,rfl,rfl⟩:=e2;obtain⟨NX,h3a,h3b⟩:=KG (Rows.uptoBulk y3.1) n' _ y3.1 y3.2 f3 (aC _) (by omega);obtain⟨N3,e3⟩:=rN h3a;rw[e3] at h3a;simp only[Nd.cs,List.cons.injEq,and_true] at e3;obtain⟨rfl,rfl,rfl,rfl,rfl,rfl,rfl,rfl⟩:=e3;obtain⟨NW,h4a,h4b⟩:=KG (Rows.uptoBulk y4.1) n' _ y4.1 y4.2 f4 (aC _) (by omega);obtain⟨N4,e4⟩:=rN h4a;rw[e4] at h4a;simp only[Nd.cs,List.cons.injEq,and_true] at e4;obtain⟨rfl,rfl,rfl,rfl,rfl,rfl,rfl,rfl⟩:=e4;obtain⟨body,a5,n5,k5,xs5,e5,g5a,g5b,g5c,g5d,g5e,g5f⟩:=pZ (Tryz.underlying31) (show Tryz.prog.cellsOf 59=23 by kernel_rfl) (by decide) (et ⟨W,dR W⟩) nT (d:=y5.1) (p:=y5.2) f5 fun n bh D Pl ht aj=>ih n bh D Pl ht (by omega) (by omega)
   obtain⟨alt,a6,n6,k6,xs6,e6,g6a,g6b,g6c,g6d,g6e,g6f⟩:=pZ (Tryz.underlying31) (show Tryz.prog.cellsOf 59=23 by kernel_rfl) (by decide) (et ⟨W,dR W⟩) nT (d:=y6.1) (p:=y6.2) f6 fun n bh D Pl ht aj=>ih n bh D Pl ht (by omega) (by omega)
   subst e5 e6;rw[AG] at g5e g6e;refine⟨.mk z0 (tl s1) M6 NX NW body alt,?_,by simp only[nT];omega⟩;have:=fH (m:=⟨W,dR W⟩) (⟨z0,tl s1,M6,N3,N4,a5,n5,k5,a6,n6,k6⟩:Sd) h3a h4a g5a g5b g6a g6b ⟨tV w0,by simp only[ay];omega,⟨t2a,t2b,by simp only[ay];omega⟩,by simp only[ay];omega,by simp only[ay];omega⟩ g5c g6c (xS body xs5 g5d) (xS alt xs6 g6d);simp only[Sd.cs,eY] at this;exact this
end
def abZ (l:List Cd):Prop:=∀d∈l,iW d.init<=ay/\∀e∈d.methods,iW e.body<=ay
end Go.Proofs.YtmdokbohofchgaaGreatDoor.E
namespace Go.Proofs.YtmdokbohofchgaaGreatDoor.E
open Go Go.ChangeShapes Go.WideShapes Go.ChangeAt Go.RowKit
def qq (d:Md):Nat:=1+d.params.length+iW d.body
def mP (d:Cd):Nat:=1+d.fields.length+d.ifs.length+iW d.init+(d.methods.map qq).sum
section
variable {H:Type} {enc:TypeId×Value->H} {W:World}
set_option maxRecDepth 100000 in
theorem Uo {fuel:Nat} {cs:List Value} {d:DataW H} {p:List MemPlace} (h:DataW.trod enc Tryz.prog W 0 (fun _=>true) true fuel 95 cs=some (d,p)) (hb:Rows.uptoBulk d<=1048576):∃f:Pc,cs=f.cs/\PcOk f:=by
 obtain⟨ys,n',_,hy,hlen,gg,hf⟩:=DataW.trod_struct Tryz.underlying95 h;rw[show Tryz.prog.cellsOf 95=4 by kernel_rfl] at hlen;match cs,hlen with
 |[c0,c1,c2,c3],_=>
 match ys,gg with
 |[y0,y1],_=>
  have f0:DataW.trod enc Tryz.prog W 0 (fun _=>true) true n' 35 [c0,c1,c2]=some y0:=by have this:DataW.trod enc Tryz.prog W 0 (fun _=>true) true n' 35 (([c0,c1,c2,c3].drop 0).take (Tryz.prog.cellsOf 35))=some y0:=hf 0 _ rfl;rw[show Tryz.prog.cellsOf 35=3 by kernel_rfl] at this;exact this
  have f1:DataW.trod enc Tryz.prog W 0 (fun _=>true) true n' 9 [c3]=some y1:=by have this:DataW.trod enc Tryz.prog W 0 (fun _=>true) true n' 9 (([c0,c1,c2,c3].drop 3).take (Tryz.prog.cellsOf 9))=some y1:=hf 1 _ rfl;rw[show Tryz.prog.cellsOf 9=1 by kernel_rfl] at this;exact this
  have hD:d= .agg [y0.1,y1.1]:=(Prod.mk.inj hy).1;have oH:Rows.uptoBulk d=Rows.uptoBulk y0.1+(Rows.uptoBulk y1.1+0)+1:=by rw[hD];rfl
  obtain⟨ty0,e0,t0a,t0b,t0c⟩:=vR (d:=y0.1) (p:=y0.2) f0;simp only[uH,List.cons.injEq,and_true] at e0;obtain⟨rfl,rfl,rfl⟩:=e0;obtain⟨s1,e1,x1,_⟩:=DataW.trod_string Tryz.underlying9 f1;cases e1;have b1:Rows.uptoBulk y1.1=s1.data.toList.length+1:=by rw[x1];rfl
  have l1:(tl s1).length=s1.data.toList.length:=rfl;exact⟨⟨ty0,tl s1⟩,by simp only[Pc.cs,eY],⟨⟨t0a,t0b,by simp only[ay];omega⟩,by simp only[ay];omega⟩⟩
set_option maxRecDepth 100000 in
theorem Uq {fuel:Nat} {cs:List Value} {d:DataW H} {p:List MemPlace} (h:DataW.trod enc Tryz.prog W 0 (fun _=>true) true fuel 40 cs=some (d,p)) (hb:Rows.uptoBulk d<=1048576):∃f:Fc,cs=f.cs/\FcOk f:=by
 obtain⟨ys,n',_,hy,hlen,gg,hf⟩:=DataW.trod_struct Tryz.underlying40 h;rw[show Tryz.prog.cellsOf 40=5 by kernel_rfl] at hlen;match cs,hlen with
 |[c0,c1,c2,c3,c4],_=>
 match ys,gg with
 |[y0,y1,y2],_=>
  have f0:DataW.trod enc Tryz.prog W 0 (fun _=>true) true n' 3 [c0]=some y0:=by have this:DataW.trod enc Tryz.prog W 0 (fun _=>true) true n' 3 (([c0,c1,c2,c3,c4].drop 0).take (Tryz.prog.cellsOf 3))=some y0:=hf 0 _ rfl;rw[show Tryz.prog.cellsOf 3=1 by kernel_rfl] at this;exact this
  have f1:DataW.trod enc Tryz.prog W 0 (fun _=>true) true n' 35 [c1,c2,c3]=some y1:=by have this:DataW.trod enc Tryz.prog W 0 (fun _=>true) true n' 35 (([c0,c1,c2,c3,c4].drop 1).take (Tryz.prog.cellsOf 35))=some y1:=hf 1 _ rfl;rw[show Tryz.prog.cellsOf 35=3 by kernel_rfl] at this;exact this
  have f2:DataW.trod enc Tryz.prog W 0 (fun _=>true) true n' 9 [c4]=some y2:=by have this:DataW.trod enc Tryz.prog W 0 (fun _=>true) true n' 9 (([c0,c1,c2,c3,c4].drop 4).take (Tryz.prog.cellsOf 9))=some y2:=hf 2 _ rfl;rw[show Tryz.prog.cellsOf 9=1 by kernel_rfl] at this;exact this
  have hD:d= .agg [y0.1,y1.1,y2.1]:=(Prod.mk.inj hy).1;have oH:Rows.uptoBulk d=Rows.uptoBulk y0.1+(Rows.uptoBulk y1.1+(Rows.uptoBulk y2.1+0))+1:=by rw[hD];rfl
  obtain⟨z0,e0,_,w0⟩:=DataW.trod_int Tryz.underlying3 f0;cases e0;obtain⟨Cu,e1,t1a,t1b,t1c⟩:=vR (d:=y1.1) (p:=y1.2) f1;simp only[uH,List.cons.injEq,and_true] at e1;obtain⟨rfl,rfl,rfl⟩:=e1;obtain⟨s2,e2,x2,_⟩:=DataW.trod_string Tryz.underlying9 f2;cases e2;have b2:Rows.uptoBulk y2.1=s2.data.toList.length+1:=by rw[x2];rfl
  have l2:(tl s2).length=s2.data.toList.length:=rfl;exact⟨⟨z0,Cu,tl s2⟩,by simp only[Fc.cs,eY],⟨tV w0,⟨t1a,t1b,by simp only[ay];omega⟩,by simp only[ay];omega⟩⟩
set_option maxHeartbeats 2000000 in
set_option maxRecDepth 100000 in
theorem Up {fuel:Nat} {cs:List Value} {d:DataW H} {p:List MemPlace} (h:DataW.trod enc Tryz.prog W 0 (fun _=>true) true fuel 45 cs=some (d,p)) (hb:Rows.uptoBulk d<=1048576):∃f:Md,ig ⟨W,dR W⟩ f cs/\qq f<=Rows.uptoBulk d:=by
 obtain⟨ys,n',_,hy,hlen,gg,hf⟩:=DataW.trod_struct Tryz.underlying45 h;rw[show Tryz.prog.cellsOf 45=8 by kernel_rfl] at hlen;match cs,hlen with
 |[c0,c1,c2,c3,c4,c5,c6,c7],_=>
 match ys,gg with
 |[y0,y1,y2,y3,y4,y5],_=>
  have f0:DataW.trod enc Tryz.prog W 0 (fun _=>true) true n' 3 [c0]=some y0:=by have this:DataW.trod enc Tryz.prog W 0 (fun _=>true) true n' 3 (([c0,c1,c2,c3,c4,c5,c6,c7].drop 0).take (Tryz.prog.cellsOf 3))=some y0:=hf 0 _ rfl;rw[show Tryz.prog.cellsOf 3=1 by kernel_rfl] at this;exact this
  have f1:DataW.trod enc Tryz.prog W 0 (fun _=>true) true n' 35 [c1,c2,c3]=some y1:=by have this:DataW.trod enc Tryz.prog W 0 (fun _=>true) true n' 35 (([c0,c1,c2,c3,c4,c5,c6,c7].drop 1).take (Tryz.prog.cellsOf 35))=some y1:=hf 1 _ rfl;rw[show Tryz.prog.cellsOf 35=3 by kernel_rfl] at this;exact this
  have f2:DataW.trod enc Tryz.prog W 0 (fun _=>true) true n' 9 [c4]=some y2:=by have this:DataW.trod enc Tryz.prog W 0 (fun _=>true) true n' 9 (([c0,c1,c2,c3,c4,c5,c6,c7].drop 4).take (Tryz.prog.cellsOf 9))=some y2:=hf 2 _ rfl;rw[show Tryz.prog.cellsOf 9=1 by kernel_rfl] at this;exact this
  have f3:DataW.trod enc Tryz.prog W 0 (fun _=>true) true n' 43 [c5]=some y3:=by have this:DataW.trod enc Tryz.prog W 0 (fun _=>true) true n' 43 (([c0,c1,c2,c3,c4,c5,c6,c7].drop 5).take (Tryz.prog.cellsOf 43))=some y3:=hf 3 _ rfl;rw[show Tryz.prog.cellsOf 43=1 by kernel_rfl] at this;exact this
  have f4:DataW.trod enc Tryz.prog W 0 (fun _=>true) true n' 4 [c6]=some y4:=by have this:DataW.trod enc Tryz.prog W 0 (fun _=>true) true n' 4 (([c0,c1,c2,c3,c4,c5,c6,c7].drop 6).take (Tryz.prog.cellsOf 4))=some y4:=hf 4 _ rfl;rw[show Tryz.prog.cellsOf 4=1 by kernel_rfl] at this;exact this
  have f5:DataW.trod enc Tryz.prog W 0 (fun _=>true) true n' 31 [c7]=some y5:=by have this:DataW.trod enc Tryz.prog W 0 (fun _=>true) true n' 31 (([c0,c1,c2,c3,c4,c5,c6,c7].drop 7).take (Tryz.prog.cellsOf 31))=some y5:=hf 5 _ rfl;rw[show Tryz.prog.cellsOf 31=1 by kernel_rfl] at this;exact this
  have hD:d= .agg [y0.1,y1.1,y2.1,y3.1,y4.1,y5.1]:=(Prod.mk.inj hy).1;have oH:Rows.uptoBulk d=Rows.uptoBulk y0.1+(Rows.uptoBulk y1.1+(Rows.uptoBulk y2.1+(Rows.uptoBulk y3.1+(Rows.uptoBulk y4.1+(Rows.uptoBulk y5.1+0)))))+1:=by rw[hD];rfl
  obtain⟨z0,e0,_,w0⟩:=DataW.trod_int Tryz.underlying3 f0;cases e0;obtain⟨Cu,e1,t1a,t1b,t1c⟩:=vR (d:=y1.1) (p:=y1.2) f1;simp only[uH,List.cons.injEq,and_true] at e1;obtain⟨rfl,rfl,rfl⟩:=e1;obtain⟨s2,e2,x2,_⟩:=DataW.trod_string Tryz.underlying9 f2;cases e2;have b2:Rows.uptoBulk y2.1=s2.data.toList.length+1:=by rw[x2];rfl
  have l2:(tl s2).length=s2.data.toList.length:=rfl;obtain⟨z4,e4,_⟩:=DataW.trod_bool Tryz.underlying4 f4;cases e4;obtain⟨ps,a3,n3,k3,w9,e3,g3a,g3b,g3c,g3d,g3e,g3f⟩:=pZ (Tryz.underlying43) (show Tryz.prog.cellsOf 95=4 by kernel_rfl) (by decide) (fun(f:Pc) cs=>cs=f.cs/\PcOk f) (fun _=>0) (d:=y3.1) (p:=y3.2) f3 fun n bh D Pl ht aj=>by
   obtain⟨f,h1,h2⟩:=Uo ht (by omega);exact⟨f,⟨h1,h2⟩,aF _⟩
  obtain⟨body,a5,n5,k5,xs5,e5,g5a,g5b,g5c,g5d,g5e,g5f⟩:=pZ (Tryz.underlying31) (show Tryz.prog.cellsOf 59=23 by kernel_rfl) (by decide) (et ⟨W,dR W⟩) nT (d:=y5.1) (p:=y5.2) f5 fun n bh D Pl ht aj=>KF (Rows.uptoBulk D) n bh D Pl ht (aC _) (by omega)
  subst e3 e5;rw[AG] at g5e;have zY:w9=flat Pc.cs ps:=Bs (f:=Pc.cs) (sz:=4) (fun _=>rfl) ps w9 (by rw[g3c.1,g3a]) fun i hi=>(g3d i hi).1
  refine⟨⟨z0,Cu,tl s2,ps,z4,body⟩,⟨⟨z0,Cu,tl s2,a3,n3,k3,z4,a5,n5,k5⟩,⟨by simp only[Mc.cs,eY],rfl,rfl,rfl,rfl⟩,⟨g3a,g3b,g5a,g5b⟩,⟨tV w0,⟨t1a,t1b,by simp only[ay];omega⟩,by simp only[ay];omega,by simp only[ay];omega,fun q hq=> ?_,by simp only[ay];omega⟩,by rw[<- zY];exact g3c,xs5,g5c,xS body xs5 g5d⟩,by simp only[qq];omega⟩;obtain⟨i,hi,rfl⟩:=List.getElem_of_mem hq;exact(g3d i hi).2
set_option maxHeartbeats 2000000 in
set_option maxRecDepth 100000 in
theorem Ur {fuel:Nat} {cs:List Value} {d:DataW H} {p:List MemPlace} (h:DataW.trod enc Tryz.prog W 0 (fun _=>true) true fuel 33 cs=some (d,p)) (hb:Rows.uptoBulk d<=1048576):∃f:Cd,(gO ⟨W,dR W⟩ f cs/\iW f.init<=ay/\∀e∈f.methods,iW e.body<=ay)/\mP f<=Rows.uptoBulk d:=by
 obtain⟨ys,n',_,hy,hlen,gg,hf⟩:=DataW.trod_struct Tryz.underlying33 h;rw[show Tryz.prog.cellsOf 33=7 by kernel_rfl] at hlen;match cs,hlen with
 |[c0,c1,c2,c3,c4,c5,c6],_=>
 match ys,gg with
 |[y0,y1,y2,y3,y4,y5,y6],_=>
  have f0:DataW.trod enc Tryz.prog W 0 (fun _=>true) true n' 3 [c0]=some y0:=by have this:DataW.trod enc Tryz.prog W 0 (fun _=>true) true n' 3 (([c0,c1,c2,c3,c4,c5,c6].drop 0).take (Tryz.prog.cellsOf 3))=some y0:=hf 0 _ rfl;rw[show Tryz.prog.cellsOf 3=1 by kernel_rfl] at this;exact this
  have f1:DataW.trod enc Tryz.prog W 0 (fun _=>true) true n' 9 [c1]=some y1:=by have this:DataW.trod enc Tryz.prog W 0 (fun _=>true) true n' 9 (([c0,c1,c2,c3,c4,c5,c6].drop 1).take (Tryz.prog.cellsOf 9))=some y1:=hf 1 _ rfl;rw[show Tryz.prog.cellsOf 9=1 by kernel_rfl] at this;exact this
  have f2:DataW.trod enc Tryz.prog W 0 (fun _=>true) true n' 9 [c2]=some y2:=by have this:DataW.trod enc Tryz.prog W 0 (fun _=>true) true n' 9 (([c0,c1,c2,c3,c4,c5,c6].drop 2).take (Tryz.prog.cellsOf 9))=some y2:=hf 2 _ rfl;rw[show Tryz.prog.cellsOf 9=1 by kernel_rfl] at this;exact this
  have f3:DataW.trod enc Tryz.prog W 0 (fun _=>true) true n' 28 [c3]=some y3:=by have this:DataW.trod enc Tryz.prog W 0 (fun _=>true) true n' 28 (([c0,c1,c2,c3,c4,c5,c6].drop 3).take (Tryz.prog.cellsOf 28))=some y3:=hf 3 _ rfl;rw[show Tryz.prog.cellsOf 28=1 by kernel_rfl] at this;exact this
  have f4:DataW.trod enc Tryz.prog W 0 (fun _=>true) true n' 29 [c4]=some y4:=by have this:DataW.trod enc Tryz.prog W 0 (fun _=>true) true n' 29 (([c0,c1,c2,c3,c4,c5,c6].drop 4).take (Tryz.prog.cellsOf 29))=some y4:=hf 4 _ rfl;rw[show Tryz.prog.cellsOf 29=1 by kernel_rfl] at this;exact this
  have f5:DataW.trod enc Tryz.prog W 0 (fun _=>true) true n' 30 [c5]=some y5:=by have this:DataW.trod enc Tryz.prog W 0 (fun _=>true) true n' 30 (([c0,c1,c2,c3,c4,c5,c6].drop 5).take (Tryz.prog.cellsOf 30))=some y5:=hf 5 _ rfl;rw[show Tryz.prog.cellsOf 30=1 by kernel_rfl] at this;exact this
  have f6:DataW.trod enc Tryz.prog W 0 (fun _=>true) true n' 31 [c6]=some y6:=by have this:DataW.trod enc Tryz.prog W 0 (fun _=>true) true n' 31 (([c0,c1,c2,c3,c4,c5,c6].drop 6).take (Tryz.prog.cellsOf 31))=some y6:=hf 6 _ rfl;rw[show Tryz.prog.cellsOf 31=1 by kernel_rfl] at this;exact this
  have hD:d= .agg [y0.1,y1.1,y2.1,y3.1,y4.1,y5.1,y6.1]:=(Prod.mk.inj hy).1;have oH:Rows.uptoBulk d=Rows.uptoBulk y0.1+(Rows.uptoBulk y1.1+(Rows.uptoBulk y2.1+(Rows.uptoBulk y3.1+(Rows.uptoBulk y4.1+(Rows.uptoBulk y5.1+(Rows.uptoBulk y6.1+0))))))+1:=by rw[hD];rfl
  obtain⟨z0,e0,_,w0⟩:=DataW.trod_int Tryz.underlying3 f0;cases e0;obtain⟨s1,e1,x1,_⟩:=DataW.trod_string Tryz.underlying9 f1;cases e1;have b1:Rows.uptoBulk y1.1=s1.data.toList.length+1:=by rw[x1];rfl
  have l1:(tl s1).length=s1.data.toList.length:=rfl;obtain⟨s2,e2,x2,_⟩:=DataW.trod_string Tryz.underlying9 f2;cases e2;have b2:Rows.uptoBulk y2.1=s2.data.toList.length+1:=by rw[x2];rfl
  have l2:(tl s2).length=s2.data.toList.length:=rfl;obtain⟨ifs,a3,n3,k3,w9,e3,g3a,g3b,g3c,g3d,g3e,g3f⟩:=pZ (Tryz.underlying28) (show Tryz.prog.cellsOf 9=1 by kernel_rfl) (by decide) (fun(s:List UInt8) cs=>cs=[.string (bs s)]/\s.length<=ay) (fun _=>0) (d:=y3.1) (p:=y3.2) f3 fun n bh D Pl ht aj=>by
   obtain⟨s,h1,h2,_⟩:=DataW.trod_string Tryz.underlying9 ht;have h3:Rows.uptoBulk D=s.data.toList.length+1:=by rw[(Prod.mk.inj h2).1];rfl
   have h4:(tl s).length=s.data.toList.length:=rfl;exact⟨tl s,⟨by rw[h1,eY],by simp only[ay];omega⟩,aF _⟩
  obtain⟨fds,a4,n4,k4,M5,e4,g4a,g4b,g4c,g4d,g4e,g4f⟩:=pZ (Tryz.underlying29) (show Tryz.prog.cellsOf 40=5 by kernel_rfl) (by decide) (fun(f:Fc) cs=>cs=f.cs/\FcOk f) (fun _=>0) (d:=y4.1) (p:=y4.2) f4 fun n bh D Pl ht aj=>by
   obtain⟨f,h1,h2⟩:=Uq ht (by omega);exact⟨f,⟨h1,h2⟩,aF _⟩
  obtain⟨Nh,a5,n5,k5,xs5,e5,g5a,g5b,g5c,g5d,g5e,g5f⟩:=pZ (Tryz.underlying30) (show Tryz.prog.cellsOf 45=8 by kernel_rfl) (by decide) (fun(f:Md) cs=>ig ⟨W,dR W⟩ f cs/\iW f.body<=ay) qq (d:=y5.1) (p:=y5.2) f5 fun n bh D Pl ht aj=>by
   obtain⟨f,h1,h2⟩:=Up ht (by omega);have h3:iW f.body<=qq f:=by simp only[qq];omega
   exact⟨f,⟨h1,by simp only[ay];omega⟩,h2⟩
  obtain⟨init,a6,n6,k6,xs6,e6,g6a,g6b,g6c,g6d,g6e,g6f⟩:=pZ (Tryz.underlying31) (show Tryz.prog.cellsOf 59=23 by kernel_rfl) (by decide) (et ⟨W,dR W⟩) nT (d:=y6.1) (p:=y6.2) f6 fun n bh D Pl ht aj=>KF (Rows.uptoBulk D) n bh D Pl ht (aC _) (by omega)
  subst e3 e4 e5 e6;rw[AG] at g6e;have zY:w9=strs ifs:=by
   have h1:w9=flat (fun s=>[.string (bs s)]) ifs:=Bs (f:=fun s=>[.string (bs s)]) (sz:=1) (fun _=>rfl) ifs w9 (by rw[g3c.1,g3a]) fun i hi=>(g3d i hi).1
   rw[h1,IJ]
  have hx4:M5=flat Fc.cs fds:=Bs (f:=Fc.cs) (sz:=5) (fun _=>rfl) fds M5 (by rw[g4c.1,g4a]) fun i hi=>(g4d i hi).1
  refine⟨⟨z0,tl s1,tl s2,ifs,fds,Nh,init⟩,⟨⟨⟨z0,tl s1,tl s2,a3,n3,k3,a4,n4,k4,a5,n5,k5,a6,n6,k6⟩,⟨by simp only[Cc.cs,eY],rfl,rfl,rfl⟩,⟨g3a,g3b,g4a,g4b,g5a,g5b,g6a,g6b⟩,?_,by rw[<- zY];exact g3c,by rw[<- hx4];exact g4c,xs5,xs6,g5c,Em Nh xs5 fun i hi=>(g5d i hi).1,g6c,xS init xs6 g6d⟩,by simp only[ay];omega,fun e he=> ?_⟩,by simp only[mP];omega⟩
  ·refine⟨tV w0,by simp only[ay];omega,by simp only[ay];omega,by simp only[ay];omega,fun q hq=> ?_,by simp only[ay];omega,fun q hq=> ?_,by simp only[ay];omega,by simp only[ay];omega⟩
   ·obtain⟨i,hi,rfl⟩:=List.getElem_of_mem hq;exact(g3d i hi).2
   ·obtain⟨i,hi,rfl⟩:=List.getElem_of_mem hq;exact(g4d i hi).2
  ·obtain⟨i,hi,rfl⟩:=List.getElem_of_mem he;exact(g5d i hi).2
set_option maxRecDepth 100000 in
theorem DL {v:Value} {d:DataW H} {p:List MemPlace} {r:Reach} {b0:Nat} (fm:Value.okWide Tryz.prog W r b0 22 v) (h:DataW.Trod enc Tryz.prog W 0 (fun _=>true) true 22 v d p) (hb:Rows.uptoBulk d<=1048576):
  ∃(l:List Cd) (a:Option Addr) (n c:Nat),v= .slice a n c/\fi ⟨W,dR W⟩ l a n c/\abZ l/\(l.map mP).sum<=1048576:=by
 obtain⟨va,vl,vc,hv0⟩:=okWide_slice Tryz.underlying22 fm;have hcv:v.cells.toList=[v]:=by rw[hv0];rfl
 obtain⟨fuel,h⟩:=h;rw[hcv] at h;obtain⟨l,a,n,c,xs,e,ga,gb,gc,gd,ge,gf⟩:=pZ (Tryz.underlying22) (show Tryz.prog.cellsOf 33=7 by kernel_rfl) (by decide) (fun(f:Cd) cs=>gO ⟨W,dR W⟩ f cs/\iW f.init<=ay/\∀e∈f.methods,iW e.body<=ay) mP h fun n bh D Pl ht aj=>by
  obtain⟨f,h1,h2⟩:=Ur ht (by omega);exact⟨f,h1,h2⟩
 refine⟨l,a,n,c,e,⟨ga,gb,by simp only[ay];omega,xs,gc,Em l xs fun i hi=>(gd i hi).1⟩,fun q hq=> ?_,by omega⟩;obtain⟨i,hi,rfl⟩:=List.getElem_of_mem hq;exact(gd i hi).2
end
/-! Depths against sizes. -/
mutual
theorem Q2:∀(s:St),fS s<=nT s/\n8 s<=nT s
 | .mk k nm ty tg ex body alt=>by
  have h1:=xQ body;have h2:=xQ alt;have h3:=Dy tg;have h4:=Dy ex;have h5:ze ex<=eS ex:=by cases ex;simp [ze,eS]
  simp only[fS,n8,nT];constructor
  ·omega
  ·split<;>omega
theorem xQ:∀(l:List St),ct l<=iW l/\cX l<=iW l
 |[]=>by simp [ct,cX]
 |e::r=>by
  have h1:=Q2 e;have h2:=xQ r;simp only[ct,cX,iW];omega
end
theorem JJ:∀(l:List Md),iq l<=(l.map qq).sum/\jl l<=(l.map qq).sum
 |[]=>by simp [iq,jl]
 |e::r=>by
  have h1:=xQ e.body;have h2:=JJ r;simp only[iq,jl,aG,List.sum_cons,qq];omega
theorem Tr {d:Cd} (h:mP d<=1048576):CdB d:=by
 have h1:=xQ d.init;have h2:=JJ d.methods;simp only[mP] at h;exact⟨by simp only[ay];omega,by simp only[ay];omega,by simp only[ay];omega,by simp only[ay];omega⟩
theorem Kp {α:Type} {f:α->Nat}:∀{l:List α},∀x∈l,f x<=(l.map f).sum
 |[],x,hx=>by cases hx
 |y::r,x,hx=>by
  simp only[aG,List.sum_cons];rcases List.mem_cons.1 hx with rfl |hx
  ·omega
  ·have:=Kp (f:=f) x hx;omega
theorem Eh {l:List Cd} (h:(l.map mP).sum<=1048576):∀d∈l,CdB d:=fun d hd=>Tr (cQ (Kp (f:=mP) d hd) h)
end Go.Proofs.YtmdokbohofchgaaGreatDoor.E
namespace Go.Proofs.YtmdokbohofchgaaGreatDoor.E
open Go Go.ChangeShapes Go.WideShapes Go.ChangeAt Go.RowKit
theorem EV {W:World} (hL:laidMetH Tryz.prog oZ W) (hs:W.ShapedOpen Tryz.prog):Glob ⟨W,dR W⟩:=by
 rw[MakeChecks.laidMetH_plain _ _ _ (by kernel_rfl)] at hL;obtain⟨k,hk⟩:=g1 W hs;exact⟨fun w D hle=>⟨⟨k,TM hle hk⟩,trivial⟩,WV hL⟩
def tk:Option (Nm×Fc)->Nm
 |some (o,_)=>o
 |none=>[]
def Aq:Option (Nm×Fc)->List Value
 |some (_,f)=>f.cs
 |none=>wH
theorem QW {ad:Addr} {pr E:List Cd} {b:Nat} {a:Option Addr} {c:Nat} {L:List Cc} (s n:Nm) (m:Mem) (hC:Ck m ad pr E b a c L):FnH Tryz.prog 43 [.v (.pointer (some ad)),.v (.string (bs s)),.v (.string (bs n))] ⟨[],[]⟩ m
  fun r H' _=>r= .tup [.v (.string (bs (tk (cg E s n)))),.v (.agg ⟨Aq (cg E s n)⟩),.v (.bool (cg E s n).isSome)]/\H' =⟨[],[]⟩:=by
 refine jT (DR s n m hC) ?_;rintro r H' m' hm ⟨rfl,rfl⟩;refine⟨_,fun V=> ?_,rfl,rfl⟩;rcases cg E s n with _ |⟨o,f⟩<;>rfl
section
variable (pr:List Cd) (p:Option Addr) (n c:Nat) (m:Mem)
theorem Kd (t u:Ty) (h:fi m pr p n c) (hf:pr.length<=1099000):FnH Tryz.prog 15 [.v (.slice p n c),.v (.agg ⟨aB t⟩),.v (.agg ⟨aB u⟩)] ⟨[],[]⟩ m
  fun r H' m' =>af m m' /\H' =⟨[],[]⟩/\r= .v (.bool (cD (pr++aH) t u)):=by
 have hN:=vy pr p n c m h hf;have hA:=fun(ad:Addr) (b:Nat) (L:List Cc) (m' :Mem) (hC:Ck m' ad pr (pr++aH) b p c L)=>Ls t u m' hC
 revert hA;generalize cD (pr++aH) t u=K
 intro hA;refine enter bb aq Tryz.func15 rfl rfl (by kernel_rfl) rfl ?_ ?_
 ·clear hA hN;simp only[go_sem,aB]
 ·simp only[go_sem,aB];refine bZ (.hoist 0 (.hoist 2 (.hoist 3 (.alt 1 [3,2] (.alt 4 [] (.hoist 5 .done) .stop) .stop)))) aq (by kernel_rfl) (by kernel_rfl) ?_;simp only[go_sem,aB];refine ai (hN.mono ?_);rintro r H' m2 aK ⟨l2,rfl,ad,b,L,rfl,hC⟩;have hA:=hA ad b L m2 hC;simp only[go_sem,aB];refine⟨by simp only[l2,and_self],by kernel_rfl,bD ((aD hA fun V=>rfl).mono ?_)⟩;rintro r H' m3 cA ⟨rfl,rfl⟩;simp only[go_sem];exact aa l2 (.inr cA)
theorem Pz (s q:Nm) (h:fi m pr p n c) (hf:pr.length<=1099000):FnH Tryz.prog 16 [.v (.slice p n c),.v (.string (bs s)),.v (.string (bs q))] ⟨[],[]⟩ m
  fun r H' m' =>af m m' /\H' =⟨[],[]⟩/\r= .tup [.v (.string (bs (tk (cg (pr++aH) s q)))),.agg ((Aq (cg (pr++aH) s q)).map .v),.v (.bool (cg (pr++aH) s q).isSome)]:=by
 have hN:=vy pr p n c m h hf;have hA:=fun(ad:Addr) (b:Nat) (L:List Cc) (m' :Mem) (hC:Ck m' ad pr (pr++aH) b p c L)=>QW s q m' hC
 revert hA;generalize cg (pr++aH) s q=K
 intro hA;refine enter bb aq Tryz.func16 rfl rfl (by kernel_rfl) rfl ?_ ?_
 ·clear hA hN;simp only[go_sem]
 ·simp only[go_sem];refine ai (hN.mono ?_);rintro r H' m2 aK ⟨l2,rfl,ad,b,L,rfl,hC⟩;have hA:=hA ad b L m2 hC;simp only[go_sem];refine ai (hA.mono ?_);rintro r H' m3 cA ⟨rfl,rfl⟩;rcases K with _ |⟨o,f⟩
  ·simp only[go_sem,tk,Aq,wH,List.map,Option.isSome];exact aa l2 (.inr cA)
  ·simp only[go_sem,tk,Aq,Fc.cs,List.map,Option.isSome];exact aa l2 (.inr cA)
theorem QD (s q:Nm) (k:Int) (h:fi m pr p n c) (hf:pr.length<=1099000):FnH Tryz.prog 18 [.v (.slice p n c),.v (.string (bs s)),.v (.string (bs q)),.v (.int .i64 k)] ⟨[],[]⟩ m
  fun r H' m' =>af m m' /\H' =⟨[],[]⟩/\∃(o:Nm) (Y:Mc),MtA m' (eG (pr++aH) s q k) o Y/\r= .tup [.v (.string (bs o)),.agg (Y.cs.map .v),.v (.bool (eG (pr++aH) s q k).isSome)]:=by
 have hN:=vy pr p n c m h hf;have hA:=fun(ad:Addr) (b:Nat) (L:List Cc) (m' :Mem) (hC:Ck m' ad pr (pr++aH) b p c L)=>C8 s q k m' hC
 revert hA;generalize eG (pr++aH) s q k=K
 intro hA;refine enter bb aq Tryz.func18 rfl rfl (by kernel_rfl) rfl ?_ ?_
 ·clear hA hN;simp only[go_sem]
 ·simp only[go_sem];refine ai (hN.mono ?_);rintro r H' m2 aK ⟨l2,rfl,ad,b,L,rfl,hC⟩;have hA:=hA ad b L m2 hC;simp only[go_sem];refine ai (hA.mono ?_);rintro r H' m3 cA ⟨l3,rfl,o,Y,hY,rfl⟩;simp only[go_sem,Mc.cs,List.map];exact⟨aa l2 l3,o,Y,hY,rfl⟩
theorem RN (s:Nm) (h:fi m pr p n c) (hf:pr.length<=1099000):FnH Tryz.prog 23 [.v (.slice p n c),.v (.string (bs s))] ⟨[],[]⟩ m
  fun r H' m' =>af m m' /\H' =⟨[],[]⟩/\∃a k,r= .v (.slice a (aT (pr++aH) s).length k)/\(aT (pr++aH) s).length<=k/\aw m' a (aT (pr++aH) s).length 1 (strs (aT (pr++aH) s)):=by
 have hN:=vy pr p n c m h hf;have hA:=fun(ad:Addr) (b:Nat) (L:List Cc) (m' :Mem) (hC:Ck m' ad pr (pr++aH) b p c L)=>pV s m' hC
 revert hA;generalize aT (pr++aH) s=K
 intro hA;refine enter bb aq Tryz.func23 rfl rfl (by kernel_rfl) rfl ?_ ?_
 ·clear hA hN;simp only[go_sem]
 ·simp only[go_sem];refine ai (hN.mono ?_);rintro r H' m2 aK ⟨l2,rfl,ad,b,L,rfl,hC⟩;have hA:=hA ad b L m2 hC;simp only[go_sem];refine ai (hA.mono ?_);rintro r H' m3 cA ⟨l3,rfl,a,k,rfl,h1,h2⟩;simp only[go_sem];exact⟨aa l2 l3,a,k,rfl,h1,h2⟩
end
end Go.Proofs.YtmdokbohofchgaaGreatDoor.E
namespace Go.Proofs.YtmdokbohofchgaaGreatDoor.E
open Go Go.RowKit
abbrev abz:Cfg:=eZ (fun _=>false) [(83,iJ BL fun s=> .bool (ie s))]
theorem aaT:cw abz Tryz.prog:=pure_cons (by kernel_rfl) (jZ G8) pure_nil
theorem Oz (d b:Int) (s:List UInt8) (m:Mem) (hs:BL s):FnH Tryz.prog 41 [.v (.agg ⟨[.int .i64 d,.int .u8 b,.string (bs s)]⟩)] ⟨[],[]⟩ m fun r H' _=>r= .v (.bool (kz d b s))/\H' =⟨[],[]⟩:=by
 refine br aaT Tryz.func41 ?_
 ·simp only[go_sem];refine⟨fun h=>by simp only[kz,ak h],fun h=> ?_⟩;have h0:¬(d<0\/8<d):=fun h' =>h'.elim h.1 h.2
  simp only[kz,ae h0];refine⟨fun h1=>⟨fun _=>by simp [h1],fun n=>absurd h1 n⟩,fun h1=>⟨fun h2=>by simp [h2],fun h2=>⟨fun h3=>by simp [h3,Bool.and_comm],fun h3=>⟨fun h4=>⟨hs,by simp [h4]⟩,fun h4=>by simp [h1,h2,h3,h4]⟩⟩⟩⟩
def ib (t:Ty):Bool:=kz t.dim t.base t.name||decide (t.dim= -1)&&(decide (t.base=76)&&decide (t.name=aY))
theorem Eg {t:Ty} (h:ib t=true):BW t:=by
 unfold ib at h;rcases Bool.or_eq_true_iff.1 h with h |h
 ·refine .inr ?_;unfold kz at h;by_cases hd:t.dim<0\/8<t.dim
  ·rw[ak hd] at h;cases h
  ·omega
 ·simp only[bB,cE] at h;obtain⟨d,b,s⟩:=t;obtain⟨h1,h2,h3⟩:=h;dsimp only at h1 h2 h3;subst h1 h2 h3;exact .inl rfl
abbrev MU:Cfg:=eZ (fun _=>false) [(41,pC kz)]
theorem aaU:cw MU Tryz.prog:=pure_cons (by kernel_rfl) (tT Oz) pure_nil
theorem Pj (t:Ty) (m:Mem) (hs:BL t.name):FnH Tryz.prog 14 [.v (.agg ⟨aB t⟩)] ⟨[],[]⟩ m fun r H' _=>r= .v (.bool (ib t))/\H' =⟨[],[]⟩:=by
 refine enter MU aaU Tryz.func14 rfl rfl (by kernel_rfl) rfl ?_ ?_
 ·simp only[go_sem,aB]
 ·simp only[go_sem,aB,dD,fU];exact⟨hs,rfl⟩
abbrev MY:Cfg:=eZ (fun _=>false) [(14,pC fun d b s=>ib ⟨d,b,s⟩)]
theorem aaW:cw MY Tryz.prog:=pure_cons (by kernel_rfl) (tT fun d b a m hs=>Pj ⟨d,b,a⟩ m hs) pure_nil
theorem VT {pr:List Cd} (hz:(gJ aH pr).2.2=0) {t u v:Ty} (ht:ib t=true) (hu:ib u=true) (hv:ib v=true) (h1:cD (pr++aH) t u=true) (h2:cD (pr++aH) u v=true):cD (pr++aH) t v=true:=
 have q:=AD.1 hz;Rl (K7 q.1 q.2) (Eg ht) (Eg hu) (Eg hv) h1 h2
theorem PO (t u v:Ty) (pr:List Cd) (p:Option Addr) (n c:Nat) (m:Mem) (hg:Glob m) (tj:∀d∈pr,CdB d) (h:fi m pr p n c) (hf:pr.length<=1099000) (bt:BL t.name) (bu:BL u.name) (bv:BL v.name):
  FnH Tryz.prog 6 [.v (.slice p n c),.v (.agg ⟨aB t⟩),.v (.agg ⟨aB u⟩),.v (.agg ⟨aB v⟩)] ⟨[],[]⟩ m fun r H' m' =>af m m' /\H' =⟨[],[]⟩/\r= .v (.bool true):=by
 have hF:=fun m' (hle:af m m')=>EW pr p n c m' (jv hle h)
 have dL:=vt pr p n c m hg tj h hf;have hW:=fun m' (hle:af m m')=>DY m' (hg.upM hle)
 have hA:=fun(x y:Ty) m' (hle:af m m')=>Kd pr p n c m' x y (jv hle h) hf
 have sM:=fun hz ht hu hv=> @VT pr hz t u v ht hu hv
 have Gt:=TB (E:=pr++aH) t;revert dL hA sM Gt;generalize gJ aH pr=T1
 generalize cD (pr++aH)=G
 intro dL hA sM Gt;refine enter MY aaW Tryz.func6 rfl rfl (by kernel_rfl) rfl ?_ ?_
 ·clear hF hW dL hA;simp only[go_sem,aB]
 ·simp only[go_sem,aB];refine ai (dL.mono ?_);clear dL;rintro r H' m1 aR ⟨l1,rfl,rfl⟩;have hF:=hF m1 l1;simp only[go_sem];refine ai (hF.mono ?_);clear hF;rintro r H' m2 aK ⟨rfl,rfl,rfl⟩;have hW:=hW m2 l1;by_cases hb:qP pr=true/\T1.2.2=0/\ib t=true/\ib u=true/\ib v=true
  ·obtain⟨b1,b2,b3,b4,b5⟩:=hb;have oJ:=eq_true b2;have dA:ib ⟨t.dim,t.base,t.name⟩=true:=b3;have di:ib ⟨u.dim,u.base,u.name⟩=true:=b4;have Ae:ib ⟨v.dim,v.base,v.name⟩=true:=b5;simp only[go_sem,b1,oJ,dA,di,Ae];refine⟨bt,bu,bv,by kernel_rfl,bD (hW.mono ?_)⟩;clear hW;rintro r H' m3 cA ⟨l3,rfl,rfl⟩;have ra:=aa l1 l3;have Ao:=hA t t m3 ra;simp only[go_sem];refine ai ((aD Ao fun V=>rfl).mono ?_);clear Ao;rintro r H' m4 gW ⟨l4,rfl,rfl⟩;have ix:=aa ra l4;have rD:=hA t u m4 ix;simp only[go_sem,Gt];refine ai ((aD rD fun V=>rfl).mono ?_);clear rD;rintro r H' m5 mq ⟨l5,rfl,rfl⟩;have mg:=aa ix l5;by_cases e1:G t u=true
   ·have NT:=hA u v m5 mg;simp only[go_sem,e1];refine ai ((aD NT fun V=>rfl).mono ?_);clear NT;rintro r H' m6 pM ⟨l6,rfl,rfl⟩;have nt:=aa mg l6;by_cases e2:G u v=true
    ·have NS:=hA t v m6 nt;simp only[go_sem,e2];refine ai ((aD NS fun V=>rfl).mono ?_);clear NS;rintro r H' m7 mi ⟨l7,rfl,rfl⟩;have e3:=sM b2 b3 b4 b5 e1 e2;have pG:=aa nt l7;simp only[go_sem,e3];first |exact pG |exact⟨pG,rfl⟩
    ·have e2:=(Bool.not_eq_true _).mp e2;simp only[go_sem,e2];first |exact nt |exact⟨nt,rfl⟩
   ·have e1:=(Bool.not_eq_true _).mp e1;simp only[go_sem,e1];first |exact mg |exact⟨mg,rfl⟩
  ·clear hA sM;by_cases b1:qP pr=true
   ·by_cases b2:T1.2.2=0
    ·have oJ:=eq_true b2;by_cases b3:ib t=true
     ·have dA:ib ⟨t.dim,t.base,t.name⟩=true:=b3;by_cases b4:ib u=true
      ·have di:ib ⟨u.dim,u.base,u.name⟩=true:=b4;have Ae:ib ⟨v.dim,v.base,v.name⟩=false:=(Bool.not_eq_true _).mp fun q=>hb ⟨b1,b2,b3,b4,q⟩
       simp only[go_sem,b1,oJ,dA,di,Ae];refine⟨bt,bu,bv,by kernel_rfl,bD (hW.mono ?_)⟩;clear hW;rintro r H' m3 cA ⟨l3,rfl,rfl⟩;simp only[go_sem];first |exact aa l1 l3 |exact⟨aa l1 l3,rfl⟩
      ·have di:ib ⟨u.dim,u.base,u.name⟩=false:=(Bool.not_eq_true _).mp b4;simp only[go_sem,b1,oJ,dA,di];refine⟨bt,bu,by kernel_rfl,bD (hW.mono ?_)⟩;clear hW;rintro r H' m3 cA ⟨l3,rfl,rfl⟩;simp only[go_sem];first |exact aa l1 l3 |exact⟨aa l1 l3,rfl⟩
     ·have dA:ib ⟨t.dim,t.base,t.name⟩=false:=(Bool.not_eq_true _).mp b3;simp only[go_sem,b1,oJ,dA];refine⟨bt,by kernel_rfl,bD (hW.mono ?_)⟩;clear hW;rintro r H' m3 cA ⟨l3,rfl,rfl⟩;simp only[go_sem];first |exact aa l1 l3 |exact⟨aa l1 l3,rfl⟩
    ·have oJ:=eq_false b2;simp only[go_sem,b1,oJ];refine ai (hW.mono ?_);clear hW;rintro r H' m3 cA ⟨l3,rfl,rfl⟩;simp only[go_sem];first |exact aa l1 l3 |exact⟨aa l1 l3,rfl⟩
   ·have b1:=(Bool.not_eq_true _).mp b1;simp only[go_sem,b1];refine ai (hW.mono ?_);clear hW;rintro r H' m3 cA ⟨l3,rfl,rfl⟩;simp only[go_sem];first |exact aa l1 l3 |exact⟨aa l1 l3,rfl⟩
end Go.Proofs.YtmdokbohofchgaaGreatDoor.E
namespace Go.Proofs.YtmdokbohofchgaaGreatDoor.E
open Go Go.ChangeShapes Go.WideShapes Go.ChangeAt Go.RowKit
section
variable {H:Type} {enc:TypeId×Value->H} {W:World}
set_option maxRecDepth 100000 in
theorem Ek {v:Value} {d:DataW H} {p:List MemPlace} {r:Reach} {b0:Nat} (fm:Value.okWide Tryz.prog W r b0 35 v) (h:DataW.Trod enc Tryz.prog W 0 (fun _=>true) true 35 v d p):
  ∃t:Ty,v= .agg ⟨aB t⟩/\t.name.length<=Rows.uptoBulk d:=by
 obtain⟨⟨bh⟩,rfl,fe⟩:=okWide_struct Tryz.underlying35 fm;obtain⟨fuel,h⟩:=h;obtain⟨t,h1,_,_,h2⟩:=vR (fuel:=fuel) (cs:=bh) (d:=d) (p:=p) h;exact⟨t,by rw[h1];rfl,h2⟩
set_option maxRecDepth 100000 in
theorem Io {v:Value} {d:DataW H} {p:List MemPlace} {r:Reach} {b0:Nat} (fm:Value.okWide Tryz.prog W r b0 9 v) (h:DataW.Trod enc Tryz.prog W 0 (fun _=>true) true 9 v d p):
  ∃s:List UInt8,v= .string (bs s)/\s.length<=Rows.uptoBulk d:=by
 obtain⟨s,rfl,rfl,_,_⟩:=ChangeMaps.open_string Tryz.underlying9 fm h;refine⟨tl s,by rw[eY],?_⟩;show s.data.toList.length<=s.data.toList.length+1;exact Nat.le_succ _
theorem Kq:∀(l:List Cd),l.length<=(l.map mP).sum
 |[]=>aF _
 |d::l=>by
  have:=Kq l;have h:1<=mP d:=by unfold mP;omega
  simp only[dk,aG,List.sum_cons];omega
theorem Jt {l:List Cd} (h:(l.map mP).sum<=1048576):l.length<=1099000:=cQ (cQ (Kq l) h) (by decide)
theorem Fz {s:List UInt8} (h:s.length<=1048576):BL s:=by unfold BL;omega
end
def GS:Option (Nm×Fc)->Fc
 |some (_,f)=>f
 |none=>⟨0,⟨0,0,[]⟩,[]⟩
theorem Xa (K:Option (Nm×Fc)):Aq K=(GS K).cs:=by rcases K with _ |⟨o,f⟩<;>rfl
theorem QX {pr:List Cd} (hz:(gJ aH pr).2.2=0) (s q:Nm):∀c∈aT (pr++aH) s,∀x,cg (pr++aH) c q=some x->cg (pr++aH) s q=some x:=
 fun _ hc x hx=>have h:=AD.1 hz;JZ (K7 h.1 h.2) q _ rfl hc x hx
theorem Oo (s q z1 z2:Nm) (k z:Int) (FO:Nm->Nm) (FC:Nm->Fc) (FB:Nm->Bool) (IB fw:Bool) (G:Ty->Ty->Bool) (sl:List Nm) (p:Option Addr) (n c:Nat) (m:Mem) (eE:sl.length<=2000000)
  (dL:FnH Tryz.prog 12 [.v (.slice p n c)] ⟨[],[]⟩ m fun r H' m' =>af m m' /\H' =⟨[],[]⟩/\r= .tup [.v (.string (bs z1)),.v (.string (bs z2)),.v (.int .i64 z)])
  (hF:∀m',af m m' ->FnH Tryz.prog 10 [.v (.slice p n c)] ⟨[],[]⟩ m' fun r H' fP=>fP=m' /\H' =⟨[],[]⟩/\r= .v (.bool fw))
  (hW:∀m',af m m' ->FnH Tryz.prog 11 [] ⟨[],[]⟩ m' fun r H' fP=>af m' fP/\H' =⟨[],[]⟩/\r= .v (.bool true))
  (hA:∀(x y:Ty) m',af m m' ->FnH Tryz.prog 15 [.v (.slice p n c),.v (.agg ⟨aB x⟩),.v (.agg ⟨aB y⟩)] ⟨[],[]⟩ m' fun r H' fP=>af m' fP/\H' =⟨[],[]⟩/\r= .v (.bool (G x y)))
  (ej:∀(s' :Nm) m',af m m' ->FnH Tryz.prog 16 [.v (.slice p n c),.v (.string (bs s')),.v (.string (bs q))] ⟨[],[]⟩ m' fun r H' fP=>af m' fP/\H' =⟨[],[]⟩/\r= .tup [.v (.string (bs (FO s'))),.agg ((FC s').cs.map .v),.v (.bool (FB s'))])
  (jM:∀m',af m m' ->FnH Tryz.prog 18 [.v (.slice p n c),.v (.string (bs s)),.v (.string (bs q)),.v (.int .i64 k)] ⟨[],[]⟩ m' fun r H' fP=>af m' fP/\H' =⟨[],[]⟩/\
   ∃(o:Nm) (Y:Mc),(IB=true->Y.name=q/\(Y.pl:Int)=k/\G (cG s) (cG o)=true)/\r= .tup [.v (.string (bs o)),.agg (Y.cs.map .v),.v (.bool IB)])
  (oz:∀m',af m m' ->FnH Tryz.prog 23 [.v (.slice p n c),.v (.string (bs s))] ⟨[],[]⟩ m' fun r H' fP=>af m' fP/\H' =⟨[],[]⟩/\∃a k,r= .v (.slice a sl.length k)/\sl.length<=k/\aw fP a sl.length 1 (strs sl))
  (h1:FB s=true->(FC s).name=q/\G (cG s) (cG (FO s))=true)
  (h2:z=0->∀i (hi:i<sl.length),FB sl[i]=true->FB s=true/\FO sl[i]=FO s):
  FnH Tryz.prog 8 [.v (.slice p n c),.v (.string (bs s)),.v (.string (bs q)),.v (.int .i64 k)] ⟨[],[]⟩ m fun r H' m' =>af m m' /\H' =⟨[],[]⟩/\r= .v (.bool true):=by
 refine enter bb aq Tryz.func8 rfl rfl (by kernel_rfl) rfl ?_ ?_
 ·clear hF hW dL hA ej jM oz;simp only[go_sem]
 ·simp only[go_sem];refine ai (dL.mono ?_);clear dL;rintro r H' m1 aR ⟨l1,rfl,rfl⟩;have hF:=hF m1 l1;simp only[go_sem];refine ai (hF.mono ?_);clear hF;rintro r H' m2 aK ⟨rfl,rfl,rfl⟩;by_cases b1:fw=true
  ·by_cases kj:z=0
   ·have oJ:=eq_true kj;have MM:=ej s m2 l1;simp only[go_sem,b1,oJ];refine ai (MM.mono ?_);clear MM;rintro r H' m3 cA ⟨l3,rfl,rfl⟩;have ra:=aa l1 l3;have ME:=jM m3 ra;clear jM;simp only[go_sem,Fc.cs,List.map];refine ai (ME.mono ?_);clear ME;rintro r H' m4 gW ⟨l4,rfl,o,Y,hY,rfl⟩;have ix:=aa ra l4;by_cases hk:FB s=true
    ·have aa8:((FC s).name=q)=True:=eq_true (h1 hk).1;have eV:=(h1 hk).2;have Ao:=hA (cG s) (cG (FO s)) m4 ix;simp only[go_sem,Mc.cs,List.map,hk,aa8];refine ai ((aD Ao fun V=>rfl).mono ?_);clear Ao;rintro r H' m5 mq ⟨l5,rfl,rfl⟩;have mg:=aa ix l5;by_cases hm:IB=true
     ·have yy:=hY hm;have y1:=yy.1;have y2:=yy.2.1;have y3:=yy.2.2;have F7:(Y.name=q)=True:=eq_true y1;have F6:((Y.pl:Int)=k)=True:=eq_true y2;have rD:=hA (cG s) (cG o) m5 mg;simp only[go_sem,eV,hm,F7,F6];refine ai ((aD rD fun V=>rfl).mono ?_);clear rD;rintro r H' m6 pM ⟨l6,rfl,rfl⟩;have nt:=aa mg l6;simp only[go_sem,y3];refine ai ((oz m6 nt).mono ?_);clear oz hA;rintro r H' m7 mi ⟨l7,rfl,sa,sc,rfl,g1,g2⟩;have pG:=aa nt l7;simp only[go_sem];refine cq aq (fun x:Nat×Mem=>⟨[⟨20,[],.v (.int .i64 x.1)⟩,⟨19,[],.v (.slice sa sl.length sc)⟩,⟨15,[],.v (.bool true)⟩,⟨13,[],.v (.string (bs (FO s)))⟩,⟨8,[],.v (.bool false)⟩,⟨2,[],.v (.string (bs q))⟩,⟨0,[],.v (.slice p n c)⟩],[],[],[],3,x.2⟩)
       (fun x=>af m7 x.2/\x.1<=sl.length) (fun x=>sl.length - x.1) (0,m7) (by kernel_rfl) (fun _ _=>aZ rfl) (fun x hx=>hx.1) (fun _=> ?_) ?_ ⟨.inl rfl,aF _⟩ ?_
      ·clear ej hW;simp only[go_sem]
      ·clear ej hW;simp only[go_sem];first |done |trivial
      ·rintro⟨j,mm⟩ ⟨i1,i2⟩;dsimp only at i1 i2;have iM:=aa pG i1;by_cases aj:j<sl.length
       ·have hc:((j:Int)<(sl.length:Int))=True:=eq_true (by clear ej hW;omega);have gr:=aN i1 g2;have aI:=js gr aj;have au:= @iL _ _ _ _ gr _ aj (.string (bs sl[j])) (by unfold strs;rw[List.getElem?_map,List.getElem?_eq_getElem aj];rfl);have hX:=ej sl[j] mm iM;have hz:=h2 kj j aj;clear hW ej;simp only[go_sem,hc,aI,au];refine ai (hX.mono ?_);clear hX;rintro r H' m8 oB ⟨l8,rfl,rfl⟩;by_cases hb:FB sl[j]=true
        ·have ho:=(hz hb).2;have kN:=(hz hb).1;simp only[go_sem,Fc.cs,List.map,hb,ho,kN];first |exact⟨by unfold az;omega,(j+1,m8),⟨rfl,.inl rfl⟩,⟨aa i1 l8,aj⟩,by omega⟩ |exact(Bool.false_ne_true (hk.symm.trans kN)).elim
        ·have hb:=(Bool.not_eq_true _).mp hb;simp only[go_sem,Fc.cs,List.map,hb];exact⟨by unfold az;omega,(j+1,m8),⟨rfl,.inl rfl⟩,⟨aa i1 l8,aj⟩,by omega⟩
       ·have hc:((j:Int)<(sl.length:Int))=False:=eq_false (by clear ej hW;omega);have hW:=hW mm iM;clear ej;simp only[go_sem,hc];refine ai (hW.mono ?_);clear hW;rintro r H' m9 km ⟨l9,rfl,rfl⟩;simp only[go_sem];first |exact aa iM l9 |exact⟨aa iM l9,rfl⟩
     ·have hm:=(Bool.not_eq_true _).mp hm;simp only[go_sem,eV,hm];refine ai ((oz m5 mg).mono ?_);clear oz hA;rintro r H' m7 mi ⟨l7,rfl,sa,sc,rfl,g1,g2⟩;have pG:=aa mg l7;simp only[go_sem];refine cq aq (fun x:Nat×Mem=>⟨[⟨20,[],.v (.int .i64 x.1)⟩,⟨19,[],.v (.slice sa sl.length sc)⟩,⟨15,[],.v (.bool true)⟩,⟨13,[],.v (.string (bs (FO s)))⟩,⟨8,[],.v (.bool false)⟩,⟨2,[],.v (.string (bs q))⟩,⟨0,[],.v (.slice p n c)⟩],[],[],[],3,x.2⟩)
       (fun x=>af m7 x.2/\x.1<=sl.length) (fun x=>sl.length - x.1) (0,m7) (by kernel_rfl) (fun _ _=>aZ rfl) (fun x hx=>hx.1) (fun _=> ?_) ?_ ⟨.inl rfl,aF _⟩ ?_
      ·clear ej hW;simp only[go_sem]
      ·clear ej hW;simp only[go_sem];first |done |trivial
      ·rintro⟨j,mm⟩ ⟨i1,i2⟩;dsimp only at i1 i2;have iM:=aa pG i1;by_cases aj:j<sl.length
       ·have hc:((j:Int)<(sl.length:Int))=True:=eq_true (by clear ej hW;omega);have gr:=aN i1 g2;have aI:=js gr aj;have au:= @iL _ _ _ _ gr _ aj (.string (bs sl[j])) (by unfold strs;rw[List.getElem?_map,List.getElem?_eq_getElem aj];rfl);have hX:=ej sl[j] mm iM;have hz:=h2 kj j aj;clear hW ej;simp only[go_sem,hc,aI,au];refine ai (hX.mono ?_);clear hX;rintro r H' m8 oB ⟨l8,rfl,rfl⟩;by_cases hb:FB sl[j]=true
        ·have ho:=(hz hb).2;have kN:=(hz hb).1;simp only[go_sem,Fc.cs,List.map,hb,ho,kN];first |exact⟨by unfold az;omega,(j+1,m8),⟨rfl,.inl rfl⟩,⟨aa i1 l8,aj⟩,by omega⟩ |exact(Bool.false_ne_true (hk.symm.trans kN)).elim
        ·have hb:=(Bool.not_eq_true _).mp hb;simp only[go_sem,Fc.cs,List.map,hb];exact⟨by unfold az;omega,(j+1,m8),⟨rfl,.inl rfl⟩,⟨aa i1 l8,aj⟩,by omega⟩
       ·have hc:((j:Int)<(sl.length:Int))=False:=eq_false (by clear ej hW;omega);have hW:=hW mm iM;clear ej;simp only[go_sem,hc];refine ai (hW.mono ?_);clear hW;rintro r H' m9 km ⟨l9,rfl,rfl⟩;simp only[go_sem];first |exact aa iM l9 |exact⟨aa iM l9,rfl⟩
    ·have hk:=(Bool.not_eq_true _).mp hk;by_cases hm:IB=true
     ·have yy:=hY hm;have y1:=yy.1;have y2:=yy.2.1;have y3:=yy.2.2;have F7:(Y.name=q)=True:=eq_true y1;have F6:((Y.pl:Int)=k)=True:=eq_true y2;have rD:=hA (cG s) (cG o) m4 ix;simp only[go_sem,Mc.cs,List.map,hk,hm,F7,F6];refine ai ((aD rD fun V=>rfl).mono ?_);clear rD;rintro r H' m6 pM ⟨l6,rfl,rfl⟩;have nt:=aa ix l6;simp only[go_sem,y3];refine ai ((oz m6 nt).mono ?_);clear oz hA;rintro r H' m7 mi ⟨l7,rfl,sa,sc,rfl,g1,g2⟩;have pG:=aa nt l7;simp only[go_sem];refine cq aq (fun x:Nat×Mem=>⟨[⟨20,[],.v (.int .i64 x.1)⟩,⟨19,[],.v (.slice sa sl.length sc)⟩,⟨15,[],.v (.bool false)⟩,⟨13,[],.v (.string (bs (FO s)))⟩,⟨8,[],.v (.bool false)⟩,⟨2,[],.v (.string (bs q))⟩,⟨0,[],.v (.slice p n c)⟩],[],[],[],3,x.2⟩)
       (fun x=>af m7 x.2/\x.1<=sl.length) (fun x=>sl.length - x.1) (0,m7) (by kernel_rfl) (fun _ _=>aZ rfl) (fun x hx=>hx.1) (fun _=> ?_) ?_ ⟨.inl rfl,aF _⟩ ?_
      ·clear ej hW;simp only[go_sem]
      ·clear ej hW;simp only[go_sem];first |done |trivial
      ·rintro⟨j,mm⟩ ⟨i1,i2⟩;dsimp only at i1 i2;have iM:=aa pG i1;by_cases aj:j<sl.length
       ·have hc:((j:Int)<(sl.length:Int))=True:=eq_true (by clear ej hW;omega);have gr:=aN i1 g2;have aI:=js gr aj;have au:= @iL _ _ _ _ gr _ aj (.string (bs sl[j])) (by unfold strs;rw[List.getElem?_map,List.getElem?_eq_getElem aj];rfl);have hX:=ej sl[j] mm iM;have hz:=h2 kj j aj;clear hW ej;simp only[go_sem,hc,aI,au];refine ai (hX.mono ?_);clear hX;rintro r H' m8 oB ⟨l8,rfl,rfl⟩;by_cases hb:FB sl[j]=true
        ·have ho:=(hz hb).2;have kN:=(hz hb).1;simp only[go_sem,Fc.cs,List.map,hb,ho,kN];first |exact⟨by unfold az;omega,(j+1,m8),⟨rfl,.inl rfl⟩,⟨aa i1 l8,aj⟩,by omega⟩ |exact(Bool.false_ne_true (hk.symm.trans kN)).elim
        ·have hb:=(Bool.not_eq_true _).mp hb;simp only[go_sem,Fc.cs,List.map,hb];exact⟨by unfold az;omega,(j+1,m8),⟨rfl,.inl rfl⟩,⟨aa i1 l8,aj⟩,by omega⟩
       ·have hc:((j:Int)<(sl.length:Int))=False:=eq_false (by clear ej hW;omega);have hW:=hW mm iM;clear ej;simp only[go_sem,hc];refine ai (hW.mono ?_);clear hW;rintro r H' m9 km ⟨l9,rfl,rfl⟩;simp only[go_sem];first |exact aa iM l9 |exact⟨aa iM l9,rfl⟩
     ·have hm:=(Bool.not_eq_true _).mp hm;simp only[go_sem,Mc.cs,List.map,hk,hm];refine ai ((oz m4 ix).mono ?_);clear oz hA;rintro r H' m7 mi ⟨l7,rfl,sa,sc,rfl,g1,g2⟩;have pG:=aa ix l7;simp only[go_sem];refine cq aq (fun x:Nat×Mem=>⟨[⟨20,[],.v (.int .i64 x.1)⟩,⟨19,[],.v (.slice sa sl.length sc)⟩,⟨15,[],.v (.bool false)⟩,⟨13,[],.v (.string (bs (FO s)))⟩,⟨8,[],.v (.bool false)⟩,⟨2,[],.v (.string (bs q))⟩,⟨0,[],.v (.slice p n c)⟩],[],[],[],3,x.2⟩)
       (fun x=>af m7 x.2/\x.1<=sl.length) (fun x=>sl.length - x.1) (0,m7) (by kernel_rfl) (fun _ _=>aZ rfl) (fun x hx=>hx.1) (fun _=> ?_) ?_ ⟨.inl rfl,aF _⟩ ?_
      ·clear ej hW;simp only[go_sem]
      ·clear ej hW;simp only[go_sem];first |done |trivial
      ·rintro⟨j,mm⟩ ⟨i1,i2⟩;dsimp only at i1 i2;have iM:=aa pG i1;by_cases aj:j<sl.length
       ·have hc:((j:Int)<(sl.length:Int))=True:=eq_true (by clear ej hW;omega);have gr:=aN i1 g2;have aI:=js gr aj;have au:= @iL _ _ _ _ gr _ aj (.string (bs sl[j])) (by unfold strs;rw[List.getElem?_map,List.getElem?_eq_getElem aj];rfl);have hX:=ej sl[j] mm iM;have hz:=h2 kj j aj;clear hW ej;simp only[go_sem,hc,aI,au];refine ai (hX.mono ?_);clear hX;rintro r H' m8 oB ⟨l8,rfl,rfl⟩;by_cases hb:FB sl[j]=true
        ·have ho:=(hz hb).2;have kN:=(hz hb).1;simp only[go_sem,Fc.cs,List.map,hb,ho,kN];first |exact⟨by unfold az;omega,(j+1,m8),⟨rfl,.inl rfl⟩,⟨aa i1 l8,aj⟩,by omega⟩ |exact(Bool.false_ne_true (hk.symm.trans kN)).elim
        ·have hb:=(Bool.not_eq_true _).mp hb;simp only[go_sem,Fc.cs,List.map,hb];exact⟨by unfold az;omega,(j+1,m8),⟨rfl,.inl rfl⟩,⟨aa i1 l8,aj⟩,by omega⟩
       ·have hc:((j:Int)<(sl.length:Int))=False:=eq_false (by clear ej hW;omega);have hW:=hW mm iM;clear ej;simp only[go_sem,hc];refine ai (hW.mono ?_);clear hW;rintro r H' m9 km ⟨l9,rfl,rfl⟩;simp only[go_sem];first |exact aa iM l9 |exact⟨aa iM l9,rfl⟩
   ·have oJ:=eq_false kj;have ve:=hW m2 l1;clear hA ej jM oz hW;simp only[go_sem,b1,oJ];refine ai (ve.mono ?_);clear ve;rintro r H' m3 cA ⟨l3,rfl,rfl⟩;simp only[go_sem];first |exact aa l1 l3 |exact⟨aa l1 l3,rfl⟩
  ·have b1:=(Bool.not_eq_true _).mp b1;have ve:=hW m2 l1;clear hA ej jM oz hW;simp only[go_sem,b1];refine ai (ve.mono ?_);clear ve;rintro r H' m3 cA ⟨l3,rfl,rfl⟩;simp only[go_sem];first |exact aa l1 l3 |exact⟨aa l1 l3,rfl⟩
theorem OJ (s q:Nm) (k:Int) (pr:List Cd) (p:Option Addr) (n c:Nat) (m:Mem) (hg:Glob m) (tj:∀d∈pr,CdB d) (h:fi m pr p n c) (hf:pr.length<=1099000):
  FnH Tryz.prog 8 [.v (.slice p n c),.v (.string (bs s)),.v (.string (bs q)),.v (.int .i64 k)] ⟨[],[]⟩ m fun r H' m' =>af m m' /\H' =⟨[],[]⟩/\r= .v (.bool true):=by
 refine Oo s q (gJ aH pr).1 (gJ aH pr).2.1 k (gJ aH pr).2.2 (fun x=>tk (cg (pr++aH) x q)) (fun x=>GS (cg (pr++aH) x q)) (fun x=>(cg (pr++aH) x q).isSome) (eG (pr++aH) s q k).isSome (qP pr) (cD (pr++aH)) (aT (pr++aH) s) p n c m ?_
  (vt pr p n c m hg tj h hf) (fun m' hle=>EW pr p n c m' (jv hle h)) (fun m' hle=>DY m' (hg.upM hle)) (fun x y m' hle=>Kd pr p n c m' x y (jv hle h) hf) (fun s' m' hle=> ?_) (fun m' hle=>(QD pr p n c m' s q k (jv hle h) hf).mono ?_) (fun m' hle=>RN pr p n c m' s (jv hle h) hf) ?_ ?_
 ·have:=(kv (pr++aH) s).len;have h21:aH.length=21:=rfl;rw[bc] at this;omega
 ·have:=Pz pr p n c m' s' q (jv hle h) hf;rw[Xa] at this;exact this
 ·rintro r H' fP _ ⟨l,hH,o,Y,hY,hr⟩;refine⟨l,hH,o,Y,fun z=> ?_,hr⟩;obtain⟨⟨o',d⟩,e⟩:=Option.isSome_iff_exists.1 z;rw[e] at hY;obtain⟨y1,y2,y3⟩:=Uy e;exact⟨hY.2.name.trans y1,by rw[hY.2.pl];exact y2,by rw[hY.1];exact y3⟩
 ·intro z;obtain⟨⟨o,f⟩,e⟩:=Option.isSome_iff_exists.1 z;show(GS (cg (pr++aH) s q)).name=q/\cD (pr++aH) (cG s) (cG (tk (cg (pr++aH) s q)))=true;rw[e];exact S6 e
 ·intro hz i hi z;obtain⟨x,e⟩:=Option.isSome_iff_exists.1 z;have:=QX hz s q _ (List.getElem_mem hi) x e;show(cg (pr++aH) s q).isSome=true/\tk (cg (pr++aH) ((aT (pr++aH) s)[i]) q)=tk (cg (pr++aH) s q);rw[e,this];exact⟨rfl,rfl⟩
end Go.Proofs.YtmdokbohofchgaaGreatDoor.E

/- Several texts in one. -/
import Derived.Test.YtimddhkipjedcaaGreatDoorMrg7
set_option linter.unusedSimpArgs false
set_option linter.unusedVariables false
set_option maxHeartbeats 4000000
set_option maxRecDepth 20000
namespace Go.Proofs.YtimddhkipjedcaaGreatDoor.E
open Go
theorem aej {P:Program} {f:FuncId} {args:List SV} {H:Hp} {m:Mem} {R R' :SV->Hp->Mem->Prop} (h:FnH P f args H m R) (e:∀r H' m',m.le m' ->R r H' m' ->∃r',(∀V,den V r' =den V r)/\R' r' H' m'):FnH P f args H m R' :=
 fun V w D h1 h2 h3=>(h V w D h1 h2 h3).mono fun x w2 ⟨r,V',D',H',m',e1,e2,e3,e4,e5,e6,e7,e8,e9,jg,mq⟩=>(e r H' m' e9 mq).elim fun r' hr=>⟨r',V',D',H',m',by rw[hr.1 V'];exact e1,e2,e3,e4,e5,e6,e7,e8,e9,jg,hr.2⟩
theorem ZV {P:Program} {f:FuncId} {args:List SV} {m:Mem} {R R' :SV->Hp->Mem->Prop} (h:FnH P f args ⟨[],[]⟩ m R)
  (e:∀r H' m',m.le m' ->R r H' m' ->∃k u el sz n xs,r= .vec k u/\H' =⟨[],[⟨k,u,el,sz,n,xs⟩]⟩/\R' (.vec 0 0) ⟨[],[⟨0,0,el,sz,n,xs⟩]⟩ m'):FnH P f args ⟨[],[]⟩ m R' :=
 fun V w D h1 h2 h3=>(h V w D h1 h2 h3).mono fun x w2 ⟨r,V',D',H',m',e1,e2,e3,e4,e5,e6,e7,e8,e9,jg,mq⟩=>by
  obtain⟨k,u,el,sz,n,xs,rfl,rfl,hR⟩:=e r H' m' e9 mq;refine⟨.vec 0 0,⟨V'.β,fun _ _=>V'.γ k u⟩,D',_,m',e1,e2,⟨fun b hb=>(by cases hb),fun b hb=> ?_,?_,?_⟩,fun b hb=>(by cases hb),fun b hb=>(by cases hb),e6,?_,e8,e9,jg,hR⟩
  ·rw[List.mem_singleton.1 hb];exact e3.vc _ (List.mem_singleton.2 rfl)
  ·exact e3.apart
  ·simp
  ·exact e7
theorem Ap {P:Program} {f:FuncId} {k:Int} (h:∀s m,FnH P f [.v (.string (bs s))] ⟨[],[]⟩ m fun r H' _=>r= .agg [.v (.int .i64 k),.v (.string (bs s)),.v (.int .i64 0),.v (.int .i64 0)]/\H' =⟨[],[]⟩):
  ∀s m,(fun _=>True) s->FnH P f [.v (.string (bs s))] ⟨[],[]⟩ m fun r H' _=>r= .v (.agg ⟨kq ⟨k,s,0,0⟩⟩)/\H' =⟨[],[]⟩:=
 fun s m _=>aej (h s m) fun r H' m' _ hr=>⟨_,fun V=>by rw[hr.1];rfl,rfl,hr.2⟩
theorem NS (s:List UInt8) (m:Mem):FnH Tryz.prog 100 [.v (.string (bs s))] ⟨[],[]⟩ m fun r H' _=>r= .agg [.v (.int .i64 6),.v (.string (bs s)),.v (.int .i64 0),.v (.int .i64 0)]/\H' =⟨[],[]⟩:=by
 refine aR aB Tryz.func100 ?_
 ·simp only[go_sem]
theorem NP (s:List UInt8) (m:Mem):FnH Tryz.prog 97 [.v (.string (bs s))] ⟨[],[]⟩ m fun r H' _=>r= .agg [.v (.int .i64 2),.v (.string (bs s)),.v (.int .i64 0),.v (.int .i64 0)]/\H' =⟨[],[]⟩:=by
 refine aR aB Tryz.func97 ?_
 ·simp only[go_sem]
theorem PW (s:List UInt8) (m:Mem):FnH Tryz.prog 98 [.v (.string (bs s))] ⟨[],[]⟩ m fun r H' _=>r= .agg [.v (.int .i64 1),.v (.string (bs s)),.v (.int .i64 0),.v (.int .i64 0)]/\H' =⟨[],[]⟩:=by
 refine aR aB Tryz.func98 ?_
 ·simp only[go_sem]
theorem cV (n:Nat) (xs:List Value) (m:Mem):FnH Tryz.prog 96 [.vec 0 0] ⟨[],[⟨0,0,50,4,n,xs⟩]⟩ m fun r H' m' =>r= .vec 0 0/\H' =⟨[],[⟨0,0,50,4,n,xs⟩]⟩/\m' =m:=by
 refine aR aB Tryz.func96 ?_
 ·simp only[go_sem]
abbrev jh:Cfg:=gL (fun f=>f==96) [(100,ft (fun _=>True) fun s=> .agg ⟨kq ⟨6,s,0,0⟩⟩),(97,ft (fun _=>True) fun s=> .agg ⟨kq ⟨2,s,0,0⟩⟩),(98,ft (fun _=>True) fun s=> .agg ⟨kq ⟨1,s,0,0⟩⟩)]
theorem cE:dO jh Tryz.prog:=pure_cons (by kernel_rfl) (fL (Ap NS)) (pure_cons (by kernel_rfl) (fL (Ap NP)) (pure_cons (by kernel_rfl) (fL (Ap PW)) pure_nil))
def bV (f:FuncId) (args:List SV) (m:Mem) (T:List Tk):Prop:=FnH Tryz.prog f args ⟨[],[]⟩ m fun r H' m' =>ae m m' /\r= .vec 0 0/\H' =⟨[],[⟨0,0,50,4,T.length,cw T⟩]⟩
theorem eC {f:FuncId} {args:List SV} {m:Mem} {T:List Tk} (h:FnH Tryz.prog f args ⟨[],[]⟩ m fun r H' m' =>ae m m' /\∃k u,r= .vec k u/\H' =⟨[],[⟨k,u,50,4,T.length,cw T⟩]⟩):bV f args m T:=
 ZV h fun r H' m' _ hr=>by
  obtain⟨h1,k,u,rfl,rfl⟩:=hr;exact⟨k,u,_,_,_,_,rfl,rfl,h1,rfl,rfl⟩
theorem aiu:eU Tryz.prog 174=some none:=by kernel_rfl
theorem ak3:iU Tryz.prog 174=some 45:=by kernel_rfl
theorem aeo:fC Tryz.prog 45=some [.v (.slice none 0 0)]:=by kernel_rfl
theorem alw:oD Tryz.prog 45=24:=by kernel_rfl
attribute [go_sem] aiu ak3 aeo alw kq
def ya (m:Mem):List (List Tk)->List Value->Prop
 |[],[]=>True
 |t::r,x::xs=>(∃a c,x= .slice a t.length c/\t.length<=c/\aX m a t.length 4 (cw t))/\ya m r xs
 |[],_::_=>False
 |_::_,[]=>False
theorem S2 {m:Mem}:∀{ls:List (List Tk)} {xs:List Value} {k:Nat} (_:ya m ls xs) (hk:k<ls.length),∃a c,xs[k]? =some (.slice a ls[k].length c)/\aX m a ls[k].length 4 (cw ls[k])
 |[],_,_,_,hk=>absurd hk (Nat.not_lt_zero _)
 |t::r,[],_,h,_=>by simp [ya] at h
 |t::r,x::xs,0,h,_=>by
  simp only[ya] at h;obtain⟨⟨a,c,rfl,_,h1⟩,_⟩:=h;exact⟨a,c,rfl,h1⟩
 |t::r,x::xs,k+1,h,hk=>by
  simp only[ya] at h;have:=S2 (k:=k) h.2 (by simpa using hk);simpa using this
theorem aak {ls:List (List Tk)} {k:Nat} (h:k<ls.length):(ls.take (k+1)).flatten=(ls.take k).flatten++ls[k]:=by
 rw[List.take_succ_eq_append_getElem h,List.flatten_append];simp
theorem aeC (ls:List (List Tk)) (k:Nat):(ls.take k).flatten.length<=ls.flatten.length:=by
 have:=congrArg (fun l=>(List.flatten l).length) (List.take_append_drop k ls);simp only[List.flatten_append,aI] at this;omega
theorem Pv (ts:List Tk):∀u∈cw ts,u.oneCell' =true:=by
 intro u hu;simp only[cw,List.mem_flatten,List.mem_map] at hu;obtain⟨l,⟨t,_,rfl⟩,hu⟩:=hu;simp only[List.mem_cons,List.not_mem_nil,or_false] at hu;rcases hu with rfl |rfl |rfl |rfl<;>rfl
theorem fX (ls:List (List Tk)) (a:Option Addr) (n c:Nat) (xs:List Value) (m:Mem) (hl:ls.length=n) (hr:aX m a n 1 xs) (hs:ya m ls xs) (hn:n<=aq) (hb:ls.flatten.length<=cap):bV 94 [.v (.slice a n c)] m ls.flatten:=by
 refine eC ?_;refine aR aB Tryz.func94 ?_
 ·simp only[go_sem];refine dA aB (fun x:Nat×Nat=>⟨[⟨0,[],.v (.slice a n c)⟩,⟨3,[],.vec 0 x.2⟩,⟨4,[],.v (.int .i64 x.1)⟩],[],[],[⟨0,x.2,50,4,((ls.take x.1).flatten).length,cw ((ls.take x.1).flatten)⟩],1,m⟩)
   (fun x=>x.1<=n) (fun x=>n - x.1) (0,0) (fun _ _=>av _) (fun _ _=> .inl rfl) ?_ ?_ ?_
  ·simp only[go_sem];exact⟨rfl,rfl,rfl⟩
  ·exact aD _
  ·rintro⟨k,v⟩ h2;simp only at h2;have hx:∀(hk:k<n),∃(b:Option Addr) (d:Nat),Rd m (cO a k) [.slice b (ls.getD k []).length d]/\a≠none/\aX m b (ls.getD k []).length 4 (cw (ls.getD k [])):=fun hk=>by
    have fp:k<ls.length:=by omega
    obtain⟨b,d,e1,e2⟩:=S2 hs fp;obtain⟨h3,h4,h5⟩:=Cu hr hk;have e:ls.getD k []=ls[k]:=by rw[List.getD_eq_getElem?_getD,List.getElem?_eq_getElem fp];rfl
    rw[List.getElem?_eq_getElem h3] at e1;rw[e];refine⟨b,d,?_,h5,e2⟩;rw[Option.some.inj e1] at h4;exact h4
   have hf:=fun(hk:k<ls.length)=>And.intro (aak hk) (aeC ls (k+1))
   simp only[go_sem];refine⟨fun aw=> ?_,fun cg=> ?_⟩
   ·have hk:k<n:=by omega
    have cF:k<ls.length:=by omega
    refine Exists.elim (hx hk) fun b mg=>Exists.elim mg fun d pj=>⟨⟨by omega,aw,pj.2.1⟩,_,pj.1,?_⟩
    clear hx mg;simp only[go_sem];have hT:(ls.take (k+1)).flatten=(ls.take k).flatten++ls.getD k []:=by
     rw[(hf cF).1,List.getD_eq_getElem?_getD,List.getElem?_eq_getElem cF];rfl
    have hL:=(hf cF).2;rw[hT,aI] at hL;simp only[cap] at hb;exact⟨_,pj.2.2,Pv _,⟨by omega,by simp only[maxLen];omega⟩,by unfold aF;simp only[aq] at hn;omega,(k+1,v+1),⟨⟨rfl,by simp⟩,rfl,by simp only;rw[hT,aI],by simp only;rw[hT,nh]⟩,by simp only;omega,by simp only;omega⟩
   ·rw[fj (by omega)];exact⟨0,v,rfl,rfl⟩
theorem ni (T:List Tk) (a:Option Addr) (c:Nat) (m:Mem) (hr:aX m a T.length 4 (cw T)) (hb:T.length+2<=cap):bV 105 [.v (.slice a T.length c)] m (sg [40]::(T++[sg [41]])):=by
 refine eC ?_;refine aR cE Tryz.func105 ?_
 ·simp only[go_sem];simp only[cap] at hb;refine⟨_,hr,Pv _,⟨by omega,by simp only[maxLen];omega⟩,⟨by omega,by simp only[maxLen];omega⟩,0,2,rfl,?_⟩;have e1:(T++[sg [41]]).length+1=1+T.length+1:=by simp only[aI,iq];omega
  have e2:cw (sg [40]::(T++[sg [41]]))=kq (sg [40])++(cw T++kq (sg [41])):=by simp [cw,kq]
  rw[e1,e2];rfl
theorem Fo (t:Tk) (k:Nat):(t::ij ((k+1:Nat):Int)).length=(t::ij (k:Int)).length+2/\cw (t::ij ((k+1:Nat):Int))=cw (t::ij (k:Int))++cw [sg [91],sg [93]]:=by
 have e:t::ij ((k+1:Nat):Int)=(t::ij (k:Int))++[sg [91],sg [93]]:=by
  simp only[ij,Int.toNat_natCast,List.replicate_succ',List.flatten_append,List.flatten_cons,List.flatten_nil,List.append_nil,dW]
 rw[e];exact⟨by simp,nh _ _⟩
theorem FO {d:Int} {k:Nat} (h:¬(k:Int)<d) (h1:k=0\/(k:Int)<=d):ij (k:Int)=ij d:=by
 have:(k:Int).toNat=d.toNat:=by omega
 simp only[ij,this]
theorem tc (d b:Int) (nm:List UInt8) (m:Mem) (hd:d<=1000):bV 101 [.v (.agg ⟨[.int .i64 d,.int .u8 b,.string (bs nm)]⟩)] m (b5 d b nm):=by
 refine eC ?_;refine aR cE Tryz.func101 ?_
 ·simp only[go_sem];refine⟨fun hb=> ?_,fun n1=>⟨fun hb=> ?_,fun n2=>⟨fun hb=> ?_,fun n3=> ?_⟩⟩⟩
  ·rw[b5,ja,ah hb];refine dA cE (fun x:Nat×Nat=>⟨[⟨1,[],.box 0 0⟩,⟨3,[],.vec 2 x.2⟩,⟨4,[],.v (.int .i64 x.1)⟩],[],[⟨0,30,[.v (.int .i64 d),.v (.int .u8 b),.v (.string (bs nm))]⟩],[⟨2,x.2,50,4,((kw iM)::ij x.1).length,cw ((kw iM)::ij x.1)⟩],3,m⟩)
    (fun x=>x.1=0\/(x.1:Int)<=d) (fun x=>d.toNat - x.1) (0,0) (fun _ _=>dC rfl) (fun _ _=> .inl rfl) ?_ ?_ ?_
   ·simp only[go_sem];exact⟨rfl,rfl,rfl⟩
   ·exact .inl rfl
   ·rintro⟨k,v⟩ h1;simp only at h1;simp only[go_sem];have e:=Fo (kw iM) k;refine⟨fun aw=>⟨⟨by simp only[aL,rF];omega,by simp only[aL,rF,maxLen];omega⟩,by unfold aF;omega,(k+1,v+1),⟨⟨rfl,by simp⟩,rfl,by have:=e.1;simp only[aL] at this;simp only;omega,by simp only;rw[e.2];rfl⟩,.inr (by simp only;omega),by simp only;omega⟩,fun cg=>⟨2,v,rfl,?_⟩⟩;rw[FO cg h1]
  ·rw[b5,ja,af n1,ah hb];refine dA cE (fun x:Nat×Nat=>⟨[⟨1,[],.box 0 0⟩,⟨3,[],.vec 2 x.2⟩,⟨4,[],.v (.int .i64 x.1)⟩],[],[⟨0,30,[.v (.int .i64 d),.v (.int .u8 b),.v (.string (bs nm))]⟩],[⟨2,x.2,50,4,((kw iI)::ij x.1).length,cw ((kw iI)::ij x.1)⟩],3,m⟩)
    (fun x=>x.1=0\/(x.1:Int)<=d) (fun x=>d.toNat - x.1) (0,0) (fun _ _=>dC rfl) (fun _ _=> .inl rfl) ?_ ?_ ?_
   ·simp only[go_sem];exact⟨rfl,rfl,rfl⟩
   ·exact .inl rfl
   ·rintro⟨k,v⟩ h1;simp only at h1;simp only[go_sem];have e:=Fo (kw iI) k;refine⟨fun aw=>⟨⟨by simp only[aL,rF];omega,by simp only[aL,rF,maxLen];omega⟩,by unfold aF;omega,(k+1,v+1),⟨⟨rfl,by simp⟩,rfl,by have:=e.1;simp only[aL] at this;simp only;omega,by simp only;rw[e.2];rfl⟩,.inr (by simp only;omega),by simp only;omega⟩,fun cg=>⟨2,v,rfl,?_⟩⟩;rw[FO cg h1]
  ·rw[b5,ja,af n1,af n2,ah hb];refine dA cE (fun x:Nat×Nat=>⟨[⟨1,[],.box 0 0⟩,⟨3,[],.vec 2 x.2⟩,⟨4,[],.v (.int .i64 x.1)⟩],[],[⟨0,30,[.v (.int .i64 d),.v (.int .u8 b),.v (.string (bs nm))]⟩],[⟨2,x.2,50,4,((kw qB)::ij x.1).length,cw ((kw qB)::ij x.1)⟩],3,m⟩)
    (fun x=>x.1=0\/(x.1:Int)<=d) (fun x=>d.toNat - x.1) (0,0) (fun _ _=>dC rfl) (fun _ _=> .inl rfl) ?_ ?_ ?_
   ·simp only[go_sem];exact⟨rfl,rfl,rfl⟩
   ·exact .inl rfl
   ·rintro⟨k,v⟩ h1;simp only at h1;simp only[go_sem];have e:=Fo (kw qB) k;refine⟨fun aw=>⟨⟨by simp only[aL,rF];omega,by simp only[aL,rF,maxLen];omega⟩,by unfold aF;omega,(k+1,v+1),⟨⟨rfl,by simp⟩,rfl,by have:=e.1;simp only[aL] at this;simp only;omega,by simp only;rw[e.2];rfl⟩,.inr (by simp only;omega),by simp only;omega⟩,fun cg=>⟨2,v,rfl,?_⟩⟩;rw[FO cg h1]
  ·rw[b5,ja,af n1,af n2,af n3];refine dA cE (fun x:Nat×Nat=>⟨[⟨1,[],.box 0 0⟩,⟨3,[],.vec 1 x.2⟩,⟨4,[],.v (.int .i64 x.1)⟩],[],[⟨0,30,[.v (.int .i64 d),.v (.int .u8 b),.v (.string (bs nm))]⟩],[⟨1,x.2,50,4,((aM nm)::ij x.1).length,cw ((aM nm)::ij x.1)⟩],3,m⟩)
    (fun x=>x.1=0\/(x.1:Int)<=d) (fun x=>d.toNat - x.1) (0,0) (fun _ _=>dC rfl) (fun _ _=> .inl rfl) ?_ ?_ ?_
   ·simp only[go_sem];exact⟨rfl,rfl,rfl⟩
   ·exact .inl rfl
   ·rintro⟨k,v⟩ h1;simp only at h1;simp only[go_sem];have e:=Fo (aM nm) k;refine⟨fun aw=>⟨⟨by simp only[aL,rF];omega,by simp only[aL,rF,maxLen];omega⟩,by unfold aF;omega,(k+1,v+1),⟨⟨rfl,by simp⟩,rfl,by have:=e.1;simp only[aL] at this;simp only;omega,by simp only;rw[e.2];rfl⟩,.inr (by simp only;omega),by simp only;omega⟩,fun cg=>⟨1,v,rfl,?_⟩⟩;rw[FO cg h1]
def RefE (e:Ex) (m:Mem):Prop:=∀(cs:List Value) (m' :Mem),ae m m' ->bw m' e cs->bV 41 [.v (.agg ⟨cs⟩)] m' (aC e)
theorem RefE.up {e:Ex} {m m' :Mem} (h:RefE e m) (hm:ae m m'):RefE e m' :=fun cs m2 hle=>h cs m2 (aa hm hle)
theorem Io (l:List Ex) (a:Option Addr) (n c:Nat) (xs:List Value) (m:Mem) (hl:l.length=n) (hn:n<=aq) (hr:aX m a n 8 xs) (eo:dz m l xs) (hE:∀e∈l,RefE e m) (hb:(bH true (l.map aC)).length<=cap):
  bV 106 [.v (.slice a n c)] m (bH true (l.map aC)):=by
 refine eC ?_;refine aR cE Tryz.func106 ?_
 ·simp only[go_sem];refine dA cE (fun x:Nat×Nat×Mem=>⟨[⟨0,[],.v (.slice a n c)⟩,⟨3,[],.vec 0 x.2.1⟩,⟨4,[],.v (.int .i64 x.1)⟩],[],[],[⟨0,x.2.1,50,4,(bH true ((l.map aC).take x.1)).length,cw (bH true ((l.map aC).take x.1))⟩],1,x.2.2⟩)
   (fun x=>ae m x.2.2/\x.1<=n) (fun x=>n - x.1) (0,0,m) (fun _ _=>av _) (fun x hx=>hx.1) ?_ ?_ ?_
  ·simp only[go_sem];exact⟨rfl,rfl,rfl⟩
  ·exact⟨.inl rfl,aD _⟩
  ·rintro⟨k,v,mm⟩ ⟨h1,h2⟩;simp only at h1 h2;have hx:∀(hk:k<l.length),∃x:Nd,Rd mm (cO a (k * 8)) x.cs/\a≠none/\bV 41 [.v (.agg ⟨x.cs⟩)] mm (aC l[k]):=fun hk=>by
    have aT:=bq h1 (rQ eo hk);obtain⟨x,hx⟩:=mC aT;have bW:=dH (ay h1 hr) (by omega:k<n);rw[hx] at aT bW;exact⟨x,bW.1,bW.2,hE _ (List.getElem_mem hk) x.cs mm h1 aT⟩
   have mo:=fun(hk:k<l.length)=>Iv (l:=l.map aC) (f:=true) (k:=k) (by simpa using hk)
   have cu:=BT (l.map aC) true;clear hE;simp only[go_sem];refine⟨fun aw=> ?_,fun cg=>⟨h1,0,v,rfl,?_⟩⟩
   ·have hk:k<l.length:=by clear hx;omega
    have hT:=mo hk;have hL:=cu (k+1);simp only[List.getElem_map] at hT;rw[hT] at hL;simp only[aI,cap] at hL hb;clear mo cu;refine Exists.elim (hx hk) fun x mg=> ?_
    clear hx;have Vr:=mg.1;have Vs:=mg.2.1;have xl:=mg.2.2;clear mg;refine⟨fun h0=>⟨⟨by clear xl;omega,by clear xl;simp only[maxLen];omega⟩,⟨by clear xl;omega,aw,Vs⟩,x.cs,⟨Vr,rfl⟩,by kernel_rfl,bo (xl.mono ?_)⟩,fun h0=>⟨⟨by clear xl;omega,aw,Vs⟩,x.cs,⟨Vr,rfl⟩,by kernel_rfl,bo (xl.mono ?_)⟩⟩
    ·clear xl;have e1:(0<k\/true=false):= .inl (by omega);rw[ah e1] at hT hL;simp only[aL] at hL;rintro r H' m2 aH ⟨l2,rfl,rfl⟩;simp only[go_sem];refine⟨⟨by omega,by simp only[maxLen];omega⟩,by unfold aF;simp only[aq] at hn;omega,(k+1,v+2,m2),⟨⟨rfl,by simp⟩,⟨rfl,?_,?_⟩,.inl rfl⟩,⟨aa h1 l2,by simp only;omega⟩,by simp only;omega⟩
     ·simp only;rw[hT];simp only[aI,aL];omega
     ·simp only;rw[hT,nh];simp [cw,sg]
    ·clear xl;have e1:¬(0<k\/true=false):=fun h=>by rcases h with h |h;omega;cases h
     rw[af e1] at hT hL;rintro r H' m2 aH ⟨l2,rfl,rfl⟩;simp only[go_sem];refine⟨⟨by omega,by simp only[maxLen];omega⟩,by unfold aF;simp only[aq] at hn;omega,(k+1,v+1,m2),⟨⟨rfl,by simp⟩,⟨rfl,?_,?_⟩,.inl rfl⟩,⟨aa h1 l2,by simp only;omega⟩,by simp only;omega⟩
     ·simp only;rw[hT];simp only[aI]
     ·simp only;rw[hT,nh]
   ·rw[fj (by simp;clear hx;omega)]
theorem WD (e:Ex) (x:Nd) (m:Mem) (aT:bw m e x.cs) (hE:RefE e m) (hb:(aC e).length+2<=cap):bV 104 [.v (.agg ⟨x.cs⟩)] m (gr (iL e.k) (aC e)):=by
 have hk:x.k=e.k:=by
  cases e with
  |mk k n s c ty args=>
   obtain⟨y,hy,h1,_⟩:=rD aT;rw[Ar hy,h1];rfl
 have hT:=hE x.cs m (.inl rfl) aT;refine eC ?_;refine enter jh cE Tryz.func104 rfl rfl (by kernel_rfl) rfl ?_ ?_
 ·simp only[go_sem,Nd.cs]
 ·simp only[go_sem,Nd.cs];have hR:=fun(a:Option Addr) (c:Nat) (m' :Mem) (hr:aX m' a (aC e).length 4 (cw (aC e)))=>ni (aC e) a c m' hr hb
  refine⟨fun h=>ab ((aP hT (fun V=>rfl)).mono ?_),fun h=>ab ((aP hT (fun V=>rfl)).mono ?_)⟩
  ·clear hT;have e1:iL e.k=true:=by rw[<- hk];simp only[iL,Bool.or_eq_true,bu];exact h
   rintro r H' m2 aH ⟨l2,rfl,rfl⟩;simp only[go_sem];refine⟨by kernel_rfl,fun a c m3 bI hc hr=>bo ((hR a c m3 hr).mono ?_)⟩;clear hR;rintro r H' m4 cQ ⟨l4,rfl,rfl⟩;simp only[go_sem];refine⟨aa l2 (aa (.inr bI) l4),_,_,rfl,?_⟩;have e2:gr true (aC e)=sg [40]::(aC e++[sg [41]]):=by simp [gr,bh,bH]
   rw[e1,e2];rfl
  ·clear hT hR;have e1:iL e.k=false:=by rw[<- hk];simp only[iL,Bool.or_eq_false_iff,decide_eq_false_iff_not];exact h
   rintro r H' m2 aH ⟨l2,rfl,rfl⟩;simp only[go_sem];refine⟨l2,_,_,rfl,?_⟩;rw[e1];rfl
structure RArgOk (args:List Ex) (a:Option Addr) (cp:Nat) (m:Mem):Prop where
 opd:∀(i o:Nat) (m' :Mem) (_:i<args.length),ae m m' ->o=i * 8->∃x:Nd,(Rd m' (cO a o) x.cs/\a≠none)/\
  (∀m2,ae m' m2->(dU (aS args) i).length<=cap->bV 104 [.v (.agg ⟨x.cs⟩)] m2 (dU (aS args) i))/\
  (∀m2,ae m' m2->(fN (aS args) i).length<=cap->bV 41 [.v (.agg ⟨x.cs⟩)] m2 (fN (aS args) i))
 lst:∀m',ae m m' ->(bH true ((aS args).map (·.2))).length<=cap->bV 106 [.v (.slice a args.length cp)] m' (bH true ((aS args).map (·.2)))
 lst1:1<=args.length->∀m',ae m m' ->(bH true (((aS args).drop 1).map (·.2))).length<=cap->bV 106 [.v (LP a cp 1 args.length 8)] m' (bH true (((aS args).drop 1).map (·.2)))
theorem ajH (n:Int) (s c:List UInt8) (ty:Ty) (args:List Ex) (a:Option Addr) (cp:Nat) (m:Mem) (ba:args.length<=cp) (hn:args.length<=aq) (bM:ty.dim<=1000) (hA:RArgOk args a cp m)
  (hb:(bY 1 n s c ty (aS args)).length<=cap):bV 41 [.v (.agg ⟨aJ 1 n s c ty (.slice a args.length cp)⟩)] m (bY 1 n s c ty (aS args)):=by
 have hT:bY 1 n s c ty (aS args)=[⟨3,[],n,0⟩]:=rfl;rw[hT] at hb ⊢;clear hT;refine eC ?_;refine enter jh cE Tryz.func41 rfl rfl (by kernel_rfl) rfl ?_ ?_
 ·simp only[go_sem,aJ]
 ·simp only[go_sem,aJ,Int.reduceEq,ao,ar];refine ab ((cV _ _ m).mono ?_);rintro r H' m1 aN ⟨rfl,rfl,rfl⟩;simp only[go_sem,aJ];exact⟨_,_,rfl,rfl⟩
theorem ajG (n:Int) (s c:List UInt8) (ty:Ty) (args:List Ex) (a:Option Addr) (cp:Nat) (m:Mem) (ba:args.length<=cp) (hn:args.length<=aq) (bM:ty.dim<=1000) (hA:RArgOk args a cp m)
  (hb:(bY 2 n s c ty (aS args)).length<=cap):bV 41 [.v (.agg ⟨aJ 2 n s c ty (.slice a args.length cp)⟩)] m (bY 2 n s c ty (aS args)):=by
 have hT:bY 2 n s c ty (aS args)=[⟨4,[],n,0⟩]:=rfl;rw[hT] at hb ⊢;clear hT;refine eC ?_;refine enter jh cE Tryz.func41 rfl rfl (by kernel_rfl) rfl ?_ ?_
 ·simp only[go_sem,aJ]
 ·simp only[go_sem,aJ,Int.reduceEq,ao,ar];refine ab ((cV _ _ m).mono ?_);rintro r H' m1 aN ⟨rfl,rfl,rfl⟩;simp only[go_sem,aJ];exact⟨_,_,rfl,rfl⟩
theorem ajF (n:Int) (s c:List UInt8) (ty:Ty) (args:List Ex) (a:Option Addr) (cp:Nat) (m:Mem) (ba:args.length<=cp) (hn:args.length<=aq) (bM:ty.dim<=1000) (hA:RArgOk args a cp m)
  (hb:(bY 3 n s c ty (aS args)).length<=cap):bV 41 [.v (.agg ⟨aJ 3 n s c ty (.slice a args.length cp)⟩)] m (bY 3 n s c ty (aS args)):=by
 have hT:bY 3 n s c ty (aS args)=[⟨5,s,0,0⟩]:=rfl;rw[hT] at hb ⊢;clear hT;refine eC ?_;refine enter jh cE Tryz.func41 rfl rfl (by kernel_rfl) rfl ?_ ?_
 ·simp only[go_sem,aJ]
 ·simp only[go_sem,aJ,Int.reduceEq,ao,ar];refine ab ((cV _ _ m).mono ?_);rintro r H' m1 aN ⟨rfl,rfl,rfl⟩;simp only[go_sem,aJ];exact⟨_,_,rfl,rfl⟩
theorem ajE (n:Int) (s c:List UInt8) (ty:Ty) (args:List Ex) (a:Option Addr) (cp:Nat) (m:Mem) (ba:args.length<=cp) (hn:args.length<=aq) (bM:ty.dim<=1000) (hA:RArgOk args a cp m)
  (hb:(bY 4 n s c ty (aS args)).length<=cap):bV 41 [.v (.agg ⟨aJ 4 n s c ty (.slice a args.length cp)⟩)] m (bY 4 n s c ty (aS args)):=by
 have hT:bY 4 n s c ty (aS args)=[kw [110,117,108,108]]:=rfl;rw[hT] at hb ⊢;clear hT;refine eC ?_;refine enter jh cE Tryz.func41 rfl rfl (by kernel_rfl) rfl ?_ ?_
 ·simp only[go_sem,aJ]
 ·simp only[go_sem,aJ,Int.reduceEq,ao,ar];refine ab ((cV _ _ m).mono ?_);rintro r H' m1 aN ⟨rfl,rfl,rfl⟩;simp only[go_sem,aJ];exact⟨_,_,rfl,rfl⟩
theorem ajD (n:Int) (s c:List UInt8) (ty:Ty) (args:List Ex) (a:Option Addr) (cp:Nat) (m:Mem) (ba:args.length<=cp) (hn:args.length<=aq) (bM:ty.dim<=1000) (hA:RArgOk args a cp m)
  (hb:(bY 5 n s c ty (aS args)).length<=cap):bV 41 [.v (.agg ⟨aJ 5 n s c ty (.slice a args.length cp)⟩)] m (bY 5 n s c ty (aS args)):=by
 have hT:bY 5 n s c ty (aS args)=[kw [116,104,105,115]]:=rfl;rw[hT] at hb ⊢;clear hT;refine eC ?_;refine enter jh cE Tryz.func41 rfl rfl (by kernel_rfl) rfl ?_ ?_
 ·simp only[go_sem,aJ]
 ·simp only[go_sem,aJ,Int.reduceEq,ao,ar];refine ab ((cV _ _ m).mono ?_);rintro r H' m1 aN ⟨rfl,rfl,rfl⟩;simp only[go_sem,aJ];exact⟨_,_,rfl,rfl⟩
theorem ajC (n:Int) (s c:List UInt8) (ty:Ty) (args:List Ex) (a:Option Addr) (cp:Nat) (m:Mem) (ba:args.length<=cp) (hn:args.length<=aq) (bM:ty.dim<=1000) (hA:RArgOk args a cp m)
  (hb:(bY 6 n s c ty (aS args)).length<=cap):bV 41 [.v (.agg ⟨aJ 6 n s c ty (.slice a args.length cp)⟩)] m (bY 6 n s c ty (aS args)):=by
 have hT:bY 6 n s c ty (aS args)=[aM s]:=rfl;rw[hT] at hb ⊢;clear hT;refine eC ?_;refine enter jh cE Tryz.func41 rfl rfl (by kernel_rfl) rfl ?_ ?_
 ·simp only[go_sem,aJ]
 ·simp only[go_sem,aJ,Int.reduceEq,ao,ar];refine ab ((cV _ _ m).mono ?_);rintro r H' m1 aN ⟨rfl,rfl,rfl⟩;simp only[go_sem,aJ];exact⟨_,_,rfl,rfl⟩
theorem ajB (n:Int) (s c:List UInt8) (ty:Ty) (args:List Ex) (a:Option Addr) (cp:Nat) (m:Mem) (ba:args.length<=cp) (hn:args.length<=aq) (bM:ty.dim<=1000) (hA:RArgOk args a cp m) (hl:1<=args.length)
  (hb:(bY 7 n s c ty (aS args)).length<=cap):bV 41 [.v (.agg ⟨aJ 7 n s c ty (.slice a args.length cp)⟩)] m (bY 7 n s c ty (aS args)):=by
 have hT:bY 7 n s c ty (aS args)=List.flatten [dU (aS args) 0,[sg [46],aM s]]:=by simp [bY,bh,bH]
 rw[hT] at hb ⊢;clear hT;have dk:=hb;simp only[List.flatten_cons,List.flatten_nil,aI,aL,bg,cap] at hb;refine eC ?_;refine enter jh cE Tryz.func41 rfl rfl (by kernel_rfl) rfl ?_ ?_
 ·simp only[go_sem,aJ]
 ·simp only[go_sem,aJ,Int.reduceEq,ao,ar];refine bO (.hoist 0 (.hoist 1 (.hoist 2 (.hoist 3 (.hoist 6 (.hoist 7 (.alt 4 [7,6] (.alt 5 [7,6] (.alt 8 [] (.alt 9 [] (.alt 10 [] (.alt 11 [] (.alt 12 [] (.hoist 13 .done) .stop) .stop) .stop) .stop) .stop) .stop) .stop))))))) cE (by kernel_rfl) (by kernel_rfl) ?_;simp only[go_sem,aJ];refine Exists.elim (hA.opd 0 0 m (by omega) (.inl rfl) rfl) fun x0 eO=>⟨⟨by omega,by omega,eO.1.2⟩,x0.cs,⟨eO.1.1,rfl⟩,?_⟩
  refine ab ((aP (eO.2.1 m (.inl rfl:ae m m) (by simp only[cap];omega)) (fun V=>rfl)).mono ?_);rintro r H' m1 aN ⟨l1,rfl,rfl⟩;have L1:ae m m1:=aa (.inl rfl:ae m m) l1;simp only[go_sem,aJ,Int.reduceEq,ao,ar,L1,and_self];refine ab ((cV _ _ m1).mono ?_);rintro r H' m2 aH ⟨rfl,rfl,_⟩;have l2:ae m1 m2:= .inr aH;have L2:ae m m2:=aa L1 l2;simp only[go_sem,aJ,Int.reduceEq,ao,ar,L2,and_self];intro p0 q0 v0 di dK s0;intro p1 q1 v1 aU dF s1;refine⟨by kernel_rfl,fun aj cj wj bc jC rj=>bo ((fX [dU (aS args) 0,[sg [46],aM s]] aj 2 cj _ wj rfl rj ⟨⟨p0,q0,rfl,dK,ay (aa (.inr aU) (.inr bc)) s0⟩,⟨⟨p1,q1,rfl,dF,ay (.inr bc) s1⟩,trivial⟩⟩ (by decide) dk).mono ?_)⟩;rintro r H' mj jB ⟨lj,rfl,rfl⟩;simp only[go_sem,aJ,Int.reduceEq,ao,ar];exact⟨aa L2 (aa (aa (.inr di) (aa (.inr aU) (.inr bc))) lj),_,_,rfl,rfl⟩
theorem ajA (n:Int) (s c:List UInt8) (ty:Ty) (args:List Ex) (a:Option Addr) (cp:Nat) (m:Mem) (ba:args.length<=cp) (hn:args.length<=aq) (bM:ty.dim<=1000) (hA:RArgOk args a cp m)
  (hb:(bY 8 n s c ty (aS args)).length<=cap):bV 41 [.v (.agg ⟨aJ 8 n s c ty (.slice a args.length cp)⟩)] m (bY 8 n s c ty (aS args)):=by
 have hT:bY 8 n s c ty (aS args)=[aM c,sg [46],aM s]:=rfl;rw[hT] at hb ⊢;clear hT;refine eC ?_;refine enter jh cE Tryz.func41 rfl rfl (by kernel_rfl) rfl ?_ ?_
 ·simp only[go_sem,aJ]
 ·simp only[go_sem,aJ,Int.reduceEq,ao,ar];refine bO (.hoist 0 (.hoist 1 (.hoist 4 (.hoist 5 (.alt 2 [5,4] (.alt 3 [5,4] (.alt 6 [] (.alt 7 [] (.alt 8 [] (.hoist 9 .done) .stop) .stop) .stop) .stop) .stop))))) cE (by kernel_rfl) (by kernel_rfl) ?_;simp only[go_sem,aJ];refine ab ((cV _ _ m).mono ?_);rintro r H' m1 aN ⟨rfl,rfl,rfl⟩;simp only[go_sem,aJ];exact⟨_,_,rfl,rfl⟩
theorem ajz (n:Int) (s c:List UInt8) (ty:Ty) (args:List Ex) (a:Option Addr) (cp:Nat) (m:Mem) (ba:args.length<=cp) (hn:args.length<=aq) (bM:ty.dim<=1000) (hA:RArgOk args a cp m) (hl:2<=args.length)
  (hb:(bY 9 n s c ty (aS args)).length<=cap):bV 41 [.v (.agg ⟨aJ 9 n s c ty (.slice a args.length cp)⟩)] m (bY 9 n s c ty (aS args)):=by
 have hT:bY 9 n s c ty (aS args)=List.flatten [dU (aS args) 0,[sg [91]],fN (aS args) 1,[sg [93]]]:=by simp [bY,bh,bH]
 rw[hT] at hb ⊢;clear hT;have dk:=hb;simp only[List.flatten_cons,List.flatten_nil,aI,aL,bg,cap] at hb;refine eC ?_;refine enter jh cE Tryz.func41 rfl rfl (by kernel_rfl) rfl ?_ ?_
 ·simp only[go_sem,aJ]
 ·simp only[go_sem,aJ,Int.reduceEq,ao,ar];refine bO (.hoist 0 (.hoist 1 (.hoist 2 (.hoist 3 (.hoist 8 (.hoist 9 (.hoist 10 (.hoist 11 (.alt 4 [11,10,9,8] (.alt 5 [11,10,9,8] (.alt 6 [11,10,9,8] (.alt 7 [11,10,9,8] (.alt 12 [] (.alt 13 [] (.alt 14 [] (.alt 15 [] (.alt 16 [] (.alt 17 [] (.hoist 18 .done) .stop) .stop) .stop) .stop) .stop) .stop) .stop) .stop) .stop) .stop))))))))) cE (by kernel_rfl) (by kernel_rfl) ?_;simp only[go_sem,aJ];refine Exists.elim (hA.opd 0 0 m (by omega) (.inl rfl) rfl) fun x0 eO=>⟨⟨by omega,by omega,eO.1.2⟩,x0.cs,⟨eO.1.1,rfl⟩,?_⟩
  refine Exists.elim (hA.opd 1 8 m (by omega) (.inl rfl) rfl) fun x1 mg=>⟨⟨by omega,by omega,mg.1.2⟩,x1.cs,⟨mg.1.1,rfl⟩,?_⟩
  refine ab ((aP (eO.2.1 m (.inl rfl:ae m m) (by simp only[cap];omega)) (fun V=>rfl)).mono ?_);rintro r H' m1 aN ⟨l1,rfl,rfl⟩;have L1:ae m m1:=aa (.inl rfl:ae m m) l1;simp only[go_sem,aJ,Int.reduceEq,ao,ar,L1,and_self];refine ab ((cV _ _ m1).mono ?_);rintro r H' m2 aH ⟨rfl,rfl,_⟩;have l2:ae m1 m2:= .inr aH;have L2:ae m m2:=aa L1 l2;simp only[go_sem,aJ,Int.reduceEq,ao,ar,L2,and_self];refine ab ((aP (mg.2.2 m2 L2 (by simp only[cap];omega)) (fun V=>rfl)).mono ?_);rintro r H' m3 bI ⟨l3,rfl,rfl⟩;have L3:ae m m3:=aa L2 l3;simp only[go_sem,aJ,Int.reduceEq,ao,ar,L3,and_self];refine ab ((cV _ _ m3).mono ?_);rintro r H' m4 cQ ⟨rfl,rfl,_⟩;have l4:ae m3 m4:= .inr cQ;have L4:ae m m4:=aa L3 l4;simp only[go_sem,aJ,Int.reduceEq,ao,ar,L4,and_self];intro p0 q0 v0 di dK s0;intro p1 q1 v1 aU dF s1;intro p2 q2 v2 aA fQ s2;intro p3 q3 v3 je nc s3;refine⟨by kernel_rfl,fun aj cj wj bc jC rj=>bo ((fX [dU (aS args) 0,[sg [91]],fN (aS args) 1,[sg [93]]] aj 4 cj _ wj rfl rj ⟨⟨p0,q0,rfl,dK,ay (aa (.inr aU) (aa (.inr aA) (aa (.inr je) (.inr bc)))) s0⟩,⟨⟨p1,q1,rfl,dF,ay (aa (.inr aA) (aa (.inr je) (.inr bc))) s1⟩,⟨⟨p2,q2,rfl,fQ,ay (aa (.inr je) (.inr bc)) s2⟩,⟨⟨p3,q3,rfl,nc,ay (.inr bc) s3⟩,trivial⟩⟩⟩⟩ (by decide) dk).mono ?_)⟩;rintro r H' mj jB ⟨lj,rfl,rfl⟩;simp only[go_sem,aJ,Int.reduceEq,ao,ar];exact⟨aa L4 (aa (aa (.inr di) (aa (.inr aU) (aa (.inr aA) (aa (.inr je) (.inr bc))))) lj),_,_,rfl,rfl⟩
theorem agG (n:Int) (s c:List UInt8) (ty:Ty) (args:List Ex) (a:Option Addr) (cp:Nat) (m:Mem) (ba:args.length<=cp) (hn:args.length<=aq) (bM:ty.dim<=1000) (hA:RArgOk args a cp m) (hl:1<=args.length)
  (hb:(bY 10 n s c ty (aS args)).length<=cap):bV 41 [.v (.agg ⟨aJ 10 n s c ty (.slice a args.length cp)⟩)] m (bY 10 n s c ty (aS args)):=by
 have hT:bY 10 n s c ty (aS args)=List.flatten [dU (aS args) 0,[sg [46],aM s],(sg [40]::(bH true (((aS args).drop 1).map (·.2))++[sg [41]]))]:=by simp [bY,bh,bH]
 rw[hT] at hb ⊢;clear hT;have dk:=hb;simp only[List.flatten_cons,List.flatten_nil,aI,aL,bg,cap] at hb;refine eC ?_;refine enter jh cE Tryz.func41 rfl rfl (by kernel_rfl) rfl ?_ ?_
 ·simp only[go_sem,aJ]
 ·simp only[go_sem,aJ,Int.reduceEq,ao,ar];refine bO (.hoist 0 (.hoist 1 (.hoist 2 (.hoist 3 (.hoist 6 (.hoist 7 (.hoist 11 (.hoist 12 (.hoist 13 (.alt 4 [13,12,11,7,6] (.alt 5 [13,12,11,7,6] (.alt 8 [13,12,11] (.alt 9 [13,12,11] (.alt 10 [13,12,11] (.alt 14 [] (.alt 15 [] (.alt 16 [] (.alt 17 [] (.hoist 18 .done) .stop) .stop) .stop) .stop) .stop) .stop) .stop) .stop) .stop)))))))))) cE (by kernel_rfl) (by kernel_rfl) ?_;simp only[go_sem,aJ];refine Exists.elim (hA.opd 0 0 m (by omega) (.inl rfl) rfl) fun x0 eO=>⟨⟨by omega,by omega,eO.1.2⟩,x0.cs,⟨eO.1.1,rfl⟩,?_⟩
  refine⟨⟨by omega,by omega,by omega⟩,?_⟩;refine ab ((aP (eO.2.1 m (.inl rfl:ae m m) (by simp only[cap];omega)) (fun V=>rfl)).mono ?_);rintro r H' m1 aN ⟨l1,rfl,rfl⟩;have L1:ae m m1:=aa (.inl rfl:ae m m) l1;simp only[go_sem,aJ,Int.reduceEq,ao,ar,L1,and_self];refine ab ((cV _ _ m1).mono ?_);rintro r H' m2 aH ⟨rfl,rfl,_⟩;have l2:ae m1 m2:= .inr aH;have L2:ae m m2:=aa L1 l2;simp only[go_sem,aJ,Int.reduceEq,ao,ar,L2,and_self];refine ab ((hA.lst1 hl m2 L2 (by simp only[cap];omega)).mono ?_);rintro r H' m3 bI ⟨l3,rfl,rfl⟩;have L3:ae m m3:=aa L2 l3;simp only[go_sem,aJ,Int.reduceEq,ao,ar,L3,and_self];refine⟨by kernel_rfl,fun a4 c4 w4 kv qZ r4=>bo ((ni _ a4 c4 w4 r4 (by simp only[cap];omega)).mono ?_)⟩;rintro r H' m4 cQ ⟨l4,rfl,rfl⟩;have L4:ae m m4:=aa L3 (aa (.inr kv) l4);simp only[go_sem,aJ,Int.reduceEq,ao,ar,L4,and_self];intro p0 q0 v0 di dK s0;intro p1 q1 v1 aU dF s1;intro p2 q2 v2 aA fQ s2;refine⟨by kernel_rfl,fun aj cj wj bc jC rj=>bo ((fX [dU (aS args) 0,[sg [46],aM s],(sg [40]::(bH true (((aS args).drop 1).map (·.2))++[sg [41]]))] aj 3 cj _ wj rfl rj ⟨⟨p0,q0,rfl,dK,ay (aa (.inr aU) (aa (.inr aA) (.inr bc))) s0⟩,⟨⟨p1,q1,rfl,dF,ay (aa (.inr aA) (.inr bc)) s1⟩,⟨⟨p2,q2,rfl,fQ,ay (.inr bc) s2⟩,trivial⟩⟩⟩ (by decide) dk).mono ?_)⟩;rintro r H' mj jB ⟨lj,rfl,rfl⟩;simp only[go_sem,aJ,Int.reduceEq,ao,ar];exact⟨aa L4 (aa (aa (.inr di) (aa (.inr aU) (aa (.inr aA) (.inr bc)))) lj),_,_,rfl,rfl⟩
theorem agF (n:Int) (s c:List UInt8) (ty:Ty) (args:List Ex) (a:Option Addr) (cp:Nat) (m:Mem) (ba:args.length<=cp) (hn:args.length<=aq) (bM:ty.dim<=1000) (hA:RArgOk args a cp m)
  (hb:(bY 11 n s c ty (aS args)).length<=cap):bV 41 [.v (.agg ⟨aJ 11 n s c ty (.slice a args.length cp)⟩)] m (bY 11 n s c ty (aS args)):=by
 have hT:bY 11 n s c ty (aS args)=List.flatten [[aM c,sg [46],aM s],(sg [40]::(bH true ((aS args).map (·.2))++[sg [41]]))]:=by simp [bY,bh,bH]
 rw[hT] at hb ⊢;clear hT;have dk:=hb;simp only[List.flatten_cons,List.flatten_nil,aI,aL,bg,cap] at hb;refine eC ?_;refine enter jh cE Tryz.func41 rfl rfl (by kernel_rfl) rfl ?_ ?_
 ·simp only[go_sem,aJ]
 ·simp only[go_sem,aJ,Int.reduceEq,ao,ar];refine bO (.hoist 0 (.hoist 1 (.hoist 4 (.hoist 5 (.hoist 9 (.hoist 10 (.alt 2 [10,9,5,4] (.alt 3 [10,9,5,4] (.alt 6 [10,9] (.alt 7 [10,9] (.alt 8 [10,9] (.alt 11 [] (.alt 12 [] (.alt 13 [] (.alt 14 [] (.hoist 15 .done) .stop) .stop) .stop) .stop) .stop) .stop) .stop) .stop) .stop))))))) cE (by kernel_rfl) (by kernel_rfl) ?_;simp only[go_sem,aJ];refine ab ((cV _ _ m).mono ?_);rintro r H' m1 aN ⟨rfl,rfl,_⟩;have l1:ae m m1:= .inr aN;have L1:ae m m1:=aa (.inl rfl:ae m m) l1;simp only[go_sem,aJ,Int.reduceEq,ao,ar,L1,and_self];refine ab ((hA.lst m1 L1 (by simp only[cap];omega)).mono ?_);rintro r H' m2 aH ⟨l2,rfl,rfl⟩;have L2:ae m m2:=aa L1 l2;simp only[go_sem,aJ,Int.reduceEq,ao,ar,L2,and_self];refine⟨by kernel_rfl,fun a3 c3 w3 nb ra r3=>bo ((ni _ a3 c3 w3 r3 (by simp only[cap];omega)).mono ?_)⟩;rintro r H' m3 bI ⟨l3,rfl,rfl⟩;have L3:ae m m3:=aa L2 (aa (.inr nb) l3);simp only[go_sem,aJ,Int.reduceEq,ao,ar,L3,and_self];intro p0 q0 v0 di dK s0;intro p1 q1 v1 aU dF s1;refine⟨by kernel_rfl,fun aj cj wj bc jC rj=>bo ((fX [[aM c,sg [46],aM s],(sg [40]::(bH true ((aS args).map (·.2))++[sg [41]]))] aj 2 cj _ wj rfl rj ⟨⟨p0,q0,rfl,dK,ay (aa (.inr aU) (.inr bc)) s0⟩,⟨⟨p1,q1,rfl,dF,ay (.inr bc) s1⟩,trivial⟩⟩ (by decide) dk).mono ?_)⟩;rintro r H' mj jB ⟨lj,rfl,rfl⟩;simp only[go_sem,aJ,Int.reduceEq,ao,ar];exact⟨aa L3 (aa (aa (.inr di) (aa (.inr aU) (.inr bc))) lj),_,_,rfl,rfl⟩
theorem agE (n:Int) (s c:List UInt8) (ty:Ty) (args:List Ex) (a:Option Addr) (cp:Nat) (m:Mem) (ba:args.length<=cp) (hn:args.length<=aq) (bM:ty.dim<=1000) (hA:RArgOk args a cp m)
  (hb:(bY 12 n s c ty (aS args)).length<=cap):bV 41 [.v (.agg ⟨aJ 12 n s c ty (.slice a args.length cp)⟩)] m (bY 12 n s c ty (aS args)):=by
 have hT:bY 12 n s c ty (aS args)=List.flatten [[kw [115,117,112,101,114],sg [46],aM s],(sg [40]::(bH true ((aS args).map (·.2))++[sg [41]]))]:=by simp [bY,bh,bH]
 rw[hT] at hb ⊢;clear hT;have dk:=hb;simp only[List.flatten_cons,List.flatten_nil,aI,aL,bg,cap] at hb;refine eC ?_;refine enter jh cE Tryz.func41 rfl rfl (by kernel_rfl) rfl ?_ ?_
 ·simp only[go_sem,aJ]
 ·simp only[go_sem,aJ,Int.reduceEq,ao,ar];refine bO (.hoist 2 (.hoist 3 (.hoist 7 (.hoist 8 (.alt 0 [8,7,3,2] (.alt 1 [8,7,3,2] (.alt 4 [8,7] (.alt 5 [8,7] (.alt 6 [8,7] (.alt 9 [] (.alt 10 [] (.alt 11 [] (.alt 12 [] (.hoist 13 .done) .stop) .stop) .stop) .stop) .stop) .stop) .stop) .stop) .stop))))) cE (by kernel_rfl) (by kernel_rfl) ?_;simp only[go_sem,aJ];refine ab ((cV _ _ m).mono ?_);rintro r H' m1 aN ⟨rfl,rfl,_⟩;have l1:ae m m1:= .inr aN;have L1:ae m m1:=aa (.inl rfl:ae m m) l1;simp only[go_sem,aJ,Int.reduceEq,ao,ar,L1,and_self];refine ab ((hA.lst m1 L1 (by simp only[cap];omega)).mono ?_);rintro r H' m2 aH ⟨l2,rfl,rfl⟩;have L2:ae m m2:=aa L1 l2;simp only[go_sem,aJ,Int.reduceEq,ao,ar,L2,and_self];refine⟨by kernel_rfl,fun a3 c3 w3 nb ra r3=>bo ((ni _ a3 c3 w3 r3 (by simp only[cap];omega)).mono ?_)⟩;rintro r H' m3 bI ⟨l3,rfl,rfl⟩;have L3:ae m m3:=aa L2 (aa (.inr nb) l3);simp only[go_sem,aJ,Int.reduceEq,ao,ar,L3,and_self];intro p0 q0 v0 di dK s0;intro p1 q1 v1 aU dF s1;refine⟨by kernel_rfl,fun aj cj wj bc jC rj=>bo ((fX [[kw [115,117,112,101,114],sg [46],aM s],(sg [40]::(bH true ((aS args).map (·.2))++[sg [41]]))] aj 2 cj _ wj rfl rj ⟨⟨p0,q0,rfl,dK,ay (aa (.inr aU) (.inr bc)) s0⟩,⟨⟨p1,q1,rfl,dF,ay (.inr bc) s1⟩,trivial⟩⟩ (by decide) dk).mono ?_)⟩;rintro r H' mj jB ⟨lj,rfl,rfl⟩;simp only[go_sem,aJ,Int.reduceEq,ao,ar];exact⟨aa L3 (aa (aa (.inr di) (aa (.inr aU) (.inr bc))) lj),_,_,rfl,rfl⟩
theorem agD (n:Int) (s c:List UInt8) (ty:Ty) (args:List Ex) (a:Option Addr) (cp:Nat) (m:Mem) (ba:args.length<=cp) (hn:args.length<=aq) (bM:ty.dim<=1000) (hA:RArgOk args a cp m)
  (hb:(bY 13 n s c ty (aS args)).length<=cap):bV 41 [.v (.agg ⟨aJ 13 n s c ty (.slice a args.length cp)⟩)] m (bY 13 n s c ty (aS args)):=by
 have hT:bY 13 n s c ty (aS args)=List.flatten [[kw [110,101,119],aM c],(sg [40]::(bH true ((aS args).map (·.2))++[sg [41]]))]:=by simp [bY,bh,bH]
 rw[hT] at hb ⊢;clear hT;have dk:=hb;simp only[List.flatten_cons,List.flatten_nil,aI,aL,bg,cap] at hb;refine eC ?_;refine enter jh cE Tryz.func41 rfl rfl (by kernel_rfl) rfl ?_ ?_
 ·simp only[go_sem,aJ]
 ·simp only[go_sem,aJ,Int.reduceEq,ao,ar];refine bO (.hoist 1 (.hoist 2 (.hoist 6 (.hoist 7 (.alt 0 [7,6,2,1] (.alt 3 [7,6] (.alt 4 [7,6] (.alt 5 [7,6] (.alt 8 [] (.alt 9 [] (.alt 10 [] (.alt 11 [] (.hoist 12 .done) .stop) .stop) .stop) .stop) .stop) .stop) .stop) .stop))))) cE (by kernel_rfl) (by kernel_rfl) ?_;simp only[go_sem,aJ];refine ab ((cV _ _ m).mono ?_);rintro r H' m1 aN ⟨rfl,rfl,_⟩;have l1:ae m m1:= .inr aN;have L1:ae m m1:=aa (.inl rfl:ae m m) l1;simp only[go_sem,aJ,Int.reduceEq,ao,ar,L1,and_self];refine ab ((hA.lst m1 L1 (by simp only[cap];omega)).mono ?_);rintro r H' m2 aH ⟨l2,rfl,rfl⟩;have L2:ae m m2:=aa L1 l2;simp only[go_sem,aJ,Int.reduceEq,ao,ar,L2,and_self];refine⟨by kernel_rfl,fun a3 c3 w3 nb ra r3=>bo ((ni _ a3 c3 w3 r3 (by simp only[cap];omega)).mono ?_)⟩;rintro r H' m3 bI ⟨l3,rfl,rfl⟩;have L3:ae m m3:=aa L2 (aa (.inr nb) l3);simp only[go_sem,aJ,Int.reduceEq,ao,ar,L3,and_self];intro p0 q0 v0 di dK s0;intro p1 q1 v1 aU dF s1;refine⟨by kernel_rfl,fun aj cj wj bc jC rj=>bo ((fX [[kw [110,101,119],aM c],(sg [40]::(bH true ((aS args).map (·.2))++[sg [41]]))] aj 2 cj _ wj rfl rj ⟨⟨p0,q0,rfl,dK,ay (aa (.inr aU) (.inr bc)) s0⟩,⟨⟨p1,q1,rfl,dF,ay (.inr bc) s1⟩,trivial⟩⟩ (by decide) dk).mono ?_)⟩;rintro r H' mj jB ⟨lj,rfl,rfl⟩;simp only[go_sem,aJ,Int.reduceEq,ao,ar];exact⟨aa L3 (aa (aa (.inr di) (aa (.inr aU) (.inr bc))) lj),_,_,rfl,rfl⟩
theorem agC (n:Int) (s c:List UInt8) (ty:Ty) (args:List Ex) (a:Option Addr) (cp:Nat) (m:Mem) (ba:args.length<=cp) (hn:args.length<=aq) (bM:ty.dim<=1000) (hA:RArgOk args a cp m) (hl:1<=args.length)
  (hb:(bY 14 n s c ty (aS args)).length<=cap):bV 41 [.v (.agg ⟨aJ 14 n s c ty (.slice a args.length cp)⟩)] m (bY 14 n s c ty (aS args)):=by
 have hT:bY 14 n s c ty (aS args)=List.flatten [[kw [110,101,119]],b5 ty.dim ty.base ty.name,[sg [91]],fN (aS args) 0,[sg [93]]]:=by simp [bY,bh,bH]
 rw[hT] at hb ⊢;clear hT;have dk:=hb;simp only[List.flatten_cons,List.flatten_nil,aI,aL,bg,cap] at hb;refine eC ?_;refine enter jh cE Tryz.func41 rfl rfl (by kernel_rfl) rfl ?_ ?_
 ·simp only[go_sem,aJ]
 ·simp only[go_sem,aJ,Int.reduceEq,ao,ar];refine bO (.hoist 3 (.hoist 4 (.hoist 9 (.hoist 10 (.hoist 11 (.hoist 12 (.alt 0 [12,11,10,9,4,3] (.alt 1 [12,11,10,9,4,3] (.alt 2 [12,11,10,9,4,3] (.alt 5 [12,11,10,9] (.alt 6 [12,11,10,9] (.alt 7 [12,11,10,9] (.alt 8 [12,11,10,9] (.alt 13 [] (.alt 14 [] (.alt 15 [] (.alt 16 [] (.alt 17 [] (.alt 18 [] (.hoist 19 .done) .stop) .stop) .stop) .stop) .stop) .stop) .stop) .stop) .stop) .stop) .stop) .stop) .stop))))))) cE (by kernel_rfl) (by kernel_rfl) ?_;simp only[go_sem,aJ];refine Exists.elim (hA.opd 0 0 m (by omega) (.inl rfl) rfl) fun x0 eO=>⟨⟨by omega,by omega,eO.1.2⟩,x0.cs,⟨eO.1.1,rfl⟩,?_⟩
  refine ab ((cV _ _ m).mono ?_);rintro r H' m1 aN ⟨rfl,rfl,_⟩;have l1:ae m m1:= .inr aN;have L1:ae m m1:=aa (.inl rfl:ae m m) l1;simp only[go_sem,aJ,Int.reduceEq,ao,ar,L1,and_self];refine ab ((aP (tc ty.dim ty.base ty.name m1 bM) (fun V=>rfl)).mono ?_);rintro r H' m2 aH ⟨l2,rfl,rfl⟩;have L2:ae m m2:=aa L1 l2;simp only[go_sem,aJ,Int.reduceEq,ao,ar,L2,and_self];refine ab ((cV _ _ m2).mono ?_);rintro r H' m3 bI ⟨rfl,rfl,_⟩;have l3:ae m2 m3:= .inr bI;have L3:ae m m3:=aa L2 l3;simp only[go_sem,aJ,Int.reduceEq,ao,ar,L3,and_self];refine ab ((aP (eO.2.2 m3 L3 (by simp only[cap];omega)) (fun V=>rfl)).mono ?_);rintro r H' m4 cQ ⟨l4,rfl,rfl⟩;have L4:ae m m4:=aa L3 l4;simp only[go_sem,aJ,Int.reduceEq,ao,ar,L4,and_self];refine ab ((cV _ _ m4).mono ?_);rintro r H' m5 cK ⟨rfl,rfl,_⟩;have l5:ae m4 m5:= .inr cK;have L5:ae m m5:=aa L4 l5;simp only[go_sem,aJ,Int.reduceEq,ao,ar,L5,and_self];intro p0 q0 v0 di dK s0;intro p1 q1 v1 aU dF s1;intro p2 q2 v2 aA fQ s2;intro p3 q3 v3 je nc s3;intro p4 q4 v4 sP sQ s4;refine⟨by kernel_rfl,fun aj cj wj bc jC rj=>bo ((fX [[kw [110,101,119]],b5 ty.dim ty.base ty.name,[sg [91]],fN (aS args) 0,[sg [93]]] aj 5 cj _ wj rfl rj ⟨⟨p0,q0,rfl,dK,ay (aa (.inr aU) (aa (.inr aA) (aa (.inr je) (aa (.inr sP) (.inr bc))))) s0⟩,⟨⟨p1,q1,rfl,dF,ay (aa (.inr aA) (aa (.inr je) (aa (.inr sP) (.inr bc)))) s1⟩,⟨⟨p2,q2,rfl,fQ,ay (aa (.inr je) (aa (.inr sP) (.inr bc))) s2⟩,⟨⟨p3,q3,rfl,nc,ay (aa (.inr sP) (.inr bc)) s3⟩,⟨⟨p4,q4,rfl,sQ,ay (.inr bc) s4⟩,trivial⟩⟩⟩⟩⟩ (by decide) dk).mono ?_)⟩
  rintro r H' mj jB ⟨lj,rfl,rfl⟩;simp only[go_sem,aJ,Int.reduceEq,ao,ar];exact⟨aa L5 (aa (aa (.inr di) (aa (.inr aU) (aa (.inr aA) (aa (.inr je) (aa (.inr sP) (.inr bc)))))) lj),_,_,rfl,rfl⟩
theorem agB (n:Int) (s c:List UInt8) (ty:Ty) (args:List Ex) (a:Option Addr) (cp:Nat) (m:Mem) (ba:args.length<=cp) (hn:args.length<=aq) (bM:ty.dim<=1000) (hA:RArgOk args a cp m) (hl:1<=args.length)
  (hb:(bY 15 n s c ty (aS args)).length<=cap):bV 41 [.v (.agg ⟨aJ 15 n s c ty (.slice a args.length cp)⟩)] m (bY 15 n s c ty (aS args)):=by
 have hT:bY 15 n s c ty (aS args)=List.flatten [[sg s],dU (aS args) 0]:=by simp [bY,bh,bH]
 rw[hT] at hb ⊢;clear hT;have dk:=hb;simp only[List.flatten_cons,List.flatten_nil,aI,aL,bg,cap] at hb;refine eC ?_;refine enter jh cE Tryz.func41 rfl rfl (by kernel_rfl) rfl ?_ ?_
 ·simp only[go_sem,aJ]
 ·simp only[go_sem,aJ,Int.reduceEq,ao,ar];refine bO (.hoist 0 (.hoist 1 (.hoist 5 (.hoist 6 (.hoist 7 (.hoist 8 (.alt 2 [8,7,6,5] (.alt 3 [8,7,6,5] (.alt 4 [8,7,6,5] (.alt 9 [] (.alt 10 [] (.alt 11 [] (.hoist 12 .done) .stop) .stop) .stop) .stop) .stop) .stop))))))) cE (by kernel_rfl) (by kernel_rfl) ?_;simp only[go_sem,aJ];refine Exists.elim (hA.opd 0 0 m (by omega) (.inl rfl) rfl) fun x0 eO=>⟨⟨by omega,by omega,eO.1.2⟩,x0.cs,⟨eO.1.1,rfl⟩,?_⟩
  refine ab ((cV _ _ m).mono ?_);rintro r H' m1 aN ⟨rfl,rfl,_⟩;have l1:ae m m1:= .inr aN;have L1:ae m m1:=aa (.inl rfl:ae m m) l1;simp only[go_sem,aJ,Int.reduceEq,ao,ar,L1,and_self];refine ab ((aP (eO.2.1 m1 L1 (by simp only[cap];omega)) (fun V=>rfl)).mono ?_);rintro r H' m2 aH ⟨l2,rfl,rfl⟩;have L2:ae m m2:=aa L1 l2;simp only[go_sem,aJ,Int.reduceEq,ao,ar,L2,and_self];intro p0 q0 v0 di dK s0;intro p1 q1 v1 aU dF s1;refine⟨by kernel_rfl,fun aj cj wj bc jC rj=>bo ((fX [[sg s],dU (aS args) 0] aj 2 cj _ wj rfl rj ⟨⟨p0,q0,rfl,dK,ay (aa (.inr aU) (.inr bc)) s0⟩,⟨⟨p1,q1,rfl,dF,ay (.inr bc) s1⟩,trivial⟩⟩ (by decide) dk).mono ?_)⟩;rintro r H' mj jB ⟨lj,rfl,rfl⟩;simp only[go_sem,aJ,Int.reduceEq,ao,ar];exact⟨aa L2 (aa (aa (.inr di) (aa (.inr aU) (.inr bc))) lj),_,_,rfl,rfl⟩
theorem agA (n:Int) (s c:List UInt8) (ty:Ty) (args:List Ex) (a:Option Addr) (cp:Nat) (m:Mem) (ba:args.length<=cp) (hn:args.length<=aq) (bM:ty.dim<=1000) (hA:RArgOk args a cp m) (hl:2<=args.length)
  (hb:(bY 16 n s c ty (aS args)).length<=cap):bV 41 [.v (.agg ⟨aJ 16 n s c ty (.slice a args.length cp)⟩)] m (bY 16 n s c ty (aS args)):=by
 have hT:bY 16 n s c ty (aS args)=List.flatten [dU (aS args) 0,[sg s],dU (aS args) 1]:=by simp [bY,bh,bH]
 rw[hT] at hb ⊢;clear hT;have dk:=hb;simp only[List.flatten_cons,List.flatten_nil,aI,aL,bg,cap] at hb;refine eC ?_;refine enter jh cE Tryz.func41 rfl rfl (by kernel_rfl) rfl ?_ ?_
 ·simp only[go_sem,aJ]
 ·simp only[go_sem,aJ,Int.reduceEq,ao,ar];refine bO (.hoist 0 (.hoist 1 (.hoist 2 (.hoist 3 (.hoist 5 (.hoist 6 (.hoist 10 (.hoist 11 (.hoist 12 (.hoist 13 (.alt 4 [13,12,11,10,6,5] (.alt 7 [13,12,11,10] (.alt 8 [13,12,11,10] (.alt 9 [13,12,11,10] (.alt 14 [] (.alt 15 [] (.alt 16 [] (.hoist 17 .done) .stop) .stop) .stop) .stop) .stop) .stop) .stop))))))))))) cE (by kernel_rfl) (by kernel_rfl) ?_;simp only[go_sem,aJ];refine Exists.elim (hA.opd 0 0 m (by omega) (.inl rfl) rfl) fun x0 eO=>⟨⟨by omega,by omega,eO.1.2⟩,x0.cs,⟨eO.1.1,rfl⟩,?_⟩
  refine Exists.elim (hA.opd 1 8 m (by omega) (.inl rfl) rfl) fun x1 mg=>⟨⟨by omega,by omega,mg.1.2⟩,x1.cs,⟨mg.1.1,rfl⟩,?_⟩
  refine ab ((aP (eO.2.1 m (.inl rfl:ae m m) (by simp only[cap];omega)) (fun V=>rfl)).mono ?_);rintro r H' m1 aN ⟨l1,rfl,rfl⟩;have L1:ae m m1:=aa (.inl rfl:ae m m) l1;simp only[go_sem,aJ,Int.reduceEq,ao,ar,L1,and_self];refine ab ((cV _ _ m1).mono ?_);rintro r H' m2 aH ⟨rfl,rfl,_⟩;have l2:ae m1 m2:= .inr aH;have L2:ae m m2:=aa L1 l2;simp only[go_sem,aJ,Int.reduceEq,ao,ar,L2,and_self];refine ab ((aP (mg.2.1 m2 L2 (by simp only[cap];omega)) (fun V=>rfl)).mono ?_);rintro r H' m3 bI ⟨l3,rfl,rfl⟩;have L3:ae m m3:=aa L2 l3;simp only[go_sem,aJ,Int.reduceEq,ao,ar,L3,and_self];intro p0 q0 v0 di dK s0;intro p1 q1 v1 aU dF s1;intro p2 q2 v2 aA fQ s2;refine⟨by kernel_rfl,fun aj cj wj bc jC rj=>bo ((fX [dU (aS args) 0,[sg s],dU (aS args) 1] aj 3 cj _ wj rfl rj ⟨⟨p0,q0,rfl,dK,ay (aa (.inr aU) (aa (.inr aA) (.inr bc))) s0⟩,⟨⟨p1,q1,rfl,dF,ay (aa (.inr aA) (.inr bc)) s1⟩,⟨⟨p2,q2,rfl,fQ,ay (.inr bc) s2⟩,trivial⟩⟩⟩ (by decide) dk).mono ?_)⟩;rintro r H' mj jB ⟨lj,rfl,rfl⟩;simp only[go_sem,aJ,Int.reduceEq,ao,ar];exact⟨aa L3 (aa (aa (.inr di) (aa (.inr aU) (aa (.inr aA) (.inr bc)))) lj),_,_,rfl,rfl⟩
theorem agz (n:Int) (s c:List UInt8) (ty:Ty) (args:List Ex) (a:Option Addr) (cp:Nat) (m:Mem) (ba:args.length<=cp) (hn:args.length<=aq) (bM:ty.dim<=1000) (hA:RArgOk args a cp m) (hl:1<=args.length)
  (hb:(bY 17 n s c ty (aS args)).length<=cap):bV 41 [.v (.agg ⟨aJ 17 n s c ty (.slice a args.length cp)⟩)] m (bY 17 n s c ty (aS args)):=by
 have hT:bY 17 n s c ty (aS args)=List.flatten [dU (aS args) 0,[kw [97,115]],b5 ty.dim ty.base ty.name]:=by simp [bY,bh,bH]
 rw[hT] at hb ⊢;clear hT;have dk:=hb;simp only[List.flatten_cons,List.flatten_nil,aI,aL,bg,cap] at hb;refine eC ?_;refine enter jh cE Tryz.func41 rfl rfl (by kernel_rfl) rfl ?_ ?_
 ·simp only[go_sem,aJ]
 ·simp only[go_sem,aJ,Int.reduceEq,ao,ar];refine bO (.hoist 0 (.hoist 1 (.hoist 2 (.hoist 3 (.hoist 8 (.hoist 9 (.alt 4 [9,8] (.alt 5 [9,8] (.alt 6 [9,8] (.alt 7 [9,8] (.alt 10 [] (.alt 11 [] (.alt 12 [] (.hoist 13 .done) .stop) .stop) .stop) .stop) .stop) .stop) .stop))))))) cE (by kernel_rfl) (by kernel_rfl) ?_;simp only[go_sem,aJ];refine Exists.elim (hA.opd 0 0 m (by omega) (.inl rfl) rfl) fun x0 eO=>⟨⟨by omega,by omega,eO.1.2⟩,x0.cs,⟨eO.1.1,rfl⟩,?_⟩
  refine ab ((aP (eO.2.1 m (.inl rfl:ae m m) (by simp only[cap];omega)) (fun V=>rfl)).mono ?_);rintro r H' m1 aN ⟨l1,rfl,rfl⟩;have L1:ae m m1:=aa (.inl rfl:ae m m) l1;simp only[go_sem,aJ,Int.reduceEq,ao,ar,L1,and_self];refine ab ((cV _ _ m1).mono ?_);rintro r H' m2 aH ⟨rfl,rfl,_⟩;have l2:ae m1 m2:= .inr aH;have L2:ae m m2:=aa L1 l2;simp only[go_sem,aJ,Int.reduceEq,ao,ar,L2,and_self];refine ab ((aP (tc ty.dim ty.base ty.name m2 bM) (fun V=>rfl)).mono ?_);rintro r H' m3 bI ⟨l3,rfl,rfl⟩;have L3:ae m m3:=aa L2 l3;simp only[go_sem,aJ,Int.reduceEq,ao,ar,L3,and_self];intro p0 q0 v0 di dK s0;intro p1 q1 v1 aU dF s1;intro p2 q2 v2 aA fQ s2;refine⟨by kernel_rfl,fun aj cj wj bc jC rj=>bo ((fX [dU (aS args) 0,[kw [97,115]],b5 ty.dim ty.base ty.name] aj 3 cj _ wj rfl rj ⟨⟨p0,q0,rfl,dK,ay (aa (.inr aU) (aa (.inr aA) (.inr bc))) s0⟩,⟨⟨p1,q1,rfl,dF,ay (aa (.inr aA) (.inr bc)) s1⟩,⟨⟨p2,q2,rfl,fQ,ay (.inr bc) s2⟩,trivial⟩⟩⟩ (by decide) dk).mono ?_)⟩;rintro r H' mj jB ⟨lj,rfl,rfl⟩;simp only[go_sem,aJ,Int.reduceEq,ao,ar];exact⟨aa L3 (aa (aa (.inr di) (aa (.inr aU) (aa (.inr aA) (.inr bc)))) lj),_,_,rfl,rfl⟩
theorem agy (n:Int) (s c:List UInt8) (ty:Ty) (args:List Ex) (a:Option Addr) (cp:Nat) (m:Mem) (ba:args.length<=cp) (hn:args.length<=aq) (bM:ty.dim<=1000) (hA:RArgOk args a cp m) (hl:1<=args.length)
  (hb:(bY 18 n s c ty (aS args)).length<=cap):bV 41 [.v (.agg ⟨aJ 18 n s c ty (.slice a args.length cp)⟩)] m (bY 18 n s c ty (aS args)):=by
 have hT:bY 18 n s c ty (aS args)=List.flatten [dU (aS args) 0,[kw [105,115]],b5 ty.dim ty.base ty.name]:=by simp [bY,bh,bH]
 rw[hT] at hb ⊢;clear hT;have dk:=hb;simp only[List.flatten_cons,List.flatten_nil,aI,aL,bg,cap] at hb;refine eC ?_;refine enter jh cE Tryz.func41 rfl rfl (by kernel_rfl) rfl ?_ ?_
 ·simp only[go_sem,aJ]
 ·simp only[go_sem,aJ,Int.reduceEq,ao,ar];refine bO (.hoist 0 (.hoist 1 (.hoist 2 (.hoist 3 (.hoist 8 (.hoist 9 (.alt 4 [9,8] (.alt 5 [9,8] (.alt 6 [9,8] (.alt 7 [9,8] (.alt 10 [] (.alt 11 [] (.alt 12 [] (.hoist 13 .done) .stop) .stop) .stop) .stop) .stop) .stop) .stop))))))) cE (by kernel_rfl) (by kernel_rfl) ?_;simp only[go_sem,aJ];refine Exists.elim (hA.opd 0 0 m (by omega) (.inl rfl) rfl) fun x0 eO=>⟨⟨by omega,by omega,eO.1.2⟩,x0.cs,⟨eO.1.1,rfl⟩,?_⟩
  refine ab ((aP (eO.2.1 m (.inl rfl:ae m m) (by simp only[cap];omega)) (fun V=>rfl)).mono ?_);rintro r H' m1 aN ⟨l1,rfl,rfl⟩;have L1:ae m m1:=aa (.inl rfl:ae m m) l1;simp only[go_sem,aJ,Int.reduceEq,ao,ar,L1,and_self];refine ab ((cV _ _ m1).mono ?_);rintro r H' m2 aH ⟨rfl,rfl,_⟩;have l2:ae m1 m2:= .inr aH;have L2:ae m m2:=aa L1 l2;simp only[go_sem,aJ,Int.reduceEq,ao,ar,L2,and_self];refine ab ((aP (tc ty.dim ty.base ty.name m2 bM) (fun V=>rfl)).mono ?_);rintro r H' m3 bI ⟨l3,rfl,rfl⟩;have L3:ae m m3:=aa L2 l3;simp only[go_sem,aJ,Int.reduceEq,ao,ar,L3,and_self];intro p0 q0 v0 di dK s0;intro p1 q1 v1 aU dF s1;intro p2 q2 v2 aA fQ s2;refine⟨by kernel_rfl,fun aj cj wj bc jC rj=>bo ((fX [dU (aS args) 0,[kw [105,115]],b5 ty.dim ty.base ty.name] aj 3 cj _ wj rfl rj ⟨⟨p0,q0,rfl,dK,ay (aa (.inr aU) (aa (.inr aA) (.inr bc))) s0⟩,⟨⟨p1,q1,rfl,dF,ay (aa (.inr aA) (.inr bc)) s1⟩,⟨⟨p2,q2,rfl,fQ,ay (.inr bc) s2⟩,trivial⟩⟩⟩ (by decide) dk).mono ?_)⟩;rintro r H' mj jB ⟨lj,rfl,rfl⟩;simp only[go_sem,aJ,Int.reduceEq,ao,ar];exact⟨aa L3 (aa (aa (.inr di) (aa (.inr aU) (aa (.inr aA) (.inr bc)))) lj),_,_,rfl,rfl⟩
theorem agx (n:Int) (s c:List UInt8) (ty:Ty) (args:List Ex) (a:Option Addr) (cp:Nat) (m:Mem) (ba:args.length<=cp) (hn:args.length<=aq) (bM:ty.dim<=1000) (hA:RArgOk args a cp m) (hl:1<=args.length)
  (hb:(bY 19 n s c ty (aS args)).length<=cap):bV 41 [.v (.agg ⟨aJ 19 n s c ty (.slice a args.length cp)⟩)] m (bY 19 n s c ty (aS args)):=by
 have hT:bY 19 n s c ty (aS args)=List.flatten [[kw [108,101,110]],(sg [40]::(fN (aS args) 0++[sg [41]]))]:=by simp [bY,bh,bH]
 rw[hT] at hb ⊢;clear hT;have dk:=hb;simp only[List.flatten_cons,List.flatten_nil,aI,aL,bg,cap] at hb;refine eC ?_;refine enter jh cE Tryz.func41 rfl rfl (by kernel_rfl) rfl ?_ ?_
 ·simp only[go_sem,aJ]
 ·simp only[go_sem,aJ,Int.reduceEq,ao,ar];refine bO (.hoist 3 (.hoist 4 (.hoist 5 (.hoist 6 (.alt 0 [6,5,4,3] (.alt 1 [6,5,4,3] (.alt 2 [6,5,4,3] (.alt 7 [] (.alt 8 [] (.alt 9 [] (.alt 10 [] (.hoist 11 .done) .stop) .stop) .stop) .stop) .stop) .stop) .stop))))) cE (by kernel_rfl) (by kernel_rfl) ?_;simp only[go_sem,aJ];refine Exists.elim (hA.opd 0 0 m (by omega) (.inl rfl) rfl) fun x0 eO=>⟨⟨by omega,by omega,eO.1.2⟩,x0.cs,⟨eO.1.1,rfl⟩,?_⟩
  refine ab ((cV _ _ m).mono ?_);rintro r H' m1 aN ⟨rfl,rfl,_⟩;have l1:ae m m1:= .inr aN;have L1:ae m m1:=aa (.inl rfl:ae m m) l1;simp only[go_sem,aJ,Int.reduceEq,ao,ar,L1,and_self];refine ab ((aP (eO.2.2 m1 L1 (by simp only[cap];omega)) (fun V=>rfl)).mono ?_);rintro r H' m2 aH ⟨l2,rfl,rfl⟩;have L2:ae m m2:=aa L1 l2;simp only[go_sem,aJ,Int.reduceEq,ao,ar,L2,and_self];refine⟨by kernel_rfl,fun a3 c3 w3 nb ra r3=>bo ((ni _ a3 c3 w3 r3 (by simp only[cap];omega)).mono ?_)⟩;rintro r H' m3 bI ⟨l3,rfl,rfl⟩;have L3:ae m m3:=aa L2 (aa (.inr nb) l3);simp only[go_sem,aJ,Int.reduceEq,ao,ar,L3,and_self];intro p0 q0 v0 di dK s0;intro p1 q1 v1 aU dF s1;refine⟨by kernel_rfl,fun aj cj wj bc jC rj=>bo ((fX [[kw [108,101,110]],(sg [40]::(fN (aS args) 0++[sg [41]]))] aj 2 cj _ wj rfl rj ⟨⟨p0,q0,rfl,dK,ay (aa (.inr aU) (.inr bc)) s0⟩,⟨⟨p1,q1,rfl,dF,ay (.inr bc) s1⟩,trivial⟩⟩ (by decide) dk).mono ?_)⟩;rintro r H' mj jB ⟨lj,rfl,rfl⟩;simp only[go_sem,aJ,Int.reduceEq,ao,ar];exact⟨aa L3 (aa (aa (.inr di) (aa (.inr aU) (.inr bc))) lj),_,_,rfl,rfl⟩
theorem agw (n:Int) (s c:List UInt8) (ty:Ty) (args:List Ex) (a:Option Addr) (cp:Nat) (m:Mem) (ba:args.length<=cp) (hn:args.length<=aq) (bM:ty.dim<=1000) (hA:RArgOk args a cp m) (hl:1<=args.length)
  (hb:(bY 20 n s c ty (aS args)).length<=cap):bV 41 [.v (.agg ⟨aJ 20 n s c ty (.slice a args.length cp)⟩)] m (bY 20 n s c ty (aS args)):=by
 have hT:bY 20 n s c ty (aS args)=List.flatten [[kw iM],(sg [40]::(fN (aS args) 0++[sg [41]]))]:=by simp [bY,bh,bH]
 rw[hT] at hb ⊢;clear hT;have dk:=hb;simp only[List.flatten_cons,List.flatten_nil,aI,aL,bg,cap] at hb;refine eC ?_;refine enter jh cE Tryz.func41 rfl rfl (by kernel_rfl) rfl ?_ ?_
 ·simp only[go_sem,aJ]
 ·simp only[go_sem,aJ,Int.reduceEq,ao,ar];refine bO (.hoist 3 (.hoist 4 (.hoist 5 (.hoist 6 (.alt 0 [6,5,4,3] (.alt 1 [6,5,4,3] (.alt 2 [6,5,4,3] (.alt 7 [] (.alt 8 [] (.alt 9 [] (.alt 10 [] (.hoist 11 .done) .stop) .stop) .stop) .stop) .stop) .stop) .stop))))) cE (by kernel_rfl) (by kernel_rfl) ?_;simp only[go_sem,aJ];refine Exists.elim (hA.opd 0 0 m (by omega) (.inl rfl) rfl) fun x0 eO=>⟨⟨by omega,by omega,eO.1.2⟩,x0.cs,⟨eO.1.1,rfl⟩,?_⟩
  refine ab ((cV _ _ m).mono ?_);rintro r H' m1 aN ⟨rfl,rfl,_⟩;have l1:ae m m1:= .inr aN;have L1:ae m m1:=aa (.inl rfl:ae m m) l1;simp only[go_sem,aJ,Int.reduceEq,ao,ar,L1,and_self];refine ab ((aP (eO.2.2 m1 L1 (by simp only[cap];omega)) (fun V=>rfl)).mono ?_);rintro r H' m2 aH ⟨l2,rfl,rfl⟩;have L2:ae m m2:=aa L1 l2;simp only[go_sem,aJ,Int.reduceEq,ao,ar,L2,and_self];refine⟨by kernel_rfl,fun a3 c3 w3 nb ra r3=>bo ((ni _ a3 c3 w3 r3 (by simp only[cap];omega)).mono ?_)⟩;rintro r H' m3 bI ⟨l3,rfl,rfl⟩;have L3:ae m m3:=aa L2 (aa (.inr nb) l3);simp only[go_sem,aJ,Int.reduceEq,ao,ar,L3,and_self];intro p0 q0 v0 di dK s0;intro p1 q1 v1 aU dF s1;refine⟨by kernel_rfl,fun aj cj wj bc jC rj=>bo ((fX [[kw iM],(sg [40]::(fN (aS args) 0++[sg [41]]))] aj 2 cj _ wj rfl rj ⟨⟨p0,q0,rfl,dK,ay (aa (.inr aU) (.inr bc)) s0⟩,⟨⟨p1,q1,rfl,dF,ay (.inr bc) s1⟩,trivial⟩⟩ (by decide) dk).mono ?_)⟩;rintro r H' mj jB ⟨lj,rfl,rfl⟩;simp only[go_sem,aJ,Int.reduceEq,ao,ar];exact⟨aa L3 (aa (aa (.inr di) (aa (.inr aU) (.inr bc))) lj),_,_,rfl,rfl⟩
theorem agv (n:Int) (s c:List UInt8) (ty:Ty) (args:List Ex) (a:Option Addr) (cp:Nat) (m:Mem) (ba:args.length<=cp) (hn:args.length<=aq) (bM:ty.dim<=1000) (hA:RArgOk args a cp m) (hl:1<=args.length)
  (hb:(bY 21 n s c ty (aS args)).length<=cap):bV 41 [.v (.agg ⟨aJ 21 n s c ty (.slice a args.length cp)⟩)] m (bY 21 n s c ty (aS args)):=by
 have hT:bY 21 n s c ty (aS args)=List.flatten [[kw iI],(sg [40]::(fN (aS args) 0++[sg [41]]))]:=by simp [bY,bh,bH]
 rw[hT] at hb ⊢;clear hT;have dk:=hb;simp only[List.flatten_cons,List.flatten_nil,aI,aL,bg,cap] at hb;refine eC ?_;refine enter jh cE Tryz.func41 rfl rfl (by kernel_rfl) rfl ?_ ?_
 ·simp only[go_sem,aJ]
 ·simp only[go_sem,aJ,Int.reduceEq,ao,ar];refine bO (.hoist 3 (.hoist 4 (.hoist 5 (.hoist 6 (.alt 0 [6,5,4,3] (.alt 1 [6,5,4,3] (.alt 2 [6,5,4,3] (.alt 7 [] (.alt 8 [] (.alt 9 [] (.alt 10 [] (.hoist 11 .done) .stop) .stop) .stop) .stop) .stop) .stop) .stop))))) cE (by kernel_rfl) (by kernel_rfl) ?_;simp only[go_sem,aJ];refine Exists.elim (hA.opd 0 0 m (by omega) (.inl rfl) rfl) fun x0 eO=>⟨⟨by omega,by omega,eO.1.2⟩,x0.cs,⟨eO.1.1,rfl⟩,?_⟩
  refine ab ((cV _ _ m).mono ?_);rintro r H' m1 aN ⟨rfl,rfl,_⟩;have l1:ae m m1:= .inr aN;have L1:ae m m1:=aa (.inl rfl:ae m m) l1;simp only[go_sem,aJ,Int.reduceEq,ao,ar,L1,and_self];refine ab ((aP (eO.2.2 m1 L1 (by simp only[cap];omega)) (fun V=>rfl)).mono ?_);rintro r H' m2 aH ⟨l2,rfl,rfl⟩;have L2:ae m m2:=aa L1 l2;simp only[go_sem,aJ,Int.reduceEq,ao,ar,L2,and_self];refine⟨by kernel_rfl,fun a3 c3 w3 nb ra r3=>bo ((ni _ a3 c3 w3 r3 (by simp only[cap];omega)).mono ?_)⟩;rintro r H' m3 bI ⟨l3,rfl,rfl⟩;have L3:ae m m3:=aa L2 (aa (.inr nb) l3);simp only[go_sem,aJ,Int.reduceEq,ao,ar,L3,and_self];intro p0 q0 v0 di dK s0;intro p1 q1 v1 aU dF s1;refine⟨by kernel_rfl,fun aj cj wj bc jC rj=>bo ((fX [[kw iI],(sg [40]::(fN (aS args) 0++[sg [41]]))] aj 2 cj _ wj rfl rj ⟨⟨p0,q0,rfl,dK,ay (aa (.inr aU) (.inr bc)) s0⟩,⟨⟨p1,q1,rfl,dF,ay (.inr bc) s1⟩,trivial⟩⟩ (by decide) dk).mono ?_)⟩;rintro r H' mj jB ⟨lj,rfl,rfl⟩;simp only[go_sem,aJ,Int.reduceEq,ao,ar];exact⟨aa L3 (aa (aa (.inr di) (aa (.inr aU) (.inr bc))) lj),_,_,rfl,rfl⟩
theorem aeM {args:List Ex} {a:Option Addr} {cp:Nat} {m:Mem} {xs:List Value} (ba:args.length<=cp) (hn:args.length<=aq) (hr:aX m a args.length 8 xs) (eo:dz m args xs) (hE:∀e∈args,RefE e m/\(aC e).length+2<=cap):RArgOk args a cp m:=by
 refine⟨fun i o m' hi hle ho=> ?_,fun m' hle hb=> ?_,fun hl m' hle hb=> ?_⟩
 ·subst ho;have aT:=bq hle (rQ eo hi);obtain⟨x,hx⟩:=mC aT;have bW:=dH (ay hle hr) hi;rw[hx] at aT bW;have hW:=hE _ (List.getElem_mem hi);rw[rM hi,Aq hi];exact⟨x,bW,fun m2 aY _=>WD _ x m2 (bq aY aT) (hW.1.up (aa hle aY)) hW.2,fun m2 aY _=>hW.1 x.cs m2 (aa hle aY) (bq aY aT)⟩
 ·rw[Cx] at hb ⊢;exact Io args a args.length cp xs m' rfl hn (ay hle hr) (uH hle eo) (fun e he=>(hE e he).1.up hle) hb
 ·rw[Ri] at hb ⊢;exact Io (args.drop 1) _ (args.length - 1) (cp - 1) (xs.drop 8) m' (by simp) (by omega) (acb (ay hle hr) hl ba) (abw (uH hle eo) hl) (fun e he=>(hE e (List.mem_of_mem_drop he)).1.up hle) hb
theorem IC:∀{l:List Ex} {e:Ex},e∈l->dd e<=eg l
 |[],e,he=>by cases he
 |x::r,e,he=>by
  simp only[eg];rcases List.mem_cons.1 he with rfl |he
  ·omega
  ·have:=IC he;omega
theorem B4:∀(h:Nat) (e:Ex) (m:Mem),bU e<=h->bD e=true->dd e<=aq->RefE e m
 |0,.mk k n s c ty args,m,hd,_,_=>by simp [bU] at hd
 |h+1,.mk k n s c ty args,m,hd,hv,dp=>by
  intro cs m' hle aT;have hb:=xQ _ hv;simp only[bw] at aT;obtain⟨a,cp,xs,rfl,ba,hr,au,eo⟩:=aT;have hn:=au.2.2.2.2.2;simp only[bU] at hd;simp only[dd] at dp hb;simp only[bD,aG] at hv;have hA:RArgOk args a cp m' :=aeM ba hn hr eo fun e he=>by
   have h1:=IC he;have h2:=xG hv.2 e he;have h3:=xQ e h2;exact⟨B4 h e m' (by have:=BF he;omega) h2 (by omega),by simp only[aq] at dp;simp only[cap];omega⟩
  obtain⟨hk,har,bM⟩:=zO hv.1;have bM:ty.dim<=1000:=by omega
  simp only[aC] at hb ⊢;have hb:(bY k n s c ty (aS args)).length<=cap:=by simp only[aq] at dp;simp only[cap];omega
  rcases kinds hk with h |h |h |h |h |h |h |h |h |h |h |h |h |h |h |h |h |h |h |h |h<;>subst h
  ·exact ajH n s c ty args a cp m' ba hn bM hA hb
  ·exact ajG n s c ty args a cp m' ba hn bM hA hb
  ·exact ajF n s c ty args a cp m' ba hn bM hA hb
  ·exact ajE n s c ty args a cp m' ba hn bM hA hb
  ·exact ajD n s c ty args a cp m' ba hn bM hA hb
  ·exact ajC n s c ty args a cp m' ba hn bM hA hb
  ·exact ajB n s c ty args a cp m' ba hn bM hA (by simp [eR] at har;omega) hb
  ·exact ajA n s c ty args a cp m' ba hn bM hA hb
  ·exact ajz n s c ty args a cp m' ba hn bM hA (by simp [eR] at har;omega) hb
  ·exact agG n s c ty args a cp m' ba hn bM hA (by simp [eR] at har;omega) hb
  ·exact agF n s c ty args a cp m' ba hn bM hA hb
  ·exact agE n s c ty args a cp m' ba hn bM hA hb
  ·exact agD n s c ty args a cp m' ba hn bM hA hb
  ·exact agC n s c ty args a cp m' ba hn bM hA (by simp [eR] at har;omega) hb
  ·exact agB n s c ty args a cp m' ba hn bM hA (by simp [eR] at har;omega) hb
  ·exact agA n s c ty args a cp m' ba hn bM hA (by simp [eR] at har;omega) hb
  ·exact agz n s c ty args a cp m' ba hn bM hA (by simp [eR] at har;omega) hb
  ·exact agy n s c ty args a cp m' ba hn bM hA (by simp [eR] at har;omega) hb
  ·exact agx n s c ty args a cp m' ba hn bM hA (by simp [eR] at har;omega) hb
  ·exact agw n s c ty args a cp m' ba hn bM hA (by simp [eR] at har;omega) hb
  ·exact agv n s c ty args a cp m' ba hn bM hA (by simp [eR] at har;omega) hb
theorem Xd (e:Ex) (cs:List Value) (m:Mem) (aT:bw m e cs) (dp:dd e<=aq) (zd:bU e<=aq):
  FnH Tryz.prog 20 [.v (.agg ⟨cs⟩)] ⟨[],[]⟩ m fun r H' m' =>ae m m' /\H' =⟨[],[]⟩/\r= .tup [.v (.string (bs (lY e).1)),.v (.int .i64 (lY e).2)]:=by
 obtain⟨x,rfl⟩:=mC aT;have hV:=By _ e x.cs m (av _) aT;have hD:=fun(m' :Mem) (hle:ae m m')=>EI _ e x.cs m' (av _) zd (bq hle aT)
 have hE:=fun(hv:bD e=true) (m' :Mem) (hle:ae m m')=>B4 _ e m (av _) hv dp x.cs m' hle (bq hle aT)
 have hJ:=fun(hv:bD e=true) (m' :Mem) (hle:ae m m') (a:Option Addr) (c:Nat) (hr:aX m' a (aC e).length 4 (cw (aC e)))=>NT (aC e) a _ c m' hr (J2 e (Cf e x.cs aT)) (by have:=xQ e hv;simp only[aq] at dp;omega)
 refine enter jh cE Tryz.func20 rfl rfl (by kernel_rfl) rfl ?_ ?_
 ·simp only[go_sem,Nd.cs]
 ·simp only[go_sem,Nd.cs];refine ab ((aP hV (fun V=>rfl)).mono ?_);clear hV;rintro r H' m1 aN ⟨l1,rfl,rfl⟩;simp only[go_sem,Nd.cs];refine⟨fun hv=>⟨l1,?_⟩,fun hv=>ab ((aP (hD m1 l1) (fun V=>rfl)).mono ?_)⟩
  ·have:lY e=([],4):=by rw[lY,af (by rw[hv];decide)]
   rw[this]
  ·clear hD;rintro r H' m2 aH ⟨l2,rfl,rfl⟩;simp only[go_sem,Nd.cs];refine⟨fun hd=>⟨aa l1 l2,?_⟩,fun hd=>ab ((aP (hE hv m2 (aa l1 l2)) (fun V=>rfl)).mono ?_)⟩
   ·have:lY e=([],9):=by rw[lY,ah hv,ah (by clear hE hJ;omega)]
    rw[this]
   ·clear hE;rintro r H' m3 bI ⟨l3,rfl,rfl⟩;simp only[go_sem,Nd.cs];have l4:=aa (aa l1 l2) l3;refine⟨by kernel_rfl,fun a c m4 cQ hc hr=>bo ((hJ hv m4 (aa l4 (.inr cQ)) a c hr).mono ?_)⟩;have hf:lY e=ld (aC e):=by rw[lY,ah hv,af (by clear hJ;omega)]
    clear hJ;rintro r H' m5 cK ⟨l5,rfl,rfl⟩;rw[hf];simp only[go_sem,Nd.cs];exact aa l4 (aa (.inr cQ) l5)
abbrev o8:Cfg:=gL (fun f=>f==96) [(100,ft (fun _=>True) fun s=> .agg ⟨kq ⟨6,s,0,0⟩⟩),(97,ft (fun _=>True) fun s=> .agg ⟨kq ⟨2,s,0,0⟩⟩),(98,ft (fun _=>True) fun s=> .agg ⟨kq ⟨1,s,0,0⟩⟩),(215,CY)]
theorem jM:dO o8 Tryz.prog:=pure_cons (by kernel_rfl) (fL (Ap NS)) (pure_cons (by kernel_rfl) (fL (Ap NP)) (pure_cons (by kernel_rfl) (fL (Ap PW)) (pure_cons (by kernel_rfl) P3 pure_nil)))
theorem ajY (nm:List UInt8) (ty:Ty) (tN eN:Nd) (a:Option Addr) (l cp:Nat) (b:Option Addr) (l2 cp2:Nat) (m:Mem) (bM:ty.dim<=1000) (TX:List Tk) (hX:∀m',ae m m' ->bV 41 [.v (.agg ⟨eN.cs⟩)] m' TX)
  (hb:(List.flatten [b5 ty.dim ty.base ty.name,[aM nm,sg [61]],TX,[sg [59]]]).length<=cap):bV 169 [.v (.agg ⟨Sd.cs ⟨1,nm,ty,tN,eN,a,l,cp,b,l2,cp2⟩⟩)] m (List.flatten [b5 ty.dim ty.base ty.name,[aM nm,sg [61]],TX,[sg [59]]]):=by
 have dk:=hb;simp only[List.flatten_cons,List.flatten_nil,aI,aL,bg,cap] at hb;refine eC ?_;refine enter o8 jM Tryz.func169 rfl rfl (by kernel_rfl) rfl ?_ ?_
 ·simp only[go_sem,Sd.cs,Nd.cs]
 ·simp only[go_sem,Sd.cs,Nd.cs,Int.reduceEq,ao,ar];refine ab ((cV _ _ m).mono ?_);rintro r H' m1 aN ⟨rfl,rfl,_⟩;have l1:ae m m1:= .inr aN;have L1:ae m m1:=aa (.inl rfl:ae m m) l1;simp only[go_sem,Sd.cs,Nd.cs,Int.reduceEq,ao,ar,L1,and_self];refine bO (.hoist 0 (.hoist 1 (.hoist 3 (.hoist 4 (.hoist 9 (.hoist 10 (.hoist 12 (.alt 2 [12,10,9,4,3] (.alt 5 [12,10,9] (.alt 6 [12,10,9] (.alt 7 [12,10,9] (.alt 8 [12,10,9] (.alt 11 [12] (.alt 13 [] (.alt 14 [] (.hoist 15 .done) .stop) .stop) .stop) .stop) .stop) .stop) .stop) .stop)))))))) jM (by kernel_rfl) (by kernel_rfl) ?_;simp only[go_sem,Sd.cs,Nd.cs,Int.reduceEq,ao,ar,L1,and_self];refine ab ((aP (tc ty.dim ty.base ty.name m1 bM) (fun V=>rfl)).mono ?_);rintro r H' m2 aH ⟨l2,rfl,rfl⟩;have L2:ae m m2:=aa L1 l2;have K2:ae m1 m2:=aa (.inl rfl:ae m1 m1) l2;simp only[go_sem,Sd.cs,Nd.cs,Int.reduceEq,ao,ar,K2,and_self];refine ab ((cV _ _ m2).mono ?_);rintro r H' m3 bI ⟨rfl,rfl,_⟩;have l3:ae m2 m3:= .inr bI;have L3:ae m m3:=aa L2 l3;have K3:ae m1 m3:=aa K2 l3;simp only[go_sem,Sd.cs,Nd.cs,Int.reduceEq,ao,ar,K3,and_self];refine ab ((aP (hX m3 L3) (fun V=>rfl)).mono ?_);rintro r H' m4 cQ ⟨l4,rfl,rfl⟩;have L4:ae m m4:=aa L3 l4;have K4:ae m1 m4:=aa K3 l4;simp only[go_sem,Sd.cs,Nd.cs,Int.reduceEq,ao,ar,K4,and_self];intro p0 q0 v0 di dK s0;intro p1 q1 v1 aU dF s1;intro p2 q2 v2 aA fQ s2;intro p3 q3 v3 je nc s3;refine⟨by kernel_rfl,fun aj cj wj bc jC rj=>bo ((fX [b5 ty.dim ty.base ty.name,[aM nm,sg [61]],TX,[sg [59]]] aj 4 cj _ wj rfl rj ⟨⟨p0,q0,rfl,dK,ay (aa (.inr aU) (aa (.inr aA) (aa (.inr je) (.inr bc)))) s0⟩,⟨⟨p1,q1,rfl,dF,ay (aa (.inr aA) (aa (.inr je) (.inr bc))) s1⟩,⟨⟨p2,q2,rfl,fQ,ay (aa (.inr je) (.inr bc)) s2⟩,⟨⟨p3,q3,rfl,nc,ay (.inr bc) s3⟩,trivial⟩⟩⟩⟩ (by decide) dk).mono ?_)⟩
  rintro r H' mj jB ⟨lj,rfl,rfl⟩;simp only[go_sem,Sd.cs,Nd.cs,Int.reduceEq,ao,ar];exact⟨aa L4 (aa (aa (.inr di) (aa (.inr aU) (aa (.inr aA) (aa (.inr je) (.inr bc))))) lj),_,_,rfl,rfl⟩
theorem ajX (nm:List UInt8) (ty:Ty) (tN eN:Nd) (a:Option Addr) (l cp:Nat) (b:Option Addr) (l2 cp2:Nat) (m:Mem) (TG:List Tk) (hT:∀m',ae m m' ->bV 41 [.v (.agg ⟨tN.cs⟩)] m' TG) (TX:List Tk) (hX:∀m',ae m m' ->bV 41 [.v (.agg ⟨eN.cs⟩)] m' TX)
  (hb:(List.flatten [TG,[sg [61]],TX,[sg [59]]]).length<=cap):bV 169 [.v (.agg ⟨Sd.cs ⟨2,nm,ty,tN,eN,a,l,cp,b,l2,cp2⟩⟩)] m (List.flatten [TG,[sg [61]],TX,[sg [59]]]):=by
 have dk:=hb;simp only[List.flatten_cons,List.flatten_nil,aI,aL,bg,cap] at hb;refine eC ?_;refine enter o8 jM Tryz.func169 rfl rfl (by kernel_rfl) rfl ?_ ?_
 ·simp only[go_sem,Sd.cs,Nd.cs]
 ·simp only[go_sem,Sd.cs,Nd.cs,Int.reduceEq,ao,ar];refine ab ((cV _ _ m).mono ?_);rintro r H' m1 aN ⟨rfl,rfl,_⟩;have l1:ae m m1:= .inr aN;have L1:ae m m1:=aa (.inl rfl:ae m m) l1;simp only[go_sem,Sd.cs,Nd.cs,Int.reduceEq,ao,ar,L1,and_self];refine bO (.hoist 0 (.hoist 1 (.hoist 6 (.hoist 7 (.hoist 9 (.alt 2 [9,7,6] (.alt 3 [9,7,6] (.alt 4 [9,7,6] (.alt 5 [9,7,6] (.alt 8 [9] (.alt 10 [] (.alt 11 [] (.hoist 12 .done) .stop) .stop) .stop) .stop) .stop) .stop) .stop)))))) jM (by kernel_rfl) (by kernel_rfl) ?_;simp only[go_sem,Sd.cs,Nd.cs,Int.reduceEq,ao,ar,L1,and_self];refine ab ((aP (hT m1 L1) (fun V=>rfl)).mono ?_);rintro r H' m2 aH ⟨l2,rfl,rfl⟩;have L2:ae m m2:=aa L1 l2;have K2:ae m1 m2:=aa (.inl rfl:ae m1 m1) l2;simp only[go_sem,Sd.cs,Nd.cs,Int.reduceEq,ao,ar,K2,and_self];refine ab ((cV _ _ m2).mono ?_);rintro r H' m3 bI ⟨rfl,rfl,_⟩;have l3:ae m2 m3:= .inr bI;have L3:ae m m3:=aa L2 l3;have K3:ae m1 m3:=aa K2 l3;simp only[go_sem,Sd.cs,Nd.cs,Int.reduceEq,ao,ar,K3,and_self];refine ab ((aP (hX m3 L3) (fun V=>rfl)).mono ?_);rintro r H' m4 cQ ⟨l4,rfl,rfl⟩;have L4:ae m m4:=aa L3 l4;have K4:ae m1 m4:=aa K3 l4;simp only[go_sem,Sd.cs,Nd.cs,Int.reduceEq,ao,ar,K4,and_self];intro p0 q0 v0 di dK s0;intro p1 q1 v1 aU dF s1;intro p2 q2 v2 aA fQ s2;intro p3 q3 v3 je nc s3;refine⟨by kernel_rfl,fun aj cj wj bc jC rj=>bo ((fX [TG,[sg [61]],TX,[sg [59]]] aj 4 cj _ wj rfl rj ⟨⟨p0,q0,rfl,dK,ay (aa (.inr aU) (aa (.inr aA) (aa (.inr je) (.inr bc)))) s0⟩,⟨⟨p1,q1,rfl,dF,ay (aa (.inr aA) (aa (.inr je) (.inr bc))) s1⟩,⟨⟨p2,q2,rfl,fQ,ay (aa (.inr je) (.inr bc)) s2⟩,⟨⟨p3,q3,rfl,nc,ay (.inr bc) s3⟩,trivial⟩⟩⟩⟩ (by decide) dk).mono ?_)⟩
  rintro r H' mj jB ⟨lj,rfl,rfl⟩;simp only[go_sem,Sd.cs,Nd.cs,Int.reduceEq,ao,ar];exact⟨aa L4 (aa (aa (.inr di) (aa (.inr aU) (aa (.inr aA) (aa (.inr je) (.inr bc))))) lj),_,_,rfl,rfl⟩
theorem ajW (nm:List UInt8) (ty:Ty) (tN eN:Nd) (a:Option Addr) (l cp:Nat) (b:Option Addr) (l2 cp2:Nat) (m:Mem) (TX:List Tk) (hX:∀m',ae m m' ->bV 41 [.v (.agg ⟨eN.cs⟩)] m' TX)
  (hb:(List.flatten [TX,[sg [59]]]).length<=cap):bV 169 [.v (.agg ⟨Sd.cs ⟨3,nm,ty,tN,eN,a,l,cp,b,l2,cp2⟩⟩)] m (List.flatten [TX,[sg [59]]]):=by
 have dk:=hb;simp only[List.flatten_cons,List.flatten_nil,aI,aL,bg,cap] at hb;refine eC ?_;refine enter o8 jM Tryz.func169 rfl rfl (by kernel_rfl) rfl ?_ ?_
 ·simp only[go_sem,Sd.cs,Nd.cs]
 ·simp only[go_sem,Sd.cs,Nd.cs,Int.reduceEq,ao,ar];refine ab ((cV _ _ m).mono ?_);rintro r H' m1 aN ⟨rfl,rfl,_⟩;have l1:ae m m1:= .inr aN;have L1:ae m m1:=aa (.inl rfl:ae m m) l1;simp only[go_sem,Sd.cs,Nd.cs,Int.reduceEq,ao,ar,L1,and_self];refine ab ((aP (hX m1 L1) (fun V=>rfl)).mono ?_);rintro r H' m2 aH ⟨l2,rfl,rfl⟩;have L2:ae m m2:=aa L1 l2;simp only[go_sem,Sd.cs,Nd.cs,Int.reduceEq,ao,ar,L2,and_self];intro p0 q0 v0 di dK s0;intro p1 q1 v1 aU dF s1;refine⟨by kernel_rfl,fun aj cj wj bc jC rj=>bo ((fX [TX,[sg [59]]] aj 2 cj _ wj rfl rj ⟨⟨p0,q0,rfl,dK,ay (aa (.inr aU) (.inr bc)) s0⟩,⟨⟨p1,q1,rfl,dF,ay (.inr bc) s1⟩,trivial⟩⟩ (by decide) dk).mono ?_)⟩;rintro r H' mj jB ⟨lj,rfl,rfl⟩;simp only[go_sem,Sd.cs,Nd.cs,Int.reduceEq,ao,ar];exact⟨aa L2 (aa (aa (.inr di) (aa (.inr aU) (.inr bc))) lj),_,_,rfl,rfl⟩
theorem agM (nm:List UInt8) (ty:Ty) (tN eN:Nd) (a:Option Addr) (l cp:Nat) (b:Option Addr) (l2 cp2:Nat) (m:Mem) (hc:((0:Int)<(l2:Int))=True) (TX:List Tk) (hX:∀m',ae m m' ->bV 41 [.v (.agg ⟨eN.cs⟩)] m' TX) (TB:List Tk) (hB:∀m',ae m m' ->bV 102 [.v (.slice a l cp)] m' TB) (TA:List Tk) (hA:∀m',ae m m' ->bV 102 [.v (.slice b l2 cp2)] m' TA)
  (hb:(List.flatten [List.flatten [[kw [105,102]],(sg [40]::(TX++[sg [41]])),TB],[kw [101,108,115,101]],TA]).length<=cap):bV 169 [.v (.agg ⟨Sd.cs ⟨4,nm,ty,tN,eN,a,l,cp,b,l2,cp2⟩⟩)] m (List.flatten [List.flatten [[kw [105,102]],(sg [40]::(TX++[sg [41]])),TB],[kw [101,108,115,101]],TA]):=by
 have dk:=hb;simp only[List.flatten_cons,List.flatten_nil,aI,aL,bg,cap] at hb;refine eC ?_;refine enter o8 jM Tryz.func169 rfl rfl (by kernel_rfl) rfl ?_ ?_
 ·simp only[go_sem,Sd.cs,Nd.cs]
 ·simp only[go_sem,Sd.cs,Nd.cs,Int.reduceEq,ao,ar];refine ab ((cV _ _ m).mono ?_);rintro r H' m1 aN ⟨rfl,rfl,_⟩;have l1:ae m m1:= .inr aN;have L1:ae m m1:=aa (.inl rfl:ae m m) l1;simp only[go_sem,Sd.cs,Nd.cs,Int.reduceEq,ao,ar,L1,and_self,hc];refine bO (.hoist 3 (.hoist 4 (.hoist 7 (.hoist 8 (.alt 0 [8,7,4,3] (.alt 1 [8,7,4,3] (.alt 2 [8,7,4,3] (.alt 5 [8,7] (.alt 6 [8,7] (.alt 9 [] (.alt 10 [] (.alt 11 [] (.hoist 12 .done) .stop) .stop) .stop) .stop) .stop) .stop) .stop) .stop))))) jM (by kernel_rfl) (by kernel_rfl) ?_;simp only[go_sem,Sd.cs,Nd.cs,Int.reduceEq,ao,ar,L1,and_self,hc];refine ab ((cV _ _ m1).mono ?_);rintro r H' m2 aH ⟨rfl,rfl,_⟩;have l2:ae m1 m2:= .inr aH;have L2:ae m m2:=aa L1 l2;have K2:ae m1 m2:=aa (.inl rfl:ae m1 m1) l2;simp only[go_sem,Sd.cs,Nd.cs,Int.reduceEq,ao,ar,K2,and_self,hc];refine ab ((aP (hX m2 L2) (fun V=>rfl)).mono ?_);rintro r H' m3 bI ⟨l3,rfl,rfl⟩;have L3:ae m m3:=aa L2 l3;have K3:ae m1 m3:=aa K2 l3;simp only[go_sem,Sd.cs,Nd.cs,Int.reduceEq,ao,ar,K3,and_self,hc];refine⟨by kernel_rfl,fun a4 c4 w4 kv qZ r4=>bo ((ni _ a4 c4 w4 r4 (by simp only[List.flatten_cons,List.flatten_nil,aI,aL,bg,cap];omega)).mono ?_)⟩;rintro r H' m4 cQ ⟨l4,rfl,rfl⟩;have L4:ae m m4:=aa L3 (aa (.inr kv) l4);have K4:ae m1 m4:=aa K3 (aa (.inr kv) l4);simp only[go_sem,Sd.cs,Nd.cs,Int.reduceEq,ao,ar,K4,and_self,hc];refine ab ((hB m4 L4).mono ?_);rintro r H' m5 cK ⟨l5,rfl,rfl⟩;have L5:ae m m5:=aa L4 l5;have K5:ae m1 m5:=aa K4 l5;simp only[go_sem,Sd.cs,Nd.cs,Int.reduceEq,ao,ar,K5,and_self,hc]
  intro LY LW vx0 AX Ln LO;intro LX LV vx1 wS Lm LN;intro px2 qx2 vx2 GJ akG sx2;refine⟨by kernel_rfl,fun M1 M0 LH tT akU LR=>bo ((fX [[kw [105,102]],(sg [40]::(TX++[sg [41]])),TB] M1 3 M0 _ LH rfl LR ⟨⟨LY,LW,rfl,Ln,ay (aa (.inr wS) (aa (.inr GJ) (.inr tT))) LO⟩,⟨⟨LX,LV,rfl,Lm,ay (aa (.inr GJ) (.inr tT)) LN⟩,⟨⟨px2,qx2,rfl,akG,ay (.inr tT) sx2⟩,trivial⟩⟩⟩ (by decide) (by simp only[List.flatten_cons,List.flatten_nil,aI,aL,bg,cap];omega)).mono ?_)⟩;rintro r H' m6 ej ⟨l6,rfl,rfl⟩;have L6:ae m m6:=aa L5 (aa (aa (.inr AX) (aa (.inr wS) (aa (.inr GJ) (.inr tT)))) l6);have K6:ae m1 m6:=aa K5 (aa (aa (.inr AX) (aa (.inr wS) (aa (.inr GJ) (.inr tT)))) l6);simp only[go_sem,Sd.cs,Nd.cs,Int.reduceEq,ao,ar,K6,and_self,hc];refine bO (.hoist 0 (.hoist 4 (.hoist 5 (.alt 1 [5,4,0] (.alt 2 [5,4,0] (.alt 3 [5,4,0] (.alt 6 [0] (.alt 7 [] (.alt 8 [] (.hoist 9 .done) .stop) .stop) .stop) .stop) .stop) .stop)))) jM (by kernel_rfl) (by kernel_rfl) ?_;simp only[go_sem,Sd.cs,Nd.cs,Int.reduceEq,ao,ar,K6,and_self,hc];refine ab ((cV _ _ m6).mono ?_);rintro r H' m7 eW ⟨rfl,rfl,_⟩;have l7:ae m6 m7:= .inr eW;have L7:ae m m7:=aa L6 l7;have K7:ae m6 m7:=aa (.inl rfl:ae m6 m6) l7;simp only[go_sem,Sd.cs,Nd.cs,Int.reduceEq,ao,ar,K7,and_self,hc];refine ab ((hA m7 L7).mono ?_);rintro r H' m8 iE ⟨l8,rfl,rfl⟩;have L8:ae m m8:=aa L7 l8;have K8:ae m6 m8:=aa K7 l8;simp only[go_sem,Sd.cs,Nd.cs,Int.reduceEq,ao,ar,K8,and_self,hc];intro p0 q0 v0 di dK s0;intro p1 q1 v1 aU dF s1;intro p2 q2 v2 aA fQ s2;refine⟨by kernel_rfl,fun aj cj wj bc jC rj=>bo ((fX [List.flatten [[kw [105,102]],(sg [40]::(TX++[sg [41]])),TB],[kw [101,108,115,101]],TA] aj 3 cj _ wj rfl rj ⟨⟨p0,q0,rfl,dK,ay (aa (.inr aU) (aa (.inr aA) (.inr bc))) s0⟩,⟨⟨p1,q1,rfl,dF,ay (aa (.inr aA) (.inr bc)) s1⟩,⟨⟨p2,q2,rfl,fQ,ay (.inr bc) s2⟩,trivial⟩⟩⟩ (by decide) dk).mono ?_)⟩
  rintro r H' mj jB ⟨lj,rfl,rfl⟩;simp only[go_sem,Sd.cs,Nd.cs,Int.reduceEq,ao,ar,hc];exact⟨aa L8 (aa (aa (.inr di) (aa (.inr aU) (aa (.inr aA) (.inr bc)))) lj),_,_,rfl,rfl⟩
theorem agL (nm:List UInt8) (ty:Ty) (tN eN:Nd) (a:Option Addr) (l cp:Nat) (b:Option Addr) (l2 cp2:Nat) (m:Mem) (hc:((0:Int)<(l2:Int))=False) (TX:List Tk) (hX:∀m',ae m m' ->bV 41 [.v (.agg ⟨eN.cs⟩)] m' TX) (TB:List Tk) (hB:∀m',ae m m' ->bV 102 [.v (.slice a l cp)] m' TB)
  (hb:(List.flatten [[kw [105,102]],(sg [40]::(TX++[sg [41]])),TB]).length<=cap):bV 169 [.v (.agg ⟨Sd.cs ⟨4,nm,ty,tN,eN,a,l,cp,b,l2,cp2⟩⟩)] m (List.flatten [[kw [105,102]],(sg [40]::(TX++[sg [41]])),TB]):=by
 have dk:=hb;simp only[List.flatten_cons,List.flatten_nil,aI,aL,bg,cap] at hb;refine eC ?_;refine enter o8 jM Tryz.func169 rfl rfl (by kernel_rfl) rfl ?_ ?_
 ·simp only[go_sem,Sd.cs,Nd.cs]
 ·simp only[go_sem,Sd.cs,Nd.cs,Int.reduceEq,ao,ar];refine ab ((cV _ _ m).mono ?_);rintro r H' m1 aN ⟨rfl,rfl,_⟩;have l1:ae m m1:= .inr aN;have L1:ae m m1:=aa (.inl rfl:ae m m) l1;simp only[go_sem,Sd.cs,Nd.cs,Int.reduceEq,ao,ar,L1,and_self,hc];refine bO (.hoist 3 (.hoist 4 (.hoist 7 (.hoist 8 (.alt 0 [8,7,4,3] (.alt 1 [8,7,4,3] (.alt 2 [8,7,4,3] (.alt 5 [8,7] (.alt 6 [8,7] (.alt 9 [] (.alt 10 [] (.alt 11 [] (.hoist 12 .done) .stop) .stop) .stop) .stop) .stop) .stop) .stop) .stop))))) jM (by kernel_rfl) (by kernel_rfl) ?_;simp only[go_sem,Sd.cs,Nd.cs,Int.reduceEq,ao,ar,L1,and_self,hc];refine ab ((cV _ _ m1).mono ?_);rintro r H' m2 aH ⟨rfl,rfl,_⟩;have l2:ae m1 m2:= .inr aH;have L2:ae m m2:=aa L1 l2;have K2:ae m1 m2:=aa (.inl rfl:ae m1 m1) l2;simp only[go_sem,Sd.cs,Nd.cs,Int.reduceEq,ao,ar,K2,and_self,hc];refine ab ((aP (hX m2 L2) (fun V=>rfl)).mono ?_);rintro r H' m3 bI ⟨l3,rfl,rfl⟩;have L3:ae m m3:=aa L2 l3;have K3:ae m1 m3:=aa K2 l3;simp only[go_sem,Sd.cs,Nd.cs,Int.reduceEq,ao,ar,K3,and_self,hc];refine⟨by kernel_rfl,fun a4 c4 w4 kv qZ r4=>bo ((ni _ a4 c4 w4 r4 (by simp only[List.flatten_cons,List.flatten_nil,aI,aL,bg,cap];omega)).mono ?_)⟩;rintro r H' m4 cQ ⟨l4,rfl,rfl⟩;have L4:ae m m4:=aa L3 (aa (.inr kv) l4);have K4:ae m1 m4:=aa K3 (aa (.inr kv) l4);simp only[go_sem,Sd.cs,Nd.cs,Int.reduceEq,ao,ar,K4,and_self,hc];refine ab ((hB m4 L4).mono ?_);rintro r H' m5 cK ⟨l5,rfl,rfl⟩;have L5:ae m m5:=aa L4 l5;have K5:ae m1 m5:=aa K4 l5;simp only[go_sem,Sd.cs,Nd.cs,Int.reduceEq,ao,ar,K5,and_self,hc]
  intro p0 q0 v0 di dK s0;intro p1 q1 v1 aU dF s1;intro p2 q2 v2 aA fQ s2;refine⟨by kernel_rfl,fun aj cj wj bc jC rj=>bo ((fX [[kw [105,102]],(sg [40]::(TX++[sg [41]])),TB] aj 3 cj _ wj rfl rj ⟨⟨p0,q0,rfl,dK,ay (aa (.inr aU) (aa (.inr aA) (.inr bc))) s0⟩,⟨⟨p1,q1,rfl,dF,ay (aa (.inr aA) (.inr bc)) s1⟩,⟨⟨p2,q2,rfl,fQ,ay (.inr bc) s2⟩,trivial⟩⟩⟩ (by decide) dk).mono ?_)⟩;rintro r H' mj jB ⟨lj,rfl,rfl⟩;simp only[go_sem,Sd.cs,Nd.cs,Int.reduceEq,ao,ar,hc];exact⟨aa L5 (aa (aa (.inr di) (aa (.inr aU) (aa (.inr aA) (.inr bc)))) lj),_,_,rfl,rfl⟩
theorem ajV (nm:List UInt8) (ty:Ty) (tN eN:Nd) (a:Option Addr) (l cp:Nat) (b:Option Addr) (l2 cp2:Nat) (m:Mem) (TX:List Tk) (hX:∀m',ae m m' ->bV 41 [.v (.agg ⟨eN.cs⟩)] m' TX) (TB:List Tk) (hB:∀m',ae m m' ->bV 102 [.v (.slice a l cp)] m' TB)
  (hb:(List.flatten [[kw [119,104,105,108,101]],(sg [40]::(TX++[sg [41]])),TB]).length<=cap):bV 169 [.v (.agg ⟨Sd.cs ⟨5,nm,ty,tN,eN,a,l,cp,b,l2,cp2⟩⟩)] m (List.flatten [[kw [119,104,105,108,101]],(sg [40]::(TX++[sg [41]])),TB]):=by
 have dk:=hb;simp only[List.flatten_cons,List.flatten_nil,aI,aL,bg,cap] at hb;refine eC ?_;refine enter o8 jM Tryz.func169 rfl rfl (by kernel_rfl) rfl ?_ ?_
 ·simp only[go_sem,Sd.cs,Nd.cs]
 ·simp only[go_sem,Sd.cs,Nd.cs,Int.reduceEq,ao,ar];refine ab ((cV _ _ m).mono ?_);rintro r H' m1 aN ⟨rfl,rfl,_⟩;have l1:ae m m1:= .inr aN;have L1:ae m m1:=aa (.inl rfl:ae m m) l1;simp only[go_sem,Sd.cs,Nd.cs,Int.reduceEq,ao,ar,L1,and_self];refine bO (.hoist 3 (.hoist 4 (.hoist 7 (.hoist 8 (.alt 0 [8,7,4,3] (.alt 1 [8,7,4,3] (.alt 2 [8,7,4,3] (.alt 5 [8,7] (.alt 6 [8,7] (.alt 9 [] (.alt 10 [] (.alt 11 [] (.hoist 12 .done) .stop) .stop) .stop) .stop) .stop) .stop) .stop) .stop))))) jM (by kernel_rfl) (by kernel_rfl) ?_;simp only[go_sem,Sd.cs,Nd.cs,Int.reduceEq,ao,ar,L1,and_self];refine ab ((cV _ _ m1).mono ?_);rintro r H' m2 aH ⟨rfl,rfl,_⟩;have l2:ae m1 m2:= .inr aH;have L2:ae m m2:=aa L1 l2;have K2:ae m1 m2:=aa (.inl rfl:ae m1 m1) l2;simp only[go_sem,Sd.cs,Nd.cs,Int.reduceEq,ao,ar,K2,and_self];refine ab ((aP (hX m2 L2) (fun V=>rfl)).mono ?_);rintro r H' m3 bI ⟨l3,rfl,rfl⟩;have L3:ae m m3:=aa L2 l3;have K3:ae m1 m3:=aa K2 l3;simp only[go_sem,Sd.cs,Nd.cs,Int.reduceEq,ao,ar,K3,and_self];refine⟨by kernel_rfl,fun a4 c4 w4 kv qZ r4=>bo ((ni _ a4 c4 w4 r4 (by simp only[List.flatten_cons,List.flatten_nil,aI,aL,bg,cap];omega)).mono ?_)⟩;rintro r H' m4 cQ ⟨l4,rfl,rfl⟩;have L4:ae m m4:=aa L3 (aa (.inr kv) l4);have K4:ae m1 m4:=aa K3 (aa (.inr kv) l4);simp only[go_sem,Sd.cs,Nd.cs,Int.reduceEq,ao,ar,K4,and_self];refine ab ((hB m4 L4).mono ?_);rintro r H' m5 cK ⟨l5,rfl,rfl⟩;have L5:ae m m5:=aa L4 l5;have K5:ae m1 m5:=aa K4 l5;simp only[go_sem,Sd.cs,Nd.cs,Int.reduceEq,ao,ar,K5,and_self];intro p0 q0 v0 di dK s0
  intro p1 q1 v1 aU dF s1;intro p2 q2 v2 aA fQ s2;refine⟨by kernel_rfl,fun aj cj wj bc jC rj=>bo ((fX [[kw [119,104,105,108,101]],(sg [40]::(TX++[sg [41]])),TB] aj 3 cj _ wj rfl rj ⟨⟨p0,q0,rfl,dK,ay (aa (.inr aU) (aa (.inr aA) (.inr bc))) s0⟩,⟨⟨p1,q1,rfl,dF,ay (aa (.inr aA) (.inr bc)) s1⟩,⟨⟨p2,q2,rfl,fQ,ay (.inr bc) s2⟩,trivial⟩⟩⟩ (by decide) dk).mono ?_)⟩;rintro r H' mj jB ⟨lj,rfl,rfl⟩;simp only[go_sem,Sd.cs,Nd.cs,Int.reduceEq,ao,ar];exact⟨aa L5 (aa (aa (.inr di) (aa (.inr aU) (aa (.inr aA) (.inr bc)))) lj),_,_,rfl,rfl⟩
theorem agK (nm:List UInt8) (ty:Ty) (tN eN:Nd) (a:Option Addr) (l cp:Nat) (b:Option Addr) (l2 cp2:Nat) (m:Mem) (hc:jm eN.k eN.n eN.s eN.c eN.ty eN.l=false) (TX:List Tk) (hX:∀m',ae m m' ->bV 41 [.v (.agg ⟨eN.cs⟩)] m' TX)
  (hb:(List.flatten [[kw [114,101,116,117,114,110]],TX,[sg [59]]]).length<=cap):bV 169 [.v (.agg ⟨Sd.cs ⟨6,nm,ty,tN,eN,a,l,cp,b,l2,cp2⟩⟩)] m (List.flatten [[kw [114,101,116,117,114,110]],TX,[sg [59]]]):=by
 have dk:=hb;simp only[List.flatten_cons,List.flatten_nil,aI,aL,bg,cap] at hb;refine eC ?_;refine enter o8 jM Tryz.func169 rfl rfl (by kernel_rfl) rfl ?_ ?_
 ·simp only[go_sem,Sd.cs,Nd.cs]
 ·simp only[go_sem,Sd.cs,Nd.cs,Int.reduceEq,ao,ar];refine ab ((cV _ _ m).mono ?_);rintro r H' m1 aN ⟨rfl,rfl,_⟩;have l1:ae m m1:= .inr aN;have L1:ae m m1:=aa (.inl rfl:ae m m) l1;simp only[go_sem,Sd.cs,Nd.cs,Int.reduceEq,ao,ar,L1,and_self,hc];refine bO (.hoist 3 (.hoist 4 (.hoist 6 (.alt 0 [6,4,3] (.alt 1 [6,4,3] (.alt 2 [6,4,3] (.alt 5 [6] (.alt 7 [] (.alt 8 [] (.hoist 9 .done) .stop) .stop) .stop) .stop) .stop) .stop)))) jM (by kernel_rfl) (by kernel_rfl) ?_;simp only[go_sem,Sd.cs,Nd.cs,Int.reduceEq,ao,ar,L1,and_self,hc];refine ab ((cV _ _ m1).mono ?_);rintro r H' m2 aH ⟨rfl,rfl,_⟩;have l2:ae m1 m2:= .inr aH;have L2:ae m m2:=aa L1 l2;have K2:ae m1 m2:=aa (.inl rfl:ae m1 m1) l2;simp only[go_sem,Sd.cs,Nd.cs,Int.reduceEq,ao,ar,K2,and_self,hc];refine ab ((aP (hX m2 L2) (fun V=>rfl)).mono ?_);rintro r H' m3 bI ⟨l3,rfl,rfl⟩;have L3:ae m m3:=aa L2 l3;have K3:ae m1 m3:=aa K2 l3;simp only[go_sem,Sd.cs,Nd.cs,Int.reduceEq,ao,ar,K3,and_self,hc];intro p0 q0 v0 di dK s0;intro p1 q1 v1 aU dF s1;intro p2 q2 v2 aA fQ s2;refine⟨by kernel_rfl,fun aj cj wj bc jC rj=>bo ((fX [[kw [114,101,116,117,114,110]],TX,[sg [59]]] aj 3 cj _ wj rfl rj ⟨⟨p0,q0,rfl,dK,ay (aa (.inr aU) (aa (.inr aA) (.inr bc))) s0⟩,⟨⟨p1,q1,rfl,dF,ay (aa (.inr aA) (.inr bc)) s1⟩,⟨⟨p2,q2,rfl,fQ,ay (.inr bc) s2⟩,trivial⟩⟩⟩ (by decide) dk).mono ?_)⟩;rintro r H' mj jB ⟨lj,rfl,rfl⟩;simp only[go_sem,Sd.cs,Nd.cs,Int.reduceEq,ao,ar,hc];exact⟨aa L3 (aa (aa (.inr di) (aa (.inr aU) (aa (.inr aA) (.inr bc)))) lj),_,_,rfl,rfl⟩
theorem agJ (nm:List UInt8) (ty:Ty) (tN eN:Nd) (a:Option Addr) (l cp:Nat) (b:Option Addr) (l2 cp2:Nat) (m:Mem) (hc:jm eN.k eN.n eN.s eN.c eN.ty eN.l=true) 
  (hb:(List.flatten [[kw [114,101,116,117,114,110]],[sg [59]]]).length<=cap):bV 169 [.v (.agg ⟨Sd.cs ⟨6,nm,ty,tN,eN,a,l,cp,b,l2,cp2⟩⟩)] m (List.flatten [[kw [114,101,116,117,114,110]],[sg [59]]]):=by
 have dk:=hb;simp only[List.flatten_cons,List.flatten_nil,aI,aL,bg,cap] at hb;refine eC ?_;refine enter o8 jM Tryz.func169 rfl rfl (by kernel_rfl) rfl ?_ ?_
 ·simp only[go_sem,Sd.cs,Nd.cs]
 ·simp only[go_sem,Sd.cs,Nd.cs,Int.reduceEq,ao,ar];refine ab ((cV _ _ m).mono ?_);rintro r H' m1 aN ⟨rfl,rfl,_⟩;have l1:ae m m1:= .inr aN;have L1:ae m m1:=aa (.inl rfl:ae m m) l1;simp only[go_sem,Sd.cs,Nd.cs,Int.reduceEq,ao,ar,L1,and_self,hc];refine ab ((cV _ _ m1).mono ?_);rintro r H' m2 aH ⟨rfl,rfl,_⟩;have l2:ae m1 m2:= .inr aH;have L2:ae m m2:=aa L1 l2;simp only[go_sem,Sd.cs,Nd.cs,Int.reduceEq,ao,ar,L2,and_self,hc];intro p0 q0 v0 di dK s0;intro p1 q1 v1 aU dF s1;refine⟨by kernel_rfl,fun aj cj wj bc jC rj=>bo ((fX [[kw [114,101,116,117,114,110]],[sg [59]]] aj 2 cj _ wj rfl rj ⟨⟨p0,q0,rfl,dK,ay (aa (.inr aU) (.inr bc)) s0⟩,⟨⟨p1,q1,rfl,dF,ay (.inr bc) s1⟩,trivial⟩⟩ (by decide) dk).mono ?_)⟩;rintro r H' mj jB ⟨lj,rfl,rfl⟩;simp only[go_sem,Sd.cs,Nd.cs,Int.reduceEq,ao,ar,hc];exact⟨aa L2 (aa (aa (.inr di) (aa (.inr aU) (.inr bc))) lj),_,_,rfl,rfl⟩
theorem ajU (nm:List UInt8) (ty:Ty) (tN eN:Nd) (a:Option Addr) (l cp:Nat) (b:Option Addr) (l2 cp2:Nat) (m:Mem) (TX:List Tk) (hX:∀m',ae m m' ->bV 41 [.v (.agg ⟨eN.cs⟩)] m' TX)
  (hb:(List.flatten [[kw [116,104,114,111,119]],TX,[sg [59]]]).length<=cap):bV 169 [.v (.agg ⟨Sd.cs ⟨7,nm,ty,tN,eN,a,l,cp,b,l2,cp2⟩⟩)] m (List.flatten [[kw [116,104,114,111,119]],TX,[sg [59]]]):=by
 have dk:=hb;simp only[List.flatten_cons,List.flatten_nil,aI,aL,bg,cap] at hb;refine eC ?_;refine enter o8 jM Tryz.func169 rfl rfl (by kernel_rfl) rfl ?_ ?_
 ·simp only[go_sem,Sd.cs,Nd.cs]
 ·simp only[go_sem,Sd.cs,Nd.cs,Int.reduceEq,ao,ar];refine ab ((cV _ _ m).mono ?_);rintro r H' m1 aN ⟨rfl,rfl,_⟩;have l1:ae m m1:= .inr aN;have L1:ae m m1:=aa (.inl rfl:ae m m) l1;simp only[go_sem,Sd.cs,Nd.cs,Int.reduceEq,ao,ar,L1,and_self];refine bO (.hoist 3 (.hoist 4 (.hoist 6 (.alt 0 [6,4,3] (.alt 1 [6,4,3] (.alt 2 [6,4,3] (.alt 5 [6] (.alt 7 [] (.alt 8 [] (.hoist 9 .done) .stop) .stop) .stop) .stop) .stop) .stop)))) jM (by kernel_rfl) (by kernel_rfl) ?_;simp only[go_sem,Sd.cs,Nd.cs,Int.reduceEq,ao,ar,L1,and_self];refine ab ((cV _ _ m1).mono ?_);rintro r H' m2 aH ⟨rfl,rfl,_⟩;have l2:ae m1 m2:= .inr aH;have L2:ae m m2:=aa L1 l2;have K2:ae m1 m2:=aa (.inl rfl:ae m1 m1) l2;simp only[go_sem,Sd.cs,Nd.cs,Int.reduceEq,ao,ar,K2,and_self];refine ab ((aP (hX m2 L2) (fun V=>rfl)).mono ?_);rintro r H' m3 bI ⟨l3,rfl,rfl⟩;have L3:ae m m3:=aa L2 l3;have K3:ae m1 m3:=aa K2 l3;simp only[go_sem,Sd.cs,Nd.cs,Int.reduceEq,ao,ar,K3,and_self];intro p0 q0 v0 di dK s0;intro p1 q1 v1 aU dF s1;intro p2 q2 v2 aA fQ s2;refine⟨by kernel_rfl,fun aj cj wj bc jC rj=>bo ((fX [[kw [116,104,114,111,119]],TX,[sg [59]]] aj 3 cj _ wj rfl rj ⟨⟨p0,q0,rfl,dK,ay (aa (.inr aU) (aa (.inr aA) (.inr bc))) s0⟩,⟨⟨p1,q1,rfl,dF,ay (aa (.inr aA) (.inr bc)) s1⟩,⟨⟨p2,q2,rfl,fQ,ay (.inr bc) s2⟩,trivial⟩⟩⟩ (by decide) dk).mono ?_)⟩;rintro r H' mj jB ⟨lj,rfl,rfl⟩;simp only[go_sem,Sd.cs,Nd.cs,Int.reduceEq,ao,ar];exact⟨aa L3 (aa (aa (.inr di) (aa (.inr aU) (aa (.inr aA) (.inr bc)))) lj),_,_,rfl,rfl⟩
theorem ajT (nm:List UInt8) (ty:Ty) (tN eN:Nd) (a:Option Addr) (l cp:Nat) (b:Option Addr) (l2 cp2:Nat) (m:Mem) (TB:List Tk) (hB:∀m',ae m m' ->bV 102 [.v (.slice a l cp)] m' TB) (bM:ty.dim<=1000) (TA:List Tk) (hA:∀m',ae m m' ->bV 102 [.v (.slice b l2 cp2)] m' TA)
  (hb:(List.flatten [[kw [116,114,121]],TB,[kw [99,97,116,99,104]],(sg [40]::(List.flatten [b5 ty.dim ty.base ty.name,[aM nm]]++[sg [41]])),TA]).length<=cap):bV 169 [.v (.agg ⟨Sd.cs ⟨8,nm,ty,tN,eN,a,l,cp,b,l2,cp2⟩⟩)] m (List.flatten [[kw [116,114,121]],TB,[kw [99,97,116,99,104]],(sg [40]::(List.flatten [b5 ty.dim ty.base ty.name,[aM nm]]++[sg [41]])),TA]):=by
 have dk:=hb;simp only[List.flatten_cons,List.flatten_nil,aI,aL,bg,cap] at hb;refine eC ?_;refine enter o8 jM Tryz.func169 rfl rfl (by kernel_rfl) rfl ?_ ?_
 ·simp only[go_sem,Sd.cs,Nd.cs]
 ·simp only[go_sem,Sd.cs,Nd.cs,Int.reduceEq,ao,ar];refine ab ((cV _ _ m).mono ?_);rintro r H' m1 aN ⟨rfl,rfl,_⟩;have l1:ae m m1:= .inr aN;have L1:ae m m1:=aa (.inl rfl:ae m m) l1;simp only[go_sem,Sd.cs,Nd.cs,Int.reduceEq,ao,ar,L1,and_self];refine bO (.hoist 3 (.hoist 4 (.hoist 9 (.hoist 10 (.hoist 12 (.hoist 13 (.hoist 20 (.hoist 21 (.alt 0 [21,20,13,12,10,9,4,3] (.alt 1 [21,20,13,12,10,9,4,3] (.alt 2 [21,20,13,12,10,9,4,3] (.alt 5 [21,20,13,12,10,9] (.alt 6 [21,20,13,12,10,9] (.alt 7 [21,20,13,12,10,9] (.alt 8 [21,20,13,12,10,9] (.alt 11 [21,20,13,12] (.alt 14 [21,20] (.alt 15 [21,20] (.alt 16 [21,20] (.alt 17 [21,20] (.alt 18 [21,20] (.alt 19 [21,20] (.alt 22 [] (.alt 23 [] (.alt 24 [] (.hoist 25 .done) .stop) .stop) .stop) .stop) .stop) .stop) .stop) .stop) .stop) .stop) .stop) .stop) .stop) .stop) .stop) .stop) .stop))))))))) jM (by kernel_rfl) (by kernel_rfl) ?_;simp only[go_sem,Sd.cs,Nd.cs,Int.reduceEq,ao,ar,L1,and_self];refine ab ((cV _ _ m1).mono ?_);rintro r H' m2 aH ⟨rfl,rfl,_⟩;have l2:ae m1 m2:= .inr aH;have L2:ae m m2:=aa L1 l2;have K2:ae m1 m2:=aa (.inl rfl:ae m1 m1) l2;simp only[go_sem,Sd.cs,Nd.cs,Int.reduceEq,ao,ar,K2,and_self];refine ab ((hB m2 L2).mono ?_);rintro r H' m3 bI ⟨l3,rfl,rfl⟩;have L3:ae m m3:=aa L2 l3;have K3:ae m1 m3:=aa K2 l3;simp only[go_sem,Sd.cs,Nd.cs,Int.reduceEq,ao,ar,K3,and_self];refine ab ((cV _ _ m3).mono ?_);rintro r H' m4 cQ ⟨rfl,rfl,_⟩;have l4:ae m3 m4:= .inr cQ;have L4:ae m m4:=aa L3 l4;have K4:ae m1 m4:=aa K3 l4;simp only[go_sem,Sd.cs,Nd.cs,Int.reduceEq,ao,ar,K4,and_self]
  refine ab ((aP (tc ty.dim ty.base ty.name m4 bM) (fun V=>rfl)).mono ?_);rintro r H' m5 cK ⟨l5,rfl,rfl⟩;have L5:ae m m5:=aa L4 l5;have K5:ae m1 m5:=aa K4 l5;simp only[go_sem,Sd.cs,Nd.cs,Int.reduceEq,ao,ar,K5,and_self];refine ab ((cV _ _ m5).mono ?_);rintro r H' m6 ej ⟨rfl,rfl,_⟩;have l6:ae m5 m6:= .inr ej;have L6:ae m m6:=aa L5 l6;have K6:ae m1 m6:=aa K5 l6;simp only[go_sem,Sd.cs,Nd.cs,Int.reduceEq,ao,ar,K6,and_self];intro LY LW vx0 AX Ln LO;intro LX LV vx1 wS Lm LN;refine⟨(aa (aa K6 (.inr AX)) (.inr wS)),by kernel_rfl,fun M1 M0 LH tT akU LR=>bo ((fX [b5 ty.dim ty.base ty.name,[aM nm]] M1 2 M0 _ LH rfl LR ⟨⟨LY,LW,rfl,Ln,ay (aa (.inr wS) (.inr tT)) LO⟩,⟨⟨LX,LV,rfl,Lm,ay (.inr tT) LN⟩,trivial⟩⟩ (by decide) (by simp only[List.flatten_cons,List.flatten_nil,aI,aL,bg,cap];omega)).mono ?_)⟩;rintro r H' m7 eW ⟨l7,rfl,rfl⟩;have L7:ae m m7:=aa L6 (aa (aa (.inr AX) (aa (.inr wS) (.inr tT))) l7);have K7:ae m1 m7:=aa K6 (aa (aa (.inr AX) (aa (.inr wS) (.inr tT))) l7);simp only[go_sem,Sd.cs,Nd.cs,Int.reduceEq,ao,ar,K7,and_self];refine⟨by kernel_rfl,fun a8 c8 w8 qS Hr r8=>bo ((ni _ a8 c8 w8 r8 (by simp only[List.flatten_cons,List.flatten_nil,aI,aL,bg,cap];omega)).mono ?_)⟩;rintro r H' m8 iE ⟨l8,rfl,rfl⟩;have L8:ae m m8:=aa L7 (aa (.inr qS) l8);have K8:ae m1 m8:=aa K7 (aa (.inr qS) l8);simp only[go_sem,Sd.cs,Nd.cs,Int.reduceEq,ao,ar,K8,and_self];refine ab ((hA m8 L8).mono ?_);rintro r H' m9 kR ⟨l9,rfl,rfl⟩;have L9:ae m m9:=aa L8 l9;have K9:ae m1 m9:=aa K8 l9;simp only[go_sem,Sd.cs,Nd.cs,Int.reduceEq,ao,ar,K9,and_self]
  intro p0 q0 v0 di dK s0;intro p1 q1 v1 aU dF s1;intro p2 q2 v2 aA fQ s2;intro p3 q3 v3 je nc s3;intro p4 q4 v4 sP sQ s4;refine⟨by kernel_rfl,fun aj cj wj bc jC rj=>bo ((fX [[kw [116,114,121]],TB,[kw [99,97,116,99,104]],(sg [40]::(List.flatten [b5 ty.dim ty.base ty.name,[aM nm]]++[sg [41]])),TA] aj 5 cj _ wj rfl rj ⟨⟨p0,q0,rfl,dK,ay (aa (.inr aU) (aa (.inr aA) (aa (.inr je) (aa (.inr sP) (.inr bc))))) s0⟩,⟨⟨p1,q1,rfl,dF,ay (aa (.inr aA) (aa (.inr je) (aa (.inr sP) (.inr bc)))) s1⟩,⟨⟨p2,q2,rfl,fQ,ay (aa (.inr je) (aa (.inr sP) (.inr bc))) s2⟩,⟨⟨p3,q3,rfl,nc,ay (aa (.inr sP) (.inr bc)) s3⟩,⟨⟨p4,q4,rfl,sQ,ay (.inr bc) s4⟩,trivial⟩⟩⟩⟩⟩ (by decide) dk).mono ?_)⟩;rintro r H' mj jB ⟨lj,rfl,rfl⟩;simp only[go_sem,Sd.cs,Nd.cs,Int.reduceEq,ao,ar];exact⟨aa L9 (aa (aa (.inr di) (aa (.inr aU) (aa (.inr aA) (aa (.inr je) (aa (.inr sP) (.inr bc)))))) lj),_,_,rfl,rfl⟩
theorem ajS (nm:List UInt8) (ty:Ty) (tN eN:Nd) (a:Option Addr) (l cp:Nat) (b:Option Addr) (l2 cp2:Nat) (m:Mem) (TX:List Tk) (hX:∀m',ae m m' ->bV 41 [.v (.agg ⟨eN.cs⟩)] m' TX) (TB:List Tk) (hB:∀m',ae m m' ->bV 102 [.v (.slice a l cp)] m' TB)
  (hb:(List.flatten [[kw [115,121,110,99]],(sg [40]::(TX++[sg [41]])),TB]).length<=cap):bV 169 [.v (.agg ⟨Sd.cs ⟨9,nm,ty,tN,eN,a,l,cp,b,l2,cp2⟩⟩)] m (List.flatten [[kw [115,121,110,99]],(sg [40]::(TX++[sg [41]])),TB]):=by
 have dk:=hb;simp only[List.flatten_cons,List.flatten_nil,aI,aL,bg,cap] at hb;refine eC ?_;refine enter o8 jM Tryz.func169 rfl rfl (by kernel_rfl) rfl ?_ ?_
 ·simp only[go_sem,Sd.cs,Nd.cs]
 ·simp only[go_sem,Sd.cs,Nd.cs,Int.reduceEq,ao,ar];refine ab ((cV _ _ m).mono ?_);rintro r H' m1 aN ⟨rfl,rfl,_⟩;have l1:ae m m1:= .inr aN;have L1:ae m m1:=aa (.inl rfl:ae m m) l1;simp only[go_sem,Sd.cs,Nd.cs,Int.reduceEq,ao,ar,L1,and_self];refine bO (.hoist 3 (.hoist 4 (.hoist 7 (.hoist 8 (.alt 0 [8,7,4,3] (.alt 1 [8,7,4,3] (.alt 2 [8,7,4,3] (.alt 5 [8,7] (.alt 6 [8,7] (.alt 9 [] (.alt 10 [] (.alt 11 [] (.hoist 12 .done) .stop) .stop) .stop) .stop) .stop) .stop) .stop) .stop))))) jM (by kernel_rfl) (by kernel_rfl) ?_;simp only[go_sem,Sd.cs,Nd.cs,Int.reduceEq,ao,ar,L1,and_self];refine ab ((cV _ _ m1).mono ?_);rintro r H' m2 aH ⟨rfl,rfl,_⟩;have l2:ae m1 m2:= .inr aH;have L2:ae m m2:=aa L1 l2;have K2:ae m1 m2:=aa (.inl rfl:ae m1 m1) l2;simp only[go_sem,Sd.cs,Nd.cs,Int.reduceEq,ao,ar,K2,and_self];refine ab ((aP (hX m2 L2) (fun V=>rfl)).mono ?_);rintro r H' m3 bI ⟨l3,rfl,rfl⟩;have L3:ae m m3:=aa L2 l3;have K3:ae m1 m3:=aa K2 l3;simp only[go_sem,Sd.cs,Nd.cs,Int.reduceEq,ao,ar,K3,and_self];refine⟨by kernel_rfl,fun a4 c4 w4 kv qZ r4=>bo ((ni _ a4 c4 w4 r4 (by simp only[List.flatten_cons,List.flatten_nil,aI,aL,bg,cap];omega)).mono ?_)⟩;rintro r H' m4 cQ ⟨l4,rfl,rfl⟩;have L4:ae m m4:=aa L3 (aa (.inr kv) l4);have K4:ae m1 m4:=aa K3 (aa (.inr kv) l4);simp only[go_sem,Sd.cs,Nd.cs,Int.reduceEq,ao,ar,K4,and_self];refine ab ((hB m4 L4).mono ?_);rintro r H' m5 cK ⟨l5,rfl,rfl⟩;have L5:ae m m5:=aa L4 l5;have K5:ae m1 m5:=aa K4 l5;simp only[go_sem,Sd.cs,Nd.cs,Int.reduceEq,ao,ar,K5,and_self];intro p0 q0 v0 di dK s0
  intro p1 q1 v1 aU dF s1;intro p2 q2 v2 aA fQ s2;refine⟨by kernel_rfl,fun aj cj wj bc jC rj=>bo ((fX [[kw [115,121,110,99]],(sg [40]::(TX++[sg [41]])),TB] aj 3 cj _ wj rfl rj ⟨⟨p0,q0,rfl,dK,ay (aa (.inr aU) (aa (.inr aA) (.inr bc))) s0⟩,⟨⟨p1,q1,rfl,dF,ay (aa (.inr aA) (.inr bc)) s1⟩,⟨⟨p2,q2,rfl,fQ,ay (.inr bc) s2⟩,trivial⟩⟩⟩ (by decide) dk).mono ?_)⟩;rintro r H' mj jB ⟨lj,rfl,rfl⟩;simp only[go_sem,Sd.cs,Nd.cs,Int.reduceEq,ao,ar];exact⟨aa L5 (aa (aa (.inr di) (aa (.inr aU) (aa (.inr aA) (.inr bc)))) lj),_,_,rfl,rfl⟩
theorem agO (nm:List UInt8) (ty:Ty) (tN eN:Nd) (a:Option Addr) (l cp:Nat) (b:Option Addr) (l2 cp2:Nat) (m:Mem) (TB:List Tk) (hB:∀m',ae m m' ->bV 102 [.v (.slice a l cp)] m' TB)
  (hb:(TB).length<=cap):bV 169 [.v (.agg ⟨Sd.cs ⟨10,nm,ty,tN,eN,a,l,cp,b,l2,cp2⟩⟩)] m (TB):=by
 have dk:=hb;simp only[List.flatten_cons,List.flatten_nil,aI,aL,bg,cap] at hb;refine eC ?_;refine enter o8 jM Tryz.func169 rfl rfl (by kernel_rfl) rfl ?_ ?_
 ·simp only[go_sem,Sd.cs,Nd.cs]
 ·simp only[go_sem,Sd.cs,Nd.cs,Int.reduceEq,ao,ar];refine ab ((cV _ _ m).mono ?_);rintro r H' m1 aN ⟨rfl,rfl,_⟩;have l1:ae m m1:= .inr aN;have L1:ae m m1:=aa (.inl rfl:ae m m) l1;simp only[go_sem,Sd.cs,Nd.cs,Int.reduceEq,ao,ar,L1,and_self];refine ab ((hB m1 L1).mono ?_);rintro r H' m2 aH ⟨l2,rfl,rfl⟩;have L2:ae m m2:=aa L1 l2;simp only[go_sem,Sd.cs,Nd.cs,Int.reduceEq,ao,ar,L2,and_self];exact⟨_,_,rfl,rfl⟩
theorem agN (nm:List UInt8) (ty:Ty) (tN eN:Nd) (a:Option Addr) (l cp:Nat) (b:Option Addr) (l2 cp2:Nat) (m:Mem) (TL:List Tk) (hL:∀m',ae m m' ->bV 106 [.v (.slice eN.a eN.l eN.cp)] m' TL)
  (hb:(List.flatten [[kw [115,117,112,101,114]],(sg [40]::(TL++[sg [41]])),[sg [59]]]).length<=cap):bV 169 [.v (.agg ⟨Sd.cs ⟨11,nm,ty,tN,eN,a,l,cp,b,l2,cp2⟩⟩)] m (List.flatten [[kw [115,117,112,101,114]],(sg [40]::(TL++[sg [41]])),[sg [59]]]):=by
 have dk:=hb;simp only[List.flatten_cons,List.flatten_nil,aI,aL,bg,cap] at hb;refine eC ?_;refine enter o8 jM Tryz.func169 rfl rfl (by kernel_rfl) rfl ?_ ?_
 ·simp only[go_sem,Sd.cs,Nd.cs]
 ·simp only[go_sem,Sd.cs,Nd.cs,Int.reduceEq,ao,ar];refine ab ((cV _ _ m).mono ?_);rintro r H' m1 aN ⟨rfl,rfl,_⟩;have l1:ae m m1:= .inr aN;have L1:ae m m1:=aa (.inl rfl:ae m m) l1;simp only[go_sem,Sd.cs,Nd.cs,Int.reduceEq,ao,ar,L1,and_self];refine bO (.hoist 3 (.hoist 4 (.hoist 5 (.hoist 8 (.alt 0 [8,5,4,3] (.alt 1 [8,5,4,3] (.alt 2 [8,5,4,3] (.alt 6 [8] (.alt 7 [8] (.alt 9 [] (.alt 10 [] (.hoist 11 .done) .stop) .stop) .stop) .stop) .stop) .stop) .stop))))) jM (by kernel_rfl) (by kernel_rfl) ?_;simp only[go_sem,Sd.cs,Nd.cs,Int.reduceEq,ao,ar,L1,and_self];refine ab ((cV _ _ m1).mono ?_);rintro r H' m2 aH ⟨rfl,rfl,_⟩;have l2:ae m1 m2:= .inr aH;have L2:ae m m2:=aa L1 l2;have K2:ae m1 m2:=aa (.inl rfl:ae m1 m1) l2;simp only[go_sem,Sd.cs,Nd.cs,Int.reduceEq,ao,ar,K2,and_self];refine ab ((hL m2 L2).mono ?_);rintro r H' m3 bI ⟨l3,rfl,rfl⟩;have L3:ae m m3:=aa L2 l3;have K3:ae m1 m3:=aa K2 l3;simp only[go_sem,Sd.cs,Nd.cs,Int.reduceEq,ao,ar,K3,and_self];refine⟨by kernel_rfl,fun a4 c4 w4 kv qZ r4=>bo ((ni _ a4 c4 w4 r4 (by simp only[List.flatten_cons,List.flatten_nil,aI,aL,bg,cap];omega)).mono ?_)⟩;rintro r H' m4 cQ ⟨l4,rfl,rfl⟩;have L4:ae m m4:=aa L3 (aa (.inr kv) l4);have K4:ae m1 m4:=aa K3 (aa (.inr kv) l4);simp only[go_sem,Sd.cs,Nd.cs,Int.reduceEq,ao,ar,K4,and_self];intro p0 q0 v0 di dK s0;intro p1 q1 v1 aU dF s1;intro p2 q2 v2 aA fQ s2;refine⟨by kernel_rfl,fun aj cj wj bc jC rj=>bo ((fX [[kw [115,117,112,101,114]],(sg [40]::(TL++[sg [41]])),[sg [59]]] aj 3 cj _ wj rfl rj ⟨⟨p0,q0,rfl,dK,ay (aa (.inr aU) (aa (.inr aA) (.inr bc))) s0⟩,⟨⟨p1,q1,rfl,dF,ay (aa (.inr aA) (.inr bc)) s1⟩,⟨⟨p2,q2,rfl,fQ,ay (.inr bc) s2⟩,trivial⟩⟩⟩ (by decide) dk).mono ?_)⟩
  rintro r H' mj jB ⟨lj,rfl,rfl⟩;simp only[go_sem,Sd.cs,Nd.cs,Int.reduceEq,ao,ar];exact⟨aa L4 (aa (aa (.inr di) (aa (.inr aU) (aa (.inr aA) (.inr bc)))) lj),_,_,rfl,rfl⟩
def U5 (s:St) (m:Mem):Prop:=∀(cs:List Value) (m' :Mem),ae m m' ->eX m' s cs->bV 169 [.v (.agg ⟨cs⟩)] m' (cT s)
theorem Eu (l:List St) (a:Option Addr) (n c:Nat) (xs:List Value) (m:Mem) (hl:l.length=n) (hn:n<=aq) (hr:aX m a n 23 xs) (hs:bS m l xs) (hS:∀e∈l,U5 e m) (hb:(bl (be l)).length<=cap):
  bV 102 [.v (.slice a n c)] m (bl (be l)):=by
 rw[NL] at hb ⊢;have dk:((l.map cT).flatten).length+2<=cap:=by
  simp only[bl,aL,aI,bg] at hb;omega
 clear hb;refine eC ?_;refine aR cE Tryz.func102 ?_
 ·simp only[go_sem];refine ab ((cV _ _ m).mono ?_);rintro r H' m1 aN ⟨rfl,rfl,_⟩;have l1:ae m m1:= .inr aN;simp only[go_sem];refine ew cE (fun x:Nat×Nat×Mem=>⟨[⟨0,[],.v (.slice a n c)⟩,⟨3,[],.vec 0 x.2.1⟩,⟨4,[],.v (.int .i64 x.1)⟩],[],[],[⟨0,x.2.1,50,4,(sg [123]::((l.take x.1).map cT).flatten).length,cw (sg [123]::((l.take x.1).map cT).flatten)⟩],2,x.2.2⟩)
   (fun x=>ae m1 x.2.2/\x.1<=n) (fun x=>n - x.1) (0,0,m1) (by kernel_rfl) (fun _ _=>dC rfl) (fun x hx=> ?_) (fun _=> ?_) ?_ ?_ ?_
  ·exact hx.1
  ·simp only[go_sem]
  ·simp only[go_sem];exact⟨rfl,rfl,rfl⟩
  ·exact⟨.inl rfl,aD _⟩
  ·rintro⟨k,v,mm⟩ ⟨h0,h2⟩;simp only at h0 h2;have h1:=aa l1 h0;have hx:∀(hk:k<l.length),∃x:Sd,(Rd mm (cO a (k * 23)) x.cs/\a≠none)/\bV 169 [.v (.agg ⟨x.cs⟩)] mm (cT l[k]):=fun hk=>by
    have aT:=td h1 (qw hs hk);obtain⟨x,hx⟩:=Fa aT;have bW:=dH (ay h1 hr) (by omega:k<n);rw[hx] at aT bW;exact⟨x,bW,hS _ (List.getElem_mem hk) x.cs mm h1 aT⟩
   have ur:=fun(hk:k<l.length)=>And.intro (EL (f:=cT) hk) (Ag (f:=cT) l (k+1))
   have cu:=Ag (f:=cT) l k;clear hS;simp only[go_sem];refine⟨fun aw=> ?_,fun cg=> ?_⟩
   ·have hk:k<l.length:=by clear hx;omega
    refine Exists.elim (hx hk) fun x bP=>⟨⟨by clear hx bP;omega,aw,bP.1.2⟩,x.cs,⟨bP.1.1,rfl⟩,?_⟩
    clear hx;have ha:=bP.2;clear bP;have hT:=(ur hk).1;have hL:=(ur hk).2;rw[hT,aI] at hL;clear ur;simp only[cap] at dk;simp only[go_sem,Sd.cs];refine ab ((aP ha (fun V=>rfl)).mono ?_);clear ha;rintro r H' m2 aH ⟨l2,rfl,rfl⟩;simp only[go_sem,Sd.cs];refine⟨⟨by omega,by simp only[maxLen];omega⟩,by unfold aF;simp only[aq] at hn;omega,(k+1,v+1,m2),⟨⟨rfl,by simp⟩,⟨rfl,?_,?_⟩,.inl rfl⟩,⟨aa h0 l2,by simp only;omega⟩,by simp only;omega⟩
    ·simp only;rw[hT,aI];omega
    ·simp only;rw[hT,<- dW,nh]
   ·clear hx ur;rw[fj (by omega)];simp only[cap] at dk;refine⟨⟨by omega,by simp only[maxLen];omega⟩,h1,0,v+1,rfl,?_⟩;have e1:(bl (l.map cT).flatten).length=(l.map cT).flatten.length+1+1:=by rw[uX]
    have e2:cw (bl (l.map cT).flatten)=cw (sg [123]::(l.map cT).flatten)++kq (sg [125]):=by rw[bl,<- dW,nh];rfl
    rw[e1,e2];rfl
theorem pE {f:FuncId} {args:List SV} {m:Mem} {T T' :List Tk} (e:T=T') (h:bV f args m T'):bV f args m T:=by rw[e];exact h
theorem ER:∀(h:Nat) (s:St) (m:Mem),eT s<=h->fv s=true->fS s<=aq->U5 s m
 |0,.mk k nm ty tg ex body alt,m,hd,_,_=>by simp [eT] at hd
 |h+1,.mk k nm ty tg ex body alt,m,hd,hv,dp=>by
  intro cs m' hle aT;have hb:=Ue _ hv;have hb:(cT (.mk k nm ty tg ex body alt)).length<=cap:=by simp only[aq] at dp;simp only[cap];omega
  obtain⟨⟨k',fP,dT,tN,eN,a,l,cp,b,l2,cp2⟩,rfl,rfl,rfl,rfl,dn,hex,hl,ba,ct,eb,au,xs,ys,r1,r2,s1,s2⟩:=rB aT;simp only at dn hex hl ba ct eb r1 r2 hv hb au;simp only[eT] at hd;simp only[fS] at dp;simp only[fv,aG] at hv;have aU:=hv.1;clear hv aT;have hB:∀{q:Bool},(decide (body.length<=32)&&b9 false body&&q)=true->∀m2,ae m' m2->bV 102 [.v (.slice a l cp)] m2 (bl (be body)):=fun iO m2 aY=>by
   simp only[aG] at iO;have hlen:=uY false body iO.1.2;exact Eu body a l cp xs m2 hl.symm (by rw[hl];exact au.l) (ay aY r1) (dw aY s1) (fun e he=>ER h e m2 (by have:=my he;omega) (rv iO.1.2 e he) (by have:=uF he;omega)) (by rw[uX];simp only[aq] at dp;simp only[cap];omega)
  have hA:∀{q:Bool},(q&&(decide (alt.length<=32)&&b9 false alt))=true->∀m2,ae m' m2->bV 102 [.v (.slice b l2 cp2)] m2 (bl (be alt)):=fun iO m2 aY=>by
   simp only[aG] at iO;have hlen:=uY false alt iO.2.2;exact Eu alt b l2 cp2 ys m2 ct.symm (by rw[ct];exact au.l2) (ay aY r2) (dw aY s2) (fun e he=>ER h e m2 (by have:=my he;omega) (rv iO.2.2 e he) (by have:=uF he;omega)) (by rw[uX];simp only[aq] at dp;simp only[cap];omega)
  have hX:bD ex=true->∀m2,ae m' m2->bV 41 [.v (.agg ⟨eN.cs⟩)] m2 (aC ex):=fun hv m2 aY=>B4 _ ex m2 (av _) hv (by omega) _ m2 (.inl rfl) (bq aY hex)
  have hG:bD tg=true->∀m2,ae m' m2->bV 41 [.v (.agg ⟨tN.cs⟩)] m2 (aC tg):=fun hv m2 aY=>B4 _ tg m2 (av _) hv (by omega) _ m2 (.inl rfl) (bq aY dn)
  have ne:=(KA hex).2;rcases BB aU with rfl |rfl |rfl |rfl |rfl |rfl |rfl |rfl |rfl |rfl |rfl
  ·have aA:(du fP&&dD dT.dim dT.base dT.name&&bD ex)=true:=aU;simp only[aG] at aA;have hT:cT (.mk 1 fP dT tg ex body alt)=List.flatten [b5 dT.dim dT.base dT.name,[aM fP,sg [61]],aC ex,[sg [59]]]:=by simp [cT,pf]
   rw[hT] at hb;exact pE hT (ajY fP dT tN eN a l cp b l2 cp2 m' (by have:=uI aA.1.2;omega) _ (hX aA.2) hb)
  ·have aA:(nj tg&&bD ex)=true:=aU;simp only[aG] at aA;have hT:cT (.mk 2 fP dT tg ex body alt)=List.flatten [aC tg,[sg [61]],aC ex,[sg [59]]]:=by simp [cT,pf]
   rw[hT] at hb;exact pE hT (ajX fP dT tN eN a l cp b l2 cp2 m' _ (hG (zz aA.1)) _ (hX aA.2) hb)
  ·have aA:nC ex=true:=aU;have hT:cT (.mk 3 fP dT tg ex body alt)=List.flatten [aC ex,[sg [59]]]:=by simp [cT,pf]
   rw[hT] at hb;exact pE hT (ajW fP dT tN eN a l cp b l2 cp2 m' _ (hX (zK aA)) hb)
  ·have aA:((decide (body.length<=32)&&b9 false body&&(decide (alt.length<=32)&&b9 false alt))&&bD ex)=true:=aU;rw[aG] at aA;by_cases ha:0<alt.length
   ·have hT:cT (.mk 4 fP dT tg ex body alt)=List.flatten [List.flatten [[kw [105,102]],(sg [40]::(aC ex++[sg [41]])),bl (be body)],[kw [101,108,115,101]],bl (be alt)]:=by simp [cT,pf,bh,bH,ha]
    rw[hT] at hb;exact pE hT (agM fP dT tN eN a l cp b l2 cp2 m' (eq_true (by omega)) _ (hX aA.2) _ (hB aA.1) _ (hA aA.1) hb)
   ·have hT:cT (.mk 4 fP dT tg ex body alt)=List.flatten [[kw [105,102]],(sg [40]::(aC ex++[sg [41]])),bl (be body)]:=by simp [cT,pf,bh,bH,ha]
    rw[hT] at hb;exact pE hT (agL fP dT tN eN a l cp b l2 cp2 m' (eq_false (by omega)) _ (hX aA.2) _ (hB aA.1) hb)
  ·have aA:((decide (body.length<=32)&&b9 false body&&(decide (alt.length<=32)&&b9 false alt))&&bD ex)=true:=aU;rw[aG] at aA;have hT:cT (.mk 5 fP dT tg ex body alt)=List.flatten [[kw [119,104,105,108,101]],(sg [40]::(aC ex++[sg [41]])),bl (be body)]:=by simp [cT,pf,bh,bH]
   rw[hT] at hb;exact pE hT (ajV fP dT tN eN a l cp b l2 cp2 m' _ (hX aA.2) _ (hB aA.1) hb)
  ·have aA:(jn ex||bD ex)=true:=aU;by_cases h0:jn ex=true
   ·have lv:=JV h0;have hT:cT (.mk 6 fP dT tg ex body alt)=List.flatten [[kw [114,101,116,117,114,110]],[sg [59]]]:=by simp [cT,pf,lv]
    rw[hT] at hb;exact pE hT (agJ fP dT tN eN a l cp b l2 cp2 m' (by rw[ne];exact h0) hb)
   ·have h0:jn ex=false:=Bool.eq_false_iff.2 h0;rw[h0,Bool.false_or] at aA;have lv:=Rh aA;have hT:cT (.mk 6 fP dT tg ex body alt)=List.flatten [[kw [114,101,116,117,114,110]],aC ex,[sg [59]]]:=by simp [cT,pf,lv]
    rw[hT] at hb;exact pE hT (agK fP dT tN eN a l cp b l2 cp2 m' (by rw[ne];exact h0) _ (hX aA) hb)
  ·have aA:bD ex=true:=aU;have hT:cT (.mk 7 fP dT tg ex body alt)=List.flatten [[kw [116,104,114,111,119]],aC ex,[sg [59]]]:=by simp [cT,pf]
   rw[hT] at hb;exact pE hT (ajU fP dT tN eN a l cp b l2 cp2 m' _ (hX aA) hb)
  ·have aA:((decide (body.length<=32)&&b9 false body&&(decide (alt.length<=32)&&b9 false alt))&&du fP&&dD dT.dim dT.base dT.name)=true:=aU;rw[aG,aG] at aA;have hT:cT (.mk 8 fP dT tg ex body alt)=List.flatten [[kw [116,114,121]],bl (be body),[kw [99,97,116,99,104]],(sg [40]::(List.flatten [b5 dT.dim dT.base dT.name,[aM fP]]++[sg [41]])),bl (be alt)]:=by simp [cT,pf]
   rw[hT] at hb;exact pE hT (ajT fP dT tN eN a l cp b l2 cp2 m' _ (hB aA.1.1) (by have:=uI aA.2;omega) _ (hA aA.1.1) hb)
  ·have aA:((decide (body.length<=32)&&b9 false body&&(decide (alt.length<=32)&&b9 false alt))&&bD ex)=true:=aU;rw[aG] at aA;have hT:cT (.mk 9 fP dT tg ex body alt)=List.flatten [[kw [115,121,110,99]],(sg [40]::(aC ex++[sg [41]])),bl (be body)]:=by simp [cT,pf,bh,bH]
   rw[hT] at hb;exact pE hT (ajS fP dT tN eN a l cp b l2 cp2 m' _ (hX aA.2) _ (hB aA.1) hb)
  ·have aA:(decide (body.length<=32)&&b9 false body&&(decide (alt.length<=32)&&b9 false alt))=true:=aU;have hT:cT (.mk 10 fP dT tg ex body alt)=bl (be body):=by simp [cT,pf]
   rw[hT] at hb;exact pE hT (agO fP dT tN eN a l cp b l2 cp2 m' _ (hB aA) hb)
  ·have aA:np ex=true:=aU;have je:=EE aA;obtain⟨_,q1,q2,q3,zs,q4,q5⟩:=Yv hex;have hT:cT (.mk 11 fP dT tg ex body alt)=List.flatten [[kw [115,117,112,101,114]],(sg [40]::(bH true (ex.args.map aC)++[sg [41]])),[sg [59]]]:=by simp [cT,pf,bh]
   rw[hT] at hb;have fG:=Ik ex;exact pE hT (agN fP dT tN eN a l cp b l2 cp2 m' _ (fun m3 h3=>Io ex.args eN.a eN.l eN.cp zs m3 q1.symm q3 (ay h3 q4) (uH h3 q5) (fun e he=>B4 _ e m3 (av _) (xG je e he) (by have:=IC he;omega)) (by simp only[List.flatten_cons,aI,aL] at hb;omega)) hb)
theorem elI:iU Tryz.prog 155=some 3:=by kernel_rfl
theorem af1:fC Tryz.prog 3=some [.v (.int .i64 0)]:=by kernel_rfl
theorem szI:bZ Tryz.prog 3=1:=by kernel_rfl
attribute [go_sem] elI af1 szI
def wQ (fl:Int) (k:Nat):List Tk:=((bK.take k).filter fun p=>hasB fl p.1).map fun p=>kw p.2
def LD:List Value:=[.int .i64 1,.int .i64 2,.int .i64 4,.int .i64 8,.int .i64 16,.int .i64 32,.int .i64 1024]
def K0:List Value:=bK.map fun p=> .string (bs p.2)
theorem zF (fl:Int) (m:Mem):bV 95 [.v (.int .i64 fl)] m (cR fl):=by
 refine eC ?_;refine aR cE Tryz.func95 ?_
 ·simp only[go_sem];refine dA cE (fun x:Nat×Nat=>⟨[⟨0,[],.v (.int .i64 fl)⟩,⟨3,[],.vec 0 0⟩,⟨4,[],.vec 1 0⟩,⟨5,[],.vec 2 x.2⟩,⟨6,[],.v (.int .i64 x.1)⟩],[],[],[⟨2,x.2,50,4,(wQ fl x.1).length,cw (wQ fl x.1)⟩,⟨1,0,9,1,7,K0⟩,⟨0,0,3,1,7,LD⟩],3,m⟩)
   (fun x=>x.1<=7) (fun x=>7 - x.1) (0,0) (fun _ _=>dC rfl) (fun _ _=> .inl rfl) ?_ ?_ ?_
  ·simp only[go_sem];exact⟨rfl,⟨rfl,rfl⟩,rfl,rfl⟩
  ·exact aD _
  ·rintro⟨k,v⟩ h2;simp only at h2;have hc:∀(hk:k<7),LD.getD k undef= .int .i64 (bK[k]'hk).1/\K0.getD k undef= .string (bs (bK[k]'hk).2):=fun hk=>by
    rcases(by omega:k=0\/k=1\/k=2\/k=3\/k=4\/k=5\/k=6) with rfl |rfl |rfl |rfl |rfl |rfl |rfl<;>exact⟨rfl,rfl⟩
   have hm:=fun(hk:k<7)=>aaY fl hk
   have hl:=R6 fl k;simp only[go_sem];refine⟨fun aw=>⟨⟨by omega,aw⟩,by have:LD.length=7:=rfl;omega,?_⟩,fun cg=> ?_⟩
   ·have hk:k<7:=by omega
    have Hs:=hc hk;have sU:=hm hk;clear hc hm;have D4:=Hs.1;have kz:=Hs.2;simp only[go_sem,D4,kz];have hz:hasB fl (bK[k]'hk).1= !decide (bits .and .i64 fl (bK[k]'hk).1=0):=rfl;refine⟨fun h1=>⟨⟨by omega,aw⟩,by have:K0.length=7:=rfl;omega,⟨by simp only[wQ];omega,by simp only[wQ,maxLen];omega⟩,by unfold aF;omega,(k+1,v+1),⟨⟨rfl,by simp⟩,rfl,?_,?_⟩,by simp only;omega,by simp only;omega⟩,fun h1=>⟨by unfold aF;omega,(k+1,v),⟨⟨rfl,by simp⟩,rfl,?_,?_⟩,by simp only;omega,by simp only;omega⟩⟩
    ·rw[dr h1,Bool.not_false] at hz;simp only[wQ];rw[sU,ah hz,aI];rfl
    ·rw[dr h1,Bool.not_false] at hz;simp only[wQ];rw[sU,ah hz,nh];rfl
    ·rw[eH h1,Bool.not_true] at hz;simp only[wQ];rw[sU,af (Bool.eq_false_iff.1 hz),List.append_nil]
    ·rw[eH h1,Bool.not_true] at hz;simp only[wQ];rw[sU,af (Bool.eq_false_iff.1 hz),List.append_nil]
   ·have:k=7:=by omega
    subst this;exact⟨2,v,rfl,rfl⟩
theorem Xa (w:List UInt8) (l:List (List UInt8)) (a:Option Addr) (n c:Nat) (m:Mem) (hl:n=l.length) (hr:aX m a n 1 (strs l)) (hn:n<=aq):bV 99 [.v (.string (bs w)),.v (.slice a n c)] m (gM w l):=by
 refine eC ?_;refine aR cE Tryz.func99 ?_
 ·simp only[go_sem];refine dA cE (fun x:Nat×Nat=>⟨[⟨0,[],.v (.string (bs w))⟩,⟨1,[],.v (.slice a n c)⟩,⟨5,[],.vec 0 x.2⟩,⟨6,[],.v (.int .i64 x.1)⟩],[],[],[⟨0,x.2,50,4,(gM w (l.take x.1)).length,cw (gM w (l.take x.1))⟩],1,m⟩)
   (fun x=>x.1<=n) (fun x=>n - x.1) (0,0) (fun _ _=>av _) (fun _ _=> .inl rfl) ?_ ?_ ?_
  ·simp only[go_sem];exact⟨rfl,rfl,rfl⟩
  ·exact aD _
  ·rintro⟨k,v⟩ h2;simp only at h2;have hx:∀(hk:k<l.length),Rd m (cO a k) [.string (bs l[k])]/\a≠none:=fun hk=>Ac hr hk
   have ur:=fun(hk:k<l.length)=>abd w hk
   have Be:=Co w (l.take k);rw[List.length_take] at Be;simp only[go_sem];refine⟨fun aw=> ?_,fun cg=> ?_⟩
   ·have hk:k<l.length:=by omega
    have hT:=ur hk;have bP:=hx hk;clear ur hx;simp only[aq] at hn;refine⟨fun h0=>⟨⟨by omega,by simp only[maxLen];omega⟩,⟨by omega,aw,bP.2⟩,_,bP.1,?_⟩,fun h0=>⟨⟨by omega,by simp only[maxLen];omega⟩,⟨by omega,aw,bP.2⟩,_,bP.1,?_⟩⟩
    ·simp only[go_sem];have lv:k=0:=by omega
     rw[ah lv,List.append_assoc] at hT;refine⟨⟨by omega,by simp only[maxLen];omega⟩,by unfold aF;omega,(k+1,v+1+1),⟨⟨rfl,by simp⟩,rfl,?_,?_⟩,by simp only;omega,by simp only;omega⟩
     ·simp only;rw[hT,aI];rfl
     ·simp only;rw[hT,nh,List.append_assoc];rfl
    ·simp only[go_sem];have lv:¬k=0:=by omega
     rw[af lv,List.append_assoc] at hT;refine⟨⟨by omega,by simp only[maxLen];omega⟩,by unfold aF;omega,(k+1,v+1+1),⟨⟨rfl,by simp⟩,rfl,?_,?_⟩,by simp only;omega,by simp only;omega⟩
     ·simp only;rw[hT,aI];rfl
     ·simp only;rw[hT,nh,List.append_assoc];rfl
   ·rw[fj (by omega)];exact⟨0,v,rfl,rfl⟩
theorem s9 (T:List Tk) (ls:List (List Tk)) (hT:ls.flatten=T) (a:Option Addr) (n c:Nat) (xs:List Value) (m:Mem) (hl:ls.length=n) (hr:aX m a n 1 xs) (hs:ya m ls xs) (hn:n<=aq) (hb:T.length<=cap):bV 94 [.v (.slice a n c)] m T:=by
 subst hT;exact fX ls a n c xs m hl hr hs hn hb
set_option maxHeartbeats 8000000 in
theorem XQ (d:Md) (cs:List Value) (m:Mem) (h:gJ m d cs) (Dx:d.res.dim<=1000) (VC:∀p∈d.params,p.ty.dim<=1000)
  (hB:d.hb=true->∀a n c xs m',ae m m' ->n=d.body.length->aX m' a n 23 xs->bS m' d.body xs->bV 102 [.v (.slice a n c)] m' (bl (be d.body)))
  (hb:(eQ d).length<=100000000):bV 103 [.v (.agg ⟨cs⟩)] m (eQ d):=by
 obtain⟨fl,res,name,params,nf,body⟩:=d;obtain⟨x,⟨rfl,rfl,rfl,rfl,rfl⟩,⟨j6,xp,hl,ba⟩,au,r1,xs,r2,s2⟩:=h;simp only at j6 hl Dx VC hB r1 s2;have bp:x.pl<=aq:=by rw[j6];exact au.pl
 have jE:=fun(hq:x.hb=true) m' (hle:ae m m')=>hB hq x.a x.l x.cp xs m' hle hl (ay hle r2) (dw hle s2)
 clear hB s2;have hpz:(bH true (params.map cS)).length<=100000000:=by
  simp only[eQ,bh,aI,aL] at hb;omega
 have Ho:∀(k:Nat),(List.flatten [cR x.fl,b5 x.res.dim x.res.base x.res.name,[aM x.name],sg [40]::(bH true ((params.map cS).take k)++[sg [41]])]).length<=cap:=fun k=>by
  have z1:=xP x.fl;have z2:(b5 x.res.dim x.res.base x.res.name).length<=2001:=by simp only[b5,aL,rF];omega
  have z3:=BT (params.map cS) true k;simp only[List.flatten_cons,List.flatten_nil,aI,aL,bg,cap];omega
 have Hn:∀(k:Nat),(List.flatten [cR x.fl,[kw [110,101,119]],sg [40]::(bH true ((params.map cS).take k)++[sg [41]])]).length<=cap:=fun k=>by
  have z1:=xP x.fl;have z3:=BT (params.map cS) true k;simp only[List.flatten_cons,List.flatten_nil,aI,aL,bg,cap];omega
 refine eC ?_;refine enter jh cE Tryz.func103 rfl rfl (by kernel_rfl) rfl ?_ ?_
 ·simp only[go_sem,Mc.cs]
 ·simp only[go_sem,Mc.cs];refine ew cE (fun y:Nat×Nat×Mem=>⟨[⟨1,[],.box 0 0⟩,⟨3,[],.vec 1 y.2.1⟩,⟨4,[],.v (.int .i64 y.1)⟩],[],[⟨0,98,x.cs.map .v⟩],[⟨1,y.2.1,50,4,(bH true ((params.map cS).take y.1)).length,cw (bH true ((params.map cS).take y.1))⟩],2,y.2.2⟩)
   (fun y=>ae m y.2.2/\y.1<=x.pl) (fun y=>x.pl - y.1) (0,0,m) (by kernel_rfl) (fun _ _=>av _) (fun y hy=> ?_) (fun _=> ?_) ?_ ?_ ?_
  ·exact hy.1
  ·simp only[go_sem,Mc.cs]
  ·simp only[go_sem,Mc.cs];exact⟨rfl,rfl,rfl⟩
  ·exact⟨.inl rfl,aD _⟩
  ·rintro⟨k,v,mm⟩ ⟨h1,h2⟩;simp only at h1 h2;have hx:∀(hk:k<params.length),(Rd mm (cO x.pa (k * 4)) (params[k]).cs/\x.pa≠none)/\params[k].ty.dim<=1000:=fun hk=>by
    have q1:=dH (ay h1 r1) (by omega:k<x.pl);rw[oJ (f:=Pc.cs) (sz:=4) (fun _=>rfl) hk] at q1;exact⟨q1,VC _ (List.getElem_mem hk)⟩
   have mo:=fun(hk:k<params.length)=>Iv (l:=params.map cS) (f:=true) (k:=k) (by simpa using hk)
   have cu:=BT (params.map cS) true;simp only[go_sem,Mc.cs];refine⟨fun aw=> ?_,fun cg=> ?_⟩
   ·clear jE;have hk:k<params.length:=by omega
    have bP:=hx hk;have hT:=mo hk;have hL:=cu (k+1);clear hx mo cu;simp only[List.getElem_map] at hT;rw[hT] at hL;simp only[aI] at hL;refine⟨fun h0=>⟨⟨by omega,by simp only[maxLen];omega⟩,?_⟩,fun h0=> ?_⟩
    ·refine bO (.hoist 0 (.hoist 1 (.hoist 2 (.hoist 3 (.hoist 4 (.hoist 5 (.hoist 6 (.hoist 9 (.hoist 10 (.hoist 11 (.hoist 12 (.hoist 13 (.hoist 14 (.alt 7 [14,13,12,11,10,9,0] (.alt 8 [14,13,12,11,10,9] (.alt 15 [] (.alt 16 [] (.alt 17 [] (.hoist 18 .done) .stop) .stop) .stop) .stop) .stop)))))))))))))) cE (by kernel_rfl) (by kernel_rfl) ?_;simp only[go_sem,Mc.cs,Pc.cs];refine⟨⟨by omega,aw,bP.1.2⟩,iZ bP.1.1,[.int .i64 params[k].ty.dim,.int .u8 params[k].ty.base,.string (bs params[k].ty.name)],⟨gU bP.1.1 0 3 (dC rfl),rfl⟩,⟨by omega,aw,bP.1.2⟩,iZ bP.1.1,.string (bs params[k].name),gU bP.1.1 3 1 (dC rfl),by kernel_rfl,bo ((tc params[k].ty.dim params[k].ty.base params[k].ty.name mm bP.2).mono ?_)⟩;clear bP;rintro r H' m2 aH ⟨l2,rfl,rfl⟩;simp only[go_sem,Mc.cs,Pc.cs,l2,and_self];rw[ah (.inl (by omega):(0<k\/true=false))] at hT hL;simp only[aL,cS,aI,bg] at hL;refine⟨⟨by omega,by simp only[maxLen];omega⟩,⟨by omega,by simp only[maxLen];omega⟩,by unfold aF;simp only[aq] at bp;omega,(k+1,v+1+1+1,m2),⟨⟨rfl,by simp⟩,⟨rfl,?_,?_⟩,.inl rfl⟩,⟨aa h1 l2,by simp only;omega⟩,by simp only;omega⟩
     ·simp only;rw[hT];simp only[aI,aL,cS,bg];omega
     ·simp only;rw[hT];simp [cw,cS,sg,aM]
    ·refine bO (.hoist 0 (.hoist 1 (.hoist 2 (.hoist 3 (.hoist 4 (.hoist 5 (.hoist 6 (.hoist 9 (.hoist 10 (.hoist 11 (.hoist 12 (.hoist 13 (.hoist 14 (.alt 7 [14,13,12,11,10,9,0] (.alt 8 [14,13,12,11,10,9] (.alt 15 [] (.alt 16 [] (.alt 17 [] (.hoist 18 .done) .stop) .stop) .stop) .stop) .stop)))))))))))))) cE (by kernel_rfl) (by kernel_rfl) ?_;simp only[go_sem,Mc.cs,Pc.cs];refine⟨⟨by omega,aw,bP.1.2⟩,iZ bP.1.1,[.int .i64 params[k].ty.dim,.int .u8 params[k].ty.base,.string (bs params[k].ty.name)],⟨gU bP.1.1 0 3 (dC rfl),rfl⟩,⟨by omega,aw,bP.1.2⟩,iZ bP.1.1,.string (bs params[k].name),gU bP.1.1 3 1 (dC rfl),by kernel_rfl,bo ((tc params[k].ty.dim params[k].ty.base params[k].ty.name mm bP.2).mono ?_)⟩;clear bP;rintro r H' m2 aH ⟨l2,rfl,rfl⟩;simp only[go_sem,Mc.cs,Pc.cs,l2,and_self];have e1:¬(0<k\/true=false):=fun h=>by
      rcases h with h |h
      ·omega
      ·cases h
     rw[af e1] at hT hL;simp only[aL,cS,aI,bg] at hL;refine⟨⟨by omega,by simp only[maxLen];omega⟩,⟨by omega,by simp only[maxLen];omega⟩,by unfold aF;simp only[aq] at bp;omega,(k+1,v+1+1,m2),⟨⟨rfl,by simp⟩,⟨rfl,?_,?_⟩,.inl rfl⟩,⟨aa h1 l2,by simp only;omega⟩,by simp only;omega⟩
     ·simp only;rw[hT];simp only[aI,aL,cS,bg];omega
     ·simp only;rw[hT];simp [cw,cS,sg,aM]
   ·clear hx mo cu;have e0:(params.map cS).take k=params.map cS:=fj (by simp;clear jE;omega);have ez:(bH true ((params.map cS).take k)).length+2<=cap:=by rw[e0];simp only[cap];omega
    refine bO (.hoist 0 (.hoist 1 (.hoist 3 (.hoist 4 (.hoist 6 (.hoist 7 (.hoist 11 (.alt 2 [11,7,6,4,3] (.alt 5 [11,7,6] (.alt 8 [11] (.alt 9 [11] (.alt 10 [11] (.alt 12 [] (.alt 13 [] (.alt 14 [] (.hoist 15 .done) .stop) .stop) .stop) .stop) .stop) .stop) .stop) .stop)))))))) cE (by kernel_rfl) (by kernel_rfl) ?_;simp only[go_sem,Mc.cs];refine ab ((zF x.fl mm).mono ?_);rintro r H' m2 aH ⟨l2,rfl,rfl⟩;have q2:ae mm m2:=l2;have L2:=aa h1 q2;simp only[go_sem,Mc.cs,q2,and_self];refine ab ((aP (tc x.res.dim x.res.base x.res.name m2 Dx) (fun V=>rfl)).mono ?_);rintro r H' m3 bI ⟨l3,rfl,rfl⟩;have q3:ae m2 m3:=l3;have L3:=aa L2 q3;have K3:=aa q2 q3;simp only[go_sem,Mc.cs,K3,and_self];refine ab ((cV _ _ m3).mono ?_);rintro r H' m4 cQ ⟨rfl,rfl,_⟩;have q4:ae m3 m4:= .inr cQ;have L4:=aa L3 q4;have K4:=aa K3 q4;simp only[go_sem,Mc.cs,K4,and_self];refine⟨by kernel_rfl,fun a5 c5 w5 sO VR r5=>bo ((ni _ a5 c5 w5 r5 ez).mono ?_)⟩;rintro r H' m5 cK ⟨l5,rfl,rfl⟩;have q5:ae m4 m5:=aa (.inr sO) l5;have L5:=aa L4 q5;have K5:=aa K4 q5;simp only[go_sem,Mc.cs,K5,and_self];intro aki aln apd ahf ahs ajt;intro akh alm apc Um ahr ajs;intro akg alk apb KF ahq ajr;intro akf alj apa Gq ahp ajq;refine⟨by kernel_rfl,fun a6 c6 w6 qT VQ r6=>bo ((fX [cR x.fl,b5 x.res.dim x.res.base x.res.name,[aM x.name],(sg [40]::(bH true ((params.map cS).take k)++[sg [41]]))] a6 4 c6 _ w6 rfl r6 ⟨⟨aki,aln,rfl,ahs,ay (aa (.inr Um) (aa (.inr KF) (aa (.inr Gq) (.inr qT)))) ajt⟩,⟨⟨akh,alm,rfl,ahr,ay (aa (.inr KF) (aa (.inr Gq) (.inr qT))) ajs⟩,⟨⟨akg,alk,rfl,ahq,ay (aa (.inr Gq) (.inr qT)) ajr⟩,⟨⟨akf,alj,rfl,ahp,ay (.inr qT) ajq⟩,trivial⟩⟩⟩⟩ (by decide) (Ho k)).mono ?_)⟩
    rintro r H' m6 ej ⟨l6,rfl,rfl⟩;have q6:ae m5 m6:=aa (aa (.inr ahf) (aa (.inr Um) (aa (.inr KF) (aa (.inr Gq) (.inr qT))))) l6;have L6:=aa L5 q6;have K6:=aa K5 q6;simp only[go_sem,Mc.cs,K6,and_self];refine⟨fun hn=> ?_,fun hn=> ?_⟩
    ·have xq:x.name=eK:=hn;refine ab ((zF x.fl m6).mono ?_);rintro r H' m7 eW ⟨l7,rfl,rfl⟩;have q7:ae m6 m7:=l7;have L7:=aa L6 q7;simp only[go_sem,Mc.cs,q7,and_self];refine ab ((cV _ _ m7).mono ?_);rintro r H' m8 iE ⟨rfl,rfl,_⟩;have q8:ae m7 m8:= .inr iE;have L8:=aa L7 q8;have K8:=aa q7 q8;simp only[go_sem,Mc.cs,K8,and_self];refine⟨by kernel_rfl,fun a9 c9 w9 yU hc9 r9=>bo ((ni _ a9 c9 w9 r9 ez).mono ?_)⟩;rintro r H' m9 kR ⟨l9,rfl,rfl⟩;have q9:ae m8 m9:=aa (.inr yU) l9;have L9:=aa L8 q9;have K9:=aa K8 q9;simp only[go_sem,Mc.cs,K9,and_self];intro C0 Di T2 CL CN CV;intro CZ Dh T1 wi CM CU;intro Ky KZ aga yg Km Ks;refine⟨by kernel_rfl,fun Eo mw DD o6 lX DG=>bo ((fX [cR x.fl,[kw [110,101,119]],(sg [40]::(bH true ((params.map cS).take k)++[sg [41]]))] Eo 3 mw _ DD rfl DG ⟨⟨C0,Di,rfl,CN,ay (aa (.inr wi) (aa (.inr yg) (.inr o6))) CV⟩,⟨⟨CZ,Dh,rfl,CM,ay (aa (.inr yg) (.inr o6)) CU⟩,⟨⟨Ky,KZ,rfl,Km,ay (.inr o6) Ks⟩,trivial⟩⟩⟩ (by decide) (Hn k)).mono ?_)⟩;rintro r H' m10 sb ⟨l10,rfl,rfl⟩;have fm:ae m9 m10:=aa (aa (.inr CL) (aa (.inr wi) (aa (.inr yg) (.inr o6)))) l10;have Bp:=aa L9 fm;have Bq:=aa K9 fm;simp only[go_sem,Mc.cs,Bq,and_self];refine⟨fun ng=> ?_,fun ng=> ?_⟩
     ·have hE:eQ ⟨x.fl,x.res,x.name,params,x.hb,body⟩=List.flatten [List.flatten [cR x.fl,[kw [110,101,119]],(sg [40]::(bH true ((params.map cS).take k)++[sg [41]]))],bl (be body)]:=by
       simp only[eQ,bh,ah xq,ng,if_true,e0];simp
      have hz:(List.flatten [List.flatten [cR x.fl,[kw [110,101,119]],(sg [40]::(bH true ((params.map cS).take k)++[sg [41]]))],bl (be body)]).length<=cap:=by rw[<- hE];simp only[cap];omega
      refine ab ((jE ng m10 Bp).mono ?_);rintro r H' m11 AZ ⟨vH,rfl,rfl⟩;have kN:ae m10 m11:=vH;have xF:=aa Bp kN;simp only[go_sem,Mc.cs,kN,and_self];clear jE;intro Kx KY af9 Kj Kl Kr;intro Kw KX af8 CK Kk Kq;refine⟨by kernel_rfl,fun a12 c12 A6 tU mW LU=>bo ((fX [List.flatten [cR x.fl,[kw [110,101,119]],(sg [40]::(bH true ((params.map cS).take k)++[sg [41]]))],bl (be body)] a12 2 c12 _ A6 rfl LU ⟨⟨Kx,KY,rfl,Kl,ay (aa (.inr CK) (.inr tU)) Kr⟩,⟨⟨Kw,KX,rfl,Kk,ay (.inr tU) Kq⟩,trivial⟩⟩ (by decide) hz).mono ?_)⟩;rintro r H' m12 Lo ⟨yQ,rfl,rfl⟩;have pg:ae m11 m12:=aa (aa (.inr Kj) (aa (.inr CK) (.inr tU))) yQ;have Bo:=aa xF pg;have uB:=aa kN pg;simp only[go_sem,Mc.cs,uB,and_self];exact⟨Bo,_,_,rfl,by rw[hE]⟩
     ·clear jE;have hE:eQ ⟨x.fl,x.res,x.name,params,x.hb,body⟩=List.flatten [cR x.fl,[kw [110,101,119]],(sg [40]::(bH true ((params.map cS).take k)++[sg [41]]))]++[sg [59]]:=by
       simp only[eQ,bh,ah xq,ng,e0];simp
      have hj0:=Hn k;have Mw:(List.flatten [cR x.fl,[kw [110,101,119]],(sg [40]::(bH true ((params.map cS).take k)++[sg [41]]))]++[sg [59]]).length<=100000000:=by rw[<- hE];exact hb
      rw[aI] at Mw;have hj4:[sg [59]].length=1:=rfl;rw[hE,aI,nh];exact⟨⟨by omega,by simp only[maxLen];omega⟩,Bp,_,_,rfl,rfl⟩
    ·have xq:¬x.name=eK:=hn;refine⟨fun ng=> ?_,fun ng=> ?_⟩
     ·have hE:eQ ⟨x.fl,x.res,x.name,params,x.hb,body⟩=List.flatten [List.flatten [cR x.fl,b5 x.res.dim x.res.base x.res.name,[aM x.name],(sg [40]::(bH true ((params.map cS).take k)++[sg [41]]))],bl (be body)]:=by
       simp only[eQ,bh,af xq,ng,if_true,e0];simp
      have hz:(List.flatten [List.flatten [cR x.fl,b5 x.res.dim x.res.base x.res.name,[aM x.name],(sg [40]::(bH true ((params.map cS).take k)++[sg [41]]))],bl (be body)]).length<=cap:=by rw[<- hE];simp only[cap];omega
      refine ab ((jE ng m6 L6).mono ?_);rintro r H' m7 eW ⟨l7,rfl,rfl⟩;have q7:ae m6 m7:=l7;have L7:=aa L6 q7;simp only[go_sem,Mc.cs,q7,and_self];clear jE;intro Li LB aiX KE KK Le;intro Lh LA aiW C8 KJ Ld;refine⟨by kernel_rfl,fun a8 c8 w8 qS Hr r8=>bo ((fX [List.flatten [cR x.fl,b5 x.res.dim x.res.base x.res.name,[aM x.name],(sg [40]::(bH true ((params.map cS).take k)++[sg [41]]))],bl (be body)] a8 2 c8 _ w8 rfl r8 ⟨⟨Li,LB,rfl,KK,ay (aa (.inr C8) (.inr qS)) Le⟩,⟨⟨Lh,LA,rfl,KJ,ay (.inr qS) Ld⟩,trivial⟩⟩ (by decide) hz).mono ?_)⟩;rintro r H' m8 iE ⟨l8,rfl,rfl⟩;have q8:ae m7 m8:=aa (aa (.inr KE) (aa (.inr C8) (.inr qS))) l8;have L8:=aa L7 q8;have K8:=aa q7 q8;simp only[go_sem,Mc.cs,K8,and_self];exact⟨L8,_,_,rfl,by rw[hE]⟩
     ·clear jE;have hE:eQ ⟨x.fl,x.res,x.name,params,x.hb,body⟩=List.flatten [cR x.fl,b5 x.res.dim x.res.base x.res.name,[aM x.name],(sg [40]::(bH true ((params.map cS).take k)++[sg [41]]))]++[sg [59]]:=by
       simp only[eQ,bh,af xq,ng,e0];simp
      have hj0:=Ho k;have Mw:(List.flatten [cR x.fl,b5 x.res.dim x.res.base x.res.name,[aM x.name],(sg [40]::(bH true ((params.map cS).take k)++[sg [41]]))]++[sg [59]]).length<=100000000:=by rw[<- hE];exact hb
      rw[aI] at Mw;have hj4:[sg [59]].length=1:=rfl;rw[hE,aI,nh];exact⟨⟨by omega,by simp only[maxLen];omega⟩,L6,_,_,rfl,rfl⟩
theorem lt2 (a:Nat):a<a+1+1:=by omega
theorem lt3 (a:Nat):a<a+1+1+1:=by omega
theorem lt4 (a:Nat):a<a+1+1+1+1:=by omega
theorem lt5 (a:Nat):a<a+1+1+1+1+1:=by omega
theorem lt6 (a:Nat):a<a+1+1+1+1+1+1:=by omega
theorem lt7 (a:Nat):a<a+1+1+1+1+1+1+1:=by omega
theorem lt8 (a:Nat):a<a+1+1+1+1+1+1+1+1:=by omega
theorem lt9 (a:Nat):a<a+1+1+1+1+1+1+1+1+1:=by omega
theorem aky (a:Nat):a<a+1+1+1+1+1+1+1+1+1+1:=by omega
theorem akx (a:Nat):a<a+1+1+1+1+1+1+1+1+1+1+1:=by omega
theorem be1 (a:Nat):(a+1==a)=false:=beq_eq_false_iff_ne.2 (by omega)
theorem eb1 (a:Nat):(a==a+1)=false:=beq_eq_false_iff_ne.2 (by omega)
theorem ne1 (a:Nat):(a+1=a)=False:=eq_false (by omega)
theorem en1 (a:Nat):(a=a+1)=False:=eq_false (by omega)
theorem be2 (a:Nat):(a+1+1==a)=false:=beq_eq_false_iff_ne.2 (by omega)
theorem eb2 (a:Nat):(a==a+1+1)=false:=beq_eq_false_iff_ne.2 (by omega)
theorem ne2 (a:Nat):(a+1+1=a)=False:=eq_false (by omega)
theorem en2 (a:Nat):(a=a+1+1)=False:=eq_false (by omega)
theorem be3 (a:Nat):(a+1+1+1==a)=false:=beq_eq_false_iff_ne.2 (by omega)
theorem eb3 (a:Nat):(a==a+1+1+1)=false:=beq_eq_false_iff_ne.2 (by omega)
theorem ne3 (a:Nat):(a+1+1+1=a)=False:=eq_false (by omega)
theorem en3 (a:Nat):(a=a+1+1+1)=False:=eq_false (by omega)
theorem be4 (a:Nat):(a+1+1+1+1==a)=false:=beq_eq_false_iff_ne.2 (by omega)
theorem eb4 (a:Nat):(a==a+1+1+1+1)=false:=beq_eq_false_iff_ne.2 (by omega)
theorem ne4 (a:Nat):(a+1+1+1+1=a)=False:=eq_false (by omega)
theorem en4 (a:Nat):(a=a+1+1+1+1)=False:=eq_false (by omega)
theorem be5 (a:Nat):(a+1+1+1+1+1==a)=false:=beq_eq_false_iff_ne.2 (by omega)
theorem eb5 (a:Nat):(a==a+1+1+1+1+1)=false:=beq_eq_false_iff_ne.2 (by omega)
theorem ne5 (a:Nat):(a+1+1+1+1+1=a)=False:=eq_false (by omega)
theorem en5 (a:Nat):(a=a+1+1+1+1+1)=False:=eq_false (by omega)
theorem be6 (a:Nat):(a+1+1+1+1+1+1==a)=false:=beq_eq_false_iff_ne.2 (by omega)
theorem eb6 (a:Nat):(a==a+1+1+1+1+1+1)=false:=beq_eq_false_iff_ne.2 (by omega)
theorem ne6 (a:Nat):(a+1+1+1+1+1+1=a)=False:=eq_false (by omega)
theorem en6 (a:Nat):(a=a+1+1+1+1+1+1)=False:=eq_false (by omega)
theorem be7 (a:Nat):(a+1+1+1+1+1+1+1==a)=false:=beq_eq_false_iff_ne.2 (by omega)
theorem eb7 (a:Nat):(a==a+1+1+1+1+1+1+1)=false:=beq_eq_false_iff_ne.2 (by omega)
theorem ne7 (a:Nat):(a+1+1+1+1+1+1+1=a)=False:=eq_false (by omega)
theorem en7 (a:Nat):(a=a+1+1+1+1+1+1+1)=False:=eq_false (by omega)
theorem be8 (a:Nat):(a+1+1+1+1+1+1+1+1==a)=false:=beq_eq_false_iff_ne.2 (by omega)
theorem eb8 (a:Nat):(a==a+1+1+1+1+1+1+1+1)=false:=beq_eq_false_iff_ne.2 (by omega)
theorem ne8 (a:Nat):(a+1+1+1+1+1+1+1+1=a)=False:=eq_false (by omega)
theorem en8 (a:Nat):(a=a+1+1+1+1+1+1+1+1)=False:=eq_false (by omega)
theorem be9 (a:Nat):(a+1+1+1+1+1+1+1+1+1==a)=false:=beq_eq_false_iff_ne.2 (by omega)
theorem eb9 (a:Nat):(a==a+1+1+1+1+1+1+1+1+1)=false:=beq_eq_false_iff_ne.2 (by omega)
theorem ne9 (a:Nat):(a+1+1+1+1+1+1+1+1+1=a)=False:=eq_false (by omega)
theorem en9 (a:Nat):(a=a+1+1+1+1+1+1+1+1+1)=False:=eq_false (by omega)
theorem alF (a:Nat):(a+1+1+1+1+1+1+1+1+1+1==a)=false:=beq_eq_false_iff_ne.2 (by omega)
theorem ak6 (a:Nat):(a==a+1+1+1+1+1+1+1+1+1+1)=false:=beq_eq_false_iff_ne.2 (by omega)
theorem akw (a:Nat):(a+1+1+1+1+1+1+1+1+1+1=a)=False:=eq_false (by omega)
theorem ak2 (a:Nat):(a=a+1+1+1+1+1+1+1+1+1+1)=False:=eq_false (by omega)
theorem alE (a:Nat):(a+1+1+1+1+1+1+1+1+1+1+1==a)=false:=beq_eq_false_iff_ne.2 (by omega)
theorem ak5 (a:Nat):(a==a+1+1+1+1+1+1+1+1+1+1+1)=false:=beq_eq_false_iff_ne.2 (by omega)
theorem akv (a:Nat):(a+1+1+1+1+1+1+1+1+1+1+1=a)=False:=eq_false (by omega)
theorem ak1 (a:Nat):(a=a+1+1+1+1+1+1+1+1+1+1+1)=False:=eq_false (by omega)
theorem bz (n:Nat):(n+1==0)=false:=beq_eq_false_iff_ne.2 (by omega)
theorem zb (n:Nat):(0==n+1)=false:=beq_eq_false_iff_ne.2 (by omega)
theorem ze8 (e:Nat):(0=8+e)=False:=eq_false (by omega)
theorem ez8 (e:Nat):(8+e=0)=False:=eq_false (by omega)
theorem bz8 (e:Nat):(8+e==0)=false:=beq_eq_false_iff_ne.2 (by omega)
theorem zb8 (e:Nat):(0==8+e)=false:=beq_eq_false_iff_ne.2 (by omega)
theorem aiK (e:Nat):(0=16+e)=False:=eq_false (by omega)
theorem ak0 (e:Nat):(16+e=0)=False:=eq_false (by omega)
theorem als (e:Nat):(16+e==0)=false:=beq_eq_false_iff_ne.2 (by omega)
theorem aiL (e:Nat):(0==16+e)=false:=beq_eq_false_iff_ne.2 (by omega)
attribute [go_sem] Nat.add_zero Nat.zero_lt_succ Nat.lt_add_one bz zb lt2 lt3 lt4 lt5 lt6 lt7 lt8 lt9 aky akx be1 eb1 ne1 en1 be2 eb2 ne2 en2 be3 eb3 ne3 en3 be4 eb4 ne4 en4 be5 eb5 ne5 en5 be6 eb6 ne6 en6 be7 eb7 ne7 en7 be8 eb8 ne8 en8 be9 eb9 ne9 en9 alF ak6 akw ak2 alE ak5 akv ak1 bz8 zb8 ze8 ez8 als aiL aiK ak0
def rP (f:Fc):List Tk:=List.flatten [cR f.fl,b5 f.ty.dim f.ty.base f.ty.name,[aM f.name,sg [59]]]
def tG (d:Cd):List Tk:=
 if hasB d.fl 512=true then List.flatten [cR (bits .and .i64 d.fl 1),[kw [105,110,116,101,114,102,97,99,101],aM d.name],gM [101,120,116,101,110,100,115] d.ifs,[sg [123]]]
 else List.flatten [cR (bits .and .i64 d.fl 1041),[kw [99,108,97,115,115],aM d.name,kw [101,120,116,101,110,100,115],aM d.super],gM [105,109,112,108,101,109,101,110,116,115] d.ifs,[sg [123]]]
set_option maxHeartbeats 8000000 in
theorem XR (d:Cd) (cs:List Value) (m:Mem) (h:jL m d cs) (Dx:∀f∈d.fields,f.ty.dim<=1000)
  (hB:0<d.init.length->∀a n c xs m',ae m m' ->n=d.init.length->aX m' a n 23 xs->bS m' d.init xs->bV 102 [.v (.slice a n c)] m' (bl (be d.init)))
  (hM:∀e∈d.methods,∀cs m',ae m m' ->gJ m' e cs->bV 103 [.v (.agg ⟨cs⟩)] m' (eQ e))
  (Mx:tG d=pS d++[sg [123]]) (hb:(jy d).length<=100000000):bV 40 [.v (.agg ⟨cs⟩)] m (jy d):=by
 obtain⟨fl,name,super,ifs,fields,methods,init⟩:=d;obtain⟨x,⟨rfl,rfl,rfl,rfl⟩,⟨dv,hic,gC,hfc,hml,hmc,fG,hsc⟩,au,r1,r2,xs,ys,r3,s3,r4,s4⟩:=h;simp only at dv gC hml fG r1 r2 r3 s3 r4 s4 Dx hB hM;have bi:x.il<=aq:=by rw[dv];exact au.il
 have bf:x.fn<=aq:=by rw[gC];exact au.fn
 have bm:x.ml<=aq:=by rw[hml];exact au.ml
 have jE:=fun(hq:0<init.length) m' (hle:ae m m')=>hB hq x.sa x.sl x.sc ys m' hle fG (ay hle r4) (dw hle s4)
 have y1:∀m',ae m m' ->∀i (hk:i<fields.length),(Rd m' (cO x.fa (i * 5)) (fields[i]).cs/\x.fa≠none)/\(fields[i]).ty.dim<=1000:=fun m' hle i hk=>by
  have:=dH (ay hle r2) (by omega:i<x.fn);rw[oJ (f:=Fc.cs) (sz:=5) (fun _=>rfl) hk] at this;exact⟨this,Dx _ (List.getElem_mem hk)⟩
 have y2:∀m',ae m m' ->∀i (hk:i<methods.length),∃X:Mc,(Rd m' (cO x.ma (i * 8)) X.cs/\x.ma≠none)/\bV 103 [.v (.agg ⟨X.cs⟩)] m' (eQ methods[i]):=fun m' hle i hk=>by
  have aT:=qp hle (nZ s3 hk);have bW:=dH (ay hle r3) (by omega:i<x.ml);obtain⟨X,e1⟩:=B7 aT;rw[e1] at bW aT;exact⟨X,bW,hM _ (List.getElem_mem hk) _ m' hle aT⟩
 have hN:=fun(w:List UInt8) m' (hle:ae m m')=>Xa w ifs x.ia x.il x.ic m' dv (ay hle r1) bi
 clear hB hM s3 s4;have vL:∀f:Fc,rP f=pL f:=fun f=>by simp [rP,pL]
 have nJ:jy ⟨x.fl,x.name,x.super,ifs,fields,methods,init⟩=tG ⟨x.fl,x.name,x.super,ifs,fields,methods,init⟩++(fields.map rP).flatten++(if 0<init.length then[kw [115,116,97,116,105,99]]++bl (be init) else[])++(methods.map eQ).flatten++[sg [125]]:=by
  rw[Mx,funext vL];rfl
 have dp:(tG ⟨x.fl,x.name,x.super,ifs,fields,methods,init⟩).length+((fields.map rP).flatten).length+(if 0<init.length then[kw [115,116,97,116,105,99]]++bl (be init) else[]).length+((methods.map eQ).flatten).length+1<=100000000:=by
  have h9:=hb;rw[nJ,aI,aI,aI,aI] at h9;exact h9
 have hD:¬bits .and .i64 x.fl 512=0->List.flatten [cR (bits .and .i64 x.fl 1),[kw [105,110,116,101,114,102,97,99,101],aM x.name],gM [101,120,116,101,110,100,115] ifs,[sg [123]]]=tG ⟨x.fl,x.name,x.super,ifs,fields,methods,init⟩:=fun h5=>by
  have:hasB x.fl 512=true:=by rw[hasB,dr h5];rfl
  rw[tG,ah this]
 refine Exists.elim (⟨_,rfl⟩:∃HC,List.flatten [cR (bits .and .i64 x.fl 1041),[kw [99,108,97,115,115],aM x.name,kw [101,120,116,101,110,100,115],aM x.super],gM [105,109,112,108,101,109,101,110,116,115] ifs,[sg [123]]]=HC) fun HC Ea=> ?_
 have hC:bits .and .i64 x.fl 512=0->HC=tG ⟨x.fl,x.name,x.super,ifs,fields,methods,init⟩:=fun h5=>by
  have:¬hasB x.fl 512=true:=by rw[hasB,eH h5];decide
  rw[tG,af this,<- Ea]
 have uw:=Co [105,109,112,108,101,109,101,110,116,115] ifs;have xD:=Co [101,120,116,101,110,100,115] ifs;have Ho:HC.length<=cap:=by
  have z1:=xP (bits .and .i64 x.fl 1041);rw[<- Ea];simp only[List.flatten_cons,List.flatten_nil,aI,aL,bg,cap];simp only[aq] at bi;omega
 refine Exists.elim (⟨_,rfl⟩:∃T,T=tG ⟨x.fl,x.name,x.super,ifs,fields,methods,init⟩) fun T hT=>Exists.elim (⟨_,rfl⟩:∃FT:Nat->List Tk,FT=fun k=>((fields.take k).map rP).flatten) fun FT HA=>Exists.elim (⟨_,rfl⟩:∃MT:Nat->List Tk,MT=fun k=>((methods.take k).map eQ).flatten) fun MT Hv=> ?_
 rw[<- hT] at hC hD dp nJ;clear hT;have Hn:T.length<=cap:=by simp only[cap];omega
 have HB:FT 0=[]:=by rw[HA];rfl
 have xC:MT 0=[]:=by rw[Hv];rfl
 have VZ:∀k (hk:k<fields.length),FT (k+1)=FT k++rP fields[k]/\(FT (k+1)).length<=((fields.map rP).flatten).length:=fun k hk=>by
  rw[HA];exact⟨EL hk,Ag (f:=rP) fields (k+1)⟩
 have Hx:∀k (hk:k<methods.length),MT (k+1)=MT k++eQ methods[k]/\(MT (k+1)).length<=((methods.map eQ).flatten).length:=fun k hk=>by
  rw[Hv];exact⟨EL hk,Ag (f:=eQ) methods (k+1)⟩
 have VY:∀k,fields.length<=k->FT k=(fields.map rP).flatten:=fun k hk=>by rw[HA];simp only;rw[fj hk]
 have Hw:∀k,methods.length<=k->MT k=(methods.map eQ).flatten:=fun k hk=>by rw[Hv];simp only;rw[fj hk]
 clear HA Hv;refine eC ?_;refine enter jh cE Tryz.func40 rfl rfl (by kernel_rfl) rfl ?_ ?_
 ·simp only[go_sem,Cc.cs]
 ·simp only[go_sem,Cc.cs];refine bO (.hoist 0 (.hoist 1 (.hoist 2 (.hoist 5 (.hoist 6 (.hoist 9 (.hoist 10 (.hoist 14 (.hoist 15 (.alt 3 [15,14,10,9,6,5] (.alt 4 [15,14,10,9,6,5] (.alt 7 [15,14,10,9] (.alt 8 [15,14,10,9] (.alt 11 [15,14] (.alt 12 [15,14] (.alt 13 [15,14] (.alt 16 [] (.alt 17 [] (.alt 18 [] (.alt 19 [] (.alt 20 [] (.alt 21 [] (.hoist 22 .done) .stop) .stop) .stop) .stop) .stop) .stop) .stop) .stop) .stop) .stop) .stop) .stop) .stop)))))))))) cE (by kernel_rfl) (by kernel_rfl) ?_;simp only[go_sem,Cc.cs];refine ab ((zF (bits .and .i64 x.fl 1041) m).mono ?_);rintro r H' m1 aN ⟨l1,rfl,rfl⟩;have q1:ae m m1:=l1;have L1:=aa (.inl rfl:ae m m) q1;simp only[go_sem,Cc.cs,q1,and_self];refine ab ((cV _ _ m1).mono ?_);rintro r H' m2 aH ⟨rfl,rfl,_⟩;have q2:ae m1 m2:= .inr aH;have L2:=aa L1 q2;have K2:=aa q1 q2;simp only[go_sem,Cc.cs,K2,and_self];refine ab ((hN _ m2 L2).mono ?_);rintro r H' m3 bI ⟨l3,rfl,rfl⟩;have q3:ae m2 m3:=l3;have L3:=aa L2 q3;have K3:=aa K2 q3;simp only[go_sem,Cc.cs,K3,and_self];refine ab ((cV _ _ m3).mono ?_);rintro r H' m4 cQ ⟨rfl,rfl,_⟩;have q4:ae m3 m4:= .inr cQ;have L4:=aa L3 q4;have K4:=aa K3 q4;simp only[go_sem,Cc.cs,K4,and_self];intro akm alr aph ahg ahw ajy;intro akl alq apg Un ahv ajw;intro akk alp apf KG ahu ajv;intro akj alo ape Gr aht aju;refine⟨by kernel_rfl,fun a5 c5 w5 sO VR r5=>bo ((s9 HC [cR (bits .and .i64 x.fl 1041),[kw [99,108,97,115,115],aM x.name,kw [101,120,116,101,110,100,115],aM x.super],gM [105,109,112,108,101,109,101,110,116,115] ifs,[sg [123]]] Ea a5 4 c5 _ w5 rfl r5 ⟨⟨akm,alr,rfl,ahw,ay (aa (.inr Un) (aa (.inr KG) (aa (.inr Gr) (.inr sO)))) ajy⟩,⟨⟨akl,alq,rfl,ahv,ay (aa (.inr KG) (aa (.inr Gr) (.inr sO))) ajw⟩,⟨⟨akk,alp,rfl,ahu,ay (aa (.inr Gr) (.inr sO)) ajv⟩,⟨⟨akj,alo,rfl,aht,ay (.inr sO) aju⟩,trivial⟩⟩⟩⟩ (by decide) Ho).mono ?_)⟩
  rintro r H' m5 cK ⟨l5,rfl,rfl⟩;have q5:ae m4 m5:=aa (aa (.inr ahg) (aa (.inr Un) (aa (.inr KG) (aa (.inr Gr) (.inr sO))))) l5;have L5:=aa L4 q5;have K5:=aa K4 q5;simp only[go_sem,Cc.cs,K5,and_self];refine⟨fun h5=> ?_,fun h5=> ?_⟩
  ·clear hC Ea;refine bO (.hoist 0 (.hoist 1 (.hoist 2 (.hoist 5 (.hoist 6 (.hoist 10 (.hoist 11 (.alt 3 [11,10,6,5] (.alt 4 [11,10,6,5] (.alt 7 [11,10] (.alt 8 [11,10] (.alt 9 [11,10] (.alt 12 [] (.alt 13 [] (.alt 14 [] (.alt 15 [] (.alt 16 [] (.alt 17 [] (.hoist 18 .done) .stop) .stop) .stop) .stop) .stop) .stop) .stop) .stop) .stop) .stop) .stop)))))))) cE (by kernel_rfl) (by kernel_rfl) ?_;simp only[go_sem,Cc.cs];refine ab ((zF (bits .and .i64 x.fl 1) m5).mono ?_);rintro r H' m6 ej ⟨l6,rfl,rfl⟩;have q6:ae m5 m6:=l6;have L6:=aa L5 q6;simp only[go_sem,Cc.cs,q6,and_self];refine ab ((cV _ _ m6).mono ?_);rintro r H' m7 eW ⟨rfl,rfl,_⟩;have q7:ae m6 m7:= .inr eW;have L7:=aa L6 q7;have K7:=aa q6 q7;simp only[go_sem,Cc.cs,K7,and_self];refine ab ((hN _ m7 L7).mono ?_);rintro r H' m8 iE ⟨l8,rfl,rfl⟩;have q8:ae m7 m8:=l8;have L8:=aa L7 q8;have K8:=aa K7 q8;simp only[go_sem,Cc.cs,K8,and_self];refine ab ((cV _ _ m8).mono ?_);rintro r H' m9 kR ⟨rfl,rfl,_⟩;have q9:ae m8 m9:= .inr kR;have L9:=aa L8 q9;have K9:=aa K8 q9;simp only[go_sem,Cc.cs,K9,and_self];intro C0 Di T2 CL CN CV;intro CZ Dh T1 wi CM CU;intro Ky KZ aga yg Km Ks;intro agZ aij aoX F1 afn agu;refine⟨by kernel_rfl,fun Eo mw DD o6 lX DG=>bo ((s9 T [cR (bits .and .i64 x.fl 1),[kw [105,110,116,101,114,102,97,99,101],aM x.name],gM [101,120,116,101,110,100,115] ifs,[sg [123]]] (hD h5) Eo 4 mw _ DD rfl DG ⟨⟨C0,Di,rfl,CN,ay (aa (.inr wi) (aa (.inr yg) (aa (.inr F1) (.inr o6)))) CV⟩,⟨⟨CZ,Dh,rfl,CM,ay (aa (.inr yg) (aa (.inr F1) (.inr o6))) CU⟩,⟨⟨Ky,KZ,rfl,Km,ay (aa (.inr F1) (.inr o6)) Ks⟩,⟨⟨agZ,aij,rfl,afn,ay (.inr o6) agu⟩,trivial⟩⟩⟩⟩ (by decide) Hn).mono ?_)⟩
   rintro r H' m10 sb ⟨l10,rfl,rfl⟩;have fm:ae m9 m10:=aa (aa (.inr CL) (aa (.inr wi) (aa (.inr yg) (aa (.inr F1) (.inr o6))))) l10;have Bp:=aa L9 fm;have Bq:=aa K9 fm;simp only[go_sem,Cc.cs,Bq,and_self];refine ew cE (fun y:Nat×Nat×Mem=>⟨[⟨1,[],.box 0 0⟩,⟨3,[],.vec (16+y.2.1) 0⟩,⟨4,[],.v (.int .i64 y.1)⟩],[],[⟨0,59,x.cs.map .v⟩],[⟨16+y.2.1,0,50,4,(T++FT y.1).length,cw (T++FT y.1)⟩],16+y.2.1+1,y.2.2⟩)
    (fun y=>ae m10 y.2.2/\y.1<=x.fn) (fun y=>x.fn - y.1) (0,0,m10) (by kernel_rfl) (fun _ _=> ?_) (fun y hy=> ?_) (fun _=> ?_) ?_ ?_ ?_
   ·show(17:Nat)<=16+_+1;omega
   ·exact hy.1
   ·simp only[go_sem,Cc.cs,and_self,true_and]
   ·simp only[go_sem,Cc.cs,and_self,true_and];exact⟨rfl,by rw[HB,List.append_nil],by rw[HB,List.append_nil]⟩
   ·exact⟨.inl rfl,aD _⟩
   ·rintro⟨k,e,mm⟩ ⟨h1,h2⟩;simp only at h1 h2;have L0:=aa Bp h1;simp only[go_sem,Cc.cs,and_self,true_and];refine⟨fun aw=> ?_,fun cg=> ?_⟩
    ·have hk:k<fields.length:=by clear y1 y2 jE hN;omega
     have hy:=y1 mm L0 k hk;have hF:=VZ k hk;clear y1 y2 jE hN;refine bO (.hoist 0 (.hoist 1 (.hoist 2 (.hoist 3 (.hoist 4 (.hoist 5 (.hoist 6 (.hoist 8 (.hoist 9 (.hoist 10 (.hoist 11 (.hoist 12 (.hoist 13 (.hoist 15 (.hoist 16 (.hoist 17 (.hoist 18 (.hoist 19 (.hoist 20 (.alt 7 [20,19,18,17,16,15,13,12,11,10,9,8,0] (.alt 14 [20,19,18,17,16,15,0] (.alt 21 [0] (.alt 22 [0] (.alt 23 [0] (.alt 24 [0] (.alt 25 [] (.alt 26 [] (.hoist 27 .done) .stop) .stop) .stop) .stop) .stop) .stop) .stop) .stop)))))))))))))))))))) cE (by kernel_rfl) (by kernel_rfl) ?_;simp only[go_sem,Cc.cs,true_and];refine⟨⟨by omega,aw,hy.1.2⟩,iZ hy.1.1,.int .i64 fields[k].fl,gU hy.1.1 0 1 (dC rfl),⟨by omega,aw,hy.1.2⟩,iZ hy.1.1,[.int .i64 fields[k].ty.dim,.int .u8 fields[k].ty.base,.string (bs fields[k].ty.name)],⟨gU hy.1.1 1 3 (dC rfl),rfl⟩,⟨by omega,aw,hy.1.2⟩,iZ hy.1.1,.string (bs fields[k].name),gU hy.1.1 4 1 (dC rfl),?_⟩;refine ab ((zF fields[k].fl mm).mono ?_);rintro r H' m11 AZ ⟨vH,rfl,rfl⟩;have kN:ae mm m11:=vH;have xF:=aa L0 kN;simp only[go_sem,Cc.cs,true_and,kN,and_self];refine ab ((tc fields[k].ty.dim fields[k].ty.base fields[k].ty.name m11 hy.2).mono ?_);rintro r H' m12 Lo ⟨yQ,rfl,rfl⟩;have pg:ae m11 m12:=yQ;have Bo:=aa xF pg;have uB:=aa kN pg;simp only[go_sem,Cc.cs,true_and,uB,and_self];refine ab ((cV _ _ m12).mono ?_);rintro r H' m13 UL ⟨rfl,rfl,_⟩;have sG:ae m12 m13:= .inr UL;have M3:=aa Bo sG;have HK:=aa uB sG;simp only[go_sem,Cc.cs,true_and,HK,and_self];have MF:List.flatten [T++FT k,cR fields[k].fl,b5 fields[k].ty.dim fields[k].ty.base fields[k].ty.name,[aM fields[k].name,sg [59]]]=T++FT (k+1):=by rw[hF.1];simp [rP]
     intro agV aie aoT afb afj agp;intro agU aid aoS TH afi ago;intro agT aic aoR Kh afh agn;intro agS aib aoQ F0 afg agm;refine⟨by kernel_rfl,fun a14 pv w14 Ds lq r14=>bo ((s9 (T++FT (k+1)) [T++FT k,cR fields[k].fl,b5 fields[k].ty.dim fields[k].ty.base fields[k].ty.name,[aM fields[k].name,sg [59]]] MF a14 4 pv _ w14 rfl r14 ⟨⟨agV,aie,rfl,afj,ay (aa (.inr TH) (aa (.inr Kh) (aa (.inr F0) (.inr Ds)))) agp⟩,⟨⟨agU,aid,rfl,afi,ay (aa (.inr Kh) (aa (.inr F0) (.inr Ds))) ago⟩,⟨⟨agT,aic,rfl,afh,ay (aa (.inr F0) (.inr Ds)) agn⟩,⟨⟨agS,aib,rfl,afg,ay (.inr Ds) agm⟩,trivial⟩⟩⟩⟩ (by decide) (by rw[aI];simp only[cap];omega)).mono ?_)⟩;rintro r H' m14 akP ⟨Me,rfl,rfl⟩;have qQ:ae m13 m14:=aa (aa (.inr afb) (aa (.inr TH) (aa (.inr Kh) (aa (.inr F0) (.inr Ds))))) Me;have Wp:=aa M3 qQ;have Wr:=aa HK qQ;simp only[go_sem,Cc.cs,true_and,Wr,and_self];exact⟨by unfold aF;simp only[aq] at bf;omega,(k+1,e+6,m14),⟨⟨by simp only[Nat.add_assoc],by simp⟩,by simp only;rw[ah (by omega),Nat.add_assoc],.inl rfl⟩,⟨aa h1 Wr,by simp only;omega⟩,by simp only;omega⟩
    ·have Eb:=VY k (by clear y1 y2 jE hN;omega);clear y1 hN;refine⟨fun kQ=> ?_,fun kQ=> ?_⟩
     ·have hs:0<init.length:=by clear y2 jE;omega
      refine bO (.hoist 0 (.hoist 4 (.hoist 5 (.alt 1 [5,4,0] (.alt 2 [5,4,0] (.alt 3 [5,4,0] (.alt 6 [0] (.alt 7 [] (.alt 8 [] (.hoist 9 .done) .stop) .stop) .stop) .stop) .stop) .stop)))) cE (by kernel_rfl) (by kernel_rfl) ?_;simp only[go_sem,Cc.cs,true_and];refine ab ((cV _ _ mm).mono ?_);rintro r H' m11 AZ ⟨rfl,rfl,_⟩;have kN:ae mm m11:= .inr AZ;have xF:=aa L0 kN;simp only[go_sem,Cc.cs,true_and,kN,and_self];refine ab ((jE hs m11 xF).mono ?_);rintro r H' m12 Lo ⟨yQ,rfl,rfl⟩;have pg:ae m11 m12:=yQ;have Bo:=aa xF pg;have uB:=aa kN pg;simp only[go_sem,Cc.cs,true_and,uB,and_self];clear jE;rw[<- Eb,ah hs] at dp nJ;simp only[aI,aL,bg] at dp;intro agY aii aoW afc afm agt;intro agX aih aoV TI afl ags;intro agW aif aoU Ki afk agq;refine⟨by kernel_rfl,fun a13 pw w13 GI yA r13=>bo ((s9 (T++FT k++([kw [115,116,97,116,105,99]]++bl (be init))) [T++FT k,[kw [115,116,97,116,105,99]],bl (be init)] (by simp) a13 3 pw _ w13 rfl r13 ⟨⟨agY,aii,rfl,afm,ay (aa (.inr TI) (aa (.inr Ki) (.inr GI))) agt⟩,⟨⟨agX,aih,rfl,afl,ay (aa (.inr Ki) (.inr GI)) ags⟩,⟨⟨agW,aif,rfl,afk,ay (.inr GI) agq⟩,trivial⟩⟩⟩ (by decide) (by simp only[aI,aL,bg,cap];omega)).mono ?_)⟩;rintro r H' m13 UL ⟨l13,rfl,rfl⟩;have sG:ae m12 m13:=aa (aa (.inr afc) (aa (.inr TI) (aa (.inr Ki) (.inr GI)))) l13;have M3:=aa Bo sG;have HK:=aa uB sG;simp only[go_sem,Cc.cs,true_and,HK,and_self];refine ew cE (fun y:Nat×Nat×Mem=>⟨[⟨1,[],.box 0 0⟩,⟨3,[],.vec (16+y.2.1) 0⟩,⟨5,[],.v (.int .i64 y.1)⟩],[],[⟨0,59,x.cs.map .v⟩],[⟨16+y.2.1,0,50,4,((T++FT k++([kw [115,116,97,116,105,99]]++bl (be init)))++MT y.1).length,cw ((T++FT k++([kw [115,116,97,116,105,99]]++bl (be init)))++MT y.1)⟩],16+y.2.1+1,y.2.2⟩)
       (fun y=>ae m13 y.2.2/\y.1<=x.ml/\e+5<=y.2.1) (fun y=>x.ml - y.1) (0,e+5,m13) (by kernel_rfl) (fun y hy=> ?_) (fun y hy=> ?_) (fun _=> ?_) ?_ ?_ ?_
      ·have:=hy.2.2;show 16+(e+5)+1<=16+y.2.1+1;omega
      ·exact hy.1
      ·simp only[go_sem,Cc.cs,and_self,true_and]
      ·simp only[go_sem,Cc.cs,and_self,true_and];exact⟨⟨by simp only[Nat.add_assoc],rfl⟩,by rw[ah (by omega),xC,List.append_nil,Nat.add_assoc]⟩
      ·exact⟨.inl rfl,aD _,av _⟩
      ·rintro⟨i,e2,mi⟩ ⟨g1,g2,g3⟩;simp only at g1 g2 g3;have LM:=aa M3 g1;simp only[go_sem,Cc.cs,and_self,true_and];refine⟨fun vv=> ?_,fun GP=> ?_⟩
       ·have hi:i<methods.length:=by clear y2;omega
        have zj:=Hx i hi;refine Exists.elim (y2 mi LM i hi) fun X hX=>⟨⟨by clear y2 hX;omega,vv,hX.1.2⟩,X.cs,⟨hX.1.1,rfl⟩,?_⟩
        have ha:=hX.2;clear y2 hX;simp only[go_sem,Mc.cs,Cc.cs,true_and];refine ab ((aP (ha) (fun V=>rfl)).mono ?_);rintro r H' m14 akP ⟨Me,rfl,rfl⟩;have qQ:ae mi m14:=Me;have Wp:=aa LM qQ;simp only[go_sem,Cc.cs,true_and,qQ,and_self];clear ha;have zg:List.flatten [(T++FT k++([kw [115,116,97,116,105,99]]++bl (be init)))++MT i,eQ methods[i]]=(T++FT k++([kw [115,116,97,116,105,99]]++bl (be init)))++MT (i+1):=by rw[zj.1];simp
        intro agR aia aoP afa aff agl;intro agQ ah9 aoO TF afe agk;refine⟨by kernel_rfl,fun M2 nP w15 Ll UU r15=>bo ((s9 ((T++FT k++([kw [115,116,97,116,105,99]]++bl (be init)))++MT (i+1)) [(T++FT k++([kw [115,116,97,116,105,99]]++bl (be init)))++MT i,eQ methods[i]] zg M2 2 nP _ w15 rfl r15 ⟨⟨agR,aia,rfl,aff,ay (aa (.inr TF) (.inr Ll)) agl⟩,⟨⟨agQ,ah9,rfl,afe,ay (.inr Ll) agk⟩,trivial⟩⟩ (by decide) (by simp only[aI,aL,bg,cap];omega)).mono ?_)⟩;rintro r H' m15 apk ⟨l15,rfl,rfl⟩;have mZ:ae m14 m15:=aa (aa (.inr afa) (aa (.inr TF) (.inr Ll))) l15;have L15:=aa Wp mZ;have Wq:=aa qQ mZ;simp only[go_sem,Cc.cs,true_and,Wq,and_self];exact⟨by unfold aF;simp only[aq] at bm;omega,(i+1,e2+3,m15),⟨⟨by simp only[Nat.add_assoc],by simp⟩,by simp only;rw[ah (by omega),Nat.add_assoc],.inl rfl⟩,⟨aa g1 Wq,by simp only;omega,by simp only;omega⟩,by simp only;omega⟩
       ·rw[<- Hw i (by clear y2;omega)] at dp nJ;clear y2;have cu:jy ⟨x.fl,x.name,x.super,ifs,fields,methods,init⟩=((T++FT k++([kw [115,116,97,116,105,99]]++bl (be init)))++MT i)++[sg [125]]:=by rw[nJ]
        rw[cu,aI (bs:=[sg [125]]),nh _ [sg [125]]];exact⟨⟨by simp only[aI,aL,bg];omega,by simp only[aI,aL,bg,maxLen];omega⟩,LM,_,_,rfl,rfl⟩
     ·have hs:¬0<init.length:=by clear y2 jE;omega
      clear jE;rw[<- Eb,af hs] at dp nJ;simp only[aI,bg,List.append_nil] at dp nJ;refine ew cE (fun y:Nat×Nat×Mem=>⟨[⟨1,[],.box 0 0⟩,⟨3,[],.vec (16+y.2.1) 0⟩,⟨5,[],.v (.int .i64 y.1)⟩],[],[⟨0,59,x.cs.map .v⟩],[⟨16+y.2.1,0,50,4,((T++FT k)++MT y.1).length,cw ((T++FT k)++MT y.1)⟩],16+y.2.1+1,y.2.2⟩)
       (fun y=>ae mm y.2.2/\y.1<=x.ml/\e<=y.2.1) (fun y=>x.ml - y.1) (0,e,mm) (by kernel_rfl) (fun y hy=> ?_) (fun y hy=> ?_) (fun _=> ?_) ?_ ?_ ?_
      ·have:=hy.2.2;show 16+(e)+1<=16+y.2.1+1;omega
      ·exact hy.1
      ·simp only[go_sem,Cc.cs,and_self,true_and]
      ·simp only[go_sem,Cc.cs,and_self,true_and];exact⟨rfl,by rw[xC,List.append_nil],by rw[xC,List.append_nil]⟩
      ·exact⟨.inl rfl,aD _,av _⟩
      ·rintro⟨i,e2,mi⟩ ⟨g1,g2,g3⟩;simp only at g1 g2 g3;have LM:=aa L0 g1;simp only[go_sem,Cc.cs,and_self,true_and];refine⟨fun vv=> ?_,fun GP=> ?_⟩
       ·have hi:i<methods.length:=by clear y2;omega
        have zj:=Hx i hi;refine Exists.elim (y2 mi LM i hi) fun X hX=>⟨⟨by clear y2 hX;omega,vv,hX.1.2⟩,X.cs,⟨hX.1.1,rfl⟩,?_⟩
        have ha:=hX.2;clear y2 hX;simp only[go_sem,Mc.cs,Cc.cs,true_and];refine ab ((aP (ha) (fun V=>rfl)).mono ?_);rintro r H' m11 AZ ⟨vH,rfl,rfl⟩;have kN:ae mi m11:=vH;have xF:=aa LM kN;simp only[go_sem,Cc.cs,true_and,kN,and_self];clear ha;have zg:List.flatten [(T++FT k)++MT i,eQ methods[i]]=(T++FT k)++MT (i+1):=by rw[zj.1];simp
        intro Kx KY af9 Kj Kl Kr;intro Kw KX af8 CK Kk Kq;refine⟨by kernel_rfl,fun a12 c12 A6 tU mW LU=>bo ((s9 ((T++FT k)++MT (i+1)) [(T++FT k)++MT i,eQ methods[i]] zg a12 2 c12 _ A6 rfl LU ⟨⟨Kx,KY,rfl,Kl,ay (aa (.inr CK) (.inr tU)) Kr⟩,⟨⟨Kw,KX,rfl,Kk,ay (.inr tU) Kq⟩,trivial⟩⟩ (by decide) (by simp only[aI,aL,bg,cap];omega)).mono ?_)⟩;rintro r H' m12 Lo ⟨yQ,rfl,rfl⟩;have pg:ae m11 m12:=aa (aa (.inr Kj) (aa (.inr CK) (.inr tU))) yQ;have Bo:=aa xF pg;have uB:=aa kN pg;simp only[go_sem,Cc.cs,true_and,uB,and_self];exact⟨by unfold aF;simp only[aq] at bm;omega,(i+1,e2+3,m12),⟨⟨by simp only[Nat.add_assoc],by simp⟩,by simp only;rw[ah (by omega),Nat.add_assoc],.inl rfl⟩,⟨aa g1 uB,by simp only;omega,by simp only;omega⟩,by simp only;omega⟩
       ·rw[<- Hw i (by clear y2;omega)] at dp nJ;clear y2;have cu:jy ⟨x.fl,x.name,x.super,ifs,fields,methods,init⟩=((T++FT k)++MT i)++[sg [125]]:=by rw[nJ]
        rw[cu,aI (bs:=[sg [125]]),nh _ [sg [125]]];exact⟨⟨by simp only[aI,aL,bg];omega,by simp only[aI,aL,bg,maxLen];omega⟩,LM,_,_,rfl,rfl⟩
  ·have hT0:=(hC h5).symm;subst hT0;clear hC Ea hD;refine ew cE (fun y:Nat×Nat×Mem=>⟨[⟨1,[],.box 0 0⟩,⟨3,[],.vec (8+y.2.1) 0⟩,⟨4,[],.v (.int .i64 y.1)⟩],[],[⟨0,59,x.cs.map .v⟩],[⟨8+y.2.1,0,50,4,(T++FT y.1).length,cw (T++FT y.1)⟩],8+y.2.1+1,y.2.2⟩)
    (fun y=>ae m5 y.2.2/\y.1<=x.fn) (fun y=>x.fn - y.1) (0,0,m5) (by kernel_rfl) (fun _ _=> ?_) (fun y hy=> ?_) (fun _=> ?_) ?_ ?_ ?_
   ·show(9:Nat)<=8+_+1;omega
   ·exact hy.1
   ·simp only[go_sem,Cc.cs,and_self,true_and]
   ·simp only[go_sem,Cc.cs,and_self,true_and];exact⟨rfl,by rw[HB,List.append_nil],by rw[HB,List.append_nil]⟩
   ·exact⟨.inl rfl,aD _⟩
   ·rintro⟨k,e,mm⟩ ⟨h1,h2⟩;simp only at h1 h2;have L0:=aa L5 h1;simp only[go_sem,Cc.cs,and_self,true_and];refine⟨fun aw=> ?_,fun cg=> ?_⟩
    ·have hk:k<fields.length:=by clear y1 y2 jE hN;omega
     have hy:=y1 mm L0 k hk;have hF:=VZ k hk;clear y1 y2 jE hN;refine bO (.hoist 0 (.hoist 1 (.hoist 2 (.hoist 3 (.hoist 4 (.hoist 5 (.hoist 6 (.hoist 8 (.hoist 9 (.hoist 10 (.hoist 11 (.hoist 12 (.hoist 13 (.hoist 15 (.hoist 16 (.hoist 17 (.hoist 18 (.hoist 19 (.hoist 20 (.alt 7 [20,19,18,17,16,15,13,12,11,10,9,8,0] (.alt 14 [20,19,18,17,16,15,0] (.alt 21 [0] (.alt 22 [0] (.alt 23 [0] (.alt 24 [0] (.alt 25 [] (.alt 26 [] (.hoist 27 .done) .stop) .stop) .stop) .stop) .stop) .stop) .stop) .stop)))))))))))))))))))) cE (by kernel_rfl) (by kernel_rfl) ?_;simp only[go_sem,Cc.cs,true_and];refine⟨⟨by omega,aw,hy.1.2⟩,iZ hy.1.1,.int .i64 fields[k].fl,gU hy.1.1 0 1 (dC rfl),⟨by omega,aw,hy.1.2⟩,iZ hy.1.1,[.int .i64 fields[k].ty.dim,.int .u8 fields[k].ty.base,.string (bs fields[k].ty.name)],⟨gU hy.1.1 1 3 (dC rfl),rfl⟩,⟨by omega,aw,hy.1.2⟩,iZ hy.1.1,.string (bs fields[k].name),gU hy.1.1 4 1 (dC rfl),?_⟩;refine ab ((zF fields[k].fl mm).mono ?_);rintro r H' m6 ej ⟨l6,rfl,rfl⟩;have q6:ae mm m6:=l6;have L6:=aa L0 q6;simp only[go_sem,Cc.cs,true_and,q6,and_self];refine ab ((tc fields[k].ty.dim fields[k].ty.base fields[k].ty.name m6 hy.2).mono ?_);rintro r H' m7 eW ⟨l7,rfl,rfl⟩;have q7:ae m6 m7:=l7;have L7:=aa L6 q7;have K7:=aa q6 q7;simp only[go_sem,Cc.cs,true_and,K7,and_self];refine ab ((cV _ _ m7).mono ?_);rintro r H' m8 iE ⟨rfl,rfl,_⟩;have q8:ae m7 m8:= .inr iE;have L8:=aa L7 q8;have K8:=aa K7 q8;simp only[go_sem,Cc.cs,true_and,K8,and_self];have MF:List.flatten [T++FT k,cR fields[k].fl,b5 fields[k].ty.dim fields[k].ty.base fields[k].ty.name,[aM fields[k].name,sg [59]]]=T++FT (k+1):=by rw[hF.1];simp [rP]
     intro akb alf ao6 ahd ahl ajm;intro aka ale ao5 Uk ahk ajl;intro aj9 ald ao4 KC ahj ajk;intro aj8 alc ao3 Gp ahi ajj;refine⟨by kernel_rfl,fun a9 c9 w9 yU hc9 r9=>bo ((s9 (T++FT (k+1)) [T++FT k,cR fields[k].fl,b5 fields[k].ty.dim fields[k].ty.base fields[k].ty.name,[aM fields[k].name,sg [59]]] MF a9 4 c9 _ w9 rfl r9 ⟨⟨akb,alf,rfl,ahl,ay (aa (.inr Uk) (aa (.inr KC) (aa (.inr Gp) (.inr yU)))) ajm⟩,⟨⟨aka,ale,rfl,ahk,ay (aa (.inr KC) (aa (.inr Gp) (.inr yU))) ajl⟩,⟨⟨aj9,ald,rfl,ahj,ay (aa (.inr Gp) (.inr yU)) ajk⟩,⟨⟨aj8,alc,rfl,ahi,ay (.inr yU) ajj⟩,trivial⟩⟩⟩⟩ (by decide) (by rw[aI];simp only[cap];omega)).mono ?_)⟩;rintro r H' m9 kR ⟨l9,rfl,rfl⟩;have q9:ae m8 m9:=aa (aa (.inr ahd) (aa (.inr Uk) (aa (.inr KC) (aa (.inr Gp) (.inr yU))))) l9;have L9:=aa L8 q9;have K9:=aa K8 q9;simp only[go_sem,Cc.cs,true_and,K9,and_self];exact⟨by unfold aF;simp only[aq] at bf;omega,(k+1,e+6,m9),⟨⟨by simp only[Nat.add_assoc],by simp⟩,by simp only;rw[ah (by omega),Nat.add_assoc],.inl rfl⟩,⟨aa h1 K9,by simp only;omega⟩,by simp only;omega⟩
    ·have Eb:=VY k (by clear y1 y2 jE hN;omega);clear y1 hN;refine⟨fun kQ=> ?_,fun kQ=> ?_⟩
     ·have hs:0<init.length:=by clear y2 jE;omega
      refine bO (.hoist 0 (.hoist 4 (.hoist 5 (.alt 1 [5,4,0] (.alt 2 [5,4,0] (.alt 3 [5,4,0] (.alt 6 [0] (.alt 7 [] (.alt 8 [] (.hoist 9 .done) .stop) .stop) .stop) .stop) .stop) .stop)))) cE (by kernel_rfl) (by kernel_rfl) ?_;simp only[go_sem,Cc.cs,true_and];refine ab ((cV _ _ mm).mono ?_);rintro r H' m6 ej ⟨rfl,rfl,_⟩;have q6:ae mm m6:= .inr ej;have L6:=aa L0 q6;simp only[go_sem,Cc.cs,true_and,q6,and_self];refine ab ((jE hs m6 L6).mono ?_);rintro r H' m7 eW ⟨l7,rfl,rfl⟩;have q7:ae m6 m7:=l7;have L7:=aa L6 q7;have K7:=aa q6 q7;simp only[go_sem,Cc.cs,true_and,K7,and_self];clear jE;rw[<- Eb,ah hs] at dp nJ;simp only[aI,aL,bg] at dp;intro Li LB aiX KE KK Le;intro Lh LA aiW C8 KJ Ld;intro akc alg ao7 KD ahm ajn;refine⟨by kernel_rfl,fun a8 c8 w8 qS Hr r8=>bo ((s9 (T++FT k++([kw [115,116,97,116,105,99]]++bl (be init))) [T++FT k,[kw [115,116,97,116,105,99]],bl (be init)] (by simp) a8 3 c8 _ w8 rfl r8 ⟨⟨Li,LB,rfl,KK,ay (aa (.inr C8) (aa (.inr KD) (.inr qS))) Le⟩,⟨⟨Lh,LA,rfl,KJ,ay (aa (.inr KD) (.inr qS)) Ld⟩,⟨⟨akc,alg,rfl,ahm,ay (.inr qS) ajn⟩,trivial⟩⟩⟩ (by decide) (by simp only[aI,aL,bg,cap];omega)).mono ?_)⟩;rintro r H' m8 iE ⟨l8,rfl,rfl⟩;have q8:ae m7 m8:=aa (aa (.inr KE) (aa (.inr C8) (aa (.inr KD) (.inr qS)))) l8;have L8:=aa L7 q8;have K8:=aa K7 q8;simp only[go_sem,Cc.cs,true_and,K8,and_self];refine ew cE (fun y:Nat×Nat×Mem=>⟨[⟨1,[],.box 0 0⟩,⟨3,[],.vec (8+y.2.1) 0⟩,⟨5,[],.v (.int .i64 y.1)⟩],[],[⟨0,59,x.cs.map .v⟩],[⟨8+y.2.1,0,50,4,((T++FT k++([kw [115,116,97,116,105,99]]++bl (be init)))++MT y.1).length,cw ((T++FT k++([kw [115,116,97,116,105,99]]++bl (be init)))++MT y.1)⟩],8+y.2.1+1,y.2.2⟩)
       (fun y=>ae m8 y.2.2/\y.1<=x.ml/\e+5<=y.2.1) (fun y=>x.ml - y.1) (0,e+5,m8) (by kernel_rfl) (fun y hy=> ?_) (fun y hy=> ?_) (fun _=> ?_) ?_ ?_ ?_
      ·have:=hy.2.2;show 8+(e+5)+1<=8+y.2.1+1;omega
      ·exact hy.1
      ·simp only[go_sem,Cc.cs,and_self,true_and]
      ·simp only[go_sem,Cc.cs,and_self,true_and];exact⟨⟨by simp only[Nat.add_assoc],rfl⟩,by rw[ah (by omega),xC,List.append_nil,Nat.add_assoc]⟩
      ·exact⟨.inl rfl,aD _,av _⟩
      ·rintro⟨i,e2,mi⟩ ⟨g1,g2,g3⟩;simp only at g1 g2 g3;have LM:=aa L8 g1;simp only[go_sem,Cc.cs,and_self,true_and];refine⟨fun vv=> ?_,fun GP=> ?_⟩
       ·have hi:i<methods.length:=by clear y2;omega
        have zj:=Hx i hi;refine Exists.elim (y2 mi LM i hi) fun X hX=>⟨⟨by clear y2 hX;omega,vv,hX.1.2⟩,X.cs,⟨hX.1.1,rfl⟩,?_⟩
        have ha:=hX.2;clear y2 hX;simp only[go_sem,Mc.cs,Cc.cs,true_and];refine ab ((aP (ha) (fun V=>rfl)).mono ?_);rintro r H' m9 kR ⟨l9,rfl,rfl⟩;have q9:ae mi m9:=l9;have L9:=aa LM q9;simp only[go_sem,Cc.cs,true_and,q9,and_self];clear ha;have zg:List.flatten [(T++FT k++([kw [115,116,97,116,105,99]]++bl (be init)))++MT i,eQ methods[i]]=(T++FT k++([kw [115,116,97,116,105,99]]++bl (be init)))++MT (i+1):=by rw[zj.1];simp
        intro C0 Di T2 CL CN CV;intro CZ Dh T1 wi CM CU;refine⟨by kernel_rfl,fun Eo mw DD o6 lX DG=>bo ((s9 ((T++FT k++([kw [115,116,97,116,105,99]]++bl (be init)))++MT (i+1)) [(T++FT k++([kw [115,116,97,116,105,99]]++bl (be init)))++MT i,eQ methods[i]] zg Eo 2 mw _ DD rfl DG ⟨⟨C0,Di,rfl,CN,ay (aa (.inr wi) (.inr o6)) CV⟩,⟨⟨CZ,Dh,rfl,CM,ay (.inr o6) CU⟩,trivial⟩⟩ (by decide) (by simp only[aI,aL,bg,cap];omega)).mono ?_)⟩;rintro r H' m10 sb ⟨l10,rfl,rfl⟩;have fm:ae m9 m10:=aa (aa (.inr CL) (aa (.inr wi) (.inr o6))) l10;have Bp:=aa L9 fm;have Bq:=aa q9 fm;simp only[go_sem,Cc.cs,true_and,Bq,and_self];exact⟨by unfold aF;simp only[aq] at bm;omega,(i+1,e2+3,m10),⟨⟨by simp only[Nat.add_assoc],by simp⟩,by simp only;rw[ah (by omega),Nat.add_assoc],.inl rfl⟩,⟨aa g1 Bq,by simp only;omega,by simp only;omega⟩,by simp only;omega⟩
       ·rw[<- Hw i (by clear y2;omega)] at dp nJ;clear y2;have cu:jy ⟨x.fl,x.name,x.super,ifs,fields,methods,init⟩=((T++FT k++([kw [115,116,97,116,105,99]]++bl (be init)))++MT i)++[sg [125]]:=by rw[nJ]
        rw[cu,aI (bs:=[sg [125]]),nh _ [sg [125]]];exact⟨⟨by simp only[aI,aL,bg];omega,by simp only[aI,aL,bg,maxLen];omega⟩,LM,_,_,rfl,rfl⟩
     ·have hs:¬0<init.length:=by clear y2 jE;omega
      clear jE;rw[<- Eb,af hs] at dp nJ;simp only[aI,bg,List.append_nil] at dp nJ;refine ew cE (fun y:Nat×Nat×Mem=>⟨[⟨1,[],.box 0 0⟩,⟨3,[],.vec (8+y.2.1) 0⟩,⟨5,[],.v (.int .i64 y.1)⟩],[],[⟨0,59,x.cs.map .v⟩],[⟨8+y.2.1,0,50,4,((T++FT k)++MT y.1).length,cw ((T++FT k)++MT y.1)⟩],8+y.2.1+1,y.2.2⟩)
       (fun y=>ae mm y.2.2/\y.1<=x.ml/\e<=y.2.1) (fun y=>x.ml - y.1) (0,e,mm) (by kernel_rfl) (fun y hy=> ?_) (fun y hy=> ?_) (fun _=> ?_) ?_ ?_ ?_
      ·have:=hy.2.2;show 8+(e)+1<=8+y.2.1+1;omega
      ·exact hy.1
      ·simp only[go_sem,Cc.cs,and_self,true_and]
      ·simp only[go_sem,Cc.cs,and_self,true_and];exact⟨rfl,by rw[xC,List.append_nil],by rw[xC,List.append_nil]⟩
      ·exact⟨.inl rfl,aD _,av _⟩
      ·rintro⟨i,e2,mi⟩ ⟨g1,g2,g3⟩;simp only at g1 g2 g3;have LM:=aa L0 g1;simp only[go_sem,Cc.cs,and_self,true_and];refine⟨fun vv=> ?_,fun GP=> ?_⟩
       ·have hi:i<methods.length:=by clear y2;omega
        have zj:=Hx i hi;refine Exists.elim (y2 mi LM i hi) fun X hX=>⟨⟨by clear y2 hX;omega,vv,hX.1.2⟩,X.cs,⟨hX.1.1,rfl⟩,?_⟩
        have ha:=hX.2;clear y2 hX;simp only[go_sem,Mc.cs,Cc.cs,true_and];refine ab ((aP (ha) (fun V=>rfl)).mono ?_);rintro r H' m6 ej ⟨l6,rfl,rfl⟩;have q6:ae mi m6:=l6;have L6:=aa LM q6;simp only[go_sem,Cc.cs,true_and,q6,and_self];clear ha;have zg:List.flatten [(T++FT k)++MT i,eQ methods[i]]=(T++FT k)++MT (i+1):=by rw[zj.1];simp
        intro ake ali ao9 ahe aho ajp;intro akd alh ao8 Ul ahn ajo;refine⟨by kernel_rfl,fun a7 c7 w7 Hg xA r7=>bo ((s9 ((T++FT k)++MT (i+1)) [(T++FT k)++MT i,eQ methods[i]] zg a7 2 c7 _ w7 rfl r7 ⟨⟨ake,ali,rfl,aho,ay (aa (.inr Ul) (.inr Hg)) ajp⟩,⟨⟨akd,alh,rfl,ahn,ay (.inr Hg) ajo⟩,trivial⟩⟩ (by decide) (by simp only[aI,aL,bg,cap];omega)).mono ?_)⟩;rintro r H' m7 eW ⟨l7,rfl,rfl⟩;have q7:ae m6 m7:=aa (aa (.inr ahe) (aa (.inr Ul) (.inr Hg))) l7;have L7:=aa L6 q7;have K7:=aa q6 q7;simp only[go_sem,Cc.cs,true_and,K7,and_self];exact⟨by unfold aF;simp only[aq] at bm;omega,(i+1,e2+3,m7),⟨⟨by simp only[Nat.add_assoc],by simp⟩,by simp only;rw[ah (by omega),Nat.add_assoc],.inl rfl⟩,⟨aa g1 K7,by simp only;omega,by simp only;omega⟩,by simp only;omega⟩
       ·rw[<- Hw i (by clear y2;omega)] at dp nJ;clear y2;have cu:jy ⟨x.fl,x.name,x.super,ifs,fields,methods,init⟩=((T++FT k)++MT i)++[sg [125]]:=by rw[nJ]
        rw[cu,aI (bs:=[sg [125]]),nh _ [sg [125]]];exact⟨⟨by simp only[aI,aL,bg];omega,by simp only[aI,aL,bg,maxLen];omega⟩,LM,_,_,rfl,rfl⟩
theorem ahI {fl:Int} (hI:aF fl) (h1:fx fl 1537=true) (h2:hasB fl 512=true) (h3:hasB fl 1024=true):cR (bits .and .i64 fl 1)=cR (bits .andNot .i64 fl 1024):=by
 have m0:cR (bits .and .i64 1536 1)=[]:=by kernel_rfl
 have m1:cR (bits .andNot .i64 1536 1024)=[]:=by kernel_rfl
 have m2:cR (bits .and .i64 1537 1)=[kw [112,117,98,108,105,99]]:=by kernel_rfl
 have m3:cR (bits .andNot .i64 1537 1024)=[kw [112,117,98,108,105,99]]:=by kernel_rfl
 have hr:=vV (al:=1537) hI (by decide) h1;have gu:∀n:Fin 1538,hasB (n.val:Int) 512=true->hasB (n.val:Int) 1024=true->n.val=1536\/n.val=1537:=by decide+kernel
 have e:fl=(fl.toNat:Int):=by omega
 have:=gu ⟨fl.toNat,by omega⟩;simp only at this;rw[<- e] at this;rcases(by have:=this h2 h3;omega:fl=1536\/fl=1537) with rfl |rfl
 ·exact m0.trans m1.symm
 ·exact m2.trans m3.symm
theorem ahJ {fl:Int} (hI:aF fl) (h1:fx fl 1041=true):bits .and .i64 fl 1041=fl:=by
 have hr:=vV (al:=1041) hI (by decide) h1;have gu:∀n:Fin 1042,fx (n.val:Int) 1041=true->bits .and .i64 (n.val:Int) 1041=(n.val:Int):=by decide+kernel
 have e:fl=(fl.toNat:Int):=by omega
 have:=gu ⟨fl.toNat,by omega⟩;simp only at this;rw[<- e] at this;exact this h1
theorem abi {d:Cd} (hI:aF d.fl) (hv:oX d=true):tG d=pS d++[sg [123]]:=by
 rw[oX] at hv;rw[tG,pS];by_cases h5:hasB d.fl 512=true
 ·rw[ah h5] at hv;rw[ah h5,ah h5];simp only[As,aG] at hv;rw[ahI hI hv.1.1.1.1 h5 hv.1.1.1.2];simp
 ·rw[af h5] at hv;rw[af h5,af h5];simp only[aG] at hv;rw[ahJ hI hv.1];simp
theorem aaw {d:Cd} {m:Mem} (hv:iA d=true) (au:CdOk d) (hz:ea d<=1048576) {cs:List Value} (h:jL m d cs):bV 40 [.v (.agg ⟨cs⟩)] m (jy d):=by
 have hlen:=Ug hv;have di:=hv;simp only[iA,aG] at hv;obtain⟨hH,⟨⟨⟨_,hF⟩,hM⟩,hI⟩⟩:=hv;have vO:∀f∈d.fields,jU f=true:=fun f hf=>by
  rw[Bool.not_eq_true',List.any_eq_false] at hF;simpa using hF f hf
 have Hy:∀f∈d.methods,gm f=true:=fun f hf=>by
  rw[Bool.not_eq_true',List.any_eq_false] at hM;simpa using hM f hf
 simp only[ea] at hz hlen;refine XR d cs m h (fun f hf=> ?_) (fun _ a n c xs m' hle hn hr hs=> ?_) (fun e he cs m' hle aT=> ?_) (abi au.fl hH) (by omega)
 ·have:=vO f hf;simp only[jU,aG] at this;have:=uI this.1.1.1;omega
 ·simp only[eE,aG] at hI;have hl:=uY false d.init hI.2;exact Eu d.init a n c xs m' hn.symm (by rw[hn];exact au.l) hr hs (fun e he=>ER _ e m' (av _) (rv hI.2 e he) (by have:=uF he;simp only[aq];omega)) (by rw[uX];simp only[cap];omega)
 ·have hv:=Hy e he;have Bf:=Uf hv;have oA:=Ab (f:=kD) e he;simp only[gm,aG] at hv;obtain⟨⟨⟨h1,h2⟩,h3⟩,h4⟩:=hv;have hP:∀p∈e.params,ib p=true:=fun p hp=>by
   rw[Bool.not_eq_true',List.any_eq_false] at h3;simpa using h3 p hp
  simp only[eE,aG] at h4;have hl:=aT;obtain⟨X,_,⟨_,_,_,_⟩,uo,_⟩:=hl;have hlb:=uY _ e.body h4.2;have hse:cY e.body<=kD e:=by simp only[kD];omega
  refine XQ e cs m' aT (by have:=Rz h1;omega) (fun p hp=> ?_) (fun _ a n c xs m2 aY hn hr hs=>Eu e.body a n c xs m2 hn.symm (by rw[hn];exact uo.l) hr hs (fun s hs=>ER _ s m2 (av _) (rv h4.2 s hs) (by have:=uF hs;simp only[aq];omega)) (by rw[uX];simp only[cap];omega)) (by omega);have:=hP p hp;simp only[ib,aG] at this;have:=uI this.1;omega
theorem WE (l:List Cd) (p:Option Addr) (n c:Nat) (m:Mem) (hz:(l.map ea).sum<=1048576) (h:oT m l p n c):
  FnH Tryz.prog 19 [.v (.slice p n c)] ⟨[],[]⟩ m fun r H' m' =>ae m m' /\H' =⟨[],[]⟩/\r= .tup [.v (.string (bs (nK l).1)),.v (.int .i64 (nK l).2)]:=by
 have V5:=Xg l p n c m hz h;have hW:=Rf h;have hT:=fun(h0:(ff [] l).2=0)=>RH hW hz h0
 obtain⟨hl,ba,hn,xs,r1,s1⟩:=h;have hJ:(ff [] l).2=0->∀(T:List Tk) (m' :Mem) (a:Option Addr) (c:Nat),T=mI l->aX m' a T.length 4 (cw T)->FnH Tryz.prog 23 [.v (.slice a T.length c)] ⟨[],[]⟩ m' fun r H' ku=>ae m' ku/\H' =⟨[],[]⟩/\r= .tup [.v (.string (bs (nK l).1)),.v (.int .i64 (nK l).2)]:=fun h0 T m' a c he hr=>by
  have hf:nK l=ld T:=by rw[nK,ah h0,he]
  rw[hf];exact NT T a _ c m' hr (he▸(hT h0).2) (by have:=(hT h0).1;rw[he];simp only[cap] at this;omega)
 have hX:∀(h0:(ff [] l).2=0) (mm:Mem) (hle:ae m mm) (k:Nat) (hk:k<l.length),∃X:Cc,(Rd mm (cO p (k * 7)) X.cs/\p≠none)/\bV 40 [.v (.agg ⟨X.cs⟩)] mm (jy l[k]):=fun h0 mm hle k hk=>by
  have aT:=qu hle (nZ s1 hk);have bW:=dH (ay hle r1) (by omega:k<n);obtain⟨X,hX⟩:=Q5 aT;rw[hX] at aT bW;have dp:=Ab (f:=ea) l[k] (List.getElem_mem hk);exact⟨X,bW,aaw (Fq h0 _ (List.getElem_mem hk)).1 (hW _ (List.getElem_mem hk)).1 (by omega) aT⟩
 clear s1 hW;refine aR cE Tryz.func19 ?_
 ·simp only[go_sem];refine ab (V5.mono ?_);clear V5;rintro r H' m1 aN ⟨l1,rfl,rfl⟩;simp only[go_sem];refine⟨fun db=>⟨l1,?_⟩,fun h0=> ?_⟩
  ·clear hJ hX;rw[nK,af db]
  ·have hTl:=(hT h0).1;have D8:=hJ h0;have Bh:=hX h0;clear hJ hX hT;refine dA cE (fun x:Nat×Nat×Mem=>⟨[⟨0,[],.v (.slice p n c)⟩,⟨6,[],.vec 0 x.2.1⟩,⟨7,[],.v (.int .i64 x.1)⟩],[],[],[⟨0,x.2.1,50,4,(((l.take x.1).map jy).flatten).length,cw (((l.take x.1).map jy).flatten)⟩],1,x.2.2⟩)
    (fun x=>ae m1 x.2.2/\x.1<=n) (fun x=>n - x.1) (0,0,m1) (fun _ _=>av _) (fun x hx=>hx.1) ?_ ?_ ?_
   ·simp only[go_sem];exact⟨rfl,rfl,rfl⟩
   ·exact⟨.inl rfl,aD _⟩
   ·rintro⟨k,v,mm⟩ ⟨g1,g2⟩;simp only at g1 g2;have L0:=aa l1 g1;have ur:=fun(hk:k<l.length)=>And.intro (EL (f:=jy) hk) (Ag (f:=jy) l (k+1))
    simp only[go_sem];refine⟨fun aw=> ?_,fun cg=> ?_⟩
    ·have hk:k<l.length:=by clear Bh D8;omega
     clear D8;refine Exists.elim (Bh mm L0 k hk) fun X hX=>⟨⟨by clear Bh hX;omega,aw,hX.1.2⟩,X.cs,⟨hX.1.1,rfl⟩,?_⟩
     have ha:=hX.2;clear Bh hX;have hT:=(ur hk).1;have hL:=(ur hk).2;rw[hT,aI] at hL;simp only[cap,mI] at hTl;simp only[go_sem,Cc.cs];refine ab ((aP ha (fun V=>rfl)).mono ?_);clear ha;rintro r H' m2 aH ⟨l2,rfl,rfl⟩;simp only[go_sem,Cc.cs];refine⟨⟨by omega,by simp only[maxLen];omega⟩,by unfold aF;simp only[aq] at hn;omega,(k+1,v+1,m2),⟨⟨rfl,by simp⟩,⟨rfl,?_,?_⟩,.inl rfl⟩,⟨aa g1 l2,by simp only;omega⟩,by simp only;omega⟩
     ·simp only;rw[hT,aI]
     ·simp only;rw[hT,nh]
    ·have e0:l.take k=l:=fj (by clear Bh D8;omega);have VV:=fun m' a c=>D8 _ m' a c (show((l.take k).map jy).flatten=mI l by rw[e0];rfl)
     clear Bh D8;refine⟨by kernel_rfl,fun a5 c5 w5 sO VR r5=>bo ((VV w5 a5 c5 r5).mono ?_)⟩;clear VV;rintro r H' m5 cK ⟨l5,rfl,rfl⟩;simp only[go_sem];exact aa L0 (aa (.inr sO) l5)
theorem YT (a b:Md) (ca cb:List Value) (m:Mem) (ha:gJ m a ca) (hb:gJ m b cb):aK 60 [.v (.agg ⟨ca⟩),.v (.agg ⟨cb⟩)] m (.bool (ri a b)):=by
 obtain⟨fl,res,name,params,dk,body⟩:=a;obtain⟨fl',res',name',oG,hb0',pX⟩:=b;obtain⟨x,⟨rfl,rfl,rfl,rfl,rfl⟩,⟨j6,xp,hl,ba⟩,au,r1,xs,r2,s2⟩:=ha;obtain⟨x',⟨rfl,rfl,rfl,rfl,rfl⟩,⟨hpl',hpc',lu,hcp'⟩,hok',r1',xs',r2',s2'⟩:=hb;simp only at j6 hl hpl' lu r1 r1' s2 s2';have bp:x.pl<=aq:=by rw[j6];exact au.pl
 have hB:=OC _ body pX x.a x.l x.cp x'.a x'.l x'.cp xs xs' m (av _) hl lu (by rw[hl];exact au.l) (by rw[lu];exact hok'.l) r2 r2' s2 s2';clear s2 s2';have hX:ri ⟨x.fl,x.res,x.name,params,x.hb,body⟩ ⟨x'.fl,x'.res,x'.name,oG,x'.hb,pX⟩=(decide (x.fl=x'.fl)&&Ty.eq x.res x'.res&&decide (x.name=x'.name)&&(x.hb==x'.hb)&&(decide (params.length=oG.length)&&gw params.length (fA Pc.eq params oG))&&gv body pX):=by rw[ri,rA]
 refine enter gY aB Tryz.func60 rfl rfl (by kernel_rfl) rfl ?_ ?_
 ·simp only[go_sem,Mc.cs]
 ·simp only[go_sem,Mc.cs,qG];refine⟨by kernel_rfl,fun h=> ?_,fun h=> ?_⟩
  ·clear hB;rw[hX];simp only[Ty.eq];rcases h with (((h |h |h |h) |h) |h) |h
   ·simp [h]
   ·simp [h]
   ·simp [h]
   ·simp [h]
   ·simp [h]
   ·simp [h]
   ·rw[dr (by omega:¬params.length=oG.length)];simp
  ·have lN:params.length=oG.length:=by clear hB;omega
   have rh:ri ⟨x.fl,x.res,x.name,params,x.hb,body⟩ ⟨x'.fl,x'.res,x'.name,oG,x'.hb,pX⟩=(gw params.length (fA Pc.eq params oG)&&gv body pX):=by
    rw[hX];simp only[Ty.eq,h,lN,ao,Bool.true_and]
   clear hX;refine ew aB (fun y:Nat=>⟨[⟨2,[],.box 0 0⟩,⟨3,[],.box 1 0⟩,⟨5,[],.v (.int .i64 y)⟩],[],[⟨0,98,x.cs.map .v⟩,⟨1,98,x'.cs.map .v⟩],[],2,m⟩)
    (fun y=>y<=x.pl/\gw y (fA Pc.eq params oG)=true) (fun y=>x.pl - y) 0 (by kernel_rfl) (fun _ _=>av _) (fun y hy=> .inl rfl) (fun _=> ?_) ?_ ?_ ?_
   ·simp only[go_sem,Mc.cs]
   ·simp only[go_sem,Mc.cs];rfl
   ·exact⟨aD _,rfl⟩
   ·rintro k ⟨h2,h3⟩;have hy:∀(hk:k<params.length) (fp:k<oG.length),(Rd m (cO x.pa (k * 4)) (params[k]).cs/\x.pa≠none)/\(Rd m (cO x'.pa (k * 4)) (oG[k]).cs/\x'.pa≠none)/\fA Pc.eq params oG k=Pc.eq params[k] oG[k]:=fun hk fp=>by
     have q1:=dH r1 (by omega:k<x.pl);have q2:=dH r1' (by omega:k<x'.pl);rw[oJ (f:=Pc.cs) (sz:=4) (fun _=>rfl) hk] at q1;rw[oJ (f:=Pc.cs) (sz:=4) (fun _=>rfl) fp] at q2;exact⟨q1,q2,Av hk fp⟩
    simp only[go_sem,Mc.cs];refine⟨fun aw=> ?_,fun cg=> ?_⟩
    ·have hk:k<params.length:=by clear hB;omega
     have fp:k<oG.length:=by clear hB;omega
     have bt:=hy hk fp;clear hy hB;refine lP aB (by kernel_rfl) (by kernel_rfl) (by kernel_rfl) ?_;simp only[go_sem,Mc.cs];refine⟨⟨by omega,aw,bt.1.2⟩,(params[k]).cs,⟨bt.1.1,rfl⟩,⟨by omega,by omega,bt.2.1.2⟩,(oG[k]).cs,⟨bt.2.1.1,rfl⟩,?_⟩;have gE:=bt.2.2;clear bt;simp only[go_sem,Mc.cs,Pc.cs,ahQ];refine⟨fun db=> ?_,fun he=>⟨by unfold aF;simp only[aq] at bp;omega,k+1,by simp,⟨by omega,?_⟩,by omega⟩⟩
     ·rw[rh,lS hk]
      ·rfl
      ·rw[gE,Pc.eq];rcases db with h |h |h |h<;>simp [h]
     ·rw[tf,h3,gE,Pc.eq];simp [he]
    ·clear hy;have iR:k=params.length:=by clear hB;omega
     have zf:=rh;rw[<- iR,h3,Bool.true_and] at zf;refine ab (hB.mono ?_);clear hB;rintro r H' m2 aH ⟨l2,rfl,rfl⟩;simp only[go_sem,Mc.cs];exact⟨l2,zf.symm⟩
theorem QC {α:Type} [DecidableEq α]:∀(l l2:List α),decide (l=l2)=jP (fun a b=>decide (a=b)) l l2
 |[],[]=>rfl
 |[],_::_=>rfl
 |_::_,[]=>rfl
 |a::r,b::t=>by
  rw[jP,<- QC r t];by_cases h:a=b
  ·subst h;by_cases h2:r=t
   ·subst h2;simp
   ·simp [h2]
  ·simp [h]
set_option maxHeartbeats 8000000 in
theorem YU (a b:Cd) (ca cb:List Value) (m:Mem) (ha:jL m a ca) (hb:jL m b cb):aK 30 [.v (.agg ⟨ca⟩),.v (.agg ⟨cb⟩)] m (.bool (rk a b)):=by
 obtain⟨fl,name,super,ifs,fields,methods,init⟩:=a;obtain⟨fl',name',super',om,oK,uL,init'⟩:=b;obtain⟨x,⟨rfl,rfl,rfl,rfl⟩,⟨dv,hic,gC,hfc,hml,hmc,fG,hsc⟩,au,r1,r2,xs,ys,r3,s3,r4,s4⟩:=ha;obtain⟨x',⟨rfl,rfl,rfl,rfl⟩,⟨hil',hic',hfn',hfc',hml',hmc',hsl',hsc'⟩,hok',r1',r2',xs',ys',r3',s3',r4',s4'⟩:=hb;simp only at dv gC hml fG r1 r2 s3 s4 hil' hfn' hml' hsl' r1' r2' s3' s4';have bi:x.il<=aq:=by rw[dv];exact au.il
 have bf:x.fn<=aq:=by rw[gC];exact au.fn
 have bm:x.ml<=aq:=by rw[hml];exact au.ml
 have hB:=fun m' (hle:ae m m')=>OC _ init init' x.sa x.sl x.sc x'.sa x'.sl x'.sc ys ys' m' (av _) fG hsl' (by rw[fG];exact au.l) (by rw[hsl'];exact hok'.l) (ay hle r4) (ay hle r4') (dw hle s4) (dw hle s4')
 have hM:=fun m' (hle:ae m m')=>FN (R:=gJ) (vQ:=Mc.cs) (e:=ri) (f:=60) (fun _ _ _ _ h=>qp h) (fun _ _ _=>B7) (fun i hi=>qp hle (nZ s3 hi)) (fun i hi=>qp hle (nZ s3' hi)) (fun a ha b hb ca cb m2 aY=>YT a b ca cb m2)
 clear s3 s3' s4 s4';have hX:rk ⟨x.fl,x.name,x.super,ifs,fields,methods,init⟩ ⟨x'.fl,x'.name,x'.super,om,oK,uL,init'⟩=(decide (x.fl=x'.fl)&&decide (x.name=x'.name)&&decide (x.super=x'.super)&&(decide (ifs.length=om.length)&&gw ifs.length (fA (fun a b=>decide (a=b)) ifs om))&&(decide (fields.length=oK.length)&&gw fields.length (fA Fc.eq fields oK))&&(decide (methods.length=uL.length)&&gw methods.length (fA ri methods uL))&&gv init init'):=by
  simp only[rk];rw[QC ifs om,rA,rA,rA]
 refine enter gY aB Tryz.func30 rfl rfl (by kernel_rfl) rfl ?_ ?_
 ·simp only[go_sem,Cc.cs]
 ·simp only[go_sem,Cc.cs];refine⟨fun h=> ?_,fun h=> ?_⟩
  ·clear hB hM;rw[hX];rcases h with ((((h |h) |h) |h) |h) |h
   ·simp [h]
   ·simp [h]
   ·simp [h]
   ·rw[dr (by omega:¬ifs.length=om.length)];simp
   ·rw[dr (by omega:¬fields.length=oK.length)];simp
   ·rw[dr (by omega:¬methods.length=uL.length)];simp
  ·have e1:ifs.length=om.length:=by clear hB hM;omega
   have e2:fields.length=oK.length:=by clear hB hM;omega
   have e3:methods.length=uL.length:=by clear hB hM;omega
   have rh:rk ⟨x.fl,x.name,x.super,ifs,fields,methods,init⟩ ⟨x'.fl,x'.name,x'.super,om,oK,uL,init'⟩=(gw ifs.length (fA (fun a b=>decide (a=b)) ifs om)&&gw fields.length (fA Fc.eq fields oK)&&gw methods.length (fA ri methods uL)&&gv init init'):=by
    rw[hX];simp only[h,e1,e2,e3,ao,Bool.true_and]
   clear hX;refine ew aB (fun y:Nat=>⟨[⟨2,[],.box 0 0⟩,⟨3,[],.box 1 0⟩,⟨5,[],.v (.int .i64 y)⟩],[],[⟨0,59,x.cs.map .v⟩,⟨1,59,x'.cs.map .v⟩],[],2,m⟩)
    (fun y=>y<=x.il/\gw y (fA (fun a b=>decide (a=b)) ifs om)=true) (fun y=>x.il - y) 0 (by kernel_rfl) (fun _ _=>av _) (fun y hy=> .inl rfl) (fun _=> ?_) ?_ ?_ ?_
   ·simp only[go_sem,Cc.cs]
   ·simp only[go_sem,Cc.cs];rfl
   ·exact⟨aD _,rfl⟩
   ·rintro k ⟨h2,h3⟩;have hy:∀(hk:k<ifs.length) (fp:k<om.length),(Rd m (cO x.ia k) [.string (bs ifs[k])]/\x.ia≠none)/\(Rd m (cO x'.ia k) [.string (bs om[k])]/\x'.ia≠none)/\fA (fun a b=>decide (a=b)) ifs om k=decide (ifs[k]=om[k]):=fun hk fp=>⟨Ac r1 hk,Ac r1' fp,Av hk fp⟩
    simp only[go_sem,Cc.cs];refine⟨fun aw=> ?_,fun cg=> ?_⟩
    ·have hk:k<ifs.length:=by clear hB hM;omega
     have fp:k<om.length:=by clear hB hM;omega
     have bt:=hy hk fp;clear hy hB hM;refine lP aB (by kernel_rfl) (by kernel_rfl) (by kernel_rfl) ?_;simp only[go_sem,Cc.cs];refine⟨⟨by omega,aw,bt.1.2⟩,.string (bs ifs[k]),bt.1.1,⟨by omega,by omega,bt.2.1.2⟩,.string (bs om[k]),bt.2.1.1,?_⟩;have gE:=bt.2.2;clear bt;simp only[go_sem,Cc.cs];refine⟨fun db=> ?_,fun he=>⟨by unfold aF;simp only[aq] at bi;omega,k+1,by simp,⟨by omega,?_⟩,by omega⟩⟩
     ·rw[rh,lS hk]
      ·rfl
      ·rw[gE,dr db]
     ·rw[tf,h3,gE,eH he];rfl
    ·clear hy;have uq:k=ifs.length:=by clear hB hM;omega
     have zf:=rh;rw[<- uq,h3,Bool.true_and] at zf;clear rh;refine ew aB (fun y:Nat=>⟨[⟨2,[],.box 0 0⟩,⟨3,[],.box 1 0⟩,⟨6,[],.v (.int .i64 y)⟩],[],[⟨0,59,x.cs.map .v⟩,⟨1,59,x'.cs.map .v⟩],[],2,m⟩)
      (fun y=>y<=x.fn/\gw y (fA Fc.eq fields oK)=true) (fun y=>x.fn - y) 0 (by kernel_rfl) (fun _ _=>av _) (fun y hy=> .inl rfl) (fun _=> ?_) ?_ ?_ ?_
     ·simp only[go_sem,Cc.cs]
     ·simp only[go_sem,Cc.cs];rfl
     ·exact⟨aD _,rfl⟩
     ·rintro j ⟨q2,q3⟩;have hy:∀(hk:j<fields.length) (fp:j<oK.length),(Rd m (cO x.fa (j * 5)) (fields[j]).cs/\x.fa≠none)/\(Rd m (cO x'.fa (j * 5)) (oK[j]).cs/\x'.fa≠none)/\fA Fc.eq fields oK j=Fc.eq fields[j] oK[j]:=fun hk fp=>by
       have q1:=dH r2 (by omega:j<x.fn);have q2:=dH r2' (by omega:j<x'.fn);rw[oJ (f:=Fc.cs) (sz:=5) (fun _=>rfl) hk] at q1;rw[oJ (f:=Fc.cs) (sz:=5) (fun _=>rfl) fp] at q2;exact⟨q1,q2,Av hk fp⟩
      simp only[go_sem,Cc.cs];refine⟨fun aw=> ?_,fun GP=> ?_⟩
      ·have hk:j<fields.length:=by clear hB hM;omega
       have fp:j<oK.length:=by clear hB hM;omega
       have bt:=hy hk fp;clear hy hB hM;refine lP aB (by kernel_rfl) (by kernel_rfl) (by kernel_rfl) ?_;simp only[go_sem,Cc.cs];refine⟨⟨by omega,aw,bt.1.2⟩,(fields[j]).cs,⟨bt.1.1,rfl⟩,⟨by omega,by omega,bt.2.1.2⟩,(oK[j]).cs,⟨bt.2.1.1,rfl⟩,?_⟩;have gE:=bt.2.2;clear bt;simp only[go_sem,Cc.cs,Fc.cs,ahR];refine⟨fun db=> ?_,fun he=>⟨by unfold aF;simp only[aq] at bf;omega,j+1,by simp,⟨by omega,?_⟩,by omega⟩⟩
       ·rw[zf,lS hk]
        ·rfl
        ·rw[gE,Fc.eq];rcases db with h |h |h |h |h<;>simp [h]
       ·rw[tf,q3,gE,Fc.eq];simp [he]
      ·clear hy;have vK:j=fields.length:=by clear hB hM;omega
       have Ht:=zf;rw[<- vK,q3,Bool.true_and] at Ht;clear zf;refine ew aB (fun y:Nat×Mem=>⟨[⟨2,[],.box 0 0⟩,⟨3,[],.box 1 0⟩,⟨7,[],.v (.int .i64 y.1)⟩],[],[⟨0,59,x.cs.map .v⟩,⟨1,59,x'.cs.map .v⟩],[],2,y.2⟩)
        (fun y=>ae m y.2/\y.1<=x.ml/\gw y.1 (fA ri methods uL)=true) (fun y=>x.ml - y.1) (0,m) (by kernel_rfl) (fun _ _=>av _) (fun y hy=>hy.1) (fun _=> ?_) ?_ ?_ ?_
       ·simp only[go_sem,Cc.cs]
       ·simp only[go_sem,Cc.cs];rfl
       ·exact⟨.inl rfl,aD _,rfl⟩
       ·rintro⟨i,mm⟩ ⟨g1,g2,g3⟩;simp only at g1 g2 g3;have hy:∀(hk:i<methods.length),∃X Y:Mc,(Rd mm (cO x.ma (i * 8)) X.cs/\x.ma≠none)/\(Rd mm (cO x'.ma (i * 8)) Y.cs/\x'.ma≠none)/\aK 60 [.v (.agg ⟨X.cs⟩),.v (.agg ⟨Y.cs⟩)] mm (.bool (fA ri methods uL i)):=fun hk=>by
         obtain⟨X,Y,e1,e2,e3⟩:=hM mm g1 i hk e3;have q1:=dH (ay g1 r3) (by omega:i<x.ml);have q2:=dH (ay g1 r3') (by omega:i<x'.ml);rw[e1] at q1;rw[e2] at q2;exact⟨X,Y,q1,q2,e3 mm (.inl rfl)⟩
        clear hM;have MI:=hB mm g1;clear hB;simp only[go_sem,Cc.cs];refine⟨fun aw=> ?_,fun apm=>ab (MI.mono ?_)⟩
        ·clear MI;have hk:i<methods.length:=by clear hy;omega
         refine bO (.hoist 0 (.hoist 1 (.hoist 2 (.hoist 3 (.hoist 4 (.hoist 5 (.hoist 6 (.hoist 7 (.hoist 8 (.hoist 9 (.alt 10 [] (.hoist 11 .done) .stop))))))))))) aB (by kernel_rfl) (by kernel_rfl) ?_;simp only[go_sem,Cc.cs];refine Exists.elim (hy hk) fun X fW=>Exists.elim fW fun Y fF=>⟨⟨by clear hy fW fF;omega,aw,fF.1.2⟩,X.cs,⟨fF.1.1,rfl⟩,⟨by clear hy fW fF;omega,by clear hy fW fF;omega,fF.2.1.2⟩,Y.cs,⟨fF.2.1.1,rfl⟩,?_⟩
         clear hy fW;have ha:=fF.2.2;clear fF;simp only[go_sem,Cc.cs,Mc.cs];refine ab ((aP ha (fun V=>rfl)).mono ?_);clear ha;rintro r H' m2 aH ⟨aY,rfl,rfl⟩;simp only[go_sem,Cc.cs];refine⟨fun hb=>⟨aa g1 aY,?_⟩,fun hb=>⟨by unfold aF;simp only[aq] at bm;omega,(i+1,m2),⟨by simp,.inl rfl⟩,⟨aa g1 aY,by simp only;omega,?_⟩,by simp only;omega⟩⟩
         ·rw[Ht,lS hk hb];rfl
         ·simp only;rw[tf,g3,hb];rfl
        ·clear hy MI;have hk3:i=methods.length:=by omega
         rw[<- hk3,g3,Bool.true_and] at Ht;rintro r H' m2 aH ⟨l2,rfl,rfl⟩;simp only[go_sem,Cc.cs];exact⟨aa g1 l2,Ht.symm⟩
theorem Xh (a b:List Cd) (p:Option Addr) (n c:Nat) (p' :Option Addr) (n' c' :Nat) (m:Mem) (ha:oT m a p n c) (hb:oT m b p' n' c'):aK 12 [.v (.slice p n c),.v (.slice p' n' c')] m (.bool (jP rk a b)):=by
 obtain⟨hl,ba,hn,xs,r1,s1⟩:=ha;obtain⟨lu,hcp',zc,xs',r1',s1'⟩:=hb;have hX:jP rk a b=(decide (a.length=b.length)&&gw a.length (fA rk a b)):=rA _ _ _;have hM:=fun m' (hle:ae m m')=>FN (R:=jL) (vQ:=Cc.cs) (e:=rk) (f:=30) (fun _ _ _ _ h=>qu h) (fun _ _ _=>Q5) (fun i hi=>qu hle (nZ s1 hi)) (fun i hi=>qu hle (nZ s1' hi)) (fun a ha b hb ca cb m2 aY=>YU a b ca cb m2)
 clear s1 s1';refine aR aB Tryz.func12 ?_
 ·simp only[go_sem];refine⟨fun db=> ?_,fun heq=> ?_⟩
  ·rw[hX,dr (by clear hM;omega:¬a.length=b.length)];rfl
  ·have lN:a.length=b.length:=by clear hM;omega
   rw[eH lN,Bool.true_and] at hX;refine dA aB (fun y:Nat×Mem=>⟨[⟨0,[],.v (.slice p n c)⟩,⟨1,[],.v (.slice p' n' c')⟩,⟨5,[],.v (.int .i64 y.1)⟩],[],[],[],0,y.2⟩)
    (fun y=>ae m y.2/\y.1<=n/\gw y.1 (fA rk a b)=true) (fun y=>n - y.1) (0,m) (fun _ _=>av _) (fun y hy=>hy.1) ?_ ?_ ?_
   ·simp only[go_sem];rfl
   ·exact⟨.inl rfl,aD _,rfl⟩
   ·rintro⟨k,mm⟩ ⟨h1,h2,h3⟩;simp only at h1 h2 h3;have hy:∀(hk:k<a.length),∃X Y:Cc,(Rd mm (cO p (k * 7)) X.cs/\p≠none)/\(Rd mm (cO p' (k * 7)) Y.cs/\p' ≠none)/\aK 30 [.v (.agg ⟨X.cs⟩),.v (.agg ⟨Y.cs⟩)] mm (.bool (fA rk a b k)):=fun hk=>by
     obtain⟨X,Y,e1,e2,e3⟩:=hM mm h1 k hk lN;have q1:=dH (ay h1 r1) (by omega:k<n);have q2:=dH (ay h1 r1') (by omega:k<n');rw[e1] at q1;rw[e2] at q2;exact⟨X,Y,q1,q2,e3 mm (.inl rfl)⟩
    clear hM;simp only[go_sem];refine⟨fun aw=> ?_,fun cg=> ?_⟩
    ·have hk:k<a.length:=by clear hy;omega
     refine bO (.hoist 0 (.hoist 1 (.hoist 2 (.hoist 3 (.hoist 4 (.hoist 5 (.hoist 6 (.hoist 7 (.alt 8 [] (.hoist 9 .done) .stop))))))))) aB (by kernel_rfl) (by kernel_rfl) ?_;simp only[go_sem];refine Exists.elim (hy hk) fun X fW=>Exists.elim fW fun Y fF=>⟨⟨by clear hy fW fF;omega,aw,fF.1.2⟩,X.cs,⟨fF.1.1,rfl⟩,⟨by clear hy fW fF;omega,by clear hy fW fF;omega,fF.2.1.2⟩,Y.cs,⟨fF.2.1.1,rfl⟩,?_⟩
     clear hy fW;have ha:=fF.2.2;clear fF;simp only[go_sem,Cc.cs];refine ab ((aP ha (fun V=>rfl)).mono ?_);clear ha;rintro r H' m2 aH ⟨aY,rfl,rfl⟩;simp only[go_sem,Cc.cs];refine⟨fun hb=>⟨aa h1 aY,?_⟩,fun hb=>⟨by unfold aF;simp only[aq] at hn;omega,(k+1,m2),⟨by simp,.inl rfl⟩,⟨aa h1 aY,by simp only;omega,?_⟩,by simp only;omega⟩⟩
     ·rw[hX,lS hk hb]
     ·simp only;rw[tf,h3,hb];rfl
    ·have:k=a.length:=by clear hy;omega
     refine⟨h1,?_⟩;rw[hX,<- this,h3]
theorem Ty.eq_self (x:Ty):Ty.eq x x=true:=by simp [Ty.eq]
theorem qs {α:Type} [DecidableEq α] (a b:α):decide (a=b)=decide (b=a):=by rw[decide_eq_decide];exact eq_comm
theorem Ty.eq_comm (x y:Ty):Ty.eq x y=Ty.eq y x:=by rw[Ty.eq,Ty.eq,qs x.dim,qs x.base,qs x.name]
mutual
theorem Ca:∀(e:Ex),iG e e=true
 | .mk k n s c ty args=>by rw[iG,Ty.eq_self,Pk args];simp
theorem Pk:∀(l:List Ex),lI l l=true
 |[]=>by simp only[lI]
 |e::r=>by rw[lI,Ca e,Pk r];rfl
end
mutual
theorem abF:∀(e:St),dq e e=true
 | .mk k nm ty tg ex body alt=>by rw[dq,Ty.eq_self,Ca,Ca,BQ body,BQ alt];simp
theorem BQ:∀(l:List St),gv l l=true
 |[]=>by simp only[gv]
 |e::r=>by rw[gv,abF e,BQ r];rfl
end
theorem BW {α:Type} {e:α->α->Bool} (h:∀a,e a a=true):∀(l:List α),jP e l l=true
 |[]=>rfl
 |a::r=>by rw[jP,h,BW h r];rfl
theorem Pc.eq_self (p:Pc):Pc.eq p p=true:=by simp [Pc.eq]
theorem Fc.eq_self (p:Fc):Fc.eq p p=true:=by simp [Fc.eq]
theorem Pc.eq_comm (p q:Pc):Pc.eq p q=Pc.eq q p:=by rw[Pc.eq,Pc.eq,qs p.ty.dim,qs p.ty.base,qs p.ty.name,qs p.name]
theorem Fc.eq_comm (p q:Fc):Fc.eq p q=Fc.eq q p:=by rw[Fc.eq,Fc.eq,qs p.fl,qs p.ty.dim,qs p.ty.base,qs p.ty.name,qs p.name]
theorem abG (x:Md):ri x x=true:=by rw[ri,Ty.eq_self,BW Pc.eq_self,BQ];simp
theorem abH (x:Cd):rk x x=true:=by rw[rk,BW Fc.eq_self,BW abG,BQ];simp
theorem Yq (l:List Cd):(nK l).1.length<=4611686018427387904:=by
 unfold nK;split
 ·exact cX N8 (by decide)
 ·exact aD _
end Go.Proofs.YtimddhkipjedcaaGreatDoor.E

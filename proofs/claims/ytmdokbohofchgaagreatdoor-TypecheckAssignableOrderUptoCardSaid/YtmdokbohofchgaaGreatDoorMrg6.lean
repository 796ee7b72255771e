/- Several texts in one. -/
import Derived.Test.YtmdokbohofchgaaGreatDoorMrg5
set_option linter.unusedSimpArgs false
set_option linter.unusedVariables false
set_option maxHeartbeats 4000000
set_option maxRecDepth 20000
namespace Go.Proofs.YtmdokbohofchgaaGreatDoor.E
open Go
theorem yE {n b:Nat} (hn:n<=2000000001) (hb:b<=1000):room n b:=by
 have:n * b<=2000000001 * 1000:=Nat.mul_le_mul hn hb;exact⟨by omega,by unfold maxLen;omega⟩
theorem Zv:(eo Tryz.prog 43).isSome=true:=by kernel_rfl
attribute [go_sem] Zv
theorem Ra (l:List Pc) (la:Option Addr) (lc:Nat) (m:Mem) (h:aw m la l.length 4 (flat Pc.cs l)) (hb:l.length<=2000000000):
  FnH Tryz.prog 223 [.v (.slice la l.length lc)] ⟨[],[]⟩ m
   fun r H' m' =>af m m' /\((la=none/\r= .v (.slice none 0 0)/\H' =⟨[],[]⟩)\/(la≠none/\∃u,r= .vec 0 u/\H' =⟨[],[⟨0,u,95,4,l.length,flat Pc.cs l⟩]⟩)):=by
 refine br aq Tryz.func223 ?_
 ·cases la with
  |none=>
   simp only[go_sem];exact fun h=>by cases h
  |some ad=>
   simp only[go_sem];refine⟨fun h=>(by cases h),fun _=>⟨_,h,fun u hu=> ?_,yE (by omega) (by decide),nofun,1,rfl,by rw[Nat.zero_add]⟩⟩;unfold flat at hu;obtain⟨p,_,hp⟩:=List.mem_flatMap.1 hu;simp only[Pc.cs,List.mem_cons,List.not_mem_nil,or_false] at hp;rcases hp with rfl |rfl |rfl |rfl<;>rfl
section
variable {S:Sc} {E:List Cd} {ad:Addr} {da:Option Addr} {dc:Nat} {la:Option Addr} {lc:Nat} {b:Nat} {a:Option Addr} {c:Nat} {L:List Cc}
theorem Kj (t:Ty) (s:Nm) {m m1:Mem} (hT:Tp m S E ad da dc la lc b a c L) (hl:S.loc.length<2000000000) (hm:af m m1) {a' :Option Addr} {n' c' :Nat} {xs:List Value} (hr:aw m1 a' n' 4 xs) (hn:n' =S.loc.length+1) (hx:xs=flat Pc.cs (S.loc++[⟨t,s⟩])) (hc:n' <=c'):
  Tp m1 (iY S t s) E ad da dc a' c' b a c L:=by
 have h:=hT.up hm;subst hn hx;have e:(iY S t s).loc.length=S.loc.length+1:=by show(S.loc++[_]).length=_;rw[bc];rfl
 exact⟨h.ck,h.pr,h.ci,by rw[e];exact hr,by rw[e];exact hc,by rw[e];omega⟩
theorem D3 (t:Ty) (s:Nm):(iY S t s).loc.length=S.loc.length+1:=by show(S.loc++[_]).length=_;rw[bc];rfl
theorem I4 (t:Ty) (s:Nm) (m:Mem) (hT:Tp m S E ad da dc la lc b a c L) (hl:S.loc.length<2000000000):
  FnH Tryz.prog 123 [.v (.agg ⟨av ad da dc S la lc⟩),.v (.agg ⟨aB t⟩),.v (.string (bs s))] ⟨[],[]⟩ m
   fun r H' m' =>af m m' /\H' =⟨[],[]⟩/\∃xl xj,r= .agg ((av ad da dc (iY S t s) xl xj).map .v)/\Tp m' (iY S t s) E ad da dc xl xj b a c L:=by
 refine nQ ?_;have hC:=fun m' (hle:af m m')=>Ra S.loc la lc m' (hT.up hle).loc (by omega)
 refine enter bb aq Tryz.func123 rfl rfl (by kernel_rfl) rfl ?_ ?_
 ·clear hC;simp only[go_sem,av,aB]
 ·simp only[go_sem,av,aB];refine bZ (.hoist 0 (.hoist 1 (.hoist 2 (.hoist 4 (.hoist 5 (.hoist 6 (.alt 3 [6,5,4] (.alt 7 [] (.alt 8 [] (.hoist 9 (.hoist 10 (.alt 11 [] .done .stop))) .stop) .stop) (.alt 7 [2,1,0] (.alt 3 [] (.alt 8 [] (.hoist 9 (.hoist 10 (.alt 11 [] .done .stop))) .stop) .stop) .stop)))))))) aq (by kernel_rfl) (by kernel_rfl) ?_;simp only[go_sem];refine⟨⟨by kernel_rfl,?_⟩,by kernel_rfl,?_⟩;all_goals
   refine bD ((hC m (.inl rfl)).mono ?_);clear hC;rintro r H' m1 aR ⟨l1,⟨hn,rfl,rfl⟩ |⟨hn,u,rfl,rfl⟩⟩
   ·simp only[go_sem];have h0:S.loc=[]:=by
     have h:=hT.loc.2;rw[hn] at h;cases hc:S.loc with
     |nil=>rfl
     |cons x y=>
      rw[hc] at h;obtain⟨_,h,_⟩:=h (Nat.succ_pos _);cases h
    have hQ:=fun(a' :Option Addr) (c' :Nat) (m2:Mem) (h1:m1.le m2) (h2:1<=c') (h3:aw m2 a' 1 4 [.int .i64 t.dim,.int .u8 t.base,.string (bs t.name),.string (bs s)])=>Kj t s hT hl (aa l1 (.inr h1)) h3 (by rw[h0];rfl) (by rw[h0];rfl) h2
    have hW:=D3 (S:=S) t s;have fE:S.loc.length=0:=by rw[h0];rfl
    first
     |refine⟨⟨l1,l1,l1⟩,yE (by omega) (by decide),tO 8 rfl rfl ⟨[],[]⟩ (List.nil_sublist _) (List.nil_sublist _) fun a' c' m2 h1 h2 h3=>⟨aa l1 (.inr h1),rfl,a',c',?_,hQ a' c' m2 h1 h2 h3⟩⟩
      rw[hW,fE];rfl
     |refine⟨yE (by omega) (by decide),tO 8 rfl rfl ⟨[],[]⟩ (List.nil_sublist _) (List.nil_sublist _) fun a' c' m2 h1 h2 h3=>⟨aa l1 (.inr h1),rfl,a',c',?_,hQ a' c' m2 h1 h2 h3⟩⟩
      rw[hW,fE];rfl
   ·simp only[go_sem];have hQ:=fun(a' :Option Addr) (c' :Nat) (m2:Mem) (h1:m1.le m2) (h2:S.loc.length+1<=c') (h3:aw m2 a' (S.loc.length+1) 4 (flat Pc.cs S.loc++[.int .i64 t.dim,.int .u8 t.base,.string (bs t.name),.string (bs s)]))=>Kj t s hT hl (aa l1 (.inr h1)) h3 rfl (by rw[xW];rfl) h2
    have hW:=D3 (S:=S) t s;first
     |refine⟨⟨l1,l1,l1⟩,yE (by omega) (by decide),tO (b:=⟨3,u+1,95,4,S.loc.length+1,flat Pc.cs S.loc++[.int .i64 t.dim,.int .u8 t.base,.string (bs t.name),.string (bs s)]⟩) 8 rfl (by simp [cz]) ⟨[],[]⟩ (List.nil_sublist _) (List.nil_sublist _) fun a' c' m2 h1 h2 h3=>⟨aa l1 (.inr h1),rfl,a',c',?_,hQ a' c' m2 h1 h2 h3⟩⟩
      rw[hW];rfl
     |refine⟨yE (by omega) (by decide),tO (b:=⟨4,u+1,95,4,S.loc.length+1,flat Pc.cs S.loc++[.int .i64 t.dim,.int .u8 t.base,.string (bs t.name),.string (bs s)]⟩) 8 rfl (by simp [cz]) ⟨[],[]⟩ (List.nil_sublist _) (List.nil_sublist _) fun a' c' m2 h1 h2 h3=>⟨aa l1 (.inr h1),rfl,a',c',?_,hQ a' c' m2 h1 h2 h3⟩⟩
      rw[hW];rfl
end
section
variable {S:Sc} {E:List Cd} {ad:Addr} {da:Option Addr} {dc:Nat} {la:Option Addr} {lc:Nat} {b:Nat} {a:Option Addr} {c:Nat} {L:List Cc}
theorem Tp.su {m:Mem} (h:Tp m S E ad da dc la lc b a c L):Tp m {S with su:=true} E ad da dc la lc b a c L:=⟨h.ck,h.pr,h.ci,h.loc,h.lcp,h.ll⟩
theorem EF (hE:dy E) (hS:dW S.loc) (l:List Ex) (xs:List Value) (ea:Option Addr) (n cp:Nat) (m:Mem) (hT:Tp m S E ad da dc la lc b a c L) (hr:aw m ea n 8 xs) (hn:n=l.length) (hb:n<=ay) (cJ:dI m l xs) (hv:kV l=true):
  FnH Tryz.prog 166 [.v (.agg ⟨av ad da dc S la lc⟩),.v (.slice ea n cp)] ⟨[],[]⟩ m
   fun r H' m' =>af m m' /\H' =⟨[],[]⟩/\r= .v (.int .i64 (iE E S l)):=by
 have hO:=On (S:={S with su:=true}) hE hS l xs ea n cp m hT.su hr hn hb cJ hv;have hR:iE E S l=if S.st=true then 72 else if(cK E {S with su:=true} l).2=0 then n9 E S (dh S).super (cK E {S with su:=true} l).1 else(cK E {S with su:=true} l).2:=rfl
 revert hO hR;generalize cK E {S with su:=true} l=K
 generalize iE E S l=R
 unfold av;intro hO hR;refine enter bb aq Tryz.func166 rfl rfl (by kernel_rfl) rfl ?_ ?_
 ·clear hO;simp only[go_sem]
 ·by_cases hs:S.st=true
  ·rw[ak hs] at hR;clear hO;simp only[go_sem,hs,fR,and_self];exact hR.symm
  ·rw[ae hs] at hR;have hs:=(Bool.not_eq_true _).mp hs;simp only[go_sem,hs];simp only[hs] at hO;refine ai ((aD hO fun V=>rfl).mono ?_);clear hO;rintro r H' m1 aR ⟨l1,rfl,ta,tc,ht,rfl⟩;have bE:=eq_true l1;by_cases hz:K.2=0
   ·rw[ak hz] at hR;simp only[go_sem,hz,bE,and_self];refine bZ (.hoist 0 (.hoist 1 (.hoist 4 (.alt 2 [4,0] (.hoist 3 (.alt 5 [] (.hoist 6 .done) .stop)) .stop)))) aq (by kernel_rfl) (by kernel_rfl) ?_;simp only[go_sem];have gk:=Hu m1 (hT.up l1);have ry:=J6 (dh S).super K.1 ta K.1.length tc m1 (hT.up l1) ht;unfold av at gk ry;simp only[hs] at gk ry;refine ai ((aD gk fun V=>rfl).mono ?_);clear gk;rintro r H' m2 aK ⟨rfl,rfl,X,rfl,hX⟩;simp only[go_sem,Cc.cs];rw[<- hX.sup] at ry hR;refine ai ((aD ry fun V=>rfl).mono ?_);clear ry;rintro r H' m3 cA ⟨l3,rfl,rfl⟩;have oC:=eq_true (aa l1 l3);simp only[go_sem,oC,and_self];exact hR.symm
   ·rw[ae hz] at hR;simp only[go_sem,hz,bE,and_self];exact hR.symm
end
def jo (m:Mem) (v:Int) (r:SV) (H' :Hp) (m' :Mem):Prop:=af m m' /\H' =⟨[],[]⟩/\r= .v (.int .i64 v)
def BlkC (m:Mem) (E:List Cd) (S:Sc) (ad:Addr) (da:Option Addr) (dc:Nat) (b:Nat) (a:Option Addr) (c:Nat) (L:List Cc) (l:List St) (sa:Option Addr) (n sc:Nat):Prop:=
 ∀la lc m',af m m' ->Tp m' S E ad da dc la lc b a c L->FnH Tryz.prog 167 [.v (.agg ⟨av ad da dc S la lc⟩),.v (.slice sa n sc)] ⟨[],[]⟩ m' (jo m' (bU E S false l))
theorem BlkC.up {m m1:Mem} {E:List Cd} {S:Sc} {ad:Addr} {da:Option Addr} {dc:Nat} {b:Nat} {a:Option Addr} {c:Nat} {L:List Cc} {l:List St} {sa:Option Addr} {n sc:Nat} (hle:af m m1)
  (h:BlkC m E S ad da dc b a c L l sa n sc):BlkC m1 E S ad da dc b a c L l sa n sc:=fun la lc m' h1 h2=>h la lc m' (aa hle h1) h2
section
variable {S:Sc} {E:List Cd} {ad:Addr} {da:Option Addr} {dc:Nat} {la:Option Addr} {lc:Nat} {b:Nat} {a:Option Addr} {c:Nat} {L:List Cc}
theorem PJ (X:Sd) (body alt:List St) (m:Mem) (hT:Tp m S E ad da dc la lc b a c L) (hB:BlkC m E S ad da dc b a c L body X.a X.l X.cp) (hA:BlkC m E S ad da dc b a c L alt X.b X.l2 X.cp2):
  FnH Tryz.prog 271 [.v (.agg ⟨av ad da dc S la lc⟩),.v (.agg ⟨X.cs⟩)] ⟨[],[]⟩ m (jo m (if bU E S false body=0 then bU E S false alt else bU E S false body)):=by
 have hB:=hB la lc m (.inl rfl) hT;have hA:=fun m' (hle:af m m')=>hA la lc m' hle (hT.up hle)
 revert hB hA;generalize bU E S false body=B
 generalize bU E S false alt=A
 unfold av;intro hB hA;refine enter bb aq Tryz.func271 rfl rfl (by kernel_rfl) rfl ?_ ?_
 ·clear hB hA;simp only[go_sem,Sd.cs]
 ·simp only[go_sem,Sd.cs];refine ai ((aD hB fun V=>rfl).mono ?_);clear hB;rintro r H' m1 aR ⟨l1,rfl,rfl⟩;by_cases hz:B=0
  ·have hA:=hA m1 l1;simp only[go_sem,hz];refine ai ((aD hA fun V=>rfl).mono ?_);clear hA;rintro r H' m2 aK ⟨l2,rfl,rfl⟩;simp only[go_sem];exact⟨aa l1 l2,rfl,by first |rfl |rw[ak hz]⟩
  ·clear hA;simp only[go_sem,hz];exact⟨l1,rfl,by first |rfl |rw[ae hz]⟩
theorem ON (X:Sd) (body alt:List St) (m:Mem) (hT:Tp m S E ad da dc la lc b a c L) (hl:S.loc.length<2000000000) (hB:BlkC m E S ad da dc b a c L body X.a X.l X.cp) (hA:BlkC m E (iY S X.ty X.name) ad da dc b a c L alt X.b X.l2 X.cp2):
  FnH Tryz.prog 220 [.v (.agg ⟨av ad da dc S la lc⟩),.v (.agg ⟨X.cs⟩)] ⟨[],[]⟩ m
   (jo m (if fW E S X.ty X.name=0 then(if cD E X.ty (cG jh)=true then(if bU E S false body=0 then bU E (iY S X.ty X.name) false alt else bU E S false body) else 73) else fW E S X.ty X.name)):=by
 have hV:=Kk X m hT;have hB:=fun m' (hle:af m m')=>hB la lc m' hle (hT.up hle)
 have hW:=fun m' (hle:af m m')=>I4 X.ty X.name m' (hT.up hle) hl
 have aS:=fun m' (hle:af m m')=>(hT.up hle).ck.chk
 have hR:(if fW E S X.ty X.name=0 then(if cD E X.ty (cG jh)=true then(if bU E S false body=0 then bU E (iY S X.ty X.name) false alt else bU E S false body) else 73) else fW E S X.ty X.name)=_:=rfl;revert hB hA hW hV hR;generalize hRR:(if fW E S X.ty X.name=0 then(if cD E X.ty (cG jh)=true then(if bU E S false body=0 then bU E (iY S X.ty X.name) false alt else bU E S false body) else 73) else fW E S X.ty X.name)=R
 unfold BlkC;revert hRR;generalize bU E S false body=B
 generalize bU E (iY S X.ty X.name) false alt=A
 generalize fW E S X.ty X.name=v
 unfold av;intro hR hA hV hB hW _;refine enter (cO S E) (bM S E) Tryz.func220 rfl rfl (by kernel_rfl) rfl ?_ ?_
 ·clear hV hB hA hW;simp only[go_sem,Sd.cs]
 ·simp only[go_sem,Sd.cs];refine ai ((aD hV fun V=>rfl).mono ?_);clear hV;rintro r H' m1 aR ⟨l1,rfl,rfl⟩;by_cases hz:v=0
  ·rw[ak hz] at hR;have aS:=aS m1 l1;simp only[go_sem,hz];refine vO (bM S E) (by kernel_rfl) (by kernel_rfl) (by kernel_rfl) ?_;simp only[go_sem,aS,aB,cG];refine⟨fun h0=> ?_,fun h0=> ?_⟩
   ·clear hB hA hW;rw[ae (by rw[show cD E X.ty (cG jh)=false from h0];decide)] at hR;exact⟨l1,rfl,by rw[hR]⟩
   ·rw[ak (show cD E X.ty (cG jh)=true from h0)] at hR;have hB:=hB m1 l1;refine ai ((aD hB fun V=>rfl).mono ?_);clear hB;rintro r H' m2 aK ⟨l2,rfl,rfl⟩;have jr:=aa l1 l2;by_cases hw:B=0
    ·rw[ak hw] at hR;have hW:=hW m2 jr;simp only[go_sem,hw];refine bZ (.hoist 0 (.hoist 1 (.hoist 2 (.hoist 3 (.hoist 4 (.hoist 6 (.hoist 7 (.alt 5 [7,6] (.alt 8 [] (.hoist 9 .done) .stop) .stop)))))))) (bM S E) (by kernel_rfl) (by kernel_rfl) ?_;simp only[go_sem];refine ai ((aD hW fun V=>rfl).mono ?_);clear hW;rintro r H' m3 cA ⟨l3,rfl,xl,xj,rfl,hT'⟩;have hA:=hA xl xj m3 (aa jr l3) hT';simp only[go_sem,av,aG,List.map_nil];refine⟨⟨l3,l3⟩,by kernel_rfl,bD ((aD hA fun V=>rfl).mono ?_)⟩;clear hA;rintro r H' m4 gW ⟨l4,rfl,rfl⟩;simp only[go_sem];exact⟨aa (aa jr l3) l4,rfl,by rw[hR]⟩
    ·clear hA hW;rw[ae hw] at hR;simp only[go_sem,hw];exact⟨jr,rfl,by rw[hR]⟩
  ·clear hB hA hW;rw[ae hz] at hR;simp only[go_sem,hz];exact⟨l1,rfl,by rw[hR]⟩
theorem Q8 (X:Sd) (body:List St) (m:Mem) (hT:Tp m S E ad da dc la lc b a c L) (hk:X.k=10) (hB:BlkC m E S ad da dc b a c L body X.a X.l X.cp):
  FnH Tryz.prog 221 [.v (.agg ⟨av ad da dc S la lc⟩),.v (.agg ⟨X.cs⟩)] ⟨[],[]⟩ m (jo m (bU E S false body)):=by
 have d10:decide (X.k=10)=true:=aQ hk;have hB:=hB la lc m (.inl rfl) hT;revert hB;generalize bU E S false body=B
 unfold av;intro hB;refine enter (cO S E) (bM S E) Tryz.func221 rfl rfl (by kernel_rfl) rfl ?_ ?_
 ·clear hB;simp only[go_sem,Sd.cs]
 ·simp only[go_sem,Sd.cs,d10];refine ai ((aD hB fun V=>rfl).mono ?_);clear hB;rintro r H' m1 aR ⟨l1,rfl,rfl⟩;simp only[go_sem];exact⟨l1,rfl,rfl⟩
theorem VC (hE:dy E) (hS:dW S.loc) (X:Sd) (ex:Ex) (body alt:List St) (m:Mem) (hT:Tp m S E ad da dc la lc b a c L) (hk:X.k≠10) (hex:a8 m ex X.ex.cs) (hv:de ex=true) (hB:BlkC m E S ad da dc b a c L body X.a X.l X.cp) (hA:BlkC m E S ad da dc b a c L alt X.b X.l2 X.cp2):
  FnH Tryz.prog 221 [.v (.agg ⟨av ad da dc S la lc⟩),.v (.agg ⟨X.cs⟩)] ⟨[],[]⟩ m
   (jo m (if(bW E S ex).2=0 then
    (if(if X.k=9 then eb (bW E S ex).1 else Ty.eq (bW E S ex).1 cr)=true then(if bU E S false body=0 then bU E S false alt else bU E S false body) else 73)
   else(bW E S ex).2)):=by
 have d10:decide (X.k=10)=false:=ab hk;have hX:=tI hE hS ex X.ex.cs m hT hex hv;have hC:=fun m' (hle:af m m')=>PJ X body alt m' (hT.up hle) (hB.up hle) (hA.up hle)
 generalize hRR:(if(bW E S ex).2=0 then
    (if(if X.k=9 then eb (bW E S ex).1 else Ty.eq (bW E S ex).1 cr)=true then(if bU E S false body=0 then bU E S false alt else bU E S false body) else 73)
   else(bW E S ex).2)=R
 revert hX hC hRR;generalize (if bU E S false body=0 then bU E S false alt else bU E S false body)=v
 generalize bW E S ex=x
 clear hB hA;unfold av;intro hX hC hR;refine enter (cO S E) (bM S E) Tryz.func221 rfl rfl (by kernel_rfl) rfl ?_ ?_
 ·clear hX hC;simp only[go_sem,Sd.cs,Nd.cs]
 ·simp only[go_sem,Sd.cs,Nd.cs,d10];refine ai ((aD hX fun V=>rfl).mono ?_);clear hX;rintro r H' m1 aR ⟨l1,rfl,rfl⟩;have bE:=eq_true l1;simp only[go_sem,bE,and_self];refine vO (bM S E) (by kernel_rfl) (by kernel_rfl) (by kernel_rfl) ?_;have hC:=hC m1 l1;by_cases k9:X.k=9
  ·have d9:decide (X.k=9)=true:=aQ k9;rw[ak k9] at hR;simp only[go_sem,aB,dD,cr,d9,bE,and_self];refine⟨fun h=>⟨fun _=> ?_,fun q=>absurd q (by decide)⟩,fun h=>⟨fun hn=> ?_,fun h0=>ai ((aD hC fun V=>rfl).mono ?_)⟩⟩
   ·clear hC;rw[ak h.1,ae (by rw[show eb x.1=false from h.2];decide)] at hR;exact⟨l1,rfl,by rw[<- hR]⟩
   ·clear hC;rw[ae hn] at hR;exact⟨l1,rfl,by rw[<- hR]⟩
   ·clear hC;rw[ak h0,ak (show eb x.1=true from h.resolve_left fun q=>q h0)] at hR;rintro r H' m2 aK ⟨l2,rfl,rfl⟩;have cd:=eq_true (aa l1 l2);simp only[go_sem,cd,bE,and_self];exact⟨aa l1 l2,rfl,by rw[<- hR]⟩
  ·have d9:decide (X.k=9)=false:=ab k9;rw[ae k9] at hR;simp only[go_sem,aB,dD,cr,d9,bE,and_self];refine⟨fun h=>⟨fun _=> ?_,fun q=>absurd q (by decide)⟩,fun h=>⟨fun hn=> ?_,fun h0=>ai ((aD hC fun V=>rfl).mono ?_)⟩⟩
   ·clear hC;rw[ak h.1,ae (by rw[yz (wg h.2)];decide)] at hR;exact⟨l1,rfl,by rw[<- hR]⟩
   ·clear hC;rw[ae hn] at hR;exact⟨l1,rfl,by rw[<- hR]⟩
   ·clear hC;rw[ak h0,ak ((sD _ _).2 (h.resolve_left fun q=>q h0))] at hR;rintro r H' m2 aK ⟨l2,rfl,rfl⟩;have cd:=eq_true (aa l1 l2);simp only[go_sem,cd,bE,and_self];exact⟨aa l1 l2,rfl,by rw[<- hR]⟩
end
section
variable {S:Sc} {E:List Cd} {ad:Addr} {da:Option Addr} {dc:Nat} {la:Option Addr} {lc:Nat} {b:Nat} {a:Option Addr} {c:Nat} {L:List Cc}
theorem ZK (hE:dy E) (hS:dW S.loc) (X:Sd) (m:Mem) (hT:Tp m S E ad da dc la lc b a c L) (hk:X.k=2) (tg ex:Ex) (cT:a8 m tg X.tg.cs) (hex:a8 m ex X.ex.cs) (v1:de tg=true) (v2:de ex=true):
  FnH Tryz.prog 120 [.v (.agg ⟨av ad da dc S la lc⟩),.v (.agg ⟨X.cs⟩)] ⟨[],[]⟩ m (jo m (if(bW E S tg).2=0 then ik E S ex (bW E S tg).1 else(bW E S tg).2)):=by
 have d2:decide (X.k=2)=true:=aQ hk;have hX:=tI hE hS tg X.tg.cs m hT cT v1;have hV:=fun m' (hle:af m m')=>DG hE hS ex X.ex (bW E S tg).1 m' (hT.up hle) (bY hle hex) v2
 revert hX hV;generalize ik E S ex (bW E S tg).1=v
 generalize bW E S tg=x
 unfold av;intro hX hV;refine enter (cO S E) (bM S E) Tryz.func120 rfl rfl (by kernel_rfl) rfl ?_ ?_
 ·clear hX hV;simp only[go_sem,Sd.cs,Nd.cs]
 ·simp only[go_sem,Sd.cs,Nd.cs,d2];refine ai ((aD hX fun V=>rfl).mono ?_);clear hX;rintro r H' m1 aR ⟨l1,rfl,rfl⟩;by_cases hz:x.2=0
  ·have hV:=hV m1 l1;simp only[go_sem,hz];refine ai ((aD hV fun V=>rfl).mono ?_);clear hV;rintro r H' m2 aK ⟨l2,rfl,rfl⟩;simp only[go_sem];exact⟨aa l1 l2,rfl,by first |rfl |rw[ak hz]⟩
  ·clear hV;simp only[go_sem,hz];exact⟨l1,rfl,by first |rfl |rw[ae hz]⟩
theorem ZJ (hE:dy E) (hS:dW S.loc) (X:Sd) (m:Mem) (hT:Tp m S E ad da dc la lc b a c L) (hk:X.k=3) (ex:Ex) (hex:a8 m ex X.ex.cs) (v2:de ex=true):
  FnH Tryz.prog 120 [.v (.agg ⟨av ad da dc S la lc⟩),.v (.agg ⟨X.cs⟩)] ⟨[],[]⟩ m (jo m ((bW E S ex).2)):=by
 have d2:decide (X.k=2)=false:=ab (by omega);have d3:decide (X.k=3)=true:=aQ hk;have hX:=tI hE hS ex X.ex.cs m hT hex v2;revert hX;generalize bW E S ex=x
 unfold av;intro hX;refine enter (cO S E) (bM S E) Tryz.func120 rfl rfl (by kernel_rfl) rfl ?_ ?_
 ·clear hX;simp only[go_sem,Sd.cs,Nd.cs]
 ·simp only[go_sem,Sd.cs,Nd.cs,d2,d3];refine ai ((aD hX fun V=>rfl).mono ?_);clear hX;rintro r H' m1 aR ⟨l1,rfl,rfl⟩;simp only[go_sem];exact⟨l1,rfl,rfl⟩
theorem ZH (hE:dy E) (hS:dW S.loc) (X:Sd) (m:Mem) (hT:Tp m S E ad da dc la lc b a c L) (hk:X.k=7) (ex:Ex) (hex:a8 m ex X.ex.cs) (v2:de ex=true):
  FnH Tryz.prog 120 [.v (.agg ⟨av ad da dc S la lc⟩),.v (.agg ⟨X.cs⟩)] ⟨[],[]⟩ m (jo m (ik E S ex (cG jh))):=by
 have d2:decide (X.k=2)=false:=ab (by omega);have d3:decide (X.k=3)=false:=ab (by omega);have d7:decide (X.k=7)=true:=aQ hk;have hV:=fun m' (hle:af m m')=>DG hE hS ex X.ex (cG jh) m' (hT.up hle) (bY hle hex) v2
 revert hV;generalize ik E S ex (cG jh)=v
 unfold av;intro hV;refine enter (cO S E) (bM S E) Tryz.func120 rfl rfl (by kernel_rfl) rfl ?_ ?_
 ·clear hV;simp only[go_sem,Sd.cs,Nd.cs]
 ·simp only[go_sem,Sd.cs,Nd.cs,d2,d3,d7];refine bZ (.hoist 0 (.hoist 1 (.hoist 2 (.alt 3 [2,1,0] (.alt 4 [] (.hoist 5 .done) .stop) .stop)))) (bM S E) (by kernel_rfl) (by kernel_rfl) ?_;simp only[go_sem];have hV:=hV m (.inl rfl);refine ai ((aD hV fun V=>rfl).mono ?_);clear hV;rintro r H' m1 aR ⟨l1,rfl,rfl⟩;have bE:=eq_true l1;simp only[go_sem,bE,and_self];exact⟨l1,rfl,rfl⟩
theorem ZI (hE:dy E) (hS:dW S.loc) (X:Sd) (m:Mem) (hT:Tp m S E ad da dc la lc b a c L) (hk:X.k=6) (ex:Ex) (hex:a8 m ex X.ex.cs) (v2:ex.kd=0\/de ex=true):
  FnH Tryz.prog 120 [.v (.agg ⟨av ad da dc S la lc⟩),.v (.agg ⟨X.cs⟩)] ⟨[],[]⟩ m (jo m (ui E S ex)):=by
 have d2:decide (X.k=2)=false:=ab (by omega);have d3:decide (X.k=3)=false:=ab (by omega);have d7:decide (X.k=7)=false:=ab (by omega);have d6:decide (X.k=6)=true:=aQ hk;have hX:=fun h=>tI hE hS ex X.ex.cs m hT hex h
 have xy:X.ex.k=ex.kd:=by
  cases ex with
  |mk k n s c ty args=>
   obtain⟨y,h1,h2,_⟩:=rM hex;rw[BD h1,h2];rfl
 have aS:=fun m' (hle:af m m')=>(hT.up hle).ck.chk
 have hR:ui E S ex=if ex.kd=0 then(if S.res.base=86 then 0 else 73) else if(bW E S ex).2=0/\(S.res.base=86\/cD E (bW E S ex).1 S.res=false) then 73 else(bW E S ex).2:=rfl
 rw[<- xy] at hR v2;revert hX hR;generalize ui E S ex=R
 generalize bW E S ex=x
 unfold av;intro hX hR;refine enter (cO S E) (bM S E) Tryz.func120 rfl rfl (by kernel_rfl) rfl ?_ ?_
 ·clear hX;simp only[go_sem,Sd.cs,Nd.cs]
 ·simp only[go_sem,Sd.cs,Nd.cs,d2,d3,d7,d6];by_cases hn:X.ex.k=0
  ·clear hX;rw[ak hn] at hR;have fE:decide (X.ex.k=0)=true:=aQ hn;simp only[go_sem,hn];refine⟨fun h=> ?_,fun h=> ?_⟩
   ·rw[ae h] at hR;subst hR;exact⟨.inl rfl,rfl,rfl⟩
   ·rw[ak h] at hR;subst hR;exact⟨.inl rfl,rfl,rfl⟩
  ·have hX:=hX (v2.resolve_left hn);rw[ae hn] at hR;simp only[go_sem,hn];refine ai ((aD hX fun V=>rfl).mono ?_);clear hX;rintro r H' m1 aR ⟨l1,rfl,rfl⟩;have aS:=aS m1 l1;have bE:=eq_true l1;simp only[go_sem,aS,bE,and_self];refine⟨fun h=> ?_,fun h=> ?_⟩
   ·rw[ak (show _/\(_\/cD E x.1 S.res=false) from h)] at hR;subst hR;exact⟨l1,rfl,rfl⟩
   ·rw[ae] at hR
    ·subst hR;exact⟨l1,rfl,rfl⟩
    ·rintro⟨q1,q2⟩;rcases h with h |⟨h1,h2⟩
     ·exact h q1
     ·rcases q2 with q2 |q2
      ·exact h1 q2
      ·rw[show cD E x.1 S.res=true from h2] at q2;cases q2
theorem ZG (hE:dy E) (hS:dW S.loc) (X:Sd) (m:Mem) (hT:Tp m S E ad da dc la lc b a c L) (hk:X.k=8) (v:Int) (hG:FnH Tryz.prog 220 [.v (.agg ⟨av ad da dc S la lc⟩),.v (.agg ⟨X.cs⟩)] ⟨[],[]⟩ m (jo m v)):
  FnH Tryz.prog 120 [.v (.agg ⟨av ad da dc S la lc⟩),.v (.agg ⟨X.cs⟩)] ⟨[],[]⟩ m (jo m (v)):=by
 have d2:decide (X.k=2)=false:=ab (by omega);have d3:decide (X.k=3)=false:=ab (by omega);have d7:decide (X.k=7)=false:=ab (by omega);have d6:decide (X.k=6)=false:=ab (by omega);have d8:decide (X.k=8)=true:=aQ hk;revert hG;unfold av;intro hG;refine enter (cO S E) (bM S E) Tryz.func120 rfl rfl (by kernel_rfl) rfl ?_ ?_
 ·clear hG;simp only[go_sem,Sd.cs,Nd.cs]
 ·simp only[go_sem,Sd.cs,Nd.cs,d2,d3,d7,d6,d8];refine ai ((aD hG fun V=>rfl).mono ?_);clear hG;rintro r H' m1 aR ⟨l1,rfl,rfl⟩;simp only[go_sem];exact⟨l1,rfl,rfl⟩
theorem Ya (hE:dy E) (hS:dW S.loc) (X:Sd) (m:Mem) (hT:Tp m S E ad da dc la lc b a c L) (hk:X.k=11) (v:Int) (hG:FnH Tryz.prog 166 [.v (.agg ⟨av ad da dc S la lc⟩),.v (.slice X.ex.a X.ex.l X.ex.cp)] ⟨[],[]⟩ m (jo m v)):
  FnH Tryz.prog 120 [.v (.agg ⟨av ad da dc S la lc⟩),.v (.agg ⟨X.cs⟩)] ⟨[],[]⟩ m (jo m (v)):=by
 have d2:decide (X.k=2)=false:=ab (by omega);have d3:decide (X.k=3)=false:=ab (by omega);have d7:decide (X.k=7)=false:=ab (by omega);have d6:decide (X.k=6)=false:=ab (by omega);have d8:decide (X.k=8)=false:=ab (by omega);have d11:decide (X.k=11)=true:=aQ hk;revert hG;unfold av;intro hG;refine enter (cO S E) (bM S E) Tryz.func120 rfl rfl (by kernel_rfl) rfl ?_ ?_
 ·clear hG;simp only[go_sem,Sd.cs,Nd.cs]
 ·simp only[go_sem,Sd.cs,Nd.cs,d2,d3,d7,d6,d8,d11];refine ai ((aD hG fun V=>rfl).mono ?_);clear hG;rintro r H' m1 aR ⟨l1,rfl,rfl⟩;simp only[go_sem];exact⟨l1,rfl,rfl⟩
theorem Mo (hE:dy E) (hS:dW S.loc) (X:Sd) (m:Mem) (hT:Tp m S E ad da dc la lc b a c L) (hk:X.k≠2/\X.k≠3/\X.k≠7/\X.k≠6/\X.k≠8/\X.k≠11) (v:Int) (hG:FnH Tryz.prog 221 [.v (.agg ⟨av ad da dc S la lc⟩),.v (.agg ⟨X.cs⟩)] ⟨[],[]⟩ m (jo m v)):
  FnH Tryz.prog 120 [.v (.agg ⟨av ad da dc S la lc⟩),.v (.agg ⟨X.cs⟩)] ⟨[],[]⟩ m (jo m (v)):=by
 have d2:decide (X.k=2)=false:=ab (by omega);have d3:decide (X.k=3)=false:=ab (by omega);have d7:decide (X.k=7)=false:=ab (by omega);have d6:decide (X.k=6)=false:=ab (by omega);have d8:decide (X.k=8)=false:=ab (by omega);have d11:decide (X.k=11)=false:=ab (by omega);revert hG;unfold av;intro hG;refine enter (cO S E) (bM S E) Tryz.func120 rfl rfl (by kernel_rfl) rfl ?_ ?_
 ·clear hG;simp only[go_sem,Sd.cs,Nd.cs]
 ·simp only[go_sem,Sd.cs,Nd.cs,d2,d3,d7,d6,d8,d11];refine ai ((aD hG fun V=>rfl).mono ?_);clear hG;rintro r H' m1 aR ⟨l1,rfl,rfl⟩;simp only[go_sem];exact⟨l1,rfl,rfl⟩
end
def M7 (ad:Addr) (da:Option Addr) (dc:Nat) (S:Sc) (la:Option Addr) (lc:Nat):SV:=
 .agg [.v (.pointer (some ad)),.v (.slice da S.pr.length dc),.v (.int .i64 S.ci),.v (.bool S.st),.v (.bool S.su),.v (.int .i64 S.res.dim),.v (.int .u8 S.res.base),.v (.string (bs S.res.name)),.v (.slice la S.loc.length lc)]
attribute [go_sem] M7.eq_1
def zF (m:Mem) (E:List Cd) (ad:Addr) (da:Option Addr) (dc:Nat) (b:Nat) (a:Option Addr) (c:Nat) (L:List Cc) (x:Sc×Int) (r:SV) (H' :Hp) (m' :Mem):Prop:=
 af m m' /\H' =⟨[],[]⟩/\∃la lc,Tp m' x.1 E ad da dc la lc b a c L/\r= .tup [M7 ad da dc x.1 la lc,.v (.int .i64 x.2)]
section
variable {S:Sc} {E:List Cd} {ad:Addr} {da:Option Addr} {dc:Nat} {la:Option Addr} {lc:Nat} {b:Nat} {a:Option Addr} {c:Nat} {L:List Cc}
theorem YL (X:Sd) (m:Mem) (hT:Tp m S E ad da dc la lc b a c L) (hk:X.k≠1) (v:Int) (hC:FnH Tryz.prog 120 [.v (.agg ⟨av ad da dc S la lc⟩),.v (.agg ⟨X.cs⟩)] ⟨[],[]⟩ m (jo m v)):
  FnH Tryz.prog 57 [.v (.agg ⟨av ad da dc S la lc⟩),.v (.agg ⟨X.cs⟩)] ⟨[],[]⟩ m (zF m E ad da dc b a c L (S,v)):=by
 have d1:decide (X.k=1)=false:=ab hk;revert hC;unfold av;intro hC;refine enter bb aq Tryz.func57 rfl rfl (by kernel_rfl) rfl ?_ ?_
 ·clear hC;simp only[go_sem,Sd.cs,Nd.cs]
 ·simp only[go_sem,Sd.cs,Nd.cs,d1];refine bZ (.hoist 0 (.hoist 1 (.hoist 2 (.alt 3 [0] (.alt 4 [] (.hoist 5 .done) .stop) .stop)))) aq (by kernel_rfl) (by kernel_rfl) ?_;simp only[go_sem];refine ai ((aD hC fun V=>rfl).mono ?_);clear hC;rintro r H' m1 aR ⟨l1,rfl,rfl⟩;have bE:=eq_true l1;simp only[go_sem,bE,and_self];exact⟨l1,rfl,la,lc,hT.up l1,rfl⟩
theorem YM (hE:dy E) (hS:dW S.loc) (X:Sd) (ex:Ex) (m:Mem) (hT:Tp m S E ad da dc la lc b a c L) (hk:X.k=1) (hl:S.loc.length<2000000000) (hex:a8 m ex X.ex.cs) (hv:de ex=true):
  FnH Tryz.prog 57 [.v (.agg ⟨av ad da dc S la lc⟩),.v (.agg ⟨X.cs⟩)] ⟨[],[]⟩ m
   (zF m E ad da dc b a c L (if fW E S X.ty X.name=0 then(if ik E S ex X.ty=0 then(iY S X.ty X.name,0) else(S,ik E S ex X.ty)) else(S,fW E S X.ty X.name))):=by
 have d1:decide (X.k=1)=true:=aQ hk;have hV:=Kk X m hT;have hX:=fun m' (hle:af m m')=>DG hE hS ex X.ex X.ty m' (hT.up hle) (bY hle hex) hv
 have hW:=fun m' (hle:af m m')=>I4 X.ty X.name m' (hT.up hle) hl
 generalize hRR:(if fW E S X.ty X.name=0 then(if ik E S ex X.ty=0 then(iY S X.ty X.name,(0:Int)) else(S,ik E S ex X.ty)) else(S,fW E S X.ty X.name))=R
 revert hV hX hRR;generalize fW E S X.ty X.name=v
 generalize ik E S ex X.ty=x
 unfold av at hW ⊢;intro hV hX hR;refine enter bb aq Tryz.func57 rfl rfl (by kernel_rfl) rfl ?_ ?_
 ·clear hV hX hW;simp only[go_sem,Sd.cs,Nd.cs]
 ·simp only[go_sem,Sd.cs,Nd.cs,d1];refine ai ((aD hV fun V=>rfl).mono ?_);clear hV;rintro r H' m1 aR ⟨l1,rfl,rfl⟩;by_cases hz:v=0
  ·rw[ak hz] at hR;have hX:=hX m1 l1;simp only[go_sem,hz];refine ai ((aD hX fun V=>rfl).mono ?_);clear hX;rintro r H' m2 aK ⟨l2,rfl,rfl⟩;have jr:=aa l1 l2;by_cases hw:x=0
   ·rw[ak hw] at hR;have hW:=hW m2 jr;simp only[go_sem,hw];refine ai ((aD hW fun V=>rfl).mono ?_);clear hW;rintro r H' m3 cA ⟨l3,rfl,xl,xj,rfl,hT'⟩;simp only[go_sem];subst hR;exact⟨aa jr l3,rfl,xl,xj,hT',rfl⟩
   ·clear hW;rw[ae hw] at hR;simp only[go_sem,hw];subst hR;exact⟨jr,rfl,la,lc,hT.up jr,rfl⟩
  ·clear hX hW;rw[ae hz] at hR;simp only[go_sem,hz];subst hR;exact⟨l1,rfl,la,lc,hT.up l1,rfl⟩
end
theorem Mw {a:Option Addr} {c h z:Nat}:gE a c 0 h z= .slice a h c:=by
 unfold gE;rw[Nat.zero_mul,Nat.sub_zero,Nat.sub_zero];split
 ·rfl
 ·cases a with
  |none=>rfl
  |some ad=>rw[Option.map_some];congr 2
theorem Ro {m:Mem} {a:Option Addr} {n sz:Nat} {xs:List Value} (h:aw m a n sz xs) {i:Nat} (hi:i<=n):aw m a i sz (xs.take (i * sz)):=by
 have hm:i * sz<=n * sz:=Nat.mul_le_mul_right _ hi;refine⟨by rw[List.length_take,h.1];omega,fun h0=> ?_⟩;obtain⟨ad,h1,h2,h3⟩:=h.2 (by omega);exact⟨ad,h1,h2,fun j hj=>⟨by rw[List.getElem?_take,ak hj];exact(h3 j (by omega)).1,(h3 j (by omega)).2⟩⟩
theorem Ib {m:Mem}:∀{l:List St} {xs:List Value} {i:Nat},bL m l xs->bL m (l.take i) (xs.take (i * 23))
 |[],_,_,_=>by rw[List.take_nil,bL];trivial
 |_::_,_,0,_=>by rw[List.take_zero,bL];trivial
 |e::r,xs,i+1,h=>by
  rw[bL] at h;rw[List.take_succ_cons,bL];refine⟨?_,?_⟩
  ·rw[List.take_take,show min 23 ((i+1) * 23)=23 by omega];exact h.1
  ·rw[List.drop_take,show(i+1) * 23 - 23=i * 23 by omega];exact Ib h.2
theorem P4 {l:List St} {i:Nat} (hi:i<l.length):iZ (l.take (i+1))=wh l[i]:=by
 have h0:(l.take (i+1)).length=i+1:=by rw[List.length_take];omega
 rw[Dt _ (by omega)];congr 1
 simp only[h0,Nat.add_sub_cancel];rw[List.getElem_take]
section
variable {S:Sc} {E:List Cd} {ad:Addr} {da:Option Addr} {dc:Nat} {la:Option Addr} {lc:Nat} {b:Nat} {a:Option Addr} {c:Nat} {L:List Cc}
theorem Yb (B:Nat) (l:List St) (xs:List Value) (sa:Option Addr) (n sc:Nat) (m:Mem) (hr:aw m sa n 23 xs) (hn:n=l.length) (bQ:n<=sc) (hb:n<=ay) (cJ:bL m l xs)
  (hI:∀(i:Nat) (hi:i<l.length) (S:Sc) (la:Option Addr) (lc:Nat) (m' :Mem) (cs:List Value),af m m' ->Tp m' S E ad da dc la lc b a c L->dW S.loc->S.loc.length<=B+i->et m' l[i] cs->
   FnH Tryz.prog 57 [.v (.agg ⟨av ad da dc S la lc⟩),.v (.agg ⟨cs⟩)] ⟨[],[]⟩ m' (zF m' E ad da dc b a c L (iF E S l[i])))
  (hD:∀(i:Nat) (hi:i<l.length) (S:Sc),dW S.loc->dW (iF E S l[i]).1.loc/\(iF E S l[i]).1.loc.length<=S.loc.length+1)
  (hT:Tp m S E ad da dc la lc b a c L) (hS:dW S.loc) (hlen:S.loc.length<=B):
  FnH Tryz.prog 167 [.v (.agg ⟨av ad da dc S la lc⟩),.v (.slice sa n sc)] ⟨[],[]⟩ m (jo m (bU E S false l)):=by
 have hM:=fun(i:Nat) (hi:i<=n) (m' :Mem) (hle:af m m')=>A9 (ct (l.take i)) (l.take i) (xs.take (i * 23)) sa i sc m' (aC _) (Ro (aN hle hr) hi) (by rw[List.length_take];omega) (Ib (cL hle cJ)) (by omega)
 have rC:bU E S (iZ (l.take 0)) (l.drop 0)=bU E S false l:=by rw[List.drop_zero,List.take_zero,iZ]
 revert rC;generalize bU E S false l=K
 intro rC;refine enter bb aq Tryz.func167 rfl rfl (by kernel_rfl) rfl ?_ ?_
 ·clear hI hM;simp only[go_sem,av]
 ·unfold av at hI;simp only[go_sem,av];refine cq aq (fun y:Nat×Sc×Option Addr×Nat×Mem=>⟨[⟨4,[],.v (.int .i64 0)⟩,⟨11,[],.v (.int .i64 y.1)⟩,⟨10,[],.v (.int .i64 n)⟩,⟨9,[],.v (.slice sa n sc)⟩,⟨1,[],.v (.slice sa n sc)⟩,⟨2,[],.box 0 0⟩],[],[⟨0,87,[.v (.pointer (some ad)),.v (.slice da y.2.1.pr.length dc),.v (.int .i64 y.2.1.ci),.v (.bool y.2.1.st),.v (.bool y.2.1.su),.v (.int .i64 y.2.1.res.dim),.v (.int .u8 y.2.1.res.base),.v (.string (bs y.2.1.res.name)),.v (.slice y.2.2.1 y.2.1.loc.length y.2.2.2.1)]⟩],[],1,y.2.2.2.2⟩)
   (fun y=>af m y.2.2.2.2/\y.1<=n/\Tp y.2.2.2.2 y.2.1 E ad da dc y.2.2.1 y.2.2.2.1 b a c L/\dW y.2.1.loc/\y.2.1.loc.length<=B+y.1/\bU E y.2.1 (iZ (l.take y.1)) (l.drop y.1)=K) (fun y=>n - y.1) (0,S,la,lc,m) (by kernel_rfl) (fun _ _=>aZ rfl) (fun y hy=>hy.1) (fun _=> ?_) ?_ ⟨.inl rfl,aF _,hT,hS,hlen,rC⟩ ?_
  ·clear hI hM;simp only[go_sem]
  ·clear hI hM;simp only[go_sem];exact rfl
  ·rintro⟨i,S1,Gh,Gg,mm⟩ ⟨q1,q2,q3,q4,q5,q6⟩;dsimp only at q1 q2 q3 q4 q5 q6;by_cases aj:i<l.length
   ·have hc:((i:Int)<(n:Int))=True:=eq_true (by omega);rw[List.drop_eq_getElem_cons aj,bU] at q6;have hD:=hD i aj S1 q4;have hM:=hM i q2 mm q1;refine Exists.elim (EH (aN q1 hr) hn (cL q1 cJ) aj) fun X hX=> ?_
    have hI:=fun m' (hle:af mm m')=>hI i aj S1 Gh Gg m' X.cs (aa q1 hle) (q3.up hle) q4 q5 (xT hle hX.2.2)
    have aI:bS sa n (i:Int)=True:=eq_true ⟨by omega,by omega,hX.2.1⟩;have au:= @cC _ _ _ 23 hX.1 rfl;have eE:((i:Int)<=(sc:Int))=True:=eq_true (by omega);have Gr:=P4 aj;simp only[Sd.cs,Nd.cs] at au hI;revert hI hM hD q6;rw[<- Gr];generalize iF E S1 l[i]=x
    generalize iZ (l.take i)=t
    intro q6 hD hM hI;simp only[go_sem,hc,aI,au,eE,Mw];refine⟨⟨Int.le_refl _,Int.natCast_nonneg _⟩,by kernel_rfl,bD (hM.mono ?_)⟩;clear hM;rintro r H' m1 aR ⟨rfl,rfl⟩;cases t with
    |true=>
     rw[ak rfl] at q6;clear hI;simp only[go_sem];exact⟨aa q1 (.inr aR),rfl,by rw[q6]⟩
    |false=>
     rw[ae (by decide)] at q6;have hI:=hI m1 (.inr aR);simp only[go_sem,au];refine ai ((aD hI fun V=>rfl).mono ?_);clear hI;rintro r H' m2 aK ⟨l2,rfl,la2,lc2,rA,rfl⟩;have jr:=aa q1 (aa (.inr aR) l2);by_cases hz:x.2=0
     ·rw[ak hz] at q6;simp only[go_sem,hz];refine⟨by unfold az;unfold ay at hb;omega,(i+1,x.1,la2,lc2,m2),?_,⟨jr,by omega,rA,hD.1,by have:=hD.2;dsimp only;omega,q6⟩,by omega⟩;exact⟨rfl,⟨rfl,rfl,rfl,rfl,rfl,rfl,rfl,rfl⟩,.inl rfl⟩
     ·rw[ae hz] at q6;simp only[go_sem,hz];exact⟨jr,rfl,by rw[q6]⟩
   ·have hc:((i:Int)<(n:Int))=False:=eq_false (by omega);rw[List.drop_of_length_le (by omega),bU] at q6;clear hI hM;simp only[go_sem,hc];exact⟨q1,rfl,by rw[q6]⟩
end
theorem L7 {k:Int} {nm:List UInt8} {ty:Ty} {tg ex:Ex} {body alt:List St} (h:fx (.mk k nm ty tg ex body alt)=true):
  j0 k nm ty tg ex (decide (body.length<=32)&&eH false body&&(decide (alt.length<=32)&&eH false alt))=true:=by
 rw[fx,bB] at h;exact h.1
theorem xR {t:Ty} (h:iS t.dim t.base t.name=true):dP t:=by
 unfold iS kz at h;simp only[bB] at h;have h4:=h.1.1;split at h4
 ·cases h4
 ·constructor<;>omega
theorem TX {E:List Cd} {s:St} (hv:fx s=true) {S:Sc} (hS:dW S.loc):dW (iF E S s).1.loc/\(iF E S s).1.loc.length<=S.loc.length+1:=by
 cases s with
 |mk k nm ty tg ex body alt=>
  have hk:=L7 hv;rw[iF];by_cases k1:k=1
  ·rw[ak k1];unfold j0 at hk;rw[ak k1] at hk;simp only[bB] at hk;have hd:=xR hk.1.2;split
   ·split
    ·refine⟨fun p hp=> ?_,?_⟩
     ·have hp:p∈S.loc++[⟨ty,nm⟩]:=hp;rcases List.mem_append.1 hp with hp |hp
      ·exact hS p hp
      ·rw[List.mem_singleton.1 hp];exact hd
     ·show(S.loc++[_]).length<=_;rw[bc];exact aC _
    ·exact⟨hS,Nat.le_succ _⟩
   ·exact⟨hS,Nat.le_succ _⟩
  ·rw[ae k1];exact⟨hS,Nat.le_succ _⟩
theorem Q1 {S:Sc} (hS:dW S.loc) {ty:Ty} (hd:dP ty) (nm:Nm):dW (iY S ty nm).loc:=fun p hp=>by
 have hp:p∈S.loc++[⟨ty,nm⟩]:=hp;rcases List.mem_append.1 hp with hp |hp
 ·exact hS p hp
 ·rw[List.mem_singleton.1 hp];exact hd
theorem Db:∀{l:List St} {b:Bool},eH b l=true->∀s∈l,fx s=true
 |[],_,_,s,hs=>by cases hs
 |x::r,b,h,s,hs=>by
  rw[eH,bB,bB] at h;rcases List.mem_cons.1 hs with rfl |hs
  ·exact h.1.2
  ·exact Db h.2 s hs
section
variable {E:List Cd} {ad:Addr} {da:Option Addr} {dc:Nat} {b:Nat} {a:Option Addr} {c:Nat} {L:List Cc}
theorem yx (hE:dy E) (h:Nat) (B:Nat) (hI:∀(s:St) (S:Sc) (la:Option Addr) (lc:Nat) (m:Mem) (cs:List Value),fS s<=h->Tp m S E ad da dc la lc b a c L->dW S.loc->S.loc.length+33 * h<=B->et m s cs->fx s=true->
   FnH Tryz.prog 57 [.v (.agg ⟨av ad da dc S la lc⟩),.v (.agg ⟨cs⟩)] ⟨[],[]⟩ m (zF m E ad da dc b a c L (iF E S s)))
  (l:List St) (xs:List Value) (sa:Option Addr) (n sc:Nat) (m:Mem) (hr:aw m sa n 23 xs) (hn:n=l.length) (bQ:n<=sc) (hb:n<=32) (cJ:bL m l xs) (hd:ct l<=h) {sup:Bool} (hv:eH sup l=true) (S:Sc) (hS:dW S.loc) (hlen:S.loc.length+33 * h+32<=B):
  BlkC m E S ad da dc b a c L l sa n sc:=fun la lc m' hle hT=>by
 refine Yb S.loc.length l xs sa n sc m' (aN hle hr) hn bQ (by unfold ay;omega) (cL hle cJ) (fun i hi S1 Gh Gg m1 cs l1 kr jt bE bX=> ?_) (fun i hi S1 jt=>TX (Db hv _ (List.getElem_mem hi)) jt) hT hS (aC _);exact hI l[i] S1 Gh Gg m1 cs (cQ (rH (List.getElem_mem hi)) hd) kr jt (by omega) bX (Db hv _ (List.getElem_mem hi))
theorem yC (hE:dy E):∀(h:Nat) (s:St) (S:Sc) (la:Option Addr) (lc:Nat) (m:Mem) (cs:List Value),fS s<=h->Tp m S E ad da dc la lc b a c L->dW S.loc->S.loc.length+33 * h<=1999999990->et m s cs->fx s=true->
   FnH Tryz.prog 57 [.v (.agg ⟨av ad da dc S la lc⟩),.v (.agg ⟨cs⟩)] ⟨[],[]⟩ m (zF m E ad da dc b a c L (iF E S s))
 |0,.mk k nm ty tg ex body alt,_,_,_,_,_,hd,_,_,_,_,_=>by simp [fS] at hd
 |h+1,.mk k nm ty tg ex body alt,S,la,lc,m,cs,hd,hT,hS,hl,bX,hv=>by
  have hk:=L7 hv;obtain⟨X,rfl,rfl,rfl,rfl,p1,p2,p3,p4,p5,p6,p7,ys,zs,p8,p9,kh,jK⟩:=vI bX;simp only[fS] at hd;have hB:body.length<=32->eH false body=true->BlkC m E S ad da dc b a c L body X.a X.l X.cp:=fun q1 q2=>
   yx hE h 1999999990 (yC hE h) body ys X.a X.l X.cp m p8 p3 p4 (by omega) kh (by omega) q2 S hS (by omega)
  have hA:alt.length<=32->eH false alt=true->BlkC m E S ad da dc b a c L alt X.b X.l2 X.cp2:=fun q1 q2=>
   yx hE h 1999999990 (yC hE h) alt zs X.b X.l2 X.cp2 m p9 p5 p6 (by omega) jK (by omega) q2 S hS (by omega)
  have hW:dP X.ty->alt.length<=32->eH false alt=true->BlkC m E (iY S X.ty X.name) ad da dc b a c L alt X.b X.l2 X.cp2:=fun q0 q1 q2=>
   yx hE h 1999999990 (yC hE h) alt zs X.b X.l2 X.cp2 m p9 p5 p6 (by omega) jK (by omega) q2 _ (Q1 hS q0 X.name) (by rw[D3];omega)
  have eE:S.loc.length<2000000000:=by omega
  rw[iF];unfold j0 at hk;by_cases k1:X.k=1
  ·rw[ak k1] at hk ⊢;simp only[bB] at hk;exact YM hE hS X ex m hT k1 eE p2 hk.2
  rw[ae k1] at hk ⊢;refine YL X m hT k1 _ ?_;by_cases k2:X.k=2
  ·rw[ak k2] at hk ⊢;simp only[bB] at hk;have ht:=hk.1;unfold qg at ht;rw[bB] at ht;exact ZK hE hS X m hT k2 tg ex p1 p2 ht.2 hk.2
  rw[ae k2] at hk ⊢;by_cases k3:X.k=3
  ·rw[ak k3] at hk ⊢;unfold qB at hk;rw[bB] at hk;exact ZJ hE hS X m hT k3 ex p2 hk.2
  rw[ae k3] at hk ⊢;by_cases k4:X.k=4\/X.k=5\/X.k=9
  ·rw[ak k4] at hk;simp only[bB,cE] at hk;obtain⟨⟨⟨b1,b2⟩,b3,b4⟩,b5⟩:=hk;rw[ae (by omega),ae (by omega),ae (by omega),ae (by omega),ae (by omega)];exact Mo hE hS X m hT (by omega) _ (VC hE hS X ex body alt m hT (by omega) p2 b5 (hB b1 b2) (hA b3 b4))
  rw[ae k4] at hk;by_cases k6:X.k=6
  ·rw[ak k6] at hk;rw[ae (by omega),ak k6];refine ZI hE hS X m hT k6 ex p2 ?_;rw[Bool.or_eq_true] at hk;rcases hk with hk |hk
   ·left;cases ex with
    |mk k n s c ty args=>
     unfold BI yL at hk;simp only[bB,cE] at hk;exact hk.1.1.1.1.2
   ·exact .inr hk
  rw[ae k6] at hk;by_cases k7:X.k=7
  ·rw[ak k7] at hk;rw[ak k7];exact ZH hE hS X m hT k7 ex p2 hk
  rw[ae k7] at hk;rw[ae k7,ae k6];by_cases k8:X.k=8
  ·rw[ak k8] at hk ⊢;simp only[bB,cE] at hk;obtain⟨⟨⟨⟨b1,b2⟩,b3,b4⟩,b5⟩,b6⟩:=hk;exact ZG hE hS X m hT k8 _ (ON X body alt m hT eE (hB b1 b2) (hW (xR b6) b3 b4))
  rw[ae k8] at hk ⊢;by_cases k10:X.k=10
  ·rw[ak k10] at hk;simp only[bB,cE] at hk;obtain⟨⟨b1,b2⟩,b3,b4⟩:=hk;rw[ae (by omega),ak k10];exact Mo hE hS X m hT (by omega) _ (Q8 X body m hT k10 (hB b1 b2))
  rw[ae k10] at hk;by_cases k11:X.k=11
  ·rw[ak k11] at hk ⊢;cases ex with
   |mk k n s c ty args=>
    unfold yA at hk;simp only[bB,cE] at hk;obtain⟨y,e1,e2,e3,e4,e5,e6,e7,e8,e9,xs,cn,cu⟩:=rM p2;have ey:=BD e1;subst ey;exact Ya hE hS X m hT k11 _ (EF hE hS args xs X.ex.a X.ex.l X.ex.cp m hT cn e7 e9 cu hk.2)
  ·rw[ae k11] at hk;cases hk
end
theorem RV (fl:Int) (m:Mem):FnH Tryz.prog 163 [.v (.int .i64 fl)] ⟨[],[]⟩ m fun r H' _=>r= .v (.int .i64 (sd fl))/\H' =⟨[],[]⟩:=by
 have hR:sd fl=if hasB fl 1=true then 3 else if hasB fl 4=true then 2 else if hasB fl 2=true then 0 else 1:=rfl
 have q:=fun k=>show hasB fl k= !decide (bits .and .i64 fl k=0) from rfl
 revert hR;generalize sd fl=R
 intro hR;refine br aq Tryz.func163 ?_
 ·simp only[go_sem];refine⟨fun h=> ?_,fun h1=>⟨fun h=> ?_,fun h2=>⟨fun h=> ?_,fun h=> ?_⟩⟩⟩
  ·rw[hR,q 1,ab h];rfl
  ·rw[hR,q 1,q 4,aQ h1,ab h];rfl
  ·rw[hR,q 1,q 4,q 2,aQ h1,aQ h2,ab h];rfl
  ·rw[hR,q 1,q 4,q 2,aQ h1,aQ h2,aQ h];rfl
theorem Ei {m:Mem} {a:Option Addr} {n:Nat} {l:List Pc} (h:aw m a n 4 (flat Pc.cs l)) (hn:n=l.length) {i:Nat} (hi:i<l.length):Rd m (bk a (i * 4)) l[i].cs/\a≠none:=by
 have hc:=dM h (by omega:i<n);rwa [mK (f:=Pc.cs) (sz:=4) (fun _=>rfl) hi] at hc
theorem Kg {α:Type} {e:α->α->Bool}:∀{l l2:List α},l.length≠l2.length->fD e l l2=false
 |[],[],h=>absurd rfl h
 |[],_::_,_=>rfl
 |_::_,[],_=>rfl
 |a::r,b::t,h=>by rw[fD,Kg (fun q=>h (by simp [q])),Bool.and_false]
theorem Qb (p q:Pc) (m:Mem):FnH Tryz.prog 242 [.v (.agg ⟨p.cs⟩),.v (.agg ⟨q.cs⟩)] ⟨[],[]⟩ m fun r H' _=>r= .v (.bool (Ty.eq p.ty q.ty))/\H' =⟨[],[]⟩:=by
 refine enter bb aq Tryz.func242 rfl rfl (by kernel_rfl) rfl ?_ ?_
 ·simp only[go_sem,Pc.cs]
 ·simp only[go_sem,Pc.cs,dD];rfl
theorem Vu (l1 l2:List Pc) (a1 a2:Option Addr) (n1 n2 c1 c2:Nat) (m:Mem) (h1:aw m a1 n1 4 (flat Pc.cs l1)) (fE:n1=l1.length) (h2:aw m a2 n2 4 (flat Pc.cs l2)) (CO:n2=l2.length) (hb:n1<=ay):
  FnH Tryz.prog 241 [.v (.slice a1 n1 c1),.v (.slice a2 n2 c2),.v (.func (.func 242) ⟨[]⟩ ⟨[]⟩)] ⟨[],[]⟩ m
   fun r H' _=>r= .v (.bool (fD (fun(x y:Pc)=>Ty.eq x.ty y.ty) l1 l2))/\H' =⟨[],[]⟩:=by
 generalize hK:fD (fun(x y:Pc)=>Ty.eq x.ty y.ty) l1 l2=K
 refine br aq Tryz.func241 ?_
 ·simp only[go_sem];by_cases hl:n1=n2
  ·have hle:((n1:Int)=(n2:Int))=True:=eq_true (by omega);simp only[go_sem,hle];refine cq aq (fun x:Nat×Mem=>⟨[⟨17,[],.v (.int .i64 x.1)⟩,⟨16,[],.v (.int .i64 n1)⟩,⟨15,[],.v (.slice a1 n1 c1)⟩,⟨1,[],.v (.slice a2 n2 c2)⟩,⟨2,[],.v (.func (.func 242) ⟨[]⟩ ⟨[]⟩)⟩,⟨6,[],.v (.bool false)⟩],[],[],[],0,x.2⟩)
    (fun x=>af m x.2/\x.1<=n1/\fD (fun(x y:Pc)=>Ty.eq x.ty y.ty) (l1.drop x.1) (l2.drop x.1)=K) (fun x=>n1 - x.1) (0,m) (by kernel_rfl) (fun _ _=>aZ rfl) (fun x hx=>hx.1) (fun _=> ?_) ?_ ⟨.inl rfl,aF _,hK⟩ ?_
   ·simp only[go_sem]
   ·simp only[go_sem];exact rfl
   ·rintro⟨i,mm⟩ ⟨q1,q2,q3⟩;dsimp only at q1 q2 q3;by_cases aj:i<l1.length
    ·have hc:((i:Int)<(n1:Int))=True:=eq_true (by omega);have zu:i<l2.length:=by omega
     rw[List.drop_eq_getElem_cons aj,List.drop_eq_getElem_cons zu,fD] at q3;have p1:=Ei (aN q1 h1) fE aj;have p2:=Ei (aN q1 h2) CO zu;have ix1:bS a1 n1 (i:Int)=True:=eq_true ⟨by omega,by omega,p1.2⟩;have ix2:bS a2 n2 (i:Int)=True:=eq_true ⟨by omega,by omega,p2.2⟩;have Nk:= @cC _ _ _ 4 p1.1 rfl;have Nj:= @cC _ _ _ 4 p2.1 rfl;have hS:=Qb l1[i] l2[i] mm;simp only[Pc.cs] at Nk Nj hS;revert hS q3;generalize Ty.eq l1[i].ty l2[i].ty=B
     intro q3 hS;simp only[go_sem,hc,ix1,ix2,Nk,Nj];refine ai ((aD hS fun V=>rfl).mono ?_);clear hS;rintro r H' m2 aK ⟨rfl,rfl⟩;cases B with
     |true=>
      simp only[go_sem];exact⟨by unfold az;unfold ay at hb;omega,(i+1,m2),⟨by simp,.inl rfl⟩,⟨aa q1 (.inr aK),by omega,by rwa [Bool.true_and] at q3⟩,by omega⟩
     |false=>
      simp only[go_sem];rw[<- q3,Bool.false_and]
    ·have hc:((i:Int)<(n1:Int))=False:=eq_false (by omega);rw[List.drop_of_length_le (by omega),List.drop_of_length_le (by omega),fD] at q3;simp only[go_sem,hc];exact q3
  ·have hle:((n1:Int)=(n2:Int))=False:=eq_false (by omega);simp only[go_sem,hle];rw[<- hK,Kg (by omega)]
theorem If (x y:Md) (X Y:Mc) (m:Mem) (hX:MdX m x X) (hY:MdX m y Y):FnH Tryz.prog 162 [.v (.agg ⟨X.cs⟩),.v (.agg ⟨Y.cs⟩)] ⟨[],[]⟩ m fun r H' m' =>af m m' /\r= .v (.bool (mQ x y))/\H' =⟨[],[]⟩:=by
 have hE:=fun m' (hle:af m m')=>Vu x.params y.params X.pa Y.pa X.pl Y.pl X.pc Y.pc m' (aN hle hX.par) hX.pl (aN hle hY.par) hY.pl (by rw[hX.pl];exact hX.ok.pl)
 have hR:mQ x y=(Ty.eq x.res y.res&&fD (fun(x y:Pc)=>Ty.eq x.ty y.ty) x.params y.params):=rfl;rw[<- hX.res,<- hY.res] at hR;revert hE hR;generalize mQ x y=R
 generalize fD (fun(x y:Pc)=>Ty.eq x.ty y.ty) x.params y.params=A
 intro hE hR;refine enter bb aq Tryz.func162 rfl rfl (by kernel_rfl) rfl ?_ ?_
 ·clear hE;simp only[go_sem,Mc.cs]
 ·simp only[go_sem,Mc.cs,dD];refine⟨fun h=>ai ((hE m (.inl rfl)).mono ?_),fun h=> ?_⟩
  ·clear hE;rintro r H' m1 aR ⟨rfl,rfl⟩;rw[(sD _ _).2 h,Bool.true_and] at hR;simp only[go_sem];exact⟨.inr aR,hR.symm⟩
  ·rw[yz (wg h),Bool.false_and] at hR;first |exact hR.symm |exact⟨.inl rfl,hR.symm⟩
def mA (m:Mem) (v:CR) (r:SV) (H' :Hp) (m' :Mem):Prop:=af m m' /\H' =⟨[],[]⟩/\r= .tup [.v (.string (bs v.1)),.v (.int .i64 v.2)]
section
variable {ad:Addr} {pr E:List Cd} {b:Nat} {a:Option Addr} {c:Nat} {L:List Cc}
theorem Vis.ctx {E:List Cd} {l:List Nm} (h:Vis E l) {pr:List Cd} {m:Mem} {ad:Addr} {b:Nat} {a:Option Addr} {c:Nat} {L:List Cc} (hC:Ck m ad pr E b a c L):l.length<=1100000:=cQ h.len hC.fw
theorem To (d:Cd) (X:Cc) (m:Mem) (hC:Ck m ad pr E b a c L) (hX:CdX m d X):FnH Tryz.prog 68 [.v (.pointer (some ad)),.v (.agg ⟨X.cs⟩)] ⟨[],[]⟩ m (mA m (o8 E d)):=by
 have hS:=pV X.super m hC;have fr:=(kv E X.super).ctx hC;have hI:=fun m' (hle:af m m')=>Qf d.ifs X.ia X.ic m' (hC.up hle) (by rw[<- hX.il];exact aN hle hX.ifs) hX.ok.il
 have jN:=(AK (l:=d.ifs) (Vis.nil E)).ctx hC;have hK:o8 E d=if((aT E d.super).contains d.name||(eQ E [] d.ifs).contains d.name)=true then([],31) else([],0):=rfl
 rw[<- hX.sup,<- hX.name] at hK;rw[<- hX.il] at hI;revert hS fr hI jN hK;generalize o8 E d=K
 generalize aT E X.super=sl
 generalize eQ E [] d.ifs=il
 intro hS fr hI jN hK;refine enter F0 zi Tryz.func68 rfl rfl (by kernel_rfl) rfl ?_ ?_
 ·clear hS hI;simp only[go_sem,Cc.cs]
 ·simp only[go_sem,Cc.cs];refine bZ (.hoist 0 (.hoist 1 (.hoist 2 (.hoist 4 (.hoist 5 (.alt 3 [5,4] (.alt 6 [] (.hoist 7 (.hoist 8 (.hoist 9 (.hoist 10 (.hoist 12 (.hoist 13 (.alt 11 [13,12] (.alt 14 [] (.hoist 15 .done) .stop) .stop))))))) .stop) .stop)))))) zi (by kernel_rfl) (by kernel_rfl) ?_;simp only[go_sem];refine ai (hS.mono ?_);clear hS;rintro r H' m1 aR ⟨l1,rfl,sa,sc,rfl,h1,h2⟩;have jP:=BJ h2;have pK:=yF h2;have bE:=eq_true l1;have kq:(sl.length<=4611686018427387904)=True:=eq_true (by clear hI;omega);by_cases bg:sl.contains X.name=true
  ·clear hI;rw[bg,Bool.true_or,ak rfl] at hK;simp only[go_sem,jP,pK,kq,bg,bE,and_self];subst hK;exact⟨l1,rfl,rfl⟩
  ·have bg:=(Bool.not_eq_true _).mp bg;rw[bg,Bool.false_or] at hK;have hI:=hI m1 l1;simp only[go_sem,jP,pK,kq,bg,bE,and_self];refine ai (hI.mono ?_);clear hI;rintro r H' m2 aK ⟨l2,rfl,ia,ic,rfl,g1,g2⟩;have jP:=BJ g2;have pK:=yF g2;have kq:(il.length<=4611686018427387904)=True:=eq_true (by omega);have jr:=aa l1 l2;have MH:=eq_true jr;have cd:=eq_true l2;by_cases bg:il.contains X.name=true
   ·rw[bg,ak rfl] at hK;simp only[go_sem,jP,pK,kq,bg,MH,cd,bE,and_self];subst hK;exact⟨jr,rfl,rfl⟩
   ·have bg:=(Bool.not_eq_true _).mp bg;rw[bg,ae (by decide)] at hK;simp only[go_sem,jP,pK,kq,bg,MH,cd,bE,and_self];subst hK;exact⟨jr,rfl,rfl⟩
theorem S7 (d:Cd) (X:Cc) (m:Mem) (hC:Ck m ad pr E b a c L) (hX:CdX m d X):FnH Tryz.prog 69 [.v (.pointer (some ad)),.v (.agg ⟨X.cs⟩)] ⟨[],[]⟩ m (mA m (o6 E d)):=by
 have hK:o6 E d=if(hasB (bI E d.super).fl 528||d.ifs.any fun s=> !hasB (bI E s).fl 512)=true then([],33) else([],0):=rfl
 obtain⟨Y,hY,hYX⟩:=hC.get X.super;have aU:=hY;simp only[Cc.cs] at aU;rw[<- hX.sup,<- hYX.fl] at hK;have pO:=hX.ifs;have dF:=hX.il;have kp:=hX.ok.il;have CT:=fun s=>hC.get s
 revert hK pO dF kp;generalize o6 E d=K
 generalize d.ifs=il
 intro hK pO dF kp;have hA:(il.drop 0).any (fun s=> !hasB (bI E s).fl 512)=(il.any fun s=> !hasB (bI E s).fl 512):=by rw[List.drop_zero]
 have rC:(if(hasB Y.fl 528||(il.drop 0).any fun s=> !hasB (bI E s).fl 512)=true then(([],33):CR) else([],0))=K:=by rw[hA,hK]
 refine enter bb aq Tryz.func69 rfl rfl (by kernel_rfl) rfl ?_ ?_
 ·simp only[go_sem,Cc.cs]
 ·simp only[go_sem,Cc.cs];refine bZ (.hoist 0 (.hoist 1 (.hoist 2 (.hoist 3 (.hoist 4 (.hoist 5 (.hoist 6 (.hoist 7 (.hoist 8 (.hoist 9 (.hoist 10 .done))))))))))) aq (by kernel_rfl) (by kernel_rfl) ?_;simp only[go_sem,cj (j:=0) hC.rd rfl,cj (j:=1) hC.rd rfl,fK hC.rm,nO,↓ox,fh,Cc.cs,aU];refine cq aq (fun y:Nat×Bool=>⟨[⟨6,[],.v (.bool y.2)⟩,⟨22,[],.v (.int .i64 y.1)⟩,⟨21,[],.v (.int .i64 X.il)⟩,⟨20,[],.v (.slice X.ia X.il X.ic)⟩,⟨0,[],.v (.pointer (some ad))⟩,⟨3,[],.box 0 0⟩,⟨4,[],.v (.string (bs []))⟩,⟨5,[],.v (.int .i64 0)⟩],[],[⟨0,33,[.v (.int .i64 X.fl),.v (.string (bs X.name)),.v (.string (bs X.super)),.v (.slice X.ia X.il X.ic),.v (.slice X.fa X.fn X.fc),.v (.slice X.ma X.ml X.mc),.v (.slice X.sa X.sl X.sc)]⟩],[],1,m⟩)
   (fun y=>y.1<=il.length/\(if(y.2||(il.drop y.1).any fun s=> !hasB (bI E s).fl 512)=true then(([],33):CR) else([],0))=K) (fun y=>il.length - y.1) (0,hasB Y.fl 528) (by kernel_rfl) (fun _ _=>aZ rfl) (fun x hx=> .inl rfl) (fun _=> ?_) ?_ ⟨aF _,rC⟩ ?_
  ·simp only[go_sem]
  ·simp only[go_sem];exact⟨rfl,rfl⟩
  ·rintro⟨i,B⟩ ⟨i1,i2⟩;dsimp only at i1 i2;by_cases aj:i<il.length
   ·have hc:((i:Int)<(X.il:Int))=True:=eq_true (by omega);have aI:=js pO (by omega:i<X.il);have au:= @iL _ _ _ _ pO _ (by omega:i<X.il) (.string (bs il[i])) (by unfold strs;rw[List.getElem?_map,List.getElem?_eq_getElem aj];rfl);rw[List.drop_eq_getElem_cons aj,List.any_cons] at i2;refine Exists.elim (CT il[i]) fun Z hZ=> ?_
    have aU:=hZ.1;simp only[Cc.cs] at aU;have gX:hasB (bI E il[i]).fl 512= !decide (bits .and .i64 Z.fl 512=0):=by rw[<- hZ.2.fl];rfl
    clear hZ;rw[gX,Bool.not_not] at i2;cases B with
    |true=>
     simp only[go_sem,hc,aI,au,cj (j:=0) hC.rd rfl,cj (j:=1) hC.rd rfl,fK hC.rm,nO,↓ox,fh,Cc.cs,aU];refine⟨.map (some b),lh L,hC.rm,?_⟩;simp only[go_sem,hc,aI,au,cj (j:=0) hC.rd rfl,cj (j:=1) hC.rd rfl,fK hC.rm,nO,↓ox,fh,Cc.cs,aU];refine⟨by unfold az;unfold ay at kp;omega,(i+1,true),⟨by first |rfl |simp,by simp⟩,⟨by omega,?_⟩,by omega⟩;rw[<- i2];simp
    |false=>
     rw[Bool.false_or] at i2;simp only[go_sem,hc,aI,au,cj (j:=0) hC.rd rfl,cj (j:=1) hC.rd rfl,fK hC.rm,nO,↓ox,fh,Cc.cs,aU];refine⟨by unfold az;unfold ay at kp;omega,(i+1,decide (bits .and .i64 Z.fl 512=0)),⟨rfl,by simp⟩,⟨by omega,?_⟩,by omega⟩;rw[<- i2];simp only[Bool.or_eq_true,cE]
   ·have hc:((i:Int)<(X.il:Int))=False:=eq_false (by omega);rw[List.drop_of_length_le (by omega),List.any_nil,Bool.or_false] at i2;cases B with
    |true=>
     simp only[go_sem,hc];exact⟨.inl rfl,rfl,by rw[<- i2];rfl⟩
    |false=>
     simp only[go_sem,hc];exact⟨.inl rfl,rfl,by rw[<- i2];rfl⟩
end
def rW (a b:List UInt8):Bool:=decide ((b.length:Int)<=a.length)&&decide (a.take b.length=b)
theorem E8 {n b:Nat} (hn:n<=2000000001) (hb:b<=1000):room n b:=by
 have:n * b<=2000000001 * 1000:=Nat.mul_le_mul hn hb;exact⟨by omega,by unfold maxLen;omega⟩
theorem OM (s:Nm):rW s j4=j4.isPrefixOf s:=by
 unfold rW;rw[Bool.eq_iff_iff,bB,cE,cE,List.isPrefixOf_iff_prefix,List.prefix_iff_eq_take];constructor
 ·rintro⟨_,h⟩;exact h.symm
 ·intro h;have:=congrArg List.length h;rw[List.length_take] at this;exact⟨by omega,h.symm⟩
def zm (F:List UInt8->List UInt8->Value):List Value->Option (Prop×Value)
 |[.string a,.string b]=>some (True,F (tl a) (tl b))
 |_=>none
attribute [go_sem] zm.eq_1
theorem KB {P:Program} {f:FuncId} {F:List UInt8->List UInt8->Value} (h:∀(a b:List UInt8) (m:Mem),FnH P f [.v (.string (bs a)),.v (.string (bs b))] ⟨[],[]⟩ m fun r H' _=>r= .v (F a b)/\H' =⟨[],[]⟩):
  ∀aO y,zm F aO=some y->y.1->∀m,FnH P f (aO.map SV.v) ⟨[],[]⟩ m fun r H' _=>r= .v y.2/\H' =⟨[],[]⟩:=fun aO y hy hB m=>by
 unfold zm at hy;split at hy
 ·rename_i a b;cases hy;have:=h (tl a) (tl b) m;rwa [eY,eY] at this
 ·cases hy
theorem N9 (a b:List UInt8) (m:Mem):FnH Tryz.prog 240 [.v (.string (bs a)),.v (.string (bs b))] ⟨[],[]⟩ m fun r H' _=>r= .v (.bool (rW a b))/\H' =⟨[],[]⟩:=by
 refine br xe Tryz.func240 ?_
 ·simp only[go_sem];refine⟨fun h=>⟨by omega,by omega,h⟩,?_⟩;rfl
abbrev ZL:Cfg:=eZ (fun _=>false) [(240,zm fun a b=> .bool (rW a b))]
theorem YY:cw ZL Tryz.prog:=pure_cons (by kernel_rfl) (KB N9) pure_nil
theorem Oc (a b:List UInt8) (m:Mem):FnH Tryz.prog 158 [.v (.string (bs a)),.v (.string (bs b))] ⟨[],[]⟩ m fun r H' _=>r= .v (.bool (rW a b))/\H' =⟨[],[]⟩:=by
 refine br YY Tryz.func158 ?_
 ·simp only[go_sem]
abbrev MW (pr E:List Cd):Cfg:=kZ (fun _=>false) [(158,fun _=>zm fun a b=> .bool (rW a b)),(159,wK pr E fun t=> .bool (cM E t))]
theorem BZ (pr E:List Cd):cw (MW pr E) Tryz.prog:=fG (by kernel_rfl) (fun m aO y hy hB=>KB Oc aO y hy hB m) (fG (by kernel_rfl) (EO fun p t m h=>HS p t m h) rK)
section
variable {ad:Addr} {pr E:List Cd} {b:Nat} {a:Option Addr} {c:Nat} {L:List Cc}
theorem TU (s:Nm) (m:Mem) (hC:Ck m ad pr E b a c L):
  FnH Tryz.prog 157 [.v (.string (bs s)),.box 0 0] ⟨[⟨0,72,[.v (.pointer (some ad))]⟩],[]⟩ m
   fun r H' _=>r= .v (.bool (cls E s).isNone)/\H' =⟨[⟨0,72,[.v (.pointer (some ad))]⟩],[]⟩:=by
 cases hc:cls E s with
 |none=>
  have hf:=hC.none hc;refine br aq Tryz.func157 ?_
  ·simp only[go_sem,cj (j:=0) hC.rd rfl,cj (j:=1) hC.rd rfl,fK hC.rm,iV,Option.map_none,Option.map_some,cv,forall_eq',false_implies,and_true,true_and,fh,hf];rfl
 |some d=>
  obtain⟨X,hf,hX⟩:=hC.some hc;refine br aq Tryz.func157 ?_
  ·simp only[go_sem,cj (j:=0) hC.rd rfl,cj (j:=1) hC.rd rfl,fK hC.rm,iV,Option.map_none,Option.map_some,cv,forall_eq',false_implies,and_true,true_and,fh,hf,Cc.cs];rfl
def Gb (E:List Cd) (m:Md):Bool:=(m.params.any fun p=> !cM E p.ty)|| !cM E m.res
def qX (E:List Cd) (l:List Md):CR:=match l.find? (Gb E) with
 |some m=>(m.name,72)
 |none=>([],0)
def zR (E:List Cd) (l:List Fc) (R:CR):CR:=match l.find? fun f=> !cM E f.ty with
 |some f=>(f.name,72)
 |none=>R
theorem Sm (E:List Cd) (m:Md) (r:List Md):qX E (m::r)=if Gb E m=true then(m.name,72) else qX E r:=by
 unfold qX;rw[List.find?_cons];cases Gb E m<;>rfl
theorem Sn (E:List Cd) (f:Fc) (r:List Fc) (R:CR):zR E (f::r) R=if cM E f.ty=true then zR E r R else(f.name,72):=by
 unfold zR;rw[List.find?_cons];cases cM E f.ty<;>rfl
theorem P2 (E:List Cd) (d:Cd):nS E d=if(j4.isPrefixOf d.name||(d.super::d.ifs).any fun s=>(cls E s).isNone)=true then([],72) else zR E d.fields (qX E d.methods):=rfl
theorem QB (d:Cd) (X:Cc) (m:Mem) (hC:Ck m ad pr E b a c L) (hX:CdX m d X):FnH Tryz.prog 67 [.v (.pointer (some ad)),.v (.agg ⟨X.cs⟩)] ⟨[],[]⟩ m (mA m (nS E d)):=by
 have hK:=P2 E d;rw[<- OM,<- hX.name,<- hX.sup] at hK;have hU:=fun(a1:Option Addr) (c1:Nat) (m1:Mem) (hle:af m m1) (h:aw m1 a1 (X.super::d.ifs).length 1 (strs (X.super::d.ifs)))=>UL 157 (by kernel_rfl) [.pointer (some ad)] a1 (X.super::d.ifs).length c1 m1 (by have:=hX.ok.il;unfold ay at this;simp only[dk];omega) (fun i=> .string (bs ((X.super::d.ifs).getD i []))) (fun i hi=>Ic h hi) (fun i=>(cls E ((X.super::d.ifs).getD i [])).isNone) (fun i m' hi bH=>TU _ m' (hC.up (aa hle bH)))
 have MR:((List.range (X.super::d.ifs).length).any fun i=>(cls E ((X.super::d.ifs).getD i [])).isNone)=(X.super::d.ifs).any fun s=>(cls E s).isNone:=A5 (fun s=>(cls E s).isNone) [] (X.super::d.ifs)
 rw[MR] at hU;rw[show(X.super::d.ifs).length=1+X.il by rw[dk,hX.il,Nat.add_comm]] at hU;have aS:=fun m' (hle:af m m')=>(hC.up hle).chk
 have pO:=hX.ifs;have dF:=hX.il;have kp:=hX.ok.il;have my:=hX.fds;have dK:=hX.fn;have gH:=hX.ok.fn;have jM:=hX.mth;have dY:=hX.ml;have gi:=hX.ok.ml;clear MR hX;revert hK hU pO dF kp my dK gH jM dY gi;generalize hAny:((X.super::d.ifs).any fun s=>(cls E s).isNone)=B
 generalize nS E d=K
 generalize d.fields=fl
 generalize d.methods=ml
 clear hAny;generalize d.ifs=il
 intro hK hU pO dF kp my dK gH jM dY gi;refine enter (MW pr E) (BZ pr E) Tryz.func67 rfl rfl (by kernel_rfl) rfl ?_ ?_
 ·clear hU;simp only[go_sem,Cc.cs]
 ·simp only[go_sem,Cc.cs];refine⟨strs il,pO,?_,E8 (by unfold ay at kp;omega) (by decide),fun hp=>⟨by kernel_rfl,fun a1 c1 m1 e1 e2 e3=>bD ((hU a1 c1 m1 (.inr e1) ?_).mono ?_)⟩,fun hp=> ?_⟩
  ·intro u hu;unfold strs at hu;obtain⟨x,_,rfl⟩:=List.mem_map.1 hu;rfl
  ·exact e3
  ·clear hU;rintro r H' m2 aK ⟨rfl,rfl⟩;rw[show rW X.name j4=false from hp,Bool.false_or] at hK;have l2:af m m2:=aa (.inr e1) (.inr aK);have aS:=aS m2 l2;have my:=aN l2 my;by_cases hB:B=true
   ·rw[ak hB] at hK;simp only[go_sem,aG,List.map_nil,hB];exact⟨l2,rfl,by rw[hK]⟩
   ·rw[ae hB] at hK;have hB:=(Bool.not_eq_true _).mp hB;simp only[go_sem,aG,List.map_nil,hB];refine cq (BZ pr E) (fun i:Nat=>⟨[⟨32,[],.v (.int .i64 i)⟩,⟨31,[],.v (.int .i64 X.fn)⟩,⟨30,[],.v (.slice X.fa X.fn X.fc)⟩,⟨2,[],.box 0 0⟩,⟨3,[],.box 1 0⟩,⟨4,[],.v (.string (bs []))⟩,⟨5,[],.v (.int .i64 0)⟩],[],[⟨1,33,[.v (.int .i64 X.fl),.v (.string (bs X.name)),.v (.string (bs X.super)),.v (.slice X.ia X.il X.ic),.v (.slice X.fa X.fn X.fc),.v (.slice X.ma X.ml X.mc),.v (.slice X.sa X.sl X.sc)]⟩,⟨0,72,[.v (.pointer (some ad))]⟩],[],4,m2⟩)
     (fun i=>i<=fl.length/\zR E (fl.drop i) (qX E ml)=K) (fun i=>fl.length - i) 0 (by kernel_rfl) (fun _ _=>aZ rfl) (fun x hx=> .inl rfl) (fun _=> ?_) ?_ ⟨aF _,by rw[List.drop_zero];exact hK.symm⟩ ?_
    ·simp only[go_sem]
    ·simp only[go_sem];exact rfl
    ·rintro i ⟨i1,i2⟩;by_cases aj:i<fl.length
     ·have hc:((i:Int)<(X.fn:Int))=True:=eq_true (by omega);rw[List.drop_eq_getElem_cons aj,Sn] at i2;have gY:=dM my (by omega:i<X.fn);rw[mK (f:=Fc.cs) (sz:=5) (fun _=>rfl) aj] at gY;have aI:bS X.fa X.fn (i:Int)=True:=eq_true ⟨by omega,by omega,gY.2⟩;have au:= @cC _ _ _ 5 gY.1 rfl;simp only[Fc.cs] at au;simp only[go_sem,hc,aI,au,aS];refine⟨fun h=> ?_,fun h=> ?_⟩
      ·rw[ae (by rw[show cM E fl[i].ty=false from h];decide)] at i2;subst i2;exact⟨l2,rfl,rfl⟩
      ·rw[ak (show cM E fl[i].ty=true from h)] at i2;exact⟨by unfold az;unfold ay at gH;omega,i+1,by simp,⟨aj,i2⟩,by omega⟩
     ·have hc:((i:Int)<(X.fn:Int))=False:=eq_false (by omega);rw[List.drop_of_length_le (by omega)] at i2;have i2:qX E ml=K:=i2;simp only[go_sem,hc];refine Exists.elim jM fun xs gF=> ?_
      refine cq (BZ pr E) (fun j:Nat=>⟨[⟨47,[],.v (.int .i64 j)⟩,⟨46,[],.v (.int .i64 X.ml)⟩,⟨45,[],.v (.slice X.ma X.ml X.mc)⟩,⟨2,[],.box 0 0⟩,⟨3,[],.box 1 0⟩,⟨4,[],.v (.string (bs []))⟩,⟨5,[],.v (.int .i64 0)⟩],[],[⟨1,33,[.v (.int .i64 X.fl),.v (.string (bs X.name)),.v (.string (bs X.super)),.v (.slice X.ia X.il X.ic),.v (.slice X.fa X.fn X.fc),.v (.slice X.ma X.ml X.mc),.v (.slice X.sa X.sl X.sc)]⟩,⟨0,72,[.v (.pointer (some ad))]⟩],[],4,m2⟩)
       (fun j=>j<=ml.length/\qX E (ml.drop j)=K) (fun j=>ml.length - j) 0 (by kernel_rfl) (fun _ _=>aZ rfl) (fun x hx=> .inl rfl) (fun _=> ?_) ?_ ⟨aF _,by rw[List.drop_zero];exact i2⟩ ?_
      ·simp only[go_sem]
      ·simp only[go_sem];exact rfl
      ·rintro j ⟨j1,j2⟩;by_cases hjt:j<ml.length
       ·have hc:((j:Int)<(X.ml:Int))=True:=eq_true (by omega);rw[List.drop_eq_getElem_cons hjt,Sm] at j2;refine Exists.elim (ue (aN l2 gF.1) dY (jf (fun _ _=>lA l2) gF.2) hjt) fun Y hY=> ?_
        have aI:bS X.ma X.ml (j:Int)=True:=eq_true ⟨by omega,by omega,hY.2.1⟩;have au:= @cC _ _ _ 8 hY.1 rfl;simp only[Mc.cs] at au;have Af:=hY.2.2.par;have gG:=hY.2.2.pl;have hpb:=hY.2.2.ok.pl;have hj0:(if((ml[j].params.drop 0).any (fun p=> !cM E p.ty)|| !cM E Y.res)=true then((Y.name,72):CR) else qX E (ml.drop (j+1)))=K:=by rw[hY.2.2.res,hY.2.2.name];exact j2
        simp only[go_sem,hc,aI,au];refine cq (BZ pr E) (fun k:Nat=>⟨[⟨54,[],.v (.int .i64 k)⟩,⟨53,[],.v (.int .i64 Y.pl)⟩,⟨52,[],.v (.slice Y.pa Y.pl Y.pc)⟩,⟨11,[],.box 4 0⟩,⟨47,[],.v (.int .i64 j)⟩,⟨46,[],.v (.int .i64 X.ml)⟩,⟨45,[],.v (.slice X.ma X.ml X.mc)⟩,⟨2,[],.box 0 0⟩,⟨3,[],.box 1 0⟩,⟨4,[],.v (.string (bs []))⟩,⟨5,[],.v (.int .i64 0)⟩],[],[⟨4,45,[.v (.int .i64 Y.fl),.v (.int .i64 Y.res.dim),.v (.int .u8 Y.res.base),.v (.string (bs Y.res.name)),.v (.string (bs Y.name)),.v (.slice Y.pa Y.pl Y.pc),.v (.bool Y.hb),.v (.slice Y.a Y.l Y.cp)]⟩,⟨1,33,[.v (.int .i64 X.fl),.v (.string (bs X.name)),.v (.string (bs X.super)),.v (.slice X.ia X.il X.ic),.v (.slice X.fa X.fn X.fc),.v (.slice X.ma X.ml X.mc),.v (.slice X.sa X.sl X.sc)]⟩,⟨0,72,[.v (.pointer (some ad))]⟩],[],5,m2⟩)
         (fun k=>k<=ml[j].params.length/\(if((ml[j].params.drop k).any (fun p=> !cM E p.ty)|| !cM E Y.res)=true then((Y.name,72):CR) else qX E (ml.drop (j+1)))=K) (fun k=>ml[j].params.length - k) 0 (by kernel_rfl) (fun _ _=>aZ rfl) (fun x hx=> .inl rfl) (fun _=> ?_) ?_ ⟨aF _,hj0⟩ ?_
        ·simp only[go_sem]
        ·simp only[go_sem];exact rfl
        ·rintro k ⟨k1,k2⟩;by_cases mr:k<ml[j].params.length
         ·have uZ:((k:Int)<(Y.pl:Int))=True:=eq_true (by omega);rw[List.drop_eq_getElem_cons mr,List.any_cons] at k2;have hp:=Ei Af gG mr;have Ai:bS Y.pa Y.pl (k:Int)=True:=eq_true ⟨by omega,by omega,hp.2⟩;have xy:= @cC _ _ _ 4 hp.1 rfl;simp only[Pc.cs] at xy;simp only[go_sem,uZ,Ai,xy,aS];refine⟨fun h=> ?_,fun h=> ?_⟩
          ·rw[show cM E ml[j].params[k].ty=false from h,Bool.not_false,Bool.true_or,Bool.true_or,ak rfl] at k2;subst k2;exact⟨l2,rfl,rfl⟩
          ·rw[show cM E ml[j].params[k].ty=true from h,Bool.not_true,Bool.false_or] at k2;exact⟨by unfold az;unfold ay at hpb;omega,k+1,by simp,⟨mr,by first |exact k2 |simpa only[Bool.or_eq_true,Bool.not_eq_true',Bool.not_eq_true] using k2⟩,by omega⟩
         ·have uZ:((k:Int)<(Y.pl:Int))=False:=eq_false (by omega);rw[List.drop_of_length_le (by omega),List.any_nil,Bool.false_or] at k2;simp only[go_sem,uZ,aS];refine⟨fun h=> ?_,fun h=> ?_⟩
          ·rw[show cM E Y.res=false from h,Bool.not_false,ak rfl] at k2;subst k2;exact⟨l2,rfl,rfl⟩
          ·rw[show cM E Y.res=true from h,Bool.not_true,ae (by decide)] at k2;exact⟨by unfold az;unfold ay at gi;omega,j+1,by simp,⟨hjt,k2⟩,by omega⟩
       ·have hc:((j:Int)<(X.ml:Int))=False:=eq_false (by omega);rw[List.drop_of_length_le (by omega)] at j2;subst j2;simp only[go_sem,hc];exact⟨l2,rfl,rfl⟩
  ·rw[show rW X.name j4=true from hp,Bool.true_or,ak rfl] at hK;rw[hK];exact⟨.inl rfl,rfl,rfl⟩
end
section
variable {ad:Addr} {pr E:List Cd} {b:Nat} {a:Option Addr} {c:Nat} {L:List Cc}
theorem SO (s:Nm) (g:Md) (G:Mc) (m:Mem) (hC:Ck m ad pr E b a c L) (hG:MdX m g G):FnH Tryz.prog 164 [.v (.pointer (some ad)),.v (.string (bs s)),.v (.agg ⟨G.cs⟩)] ⟨[],[]⟩ m
  fun r H' m' =>af m m' /\H' =⟨[],[]⟩/\r= .v (.bool (lb E s g)):=by
 have hS:=pV s m hC;have fr:=(kv E s).ctx hC;have hI:=fun m' (hle:af m m')=>vq s m' (hC.up hle)
 have jN:=(tE E s).ctx hC;have hF:=fun m' (hle:af m m') sa sc (hr:aw m' sa (aT E s).length 1 (strs (aT E s)))=>xO (aT E s) sa sc G.name G.pl m' (hC.up hle) hr (by omega)
 have hM:=fun m' (hle:af m m') sa sc (hr:aw m' sa (bR E s).length 1 (strs (bR E s)))=>Iv (bR E s) sa sc G.name G.pl m' (hC.up hle) hr (by omega)
 have hD:=fun m' (hle:af m m') t=>vz t G.name G.pl m' (hC.up hle)
 have hT:=fun m' (hle:af m m') (x:Md) (X:Mc) (hx:MdX m' x X)=>If x g X G m' hx (hG.up hle)
 have hK:lb E s g=(match ep E (aT E s) G.name G.pl with
  |some (_,m)=> !hasB m.fl 1034&&mQ m g
  |none=>match gp E (bR E s) G.name G.pl with
   |[t]=>((cU E t G.name G.pl).getD nb).hb&&mQ ((cU E t G.name G.pl).getD nb) g
   |_=>false):=by rw[hG.name,hG.pl];rfl
 revert hK hS fr hI jN hF hM hD;generalize ep E (aT E s) G.name G.pl=o
 generalize gp E (bR E s) G.name G.pl=w
 generalize lb E s g=K
 generalize aT E s=sl
 generalize bR E s=il
 intro hS fr hI jN hF hM hD hK;simp only[Mc.cs] at hT;refine enter bb aq Tryz.func164 rfl rfl (by kernel_rfl) rfl ?_ ?_
 ·clear hS hI hF hM hD hT;simp only[go_sem,Mc.cs]
 ·simp only[go_sem,Mc.cs];refine bZ (.hoist 0 (.hoist 1 (.hoist 2 (.hoist 4 (.hoist 5 (.hoist 6 (.alt 3 [6,5,4,0] (.alt 7 [] (.hoist 8 (.hoist 9 (.hoist 10 (.hoist 11 (.alt 12 [11,10,9,8] (.hoist 13 (.alt 14 [11] (.hoist 15 .done) .stop)) .stop))))) (.alt 12 [6,5,4,0] (.alt 7 [] (.hoist 8 (.hoist 9 (.hoist 10 (.hoist 11 (.hoist 13 (.alt 14 [11] (.hoist 15 .done) .stop)))))) .stop) .stop)) (.alt 12 [6,5,4,2,1,0] (.alt 3 [6,5,4,0] (.alt 7 [] (.hoist 8 (.hoist 9 (.hoist 10 (.hoist 11 (.hoist 13 (.alt 14 [11] (.hoist 15 .done) .stop)))))) .stop) .stop) .stop)))))))) aq (by kernel_rfl) (by kernel_rfl) ?_;simp only[go_sem];refine⟨ai (hS.mono ?_),by kernel_rfl,bD (hS.mono ?_)⟩;all_goals
   clear hS;rintro r H' m1 aR ⟨l1,rfl,sa,sc,rfl,h1,h2⟩;have hF:=hF m1 l1 sa sc h2;have bE:=eq_true l1;simp only[go_sem,bE,and_self,true_and];first
    |refine⟨ai (hF.mono ?_),by kernel_rfl,bD (hF.mono ?_)⟩
    |refine ai (hF.mono ?_)
  all_goals
   clear hF;rintro r H' m2 aK ⟨rfl,rfl,o',Y,hA,rfl⟩;cases o with
   |some x=>
    obtain⟨o2,d⟩:=x;obtain⟨rfl,hY⟩:=hA;have hK:K=(!hasB d.fl 1034&&mQ d g):=hK;have hq:hasB d.fl 1034= !decide (bits .and .i64 Y.fl 1034=0):=by rw[hY.fl];rfl
    rw[hq,Bool.not_not] at hK;have hT:=hT m2 l1 d Y hY;clear hI hM hD;simp only[go_sem,Mc.cs,bE,and_self];refine⟨fun h=>ai ((aD hT fun V=>rfl).mono ?_),fun h=> ?_⟩
    ·clear hT;rintro r H' m3 cA ⟨l3,rfl,rfl⟩;rw[aQ h,Bool.true_and] at hK;have oC:=eq_true (aa l1 l3);simp only[go_sem,bE,oC,and_self];first |exact hK.symm |exact⟨aa l1 l3,rfl,by rw[hK]⟩
    ·clear hT;rw[ab h,Bool.false_and] at hK;first |exact hK.symm |exact⟨l1,rfl,by rw[hK]⟩
   |none=>
    have hI:=hI m2 l1;simp only[go_sem,Mc.cs,bE,and_self];refine bZ (.hoist 0 (.hoist 1 (.hoist 2 (.hoist 4 (.hoist 5 (.hoist 6 (.alt 3 [6,5,4,0] (.alt 7 [] (.hoist 8 .done) .stop) .stop))))))) aq (by kernel_rfl) (by kernel_rfl) ?_;simp only[go_sem,bE,and_self];refine ai (hI.mono ?_);clear hI;rintro r H' m3 cA ⟨l3,rfl,ia,ic,rfl,g1,g2⟩;have ra:=aa l1 l3;have abb:=eq_true ra;have oC:=eq_true l3;have hM:=hM m3 ra ia ic g2;simp only[go_sem,abb,oC,and_self];refine ai (hM.mono ?_);clear hM;rintro r H' m4 gW ⟨l4,rfl,wa,wc,rfl,w1,w2⟩;have ix:=aa ra l4;have rr:=eq_true l4;have zw:=eq_true ix;by_cases hw:w.length=1
    ·refine Exists.elim (List.length_eq_one_iff.1 hw) fun t ht=> ?_
     have hD:=hD m4 ix t;have NU:0<w.length:=by omega
     have aI:bS wa w.length 0=True:=js w2 NU;have au:= @iL _ _ _ _ w2 0 NU (.string (bs t)) (by rw[ht];rfl);have hK:K=(((cU E t G.name G.pl).getD nb).hb&&mQ ((cU E t G.name G.pl).getD nb) g):=by rw[hK,ht]
     have ke:((w.length:Int)=1)=True:=eq_true (by omega);simp only[go_sem,zw,rr,and_self,ke];refine bZ (.hoist 0 (.hoist 1 (.hoist 2 (.hoist 3 (.hoist 4 (.hoist 5 (.hoist 6 (.alt 7 [] (.hoist 8 (.hoist 9 (.hoist 10 (.alt 11 [10,9,8] (.alt 12 [10] (.hoist 13 .done) .stop) .stop)))) (.alt 11 [6,5,4,3,2,1,0] (.alt 7 [] (.hoist 8 (.hoist 9 (.hoist 10 (.alt 12 [10] (.hoist 13 .done) .stop)))) .stop) .stop))))))))) aq (by kernel_rfl) (by kernel_rfl) ?_;simp only[go_sem,zw,rr,and_self,aI,au];refine⟨ai (hD.mono ?_),by kernel_rfl,bD (hD.mono ?_)⟩;all_goals
      clear hD;rintro r H' m5 mq ⟨rfl,rfl,Z,hA,rfl⟩;have hZ:=MdA.x hA;rw[<- hZ.hb] at hK;have hT:=hT m5 ix _ Z hZ;simp only[go_sem,Mc.cs,zw,rr,and_self];refine⟨fun h=>ai ((aD hT fun V=>rfl).mono ?_),fun h=> ?_⟩
      ·clear hT;rintro r H' m6 pM ⟨l6,rfl,rfl⟩;rw[h,Bool.true_and] at hK;have xw:=eq_true (aa ix l6);have aba:=eq_true l6;simp only[go_sem,zw,xw,aba,and_self];first |exact hK.symm |exact⟨aa ix l6,rfl,by rw[hK]⟩
      ·clear hT;rw[h,Bool.false_and] at hK;first |exact hK.symm |exact⟨ix,rfl,by rw[hK]⟩
    ·have hn:((w.length:Int)=1)=False:=eq_false (by omega);have NP:K=false:=by
      rw[hK];match w,hw with
      |[],_=>rfl
      |[t],hw=>exact absurd rfl hw
      |_::_::_,_=>rfl
     clear hD;simp only[go_sem,zw,rr,and_self,hn];first |exact NP.symm |exact⟨ix,rfl,by rw[NP]⟩
end
def fu (P:Md->Bool) (l:List Md) (R:CR):CR:=match l.find? P with
 |some m=>(m.name,74)
 |none=>R
theorem J5 (P:Md->Bool) (m:Md) (r:List Md) (R:CR):fu P (m::r) R=if P m=true then(m.name,74) else fu P r R:=by
 unfold fu;rw[List.find?_cons];cases P m<;>rfl
theorem Lk (P:Md->Bool) (l1 l2:List Md) (R:CR):fu P (l1++l2) R=fu P l1 (fu P l2 R):=by
 unfold fu;rw[List.find?_append];cases l1.find? P<;>rfl
def dC (E:List Cd) (s:Nm):List Md:=(bI E s).methods
def rE (E:List Cd) (n:Nm) (m:Md):Bool:=hasB m.fl 1024&& !lb E n m
def lx (E:List Cd) (n:Nm) (m:Md):Bool:= !hasB m.fl 8&& !lb E n m
theorem RJ (E:List Cd) (d:Cd):qp E d=if hasB d.fl 1024=true then([],0) else fu (rE E d.name) ((aT E d.name).flatMap (dC E)) (fu (lx E d.name) ((bR E d.name).flatMap (dC E)) ([],0)):=rfl
section
variable {ad:Addr} {pr E:List Cd} {b:Nat} {a:Option Addr} {c:Nat} {L:List Cc}
theorem Q9 (d:Cd) (X:Cc) (m:Mem) (hC:Ck m ad pr E b a c L) (hX:CdX m d X):FnH Tryz.prog 71 [.v (.pointer (some ad)),.v (.agg ⟨X.cs⟩)] ⟨[],[]⟩ m (mA m (qp E d)):=by
 have hK:=RJ E d;have hS:=pV X.name m hC;have fr:=(kv E X.name).ctx hC;have hI:=fun m' (hle:af m m')=>vq X.name m' (hC.up hle)
 have jN:=(tE E X.name).ctx hC;have hM:=fun m' (hle:af m m') (x:Md) (Y:Mc) (hx:MdX m' x Y)=>SO X.name x Y m' (hC.up hle) hx
 have CT:=fun m' (hle:af m m') s=>(hC.up hle).get s
 rw[<- hX.name,<- hX.fl] at hK;revert hK hS fr hI jN;generalize qp E d=K
 generalize aT E X.name=sl
 generalize bR E X.name=il
 intro hK hS fr hI jN;simp only[Mc.cs] at hM;refine enter bb aq Tryz.func71 rfl rfl (by kernel_rfl) rfl ?_ ?_
 ·clear hS hI hM;simp only[go_sem,Cc.cs]
 ·by_cases hab:hasB X.fl 1024=true
  ·rw[ak hab] at hK;have hb:(bits .and .i64 X.fl 1024=0)=False:=eq_false fun q=>by rw[hasB,q] at hab;exact absurd hab (by decide)
   clear hS hI hM;simp only[go_sem,Cc.cs,hb];subst hK;exact⟨.inl rfl,rfl,rfl⟩
  ·rw[ae hab] at hK;have hb:(bits .and .i64 X.fl 1024=0)=True:=eq_true (Classical.byContradiction fun q=>hab (by rw[hasB,ab q];rfl));simp only[go_sem,Cc.cs,hb];refine ai (hS.mono ?_);clear hS;rintro r H' m1 aR ⟨l1,rfl,sa,sc,rfl,h1,h2⟩;simp only[go_sem];refine cq aq (fun y:Nat×Mem=>⟨[⟨23,[],.v (.int .i64 y.1)⟩,⟨22,[],.v (.int .i64 sl.length)⟩,⟨21,[],.v (.slice sa sl.length sc)⟩,⟨0,[],.v (.pointer (some ad))⟩,⟨3,[],.box 0 0⟩,⟨4,[],.v (.string (bs []))⟩,⟨5,[],.v (.int .i64 0)⟩],[],[⟨0,33,[.v (.int .i64 X.fl),.v (.string (bs X.name)),.v (.string (bs X.super)),.v (.slice X.ia X.il X.ic),.v (.slice X.fa X.fn X.fc),.v (.slice X.ma X.ml X.mc),.v (.slice X.sa X.sl X.sc)]⟩],[],1,y.2⟩)
    (fun y=>af m y.2/\af m1 y.2/\y.1<=sl.length/\fu (rE E X.name) ((sl.drop y.1).flatMap (dC E)) (fu (lx E X.name) (il.flatMap (dC E)) ([],0))=K) (fun y=>sl.length - y.1) (0,m1) (by kernel_rfl) (fun _ _=>aZ rfl) (fun x hx=>hx.2.1) (fun _=> ?_) ?_ ⟨l1,.inl rfl,aF _,by rw[List.drop_zero];exact hK.symm⟩ ?_
   ·clear hI hM;simp only[go_sem]
   ·clear hI hM;simp only[go_sem];exact rfl
   ·rintro⟨i,mm⟩ ⟨q0,q1,q2,q3⟩;dsimp only at q0 q1 q2 q3;by_cases aj:i<sl.length
    ·have hc:((i:Int)<(sl.length:Int))=True:=eq_true (by clear hI hM;omega);have aI:=js (aN q1 h2) aj;have au:= @iL _ _ _ _ (aN q1 h2) _ aj (.string (bs sl[i])) (by unfold strs;rw[List.getElem?_map,List.getElem?_eq_getElem aj];rfl);rw[List.drop_eq_getElem_cons aj,List.flatMap_cons,Lk] at q3;have pR:=hC.up q0;refine Exists.elim (CT mm q0 sl[i]) fun Z hZ=> ?_
     have aU:=hZ.1;simp only[Cc.cs] at aU;refine Exists.elim hZ.2.mth fun xs gF=> ?_
     have dY:Z.ml=(dC E sl[i]).length:=hZ.2.ml;have gi:(dC E sl[i]).length<=ay:=hZ.2.ok.ml;have oy:=gF.1;have pI:dZ (ig mm) 8 (dC E sl[i]) xs:=gF.2;simp only[go_sem,hc,aI,au,cj (j:=0) pR.rd rfl,cj (j:=1) pR.rd rfl,fK pR.rm,nO,↓ox,fh,Cc.cs,aU];refine cq aq (fun z:Nat×Mem=>⟨[⟨35,[],.v (.int .i64 z.1)⟩,⟨34,[],.v (.int .i64 Z.ml)⟩,⟨33,[],.v (.slice Z.ma Z.ml Z.mc)⟩,⟨7,[],.v (.string (bs sl[i]))⟩,⟨23,[],.v (.int .i64 i)⟩,⟨22,[],.v (.int .i64 sl.length)⟩,⟨21,[],.v (.slice sa sl.length sc)⟩,⟨0,[],.v (.pointer (some ad))⟩,⟨3,[],.box 0 0⟩,⟨4,[],.v (.string (bs []))⟩,⟨5,[],.v (.int .i64 0)⟩],[],[⟨0,33,[.v (.int .i64 X.fl),.v (.string (bs X.name)),.v (.string (bs X.super)),.v (.slice X.ia X.il X.ic),.v (.slice X.fa X.fn X.fc),.v (.slice X.ma X.ml X.mc),.v (.slice X.sa X.sl X.sc)]⟩],[],1,z.2⟩)
      (fun z=>af m z.2/\af mm z.2/\z.1<=(dC E sl[i]).length/\fu (rE E X.name) ((dC E sl[i]).drop z.1) (fu (rE E X.name) ((sl.drop (i+1)).flatMap (dC E)) (fu (lx E X.name) (il.flatMap (dC E)) ([],0)))=K) (fun z=>(dC E sl[i]).length - z.1) (0,mm) (by kernel_rfl) (fun _ _=>aZ rfl) (fun x hx=>hx.2.1) (fun _=> ?_) ?_ ⟨q0,.inl rfl,aF _,by rw[List.drop_zero];exact q3⟩ ?_
     ·clear hI hM;simp only[go_sem]
     ·clear hI hM;simp only[go_sem];exact rfl
     ·rintro⟨j,m2⟩ ⟨r0,r1,r2,r3⟩;dsimp only at r0 r1 r2 r3;by_cases hjt:j<(dC E sl[i]).length
      ·have ko:((j:Int)<(Z.ml:Int))=True:=eq_true (by clear hI hM;omega);rw[List.drop_eq_getElem_cons hjt,J5] at r3;refine Exists.elim (ue (aN r1 oy) dY (jf (fun _ _=>lA r1) pI) hjt) fun Y hY=> ?_
       have rv:bS Z.ma Z.ml (j:Int)=True:=eq_true ⟨by clear hI hM;omega,by clear hI hM;omega,hY.2.1⟩;have mu:= @cC _ _ _ 8 hY.1 rfl;simp only[Mc.cs] at mu;have hM:=hM m2 r0 _ Y hY.2.2;have hP:rE E X.name (dC E sl[i])[j]=(!decide (bits .and .i64 Y.fl 1024=0)&& !lb E X.name (dC E sl[i])[j]):=by rw[hY.2.2.fl];first |rfl |(unfold rE hasB;rw[Bool.not_not])
       rw[hP,<- hY.2.2.name] at r3;clear hI;simp only[go_sem,ko,rv,mu];refine⟨fun h0=> ?_,fun h0=> ?_⟩;all_goals
        first
         |refine ai ((aD hM fun V=>rfl).mono ?_)
          clear hM;rintro r H' m3 cA ⟨l3,rfl,rfl⟩;by_cases hB:lb E X.name (dC E sl[i])[j]=true
          ·rw[hB,Bool.not_true,Bool.and_false,ae (by decide)] at r3;simp only[go_sem,hB];exact⟨by unfold az;unfold ay at gi;omega,(j+1,m3),⟨by simp,.inl rfl⟩,⟨aa r0 l3,aa r1 l3,hjt,r3⟩,by omega⟩
          ·have hB:=(Bool.not_eq_true _).mp hB;rw[hB,ab h0] at r3;have r3:(Y.name,74)=K:=r3;simp only[go_sem,hB];subst r3;exact⟨aa r0 l3,rfl,rfl⟩
         |clear hM
          rw[aQ h0] at r3;have r3:fu (rE E X.name) ((dC E sl[i]).drop (j+1)) (fu (rE E X.name) ((sl.drop (i+1)).flatMap (dC E)) (fu (lx E X.name) (il.flatMap (dC E)) ([],0)))=K:=r3;exact⟨by unfold az;unfold ay at gi;omega,(j+1,m2),⟨by simp,.inl rfl⟩,⟨r0,r1,hjt,r3⟩,by omega⟩
      ·have ko:((j:Int)<(Z.ml:Int))=False:=eq_false (by clear hI hM;omega);rw[List.drop_of_length_le (by clear hI hM;omega)] at r3;have r3:fu (rE E X.name) ((sl.drop (i+1)).flatMap (dC E)) (fu (lx E X.name) (il.flatMap (dC E)) ([],0))=K:=r3;clear hI hM;simp only[go_sem,ko];exact⟨by unfold az;omega,(i+1,m2),⟨by simp,.inl rfl⟩,⟨r0,aa q1 r1,aj,r3⟩,by omega⟩
    ·have hc:((i:Int)<(sl.length:Int))=False:=eq_false (by clear hI hM;omega);rw[List.drop_of_length_le (by clear hI hM;omega),List.flatMap_nil] at q3;have q3:(fu (lx E X.name) (il.flatMap (dC E)) ([],0))=K:=q3;have hI:=hI mm q0;simp only[go_sem,hc];refine ai (hI.mono ?_);clear hI;rintro r H' m5 mq ⟨l5,rfl,ia,ic,rfl,g1,g2⟩;have l05:=aa q0 l5;have hI:=True.intro;simp only[go_sem];refine cq aq (fun y:Nat×Mem=>⟨[⟨60,[],.v (.int .i64 y.1)⟩,⟨59,[],.v (.int .i64 il.length)⟩,⟨58,[],.v (.slice ia il.length ic)⟩,⟨0,[],.v (.pointer (some ad))⟩,⟨3,[],.box 0 0⟩,⟨4,[],.v (.string (bs []))⟩,⟨5,[],.v (.int .i64 0)⟩],[],[⟨0,33,[.v (.int .i64 X.fl),.v (.string (bs X.name)),.v (.string (bs X.super)),.v (.slice X.ia X.il X.ic),.v (.slice X.fa X.fn X.fc),.v (.slice X.ma X.ml X.mc),.v (.slice X.sa X.sl X.sc)]⟩],[],1,y.2⟩)
      (fun y=>af m y.2/\af m5 y.2/\y.1<=il.length/\fu (lx E X.name) ((il.drop y.1).flatMap (dC E)) (([],0):CR)=K) (fun y=>il.length - y.1) (0,m5) (by kernel_rfl) (fun _ _=>aZ rfl) (fun x hx=>hx.2.1) (fun _=> ?_) ?_ ⟨l05,.inl rfl,aF _,by rw[List.drop_zero];exact q3⟩ ?_
     ·clear hI hM;simp only[go_sem]
     ·clear hI hM;simp only[go_sem];exact rfl
     ·rintro⟨i,mm⟩ ⟨q0,q1,q2,q3⟩;dsimp only at q0 q1 q2 q3;by_cases aj:i<il.length
      ·have hc:((i:Int)<(il.length:Int))=True:=eq_true (by clear hI hM;omega);have aI:=js (aN q1 g2) aj;have au:= @iL _ _ _ _ (aN q1 g2) _ aj (.string (bs il[i])) (by unfold strs;rw[List.getElem?_map,List.getElem?_eq_getElem aj];rfl);rw[List.drop_eq_getElem_cons aj,List.flatMap_cons,Lk] at q3;have pR:=hC.up q0;refine Exists.elim (CT mm q0 il[i]) fun Z hZ=> ?_
       have aU:=hZ.1;simp only[Cc.cs] at aU;refine Exists.elim hZ.2.mth fun xs gF=> ?_
       have dY:Z.ml=(dC E il[i]).length:=hZ.2.ml;have gi:(dC E il[i]).length<=ay:=hZ.2.ok.ml;have oy:=gF.1;have pI:dZ (ig mm) 8 (dC E il[i]) xs:=gF.2;simp only[go_sem,hc,aI,au,cj (j:=0) pR.rd rfl,cj (j:=1) pR.rd rfl,fK pR.rm,nO,↓ox,fh,Cc.cs,aU];refine cq aq (fun z:Nat×Mem=>⟨[⟨72,[],.v (.int .i64 z.1)⟩,⟨71,[],.v (.int .i64 Z.ml)⟩,⟨70,[],.v (.slice Z.ma Z.ml Z.mc)⟩,⟨11,[],.v (.string (bs il[i]))⟩,⟨60,[],.v (.int .i64 i)⟩,⟨59,[],.v (.int .i64 il.length)⟩,⟨58,[],.v (.slice ia il.length ic)⟩,⟨0,[],.v (.pointer (some ad))⟩,⟨3,[],.box 0 0⟩,⟨4,[],.v (.string (bs []))⟩,⟨5,[],.v (.int .i64 0)⟩],[],[⟨0,33,[.v (.int .i64 X.fl),.v (.string (bs X.name)),.v (.string (bs X.super)),.v (.slice X.ia X.il X.ic),.v (.slice X.fa X.fn X.fc),.v (.slice X.ma X.ml X.mc),.v (.slice X.sa X.sl X.sc)]⟩],[],1,z.2⟩)
        (fun z=>af m z.2/\af mm z.2/\z.1<=(dC E il[i]).length/\fu (lx E X.name) ((dC E il[i]).drop z.1) (fu (lx E X.name) ((il.drop (i+1)).flatMap (dC E)) (([],0):CR))=K) (fun z=>(dC E il[i]).length - z.1) (0,mm) (by kernel_rfl) (fun _ _=>aZ rfl) (fun x hx=>hx.2.1) (fun _=> ?_) ?_ ⟨q0,.inl rfl,aF _,by rw[List.drop_zero];exact q3⟩ ?_
       ·clear hI hM;simp only[go_sem]
       ·clear hI hM;simp only[go_sem];exact rfl
       ·rintro⟨j,m2⟩ ⟨r0,r1,r2,r3⟩;dsimp only at r0 r1 r2 r3;by_cases hjt:j<(dC E il[i]).length
        ·have ko:((j:Int)<(Z.ml:Int))=True:=eq_true (by clear hI hM;omega);rw[List.drop_eq_getElem_cons hjt,J5] at r3;refine Exists.elim (ue (aN r1 oy) dY (jf (fun _ _=>lA r1) pI) hjt) fun Y hY=> ?_
         have rv:bS Z.ma Z.ml (j:Int)=True:=eq_true ⟨by clear hI hM;omega,by clear hI hM;omega,hY.2.1⟩;have mu:= @cC _ _ _ 8 hY.1 rfl;simp only[Mc.cs] at mu;have hM:=hM m2 r0 _ Y hY.2.2;have hP:lx E X.name (dC E il[i])[j]=(decide (bits .and .i64 Y.fl 8=0)&& !lb E X.name (dC E il[i])[j]):=by rw[hY.2.2.fl];first |rfl |(unfold lx hasB;rw[Bool.not_not])
         rw[hP,<- hY.2.2.name] at r3;clear hI;simp only[go_sem,ko,rv,mu];refine⟨fun h0=> ?_,fun h0=> ?_⟩;all_goals
          first
           |refine ai ((aD hM fun V=>rfl).mono ?_)
            clear hM;rintro r H' m3 cA ⟨l3,rfl,rfl⟩;by_cases hB:lb E X.name (dC E il[i])[j]=true
            ·rw[hB,Bool.not_true,Bool.and_false,ae (by decide)] at r3;simp only[go_sem,hB];exact⟨by unfold az;unfold ay at gi;omega,(j+1,m3),⟨by simp,.inl rfl⟩,⟨aa r0 l3,aa r1 l3,hjt,r3⟩,by omega⟩
            ·have hB:=(Bool.not_eq_true _).mp hB;rw[hB,aQ h0] at r3;have r3:(Y.name,74)=K:=r3;simp only[go_sem,hB];subst r3;exact⟨aa r0 l3,rfl,rfl⟩
           |clear hM
            rw[ab h0] at r3;have r3:fu (lx E X.name) ((dC E il[i]).drop (j+1)) (fu (lx E X.name) ((il.drop (i+1)).flatMap (dC E)) (([],0):CR))=K:=r3;exact⟨by unfold az;unfold ay at gi;omega,(j+1,m2),⟨by simp,.inl rfl⟩,⟨r0,r1,hjt,r3⟩,by omega⟩
        ·have ko:((j:Int)<(Z.ml:Int))=False:=eq_false (by clear hI hM;omega);rw[List.drop_of_length_le (by clear hI hM;omega)] at r3;have r3:fu (lx E X.name) ((il.drop (i+1)).flatMap (dC E)) (([],0):CR)=K:=r3;clear hI hM;simp only[go_sem,ko];exact⟨by unfold az;omega,(i+1,m2),⟨by simp,.inl rfl⟩,⟨r0,aa q1 r1,aj,r3⟩,by omega⟩
      ·have hc:((i:Int)<(il.length:Int))=False:=eq_false (by clear hI hM;omega);rw[List.drop_of_length_le (by clear hI hM;omega),List.flatMap_nil] at q3;have q3:(([],0):CR)=K:=q3;clear hI hM;simp only[go_sem,hc];subst q3;exact⟨q0,rfl,rfl⟩
end
def mf (E:List Cd) (m:Md) (s:Nm):Bool:=match cU E s m.name m.params.length with
 |some g=> !hasB g.fl 2&&wq m g
 |none=>false
def CA (E:List Cd) (d:Cd) (m:Md):Bool:= !decide (m.name=bJ)&&((aT E d.name).tail++bR E d.name).any (mf E m)
theorem I6 (E:List Cd) (d:Cd):qo E d=match d.fields.find? fun f=>(cg E d.super f.name).isSome with
 |some f=>(f.name,73)
 |none=>match d.methods.find? (CA E d) with
  |some m=>(m.name,73)
  |none=>([],0):=rfl
theorem qy {α:Type} {p:Prop} [Decidable p] {a b:α×Int} (h:(if p then a else b).2=0):(p/\a.2=0)\/(¬p/\b.2=0):=by
 by_cases hp:p
 ·rw[ak hp] at h;exact .inl ⟨hp,h⟩
 ·rw[ae hp] at h;exact .inr ⟨hp,h⟩
section
variable {E pr:List Cd}
theorem Di {n:Nat}:∀{l:List Nat},(kW E pr n l).2.2=0↔∀i∈l,(eu E pr n i).2=0
 |[]=>⟨fun _ i hi=>(by cases hi),fun _=>rfl⟩
 |i::r=>by
  rw[kW];by_cases h:(eu E pr n i).2=0
  ·rw[ak h,Di];exact⟨fun q j hj=>(List.mem_cons.1 hj).elim (fun e=>by rw[e];exact h) (q j),fun q j hj=>q j (bw _ hj)⟩
  ·rw[ae h];exact⟨fun q=>absurd q h,fun q=>absurd (q i (bN ..)) h⟩
theorem Ig:∀{l:List Nat},(mR E pr l).2.2=0↔∀n∈l,∀i,i<pr.length->(eu E pr n i).2=0
 |[]=>⟨fun _ n hn=>(by cases hn),fun _=>rfl⟩
 |n::r=>by
  rw[mR];by_cases h:(kW E pr n (List.range pr.length)).2.2=0
  ·rw[ak h,Ig];have h' :=Di.1 h;exact⟨fun q j hj=>(List.mem_cons.1 hj).elim (fun e=>by rw[e];exact fun i hi=>h' i (List.mem_range.2 hi)) (q j),fun q j hj=>q j (bw _ hj)⟩
  ·rw[ae h];exact⟨fun q=>absurd q h,fun q=>absurd (Di.2 fun i hi=>q n (bN ..) i (List.mem_range.1 hi)) h⟩
structure Acc (E pr:List Cd):Prop where
 p1:∀d∈pr,(nS E d).2=0
 p2:∀d∈pr,(o8 E d).2=0
 p3:∀d∈pr,(o6 E d).2=0
 p4:∀d∈pr,(qo E d).2=0
 p5:∀d∈pr,(qp E d).2=0
 p6:∀i,i<pr.length->(qC E pr i).2=0
theorem oP {i:Nat} (hi:i<pr.length):pr.getD i eT=pr[i]:=by rw[List.getD_eq_getElem?_getD,List.getElem?_eq_getElem hi];rfl
theorem oU {P:Cd->Prop}:(∀i,i<pr.length->P (pr.getD i eT))↔∀d∈pr,P d:=by
 constructor
 ·intro h d hd;obtain⟨i,hi,rfl⟩:=List.getElem_of_mem hd;rw[<- oP hi];exact h i hi
 ·intro h i hi;rw[oP hi];exact h _ (List.getElem_mem hi)
theorem VX:(mR E pr [1,2,3,4,5,6]).2.2=0↔Acc E pr:=by
 rw[Ig];constructor
 ·intro h;exact⟨oU.1 fun i hi=>h 1 (by simp) i hi,oU.1 fun i hi=>h 2 (by simp) i hi,oU.1 fun i hi=>h 3 (by simp) i hi,oU.1 fun i hi=>h 4 (by simp) i hi,oU.1 fun i hi=>h 5 (by simp) i hi,fun i hi=>h 6 (by simp) i hi⟩
 ·intro h n hn i hi;simp only[List.mem_cons,List.not_mem_nil,or_false] at hn;rcases hn with rfl |rfl |rfl |rfl |rfl |rfl
  ·exact oU.2 h.p1 i hi
  ·exact oU.2 h.p2 i hi
  ·exact oU.2 h.p3 i hi
  ·exact oU.2 h.p4 i hi
  ·exact oU.2 h.p5 i hi
  ·exact h.p6 i hi
theorem AD {B:List Cd}:(gJ B pr).2.2=0↔(dT [] pr).2=0/\Acc (pr++B) pr:=by
 unfold gJ;by_cases h:(dT [] pr).2=0
 ·rw[ak h,VX];exact⟨fun q=>⟨h,q⟩,fun q=>q.2⟩
 ·rw[ae h];exact⟨fun q=>absurd q h,fun q=>absurd q.1 h⟩
structure NmsOk (E:List Cd) (d:Cd):Prop where
 pre:j4.isPrefixOf d.name=false
 sup:(cls E d.super).isSome=true
 ifs:∀s∈d.ifs,(cls E s).isSome=true
 fld:∀f∈d.fields,cM E f.ty=true
 par:∀m∈d.methods,∀p∈m.params,cM E p.ty=true
 res:∀m∈d.methods,cM E m.res=true
theorem SJ {α:Type} {o:Option α} (h:o.isNone=false):o.isSome=true:=by cases o<;>simp_all
theorem xX {α:Type} {P:α->Bool} {l:List α}:l.find? P=none↔∀x∈l,P x=false:=by
 rw[List.find?_eq_none];exact⟨fun h x hx=>(Bool.not_eq_true _).mp (h x hx),fun h x hx=>by rw[h x hx];decide⟩
theorem Pr {d:Cd}:(nS E d).2=0↔NmsOk E d:=by
 unfold nS;constructor
 ·intro h;rcases qy h with ⟨_,h⟩ |⟨h1,h⟩
  ·cases h
  ·have h1:=(Bool.not_eq_true _).mp h1;rw[Bool.or_eq_false_iff] at h1;split at h
   ·cases h
   ·rename_i hf;split at h
    ·cases h
    ·rename_i hm;rw[xX] at hf hm;have h2:=List.any_eq_false.1 h1.2;have h3:∀s∈d.super::d.ifs,(cls E s).isSome=true:=fun s hs=>SJ ((Bool.not_eq_true _).mp (h2 s hs))
     refine⟨h1.1,h3 _ (bN ..),fun s hs=>h3 s (bw _ hs),fun f q=>by simpa using hf f q,fun m q p hp=> ?_,fun m q=> ?_⟩
     ·have:=hm m q;rw[Bool.or_eq_false_iff] at this;have:=List.any_eq_false.1 this.1 p hp;simpa using this
     ·have:=hm m q;rw[Bool.or_eq_false_iff] at this;simpa using this.2
 ·intro h;have e1:(j4.isPrefixOf d.name||(d.super::d.ifs).any fun s=>(cls E s).isNone)=false:=by
   rw[Bool.or_eq_false_iff];refine⟨h.pre,List.any_eq_false.2 fun s hs=> ?_⟩;have:(cls E s).isSome=true:=by
    rcases List.mem_cons.1 hs with rfl |hs
    ·exact h.sup
    ·exact h.ifs s hs
   intro hn;rw[Option.isNone_iff_eq_none.1 hn] at this;cases this
  have e2:(d.fields.find? fun f=> !cM E f.ty)=none:=xX.2 fun f hf=>by rw[h.fld f hf];rfl
  have e3:(d.methods.find? fun m=>(m.params.any fun p=> !cM E p.ty)|| !cM E m.res)=none:=xX.2 fun m hm=>by
   rw[Bool.or_eq_false_iff];exact⟨List.any_eq_false.2 fun p hp=>by simp [h.par m hm p hp],by rw[h.res m hm];rfl⟩
  rw[e1,e2,e3];rfl
theorem DB {i:Nat}:∀{l:List Md},(mW E pr i l).2=0↔∀m∈l,m.hb=true->kY E pr i m=0
 |[]=>⟨fun _ m hm=>(by cases hm),fun _=>rfl⟩
 |m::r=>by
  rw[mW];by_cases h:m.hb=true/\kY E pr i m≠0
  ·rw[ak h];exact⟨fun q=>absurd q h.2,fun q=>absurd (q m (bN ..) h.1) h.2⟩
  ·rw[ae h,DB];refine⟨fun q x hx=> ?_,fun q x hx=>q x (bw _ hx)⟩;rcases List.mem_cons.1 hx with rfl |hx
   ·exact fun hb=>Classical.byContradiction fun h0=>h ⟨hb,h0⟩
   ·exact q x hx
structure BodsOk (E pr:List Cd) (i:Nat):Prop where
 mth:∀m∈(pr.getD i eT).methods,m.hb=true->kY E pr i m=0
 con:hasB (pr.getD i eT).fl 512=false->((pr.getD i eT).methods.any fun m=>decide (m.name=bJ))=false->iE E ⟨pr,i,false,false,ij,[]⟩ []=0
 ini:bU E ⟨pr,i,true,false,ij,[]⟩ false (pr.getD i eT).init=0
theorem IX {i:Nat}:(qC E pr i).2=0↔BodsOk E pr i:=by
 unfold qC;by_cases h:(mW E pr i (pr.getD i eT).methods).2=0
 ·rw[ae (by simpa using h)];by_cases h2:hasB (pr.getD i eT).fl 512=false/\((pr.getD i eT).methods.any fun m=>decide (m.name=bJ))=false/\iE E ⟨pr,i,false,false,ij,[]⟩ []≠0
  ·rw[ak h2];exact⟨fun q=>absurd q h2.2.2,fun q=>absurd (q.con h2.1 h2.2.1) h2.2.2⟩
  ·rw[ae h2];by_cases h3:bU E ⟨pr,i,true,false,ij,[]⟩ false (pr.getD i eT).init=0
   ·rw[ak h3];exact⟨fun _=>⟨DB.1 h,fun q1 q2=>Classical.byContradiction fun h0=>h2 ⟨q1,q2,h0⟩,h3⟩,fun _=>rfl⟩
   ·rw[ae h3];exact⟨fun q=>absurd q h3,fun q=>absurd q.ini h3⟩
 ·rw[ak h];exact⟨fun q=>absurd q h,fun q=>absurd (DB.2 q.mth) h⟩
end
theorem abR (X:BitVec 64):X&&& 8#64=0#64↔X.getLsbD 3=false:=by
 have h:(8#64:BitVec 64)=BitVec.twoPow 64 3:=by decide
 rw[h,BitVec.and_twoPow];cases X.getLsbD 3 with
 |false=>simp
 |true=>
  simp only[if_true,reduceCtorEq,iff_false];decide
theorem Ki (V:BitVec 64):BitVec.ofInt 64 (IntKind.i64.wrap (V.toNat:Int))=V:=by
 apply BitVec.eq_of_toNat_eq
 rw[BitVec.toNat_ofInt];have h:=V.isLt;unfold IntKind.wrap;simp only[IntKind.bits,IntKind.signed];have e:((2:Int) ^ 64)=18446744073709551616:=by decide
 have e1:((2:Int) ^ (64 - 1))=9223372036854775808:=by decide
 have e2:((2:Nat) ^ 64)=18446744073709551616:=by decide
 rw[e2] at h;simp only[e,e1,Bool.true_and,cE];split<;>omega
theorem FA (x:Int):bits .and .i64 x 8=0↔(BitVec.ofInt 64 x).getLsbD 3=false:=by
 rw[<- abR];have h8:BitVec.ofInt 64 8=8#64:=by decide
 show IntKind.i64.wrap ((BitVec.ofInt 64 x&&& BitVec.ofInt 64 8).toNat:Int)=0↔_;rw[h8];constructor
 ·intro h;rw[<- Ki (BitVec.ofInt 64 x&&& 8#64),h];rfl
 ·intro h;rw[h];rfl
theorem ZM (a b:Int):bits .and .i64 (bits .xor .i64 a b) 8=0↔(bits .and .i64 a 8=0↔bits .and .i64 b 8=0):=by
 rw[FA,FA,FA];have:BitVec.ofInt 64 (bits .xor .i64 a b)=BitVec.ofInt 64 a ^^^ BitVec.ofInt 64 b:=Ki _;rw[this,BitVec.getLsbD_xor];cases (BitVec.ofInt 64 a).getLsbD 3<;>cases (BitVec.ofInt 64 b).getLsbD 3<;>simp
theorem TP (a b:Int):(hasB a 8==hasB b 8)=decide (bits .and .i64 (bits .xor .i64 a b) 8=0):=by
 rw[Bool.eq_iff_iff,cE,ZM,beq_iff_eq];unfold hasB;by_cases h1:bits .and .i64 a 8=0<;>by_cases h2:bits .and .i64 b 8=0<;>simp [h1,h2]
def fvO:Option (Nm×Fc)->Nm |some x=>x.1 |none=>[]
def Ar:Option (Nm×Fc)->Fc |some x=>x.2 |none=>⟨0,an,[]⟩
theorem QY (o:Option (Nm×Fc)):qk o= .tuple ⟨[.string (bs (fvO o)),.agg ⟨[.int .i64 (Ar o).fl,.int .i64 (Ar o).ty.dim,.int .u8 (Ar o).ty.base,.string (bs (Ar o).ty.name),.string (bs (Ar o).name)]⟩,.bool o.isSome]⟩:=by
 cases o<;>rfl
def Cx:List Value->Option (Prop×Value)
 |[.int .i64 k]=>some (True,.int .i64 (sd k))
 |_=>none
attribute [go_sem] Cx.eq_1
theorem WT:∀aO y,Cx aO=some y->y.1->∀m,FnH Tryz.prog 163 (aO.map SV.v) ⟨[],[]⟩ m fun r H' _=>r= .v y.2/\H' =⟨[],[]⟩:=fun aO y hy hB m=>by
 unfold Cx at hy;split at hy
 ·rename_i k;cases hy;exact RV k m
 ·cases hy
abbrev MV (pr E:List Cd):Cfg:=kZ (fun _=>false) [(43,wo pr E fun s n=>qk (cg E s n)),(163,fun _=>Cx)]
theorem zk (pr E:List Cd):cw (MV pr E) Tryz.prog:=fG (by kernel_rfl) (Ej fun p s n m h=>by obtain⟨ad,b,a,c,L,rfl,hC⟩:=h;exact DR s n m hC) (fG (by kernel_rfl) (fun m aO y hy hB=>WT aO y hy hB m) rK)
def zQ (E:List Cd) (s:Nm) (l:List Fc) (R:CR):CR:=match l.find? fun f=>(cg E s f.name).isSome with
 |some f=>(f.name,73)
 |none=>R
theorem Sl (E:List Cd) (s:Nm) (f:Fc) (r:List Fc) (R:CR):zQ E s (f::r) R=if(cg E s f.name).isSome=true then(f.name,73) else zQ E s r R:=by
 unfold zQ;rw[List.find?_cons];cases (cg E s f.name).isSome<;>rfl
def ot (E:List Cd) (W:List Nm) (l:List Md):CR:=match l.find? fun m=> !decide (m.name=bJ)&&W.any (mf E m) with
 |some m=>(m.name,73)
 |none=>([],0)
theorem Sk (E:List Cd) (W:List Nm) (m:Md) (r:List Md):ot E W (m::r)=if(!decide (m.name=bJ)&&W.any (mf E m))=true then(m.name,73) else ot E W r:=by
 unfold ot;rw[List.find?_cons];cases (!decide (m.name=bJ)&&W.any (mf E m))<;>rfl
theorem P1 (E:List Cd) (d:Cd):qo E d=zQ E d.super d.fields (ot E ((aT E d.name).tail++bR E d.name) d.methods):=rfl
theorem HH {E:List Cd}:∀{f:Nat} {out:List Nm} {s x:Nm},x∈out->x∈dv E f out s
 |0,_,_,_,h=>h
 |f+1,out,s,x,h=>by
  rw[dv];cases hc:cls E s with
  |none=>exact h
  |some d=>
   dsimp only;split
   ·exact h
   ·exact HH (List.mem_append_left _ h)
section
variable {ad:Addr} {pr E:List Cd} {b:Nat} {a:Option Addr} {c:Nat} {L:List Cc}
theorem Sj (d:Cd) (X:Cc) (m:Mem) (hC:Ck m ad pr E b a c L) (hX:CdX m d X) (NM:(cls E d.name).isSome=true):FnH Tryz.prog 70 [.v (.pointer (some ad)),.v (.agg ⟨X.cs⟩)] ⟨[],[]⟩ m (mA m (qo E d)):=by
 have hK:=P1 E d;have hS:=HG X.name m hC;have fr:=(kv E X.name).ctx hC;have hI:=fun m' (hle:af m m')=>vq X.name m' (hC.up hle)
 have jN:=(tE E X.name).ctx hC;have hD:=fun m' (hle:af m m') s n k=>vz s n k m' (hC.up hle)
 have aS:=fun m' (hle:af m m')=>(hC.up hle).chk
 have hT:=fun m' (x y:Md) (Y Z:Mc) (hx:MdX m' x Y) (hy:MdX m' y Z)=>If x y Y Z m' hx hy
 have b9:1<=(aT E X.name).length:=by
  rw[hX.name];obtain⟨e,he⟩:=Option.isSome_iff_exists.1 NM;unfold aT;rw[dv,he];dsimp only;rw[ae (by simp)];exact cQ (by simp) (List.length_pos_of_mem (HH (E:=E) (f:=E.length) (out:=[]++[d.name]) (s:=e.super) (x:=d.name) (by simp)))
 have my:=hX.fds;have dK:=hX.fn;have gH:=hX.ok.fn;have jM:=hX.mth;have dY:=hX.ml;have gi:=hX.ok.ml;rw[<- hX.name,<- hX.sup] at hK;clear hX NM;revert hK hS fr hI jN b9 my dK gH jM dY gi;generalize qo E d=K
 generalize aT E X.name=sl
 generalize bR E X.name=il
 generalize d.fields=fl
 generalize d.methods=ml
 intro hK hS fr hI jN b9 my dK gH jM dY gi;simp only[Mc.cs] at hT;refine enter (MV pr E) (zk pr E) Tryz.func70 rfl rfl (by kernel_rfl) rfl ?_ ?_
 ·clear hS hI hD hT;simp only[go_sem,Cc.cs]
 ·simp only[go_sem,Cc.cs];refine ai (hS.mono ?_);clear hS;rintro r H' m1 aR ⟨l1,u,rfl,rfl⟩;have abf:=aS m1 l1;have abe:=aN l1 my;have aa9:((1:Int)<=(sl.length:Int))=True:=eq_true (by clear hI hD hT;omega);simp only[go_sem,aa9]
  refine⟨by decide,cq (zk pr E) (fun i:Nat=>⟨[⟨26,[],.v (.int .i64 i)⟩,⟨25,[],.v (.int .i64 X.fn)⟩,⟨24,[],.v (.slice X.fa X.fn X.fc)⟩,⟨6,[],.vo 1 u 1 1⟩,⟨0,[],.v (.pointer (some ad))⟩,⟨3,[],.box 0 0⟩,⟨4,[],.v (.string (bs []))⟩,⟨5,[],.v (.int .i64 0)⟩],[],[⟨0,33,[.v (.int .i64 X.fl),.v (.string (bs X.name)),.v (.string (bs X.super)),.v (.slice X.ia X.il X.ic),.v (.slice X.fa X.fn X.fc),.v (.slice X.ma X.ml X.mc),.v (.slice X.sa X.sl X.sc)]⟩],[⟨1,u,9,1,sl.length,strs sl⟩],2,m1⟩)
   (fun i=>i<=fl.length/\zQ E X.super (fl.drop i) (ot E (sl.tail++il) ml)=K) (fun i=>fl.length - i) 0 (by kernel_rfl) (fun _ _=>aZ rfl) (fun x hx=> .inl rfl) (fun _=> ?_) ?_ ⟨aF _,by rw[List.drop_zero];exact hK.symm⟩ ?_⟩
  ·clear hI hD hT;simp only[go_sem]
  ·clear hI hD hT;simp only[go_sem];first |exact rfl |exact⟨rfl,rfl⟩
  ·rintro i ⟨i1,i2⟩;by_cases aj:i<fl.length
   ·have hc:((i:Int)<(X.fn:Int))=True:=eq_true (by clear hI hD hT;omega);rw[List.drop_eq_getElem_cons aj,Sl] at i2;have gY:=dM abe (by clear hI hD hT;omega:i<X.fn);rw[mK (f:=Fc.cs) (sz:=5) (fun _=>rfl) aj] at gY;have aI:bS X.fa X.fn (i:Int)=True:=eq_true ⟨by clear hI hD hT;omega,by clear hI hD hT;omega,gY.2⟩;have au:= @cC _ _ _ 5 gY.1 rfl;simp only[Fc.cs] at au;clear hI hD hT;simp only[go_sem,hc,aI,au,abf,QY];refine⟨fun h=> ?_,fun h=> ?_⟩
    ·rw[ak h] at i2;subst i2;exact⟨l1,rfl,rfl⟩
    ·rw[ae (by rw[h];decide)] at i2;exact⟨by unfold az;unfold ay at gH;omega,i+1,by simp,⟨aj,i2⟩,by omega⟩
   ·have hc:((i:Int)<(X.fn:Int))=False:=eq_false (by clear hI hD hT;omega);rw[List.drop_of_length_le (by clear hI hD hT;omega)] at i2;have i2:ot E (sl.tail++il) ml=K:=i2;have hI:=hI m1 l1;simp only[go_sem,hc];refine ai (hI.mono ?_);clear hI;rintro r H' m5 mq ⟨l5,rfl,ia,ic,rfl,g1,g2⟩;have mg:=aa l1 l5;simp only[go_sem];refine⟨b9,strs il,g2,?_,?_,fun wa wc m6 e1 e2 e3=> ?_⟩
    ·intro v hv;unfold strs at hv;obtain⟨x,_,rfl⟩:=List.mem_map.1 hv;rfl
    ·exact E8 (by clear hD hT;omega) (by decide)
    have hW:aw m6 wa (sl.length - 1+il.length) 1 (strs (sl.tail++il)):=by
     have:strs (sl.tail++il)=List.drop 1 (strs sl)++strs il:=by unfold strs;rw[List.map_append,List.drop_one,List.map_tail]
     rw[this];exact e3
    have hWl:(sl.tail++il).length=sl.length - 1+il.length:=by rw[bc,List.length_tail]
    have nt:=aa mg (.inr e1);refine cq (zk pr E) (fun y:Nat×Mem=>⟨[⟨53,[],.v (.int .i64 y.1)⟩,⟨52,[],.v (.int .i64 X.ml)⟩,⟨51,[],.v (.slice X.ma X.ml X.mc)⟩,⟨6,[],.v (.slice wa (sl.length - 1+il.length) wc)⟩,⟨0,[],.v (.pointer (some ad))⟩,⟨3,[],.box 0 0⟩,⟨4,[],.v (.string (bs []))⟩,⟨5,[],.v (.int .i64 0)⟩],[],[⟨0,33,[.v (.int .i64 X.fl),.v (.string (bs X.name)),.v (.string (bs X.super)),.v (.slice X.ia X.il X.ic),.v (.slice X.fa X.fn X.fc),.v (.slice X.ma X.ml X.mc),.v (.slice X.sa X.sl X.sc)]⟩],[],3,y.2⟩)
     (fun y=>af m y.2/\af m6 y.2/\y.1<=ml.length/\ot E (sl.tail++il) (ml.drop y.1)=K) (fun y=>ml.length - y.1) (0,m6) (by kernel_rfl) (fun _ _=>aZ rfl) (fun x hx=>hx.2.1) (fun _=> ?_) ?_ ⟨nt,.inl rfl,aF _,by rw[List.drop_zero];exact i2⟩ ?_
    ·clear hD hT;simp only[go_sem]
    ·clear hD hT;simp only[go_sem];exact rfl
    ·rintro⟨j,mm⟩ ⟨q0,q1,q2,q3⟩;dsimp only at q0 q1 q2 q3;by_cases hjt:j<ml.length
     ·have hc:((j:Int)<(X.ml:Int))=True:=eq_true (by clear hD hT;omega);rw[List.drop_eq_getElem_cons hjt,Sk] at q3;refine Exists.elim jM fun xs gF=> ?_
      refine Exists.elim (ue (aN q0 gF.1) dY (jf (fun _ _=>lA q0) gF.2) hjt) fun Y hY=> ?_
      have aI:bS X.ma X.ml (j:Int)=True:=eq_true ⟨by clear hD hT;omega,by clear hD hT;omega,hY.2.1⟩;have au:= @cC _ _ _ 8 hY.1 rfl;simp only[Mc.cs] at au;rw[<- hY.2.2.name] at q3;by_cases bg:Y.name=bJ
      ·have hi:(Y.name=[60,105,110,105,116,62])=True:=eq_true bg;rw[aQ bg] at q3;have q3:ot E (sl.tail++il) (ml.drop (j+1))=K:=q3;clear hD hT;simp only[go_sem,hc,aI,au,hi];exact⟨by unfold az;unfold ay at gi;omega,(j+1,mm),⟨by simp,.inl rfl⟩,⟨q0,q1,hjt,q3⟩,by omega⟩
      ·have hi:(Y.name=[60,105,110,105,116,62])=False:=eq_false bg;rw[ab bg,Bool.not_false,Bool.true_and] at q3;have hk0:(if((sl.tail++il).drop 0).any (mf E ml[j])=true then((Y.name,73):CR) else ot E (sl.tail++il) (ml.drop (j+1)))=K:=by rw[List.drop_zero];exact q3
       simp only[go_sem,hc,aI,au,hi];refine cq (zk pr E) (fun z:Nat×Mem=>⟨[⟨62,[],.v (.int .i64 z.1)⟩,⟨61,[],.v (.int .i64 (sl.length - 1+il.length:Nat))⟩,⟨60,[],.v (.slice wa (sl.length - 1+il.length) wc)⟩,⟨13,[],.box 3 0⟩,⟨53,[],.v (.int .i64 j)⟩,⟨52,[],.v (.int .i64 X.ml)⟩,⟨51,[],.v (.slice X.ma X.ml X.mc)⟩,⟨6,[],.v (.slice wa (sl.length - 1+il.length) wc)⟩,⟨0,[],.v (.pointer (some ad))⟩,⟨3,[],.box 0 0⟩,⟨4,[],.v (.string (bs []))⟩,⟨5,[],.v (.int .i64 0)⟩],[],[⟨3,45,[.v (.int .i64 Y.fl),.v (.int .i64 Y.res.dim),.v (.int .u8 Y.res.base),.v (.string (bs Y.res.name)),.v (.string (bs Y.name)),.v (.slice Y.pa Y.pl Y.pc),.v (.bool Y.hb),.v (.slice Y.a Y.l Y.cp)]⟩,⟨0,33,[.v (.int .i64 X.fl),.v (.string (bs X.name)),.v (.string (bs X.super)),.v (.slice X.ia X.il X.ic),.v (.slice X.fa X.fn X.fc),.v (.slice X.ma X.ml X.mc),.v (.slice X.sa X.sl X.sc)]⟩],[],4,z.2⟩)
        (fun z=>af m z.2/\af mm z.2/\z.1<=(sl.tail++il).length/\(if((sl.tail++il).drop z.1).any (mf E ml[j])=true then((Y.name,73):CR) else ot E (sl.tail++il) (ml.drop (j+1)))=K) (fun z=>(sl.tail++il).length - z.1) (0,mm) (by kernel_rfl) (fun _ _=>aZ rfl) (fun x hx=>hx.2.1) (fun _=> ?_) ?_ ⟨q0,.inl rfl,aF _,hk0⟩ ?_
       ·clear hD hT;simp only[go_sem]
       ·clear hD hT;simp only[go_sem];exact rfl
       ·rintro⟨k,m2⟩ ⟨r0,r1,r2,r3⟩;dsimp only at r0 r1 r2 r3;by_cases mr:k<(sl.tail++il).length
        ·have uZ:((k:Int)<((sl.length - 1+il.length:Nat):Int))=True:=eq_true (by clear hD hT;omega);rw[List.drop_eq_getElem_cons mr,List.any_cons] at r3;have lu:=aN (aa q1 r1) hW;have ru:k<sl.length - 1+il.length:=by clear hD hT;omega
         have Ai:=js lu ru;have xy:= @iL _ _ _ _ lu _ ru (.string (bs (sl.tail++il)[k])) (by unfold strs;rw[List.getElem?_map,List.getElem?_eq_getElem mr];rfl);have hD:=hD m2 r0 (sl.tail++il)[k] Y.name Y.pl;have CW:=hY.2.2.up r1
         have CM:mf E ml[j] (sl.tail++il)[k]=(match cU E (sl.tail++il)[k] Y.name Y.pl with
          |some g=> !hasB g.fl 2&&wq ml[j] g
          |none=>false):=by rw[CW.name,CW.pl];rfl
         simp only[go_sem,uZ,Ai,xy];refine ai (hD.mono ?_);clear hD;rintro r H' m3 cA ⟨rfl,rfl,Z,hA,rfl⟩;by_cases hb:(cU E (sl.tail++il)[k] Y.name Y.pl).isSome=true
         ·refine Exists.elim (Option.isSome_iff_exists.1 hb) fun g hg=> ?_
          have hZ:MdX m3 g Z:=by
           have h:=hA;rw[hg] at h;exact h
          have CM:mf E ml[j] (sl.tail++il)[k]=(!hasB g.fl 2&&wq ml[j] g):=by rw[CM,hg]
          rw[CM] at r3;have NC:hasB g.fl 2= !decide (bits .and .i64 Z.fl 2=0):=by rw[hZ.fl];rfl
          rw[NC,Bool.not_not] at r3;by_cases hp:bits .and .i64 Z.fl 2=0
          ·have dA:=eq_true hp;have Zh:wq ml[j] g=(!mQ ml[j] g|| !decide (bits .and .i64 (bits .xor .i64 Y.fl Z.fl) 8=0)||decide (sd Y.fl<sd Z.fl)|| !decide (bits .and .i64 Z.fl 16=0)):=by
            unfold wq;rw[TP,<- CW.fl,<- hZ.fl];rfl
           rw[aQ hp,Bool.true_and,Zh] at r3;have hT:=hT m3 ml[j] g Y Z CW hZ;simp only[go_sem,Mc.cs,hb,dA];refine bZ (.hoist 0 (.hoist 1 (.alt 2 [] (.hoist 3 (.hoist 4 (.hoist 5 (.hoist 6 (.hoist 7 (.hoist 8 (.hoist 9 (.hoist 10 (.hoist 11 (.hoist 12 (.hoist 13 (.hoist 14 (.hoist 15 (.hoist 17 (.hoist 18 (.alt 16 [18,17] (.alt 19 [] (.hoist 20 (.hoist 21 (.hoist 22 (.hoist 23 (.hoist 24 (.hoist 25 (.hoist 26 (.hoist 27 .done)))))))) .stop) .stop)))))))))))))))) .stop))) (zk pr E) (by kernel_rfl) (by kernel_rfl) ?_;simp only[go_sem];refine ai ((aD hT fun V=>rfl).mono ?_);clear hT;rintro r H' m4 gW ⟨l4,rfl,rfl⟩;have rr:=eq_true l4;have uI:=aa r0 l4;have r14:=aa r1 l4;by_cases hs:mQ ml[j] g=true
           ·rw[hs,Bool.not_true,Bool.false_or] at r3;simp only[go_sem,hs,rr,and_self];refine⟨fun h=> ?_,fun h=> ?_⟩
            ·rw[ak] at r3
             ·subst r3;exact⟨uI,rfl,rfl⟩
             ·rcases h with (h |h) |h
              ·rw[ab h,Bool.not_false,Bool.true_or,Bool.true_or,Bool.true_or]
              ·rw[aQ h,Bool.or_true,Bool.true_or,Bool.true_or]
              ·rw[ab h,Bool.not_false,Bool.or_true,Bool.true_or]
            ·rw[aQ h.1.1,ab h.1.2,aQ h.2] at r3;have r3:(if((sl.tail++il).drop (k+1)).any (mf E ml[j])=true then((Y.name,73):CR) else ot E (sl.tail++il) (ml.drop (j+1)))=K:=r3;exact⟨by unfold az;omega,(k+1,m4),⟨by simp,.inl rfl⟩,⟨uI,r14,mr,r3⟩,by omega⟩
           ·have hs:=(Bool.not_eq_true _).mp hs;rw[hs,Bool.not_false,Bool.true_or,Bool.true_or,Bool.true_or,Bool.true_or,ak rfl] at r3;subst r3;simp only[go_sem,hs,rr,and_self];exact⟨uI,rfl,rfl⟩
          ·have dA:=eq_false hp;rw[ab hp,Bool.false_and,Bool.false_or] at r3;clear hT;simp only[go_sem,Mc.cs,hb,dA];exact⟨by unfold az;omega,(k+1,m3),⟨by simp,.inl rfl⟩,⟨r0,r1,mr,r3⟩,by omega⟩
         ·have hb:=(Bool.not_eq_true _).mp hb;have hf:mf E ml[j] (sl.tail++il)[k]=false:=by
           rw[CM];revert hb;cases cU E (sl.tail++il)[k] Y.name Y.pl with
           |none=>exact fun _=>rfl
           |some g=>exact fun h=>by cases h
          rw[hf,Bool.false_or] at r3;clear hT;simp only[go_sem,Mc.cs,hb];exact⟨by unfold az;omega,(k+1,m3),⟨by simp,.inl rfl⟩,⟨r0,r1,mr,r3⟩,by omega⟩
        ·have uZ:((k:Int)<((sl.length - 1+il.length:Nat):Int))=False:=eq_false (by clear hD hT;omega);rw[List.drop_of_length_le (by clear hD hT;omega),List.any_nil,ae (by decide)] at r3;clear hD hT;simp only[go_sem,uZ];exact⟨by unfold az;unfold ay at gi;omega,(j+1,m2),⟨by simp,.inl rfl⟩,⟨r0,aa q1 r1,hjt,r3⟩,by omega⟩
     ·have hc:((j:Int)<(X.ml:Int))=False:=eq_false (by clear hD hT;omega);rw[List.drop_of_length_le (by clear hD hT;omega)] at q3;have q3:(([],0):CR)=K:=q3;clear hD hT;simp only[go_sem,hc];subst q3;exact⟨q0,rfl,rfl⟩
end
theorem Tc {l:List Pc} {i:Nat} (hi:i<l.length):(l.take (i+1)).map (·.name)=(l.take i).map (·.name)++[l[i].name]:=by
 rw[List.take_succ_eq_append_getElem hi,List.map_append];rfl
theorem TC {l:List Pc} {i:Nat} (hi:i<=l.length) (n:Nm) (z:Pc):((List.range i).any fun j=>decide ((l.getD j z).name=n))=((l.take i).map (·.name)).contains n:=by
 rw[Bool.eq_iff_iff,List.any_eq_true,List.contains_iff_mem,List.mem_map];constructor
 ·rintro⟨j,hj,q⟩;have hj:=List.mem_range.1 hj;rw[cE,List.getD_eq_getElem?_getD,List.getElem?_eq_getElem (by omega)] at q;exact⟨l[j],List.mem_take_iff_getElem.2 ⟨j,by omega,rfl⟩,q⟩
 ·rintro⟨p,hp,q⟩;obtain⟨j,hj,rfl⟩:=List.mem_take_iff_getElem.1 hp;refine⟨j,List.mem_range.2 (by omega),?_⟩;rw[cE,List.getD_eq_getElem?_getD,List.getElem?_eq_getElem (by omega)];exact q
theorem Te (p q:Pc) (m:Mem):FnH Tryz.prog 244 [.v (.agg ⟨q.cs⟩),.box 0 0] ⟨[⟨0,95,p.cs.map .v⟩],[]⟩ m
  fun r H' _=>r= .v (.bool (decide (q.name=p.name)))/\H' =⟨[⟨0,95,p.cs.map .v⟩],[]⟩:=by
 refine enter bb aq Tryz.func244 rfl rfl (by kernel_rfl) rfl ?_ ?_
 ·simp only[go_sem,Pc.cs,aG,List.map_nil]
 ·simp only[go_sem,Pc.cs,aG,List.map_nil];first |rfl |exact⟨rfl,rfl⟩ |skip
theorem aby (l:List Pc) (a:Option Addr) (n c:Nat) (m:Mem) (h:aw m a n 4 (flat Pc.cs l)) (hn:n=l.length) (hb:n<=ay) (i:Nat) (hi:i<=l.length) (p:Pc):
  FnH Tryz.prog 232 [.v (.slice a i c),.cl 244 [0]] ⟨[⟨0,95,p.cs.map .v⟩],[]⟩ m
   fun r H' _=>H' =⟨[⟨0,95,p.cs.map .v⟩],[]⟩/\r= .v (.bool (((l.take i).map (·.name)).contains p.name)):=by
 have zP:Pc:=⟨an,[]⟩;refine(SS 244 (by kernel_rfl) p.cs a i c m (by unfold ay at hb;omega) (fun j=>(l.getD j zP).cs) (fun j hj=> ?_) (fun j=>decide ((l.getD j zP).name=p.name)) fun j m' hj hle=>Te p _ m').mono ?_
 ·have hc:=yn h hn (by omega:j<l.length);rw[List.getD_eq_getElem?_getD,List.getElem?_eq_getElem (by omega)];exact⟨hc.1,hc.2,rfl⟩
 ·rintro r H' m' hm ⟨h3,rfl⟩;refine⟨h3,?_⟩;rw[TC hi p.name zP]
def BR (l:List St):Bool:=match l with | .mk k _ _ _ _ _ _::_=>decide (k=11) |[]=>false
theorem VB (d:Md):Fx d=(decide (d.name=bJ)&& !BR d.body):=rfl
theorem HQ {d:Md} (h:kA d=true):(∀p∈d.params,dP p.ty)/\d.params.length<=16/\d.body.length<=32/\(∃b,eH b d.body=true)/\dP d.res:=by
 unfold kA at h;simp only[bB,Bool.not_eq_true'] at h;obtain⟨⟨⟨h1,h2⟩,h3⟩,h4⟩:=h;unfold pv at h2;unfold tZ at h4;simp only[bB,cE] at h2 h4;refine⟨fun p hp=> ?_,h2.2,h4.1,⟨_,h4.2⟩,?_⟩
 ·have:=List.any_eq_false.1 h3 p hp;unfold rU at this;simp only[Bool.not_eq_true',Bool.not_eq_false,bB] at this;exact xR this.1
 ·unfold nY at h1;have hv:rS d.res=true->dP d.res:=fun q=>by
   unfold rS at q;simp only[bB,cE] at q;exact⟨by omega,by omega⟩
  split at h1
  ·simp only[bB] at h1;exact hv h1.1.1
  ·simp only[bB,Bool.or_eq_true] at h1;rcases h1.2 with q |q
   ·exact hv q
   ·exact xR q
section
variable {S:Sc} {E:List Cd} {ad:Addr} {da:Option Addr} {dc:Nat} {la:Option Addr} {lc:Nat} {b:Nat} {a:Option Addr} {c:Nat} {L:List Cc}
theorem Ts (hE:dy E) (d:Md) (Y:Mc) (m:Mem) (hT:Tp m S E ad da dc la lc b a c L) (Gq:S.su=false) (hY:MdX m d Y) (hv:kA d=true) (hdp:ct d.body<=24):
  FnH Tryz.prog 165 [.v (.agg ⟨av ad da dc S la lc⟩),.v (.agg ⟨Y.cs⟩)] ⟨[],[]⟩ m (jo m (kY E S.pr S.ci d)):=by
 obtain⟨o1,o2,o3,⟨sup,o4⟩,o5⟩:=HQ hv;obtain⟨xs,oy,pI⟩:=hY.body;have jt:dW (⟨S.pr,S.ci,hasB d.fl 8,false,d.res,d.params⟩:Sc).loc:=o1;have kr:Tp m ⟨S.pr,S.ci,hasB d.fl 8,false,d.res,d.params⟩ E ad da dc Y.pa Y.pc b a c L:=⟨hT.ck,hT.pr,hT.ci,by rw[<- hY.pl];exact hY.par,by rw[<- hY.pl];exact hY.pc,by dsimp only;omega⟩;have hB:=yx (ad:=ad) (da:=da) (dc:=dc) (b:=b) (a:=a) (c:=c) (L:=L) hE 24 1999999990 (yC hE 24) d.body xs Y.a Y.l Y.cp m oy hY.l hY.cp (by rw[hY.l];exact o3) pI hdp o4 _ jt (by dsimp only;omega);have hB:=fun m' (hle:af m m')=>hB Y.pa Y.pc m' hle (kr.up hle)
 have hU:=fun m' (hle:af m m')=>EF hE jt [] [] none 0 0 m' (kr.up hle) (qi m' 8) rfl (by decide) (by simp only[dI]) (by simp only[kV])
 have hM:=fun m' (hle:af m m')=>A9 (ct d.body) d.body xs Y.a Y.l Y.cp m' (aC _) (aN hle oy) hY.l (cL hle pI) (by rw[hY.l];unfold ay;omega)
 have hP:=fun m' (hle:af m m') i hi p=>aby d.params Y.pa Y.pl Y.pc m' (aN hle hY.par) hY.pl (by rw[hY.pl];unfold ay;omega) i hi p
 have hK:kY E S.pr S.ci d=if uB [] d.params=true then 72
  else if Fx d=true/\iE E ⟨S.pr,S.ci,hasB d.fl 8,false,d.res,d.params⟩ []≠0 then iE E ⟨S.pr,S.ci,hasB d.fl 8,false,d.res,d.params⟩ []
  else if bU E ⟨S.pr,S.ci,hasB d.fl 8,false,d.res,d.params⟩ false d.body=0/\d.res.base≠86/\iZ d.body=false then 74
  else bU E ⟨S.pr,S.ci,hasB d.fl 8,false,d.res,d.params⟩ false d.body:=rfl
 rw[VB] at hK;have FN:∀(h0:0<d.body.length),∃X:Sd,Rd m (bk Y.a 0) X.cs/\Y.a≠none/\BR d.body=decide (X.k=11):=fun h0=>by
  obtain⟨X,q1,q2,q3⟩:=EH oy hY.l pI h0;refine⟨X,by simpa using q1,q2,?_⟩;cases hb:d.body with
  |nil=>rw[hb] at h0;cases h0
  |cons s r=>
   have hs:d.body[0]=s:=by simp [hb]
   rw[hs] at q3;cases s with
   |mk k nm ty tg ex bd al=>
    obtain⟨x,hxx,rfl,_⟩:=vI q3;rw[(Sd.cs_inj hxx).1];rfl
 have Fs:d.body.length=0->BR d.body=false:=fun h0=>by rw[List.eq_nil_of_length_eq_zero h0];rfl
 have Af:=hY.par;have gG:=hY.pl;have hpc:=hY.pc;have gg:=hY.l;have gX:hasB d.fl 8= !decide (bits .and .i64 Y.fl 8=0):=by rw[<- hY.fl];rfl
 rw[<- hY.name,<- hY.res] at hK;rw[<- hY.res,gX] at hB hU;rw[gX] at hK;clear kr oy pI o3 o4 o5 hv hY jt;revert hB hU hM hP hK FN Fs Af gG gg o2;generalize hD:uB [] d.params=D
 revert hD;generalize iE E ⟨S.pr,S.ci,!decide (bits .and .i64 Y.fl 8=0),false,Y.res,d.params⟩ []=v1
 generalize bU E ⟨S.pr,S.ci,!decide (bits .and .i64 Y.fl 8=0),false,Y.res,d.params⟩ false d.body=v2
 generalize kY E S.pr S.ci d=K
 generalize iZ d.body=tv
 generalize BR d.body=iv
 generalize d.params=pl
 generalize d.body.length=bl
 unfold av;simp only[Gq];intro hD o2 hB hU hM hP hK FN Fs Af gG gg;rw[<- gG] at hB hU;refine enter bb aq Tryz.func165 rfl rfl (by kernel_rfl) rfl ?_ ?_
 ·clear hB hU hM hP;simp only[go_sem,Mc.cs]
 ·simp only[go_sem,Mc.cs];refine cq aq (fun y:Nat×Mem=>⟨[⟨12,[],.v (.int .i64 y.1)⟩,⟨11,[],.v (.int .i64 Y.pl)⟩,⟨10,[],.v (.slice Y.pa Y.pl Y.pc)⟩,⟨2,[],.box 0 0⟩,⟨3,[],.box 1 0⟩,⟨4,[],.v (.int .i64 0)⟩],[],[⟨1,45,[.v (.int .i64 Y.fl),.v (.int .i64 Y.res.dim),.v (.int .u8 Y.res.base),.v (.string (bs Y.res.name)),.v (.string (bs Y.name)),.v (.slice Y.pa Y.pl Y.pc),.v (.bool Y.hb),.v (.slice Y.a Y.l Y.cp)]⟩,⟨0,87,[.v (.pointer (some ad)),.v (.slice da S.pr.length dc),.v (.int .i64 S.ci),.v (.bool S.st),.v (.bool false),.v (.int .i64 S.res.dim),.v (.int .u8 S.res.base),.v (.string (bs S.res.name)),.v (.slice la S.loc.length lc)]⟩],[],2,y.2⟩)
   (fun y=>af m y.2/\y.1<=pl.length/\uB ((pl.take y.1).map (·.name)) (pl.drop y.1)=D) (fun y=>pl.length - y.1) (0,m) (by kernel_rfl) (fun _ _=>aZ rfl) (fun x hx=>hx.1) (fun _=> ?_) ?_ ⟨.inl rfl,aF _,by rw[List.take_zero,List.map_nil,List.drop_zero];exact hD⟩ ?_
  ·clear hB hU hM hP;simp only[go_sem]
  ·clear hB hU hM hP;simp only[go_sem];exact rfl
  ·rintro⟨i,mm⟩ ⟨q0,q1,q2⟩;dsimp only at q0 q1 q2;by_cases aj:i<pl.length
   ·have hc:((i:Int)<(Y.pl:Int))=True:=eq_true (by clear hB hU hM hP;omega);rw[List.drop_eq_getElem_cons aj,uB] at q2;have hp:=yn (aN q0 Af) gG aj;have aI:bS Y.pa Y.pl (i:Int)=True:=eq_true ⟨by clear hB hU hM hP;omega,by clear hB hU hM hP;omega,hp.2⟩;have au:= @cC _ _ _ 4 hp.1 rfl;simp only[Pc.cs] at au;have hP:=hP mm q0 i q1 pl[i];simp only[Pc.cs,aG,List.map_nil] at hP;have bQ:((i:Int)<=(Y.pc:Int))=True:=eq_true (by clear hB hU hM hP;omega);clear hB hU hM;simp only[go_sem,hc,aI,au,Mw,bQ];refine⟨⟨Int.le_refl _,Int.natCast_nonneg _⟩,by kernel_rfl,bD (hP.mono ?_)⟩;clear hP;rintro r H' m1 aR ⟨rfl,rfl⟩;by_cases jP:((pl.take i).map (·.name)).contains pl[i].name=true
    ·rw[ak jP] at q2;rw[<- q2,ak rfl] at hK;simp only[go_sem,jP];exact⟨aa q0 (.inr aR),rfl,by rw[hK]⟩
    ·have jP:=(Bool.not_eq_true _).mp jP;rw[ae (by rw[jP];decide),<- Tc aj] at q2;simp only[go_sem,jP];exact⟨by unfold az;omega,(i+1,m1),⟨by simp,.inl rfl⟩,⟨aa q0 (.inr aR),aj,q2⟩,by omega⟩
   ·have hc:((i:Int)<(Y.pl:Int))=False:=eq_false (by clear hB hU hM hP;omega);rw[List.drop_of_length_le (by clear hB hU hM hP;omega),uB] at q2;rw[ae (by rw[<- q2];decide)] at hK;clear hP;by_cases hn:Y.name=bJ
    ·have mh:(Y.name=[60,105,110,105,116,62])=True:=eq_true hn;rw[aQ hn,Bool.true_and] at hK;by_cases hl:Y.l=0
     ·have aj:((Y.l:Int)=0)=True:=eq_true (by clear hB hU hM;omega);rw[Fs (by clear hB hU hM;omega)] at hK;have hU:=hU mm q0;simp only[go_sem,hc];refine bZ (.hoist 0 (.hoist 1 (.hoist 2 (.hoist 3 (.hoist 4 (.hoist 5 (.hoist 6 (.hoist 7 (.hoist 8 (.hoist 9 (.alt 10 [7,6,5,4] (.hoist 11 (.hoist 12 (.alt 13 [7,6] (.hoist 14 (.hoist 15 (.alt 16 [] .done .stop))) .stop))) .stop))))))))))) aq (by kernel_rfl) (by kernel_rfl) ?_;simp only[go_sem,mh,aj];refine⟨.int .i64 0,?_⟩;simp only[go_sem,mh,aj];refine ai ((aD hU fun V=>rfl).mono ?_);clear hU;rintro r H' m7 mi ⟨l7,rfl,rfl⟩;have nu:=aa q0 l7;by_cases hy:v1=0
      ·have kO:(v1=0)=True:=eq_true hy;rw[ae (fun q=>q.2 hy)] at hK;simp only[go_sem,kO];have hB:=hB m7 nu;refine ai ((aD hB fun V=>rfl).mono ?_);clear hB;rintro r H' m8 oB ⟨l8,rfl,rfl⟩;have fZ:=aa nu l8;have hM:=hM m8 fZ;by_cases hz:v2=0
       ·have cV:(v2=0)=True:=eq_true hz;by_cases hb:Y.res.base=86
        ·have gZ:(Y.res.base=86)=True:=eq_true hb;rw[ae (fun q=>q.2.1 hb)] at hK;clear hM;simp only[go_sem,cV,gZ];exact⟨fZ,rfl,by rw[hK]⟩
        ·have gZ:(Y.res.base=86)=False:=eq_false hb;simp only[go_sem,cV,gZ];refine ai (hM.mono ?_);clear hM;rintro r H' m9 km ⟨rfl,rfl⟩;by_cases ht:tv=true
         ·rw[ae (fun q=>by rw[ht] at q;cases q.2.2)] at hK;simp only[go_sem,ht,cV];exact⟨aa fZ (.inr km),rfl,by rw[hK]⟩
         ·have ht:=(Bool.not_eq_true _).mp ht;rw[ak ⟨hz,hb,ht⟩] at hK;simp only[go_sem,ht,cV];exact⟨aa fZ (.inr km),rfl,by rw[hK]⟩
       ·have cV:(v2=0)=False:=eq_false hz;rw[ae (fun q=>hz q.1)] at hK;clear hM;simp only[go_sem,cV];exact⟨fZ,rfl,by rw[hK]⟩
      ·have kO:(v1=0)=False:=eq_false hy;rw[ak ⟨rfl,hy⟩] at hK;clear hB hM;simp only[go_sem,kO];exact⟨nu,rfl,by rw[hK]⟩
     ·have aj:((Y.l:Int)=0)=False:=eq_false (by clear hB hU hM;omega);refine Exists.elim (FN (by clear hB hU hM;omega)) fun X hX=> ?_
      have CX:=oV q0 hX.1;have aI:bS Y.a Y.l 0=True:=eq_true ⟨by decide,by clear hB hU hM;omega,hX.2.1⟩;have dA:=lD CX;have cW:= @r9 mm (bk Y.a 0) X.cs CX 0 _ rfl;rw[hX.2.2] at hK;by_cases hk:X.k=11
      ·have mr:(X.k=11)=True:=eq_true hk;rw[aQ hk,Bool.not_true,ae (fun q=>by cases q.1)] at hK;clear hU;simp only[go_sem,hc];refine bZ (.hoist 0 (.hoist 1 (.hoist 2 (.hoist 3 (.hoist 4 (.hoist 5 (.hoist 6 (.hoist 7 (.hoist 8 (.hoist 9 (.alt 10 [7,6,5,4] (.hoist 11 (.hoist 12 (.alt 13 [7,6] (.hoist 14 (.hoist 15 (.alt 16 [] .done .stop))) .stop))) .stop))))))))))) aq (by kernel_rfl) (by kernel_rfl) ?_;simp only[go_sem,mh,aj,aI,dA,cW,mr];have hB:=hB mm q0;refine ai ((aD hB fun V=>rfl).mono ?_);clear hB;rintro r H' m8 oB ⟨l8,rfl,rfl⟩;have fZ:=aa q0 l8;have hM:=hM m8 fZ;by_cases hz:v2=0
       ·have cV:(v2=0)=True:=eq_true hz;by_cases hb:Y.res.base=86
        ·have gZ:(Y.res.base=86)=True:=eq_true hb;rw[ae (fun q=>q.2.1 hb)] at hK;clear hM;simp only[go_sem,cV,gZ];exact⟨fZ,rfl,by rw[hK]⟩
        ·have gZ:(Y.res.base=86)=False:=eq_false hb;simp only[go_sem,cV,gZ];refine ai (hM.mono ?_);clear hM;rintro r H' m9 km ⟨rfl,rfl⟩;by_cases ht:tv=true
         ·rw[ae (fun q=>by rw[ht] at q;cases q.2.2)] at hK;simp only[go_sem,ht,cV];exact⟨aa fZ (.inr km),rfl,by rw[hK]⟩
         ·have ht:=(Bool.not_eq_true _).mp ht;rw[ak ⟨hz,hb,ht⟩] at hK;simp only[go_sem,ht,cV];exact⟨aa fZ (.inr km),rfl,by rw[hK]⟩
       ·have cV:(v2=0)=False:=eq_false hz;rw[ae (fun q=>hz q.1)] at hK;clear hM;simp only[go_sem,cV];exact⟨fZ,rfl,by rw[hK]⟩
      ·have mr:(X.k=11)=False:=eq_false hk;rw[ab hk,Bool.not_false] at hK;have hU:=hU mm q0;simp only[go_sem,hc];refine bZ (.hoist 0 (.hoist 1 (.hoist 2 (.hoist 3 (.hoist 4 (.hoist 5 (.hoist 6 (.hoist 7 (.hoist 8 (.hoist 9 (.alt 10 [7,6,5,4] (.hoist 11 (.hoist 12 (.alt 13 [7,6] (.hoist 14 (.hoist 15 (.alt 16 [] .done .stop))) .stop))) .stop))))))))))) aq (by kernel_rfl) (by kernel_rfl) ?_;simp only[go_sem,mh,aj,aI,dA,cW,mr];refine ai ((aD hU fun V=>rfl).mono ?_);clear hU;rintro r H' m7 mi ⟨l7,rfl,rfl⟩;have nu:=aa q0 l7;by_cases hy:v1=0
       ·have kO:(v1=0)=True:=eq_true hy;rw[ae (fun q=>q.2 hy)] at hK;simp only[go_sem,kO];have hB:=hB m7 nu;refine ai ((aD hB fun V=>rfl).mono ?_);clear hB;rintro r H' m8 oB ⟨l8,rfl,rfl⟩;have fZ:=aa nu l8;have hM:=hM m8 fZ;by_cases hz:v2=0
        ·have cV:(v2=0)=True:=eq_true hz;by_cases hb:Y.res.base=86
         ·have gZ:(Y.res.base=86)=True:=eq_true hb;rw[ae (fun q=>q.2.1 hb)] at hK;clear hM;simp only[go_sem,cV,gZ];exact⟨fZ,rfl,by rw[hK]⟩
         ·have gZ:(Y.res.base=86)=False:=eq_false hb;simp only[go_sem,cV,gZ];refine ai (hM.mono ?_);clear hM;rintro r H' m9 km ⟨rfl,rfl⟩;by_cases ht:tv=true
          ·rw[ae (fun q=>by rw[ht] at q;cases q.2.2)] at hK;simp only[go_sem,ht,cV];exact⟨aa fZ (.inr km),rfl,by rw[hK]⟩
          ·have ht:=(Bool.not_eq_true _).mp ht;rw[ak ⟨hz,hb,ht⟩] at hK;simp only[go_sem,ht,cV];exact⟨aa fZ (.inr km),rfl,by rw[hK]⟩
        ·have cV:(v2=0)=False:=eq_false hz;rw[ae (fun q=>hz q.1)] at hK;clear hM;simp only[go_sem,cV];exact⟨fZ,rfl,by rw[hK]⟩
       ·have kO:(v1=0)=False:=eq_false hy;rw[ak ⟨rfl,hy⟩] at hK;clear hB hM;simp only[go_sem,kO];exact⟨nu,rfl,by rw[hK]⟩
    ·have mh:(Y.name=[60,105,110,105,116,62])=False:=eq_false hn;rw[ab hn,Bool.false_and,ae (fun q=>by cases q.1)] at hK;clear hU;simp only[go_sem,hc];refine bZ (.hoist 0 (.hoist 1 (.hoist 2 (.hoist 3 (.hoist 4 (.hoist 5 (.hoist 6 (.hoist 7 (.hoist 8 (.hoist 9 (.alt 10 [7,6,5,4] (.hoist 11 (.hoist 12 (.alt 13 [7,6] (.hoist 14 (.hoist 15 (.alt 16 [] .done .stop))) .stop))) .stop))))))))))) aq (by kernel_rfl) (by kernel_rfl) ?_;simp only[go_sem,mh];refine⟨fun q=>absurd q.2 id,fun q=>absurd q.2 id,.int .i64 0,fun q=>absurd q.2 id,?_⟩;simp only[go_sem,mh];have hB:=hB mm q0;refine ai ((aD hB fun V=>rfl).mono ?_);clear hB;rintro r H' m8 oB ⟨l8,rfl,rfl⟩;have fZ:=aa q0 l8;have hM:=hM m8 fZ;by_cases hz:v2=0
     ·have cV:(v2=0)=True:=eq_true hz;by_cases hb:Y.res.base=86
      ·have gZ:(Y.res.base=86)=True:=eq_true hb;rw[ae (fun q=>q.2.1 hb)] at hK;clear hM;simp only[go_sem,cV,gZ];exact⟨fZ,rfl,by rw[hK]⟩
      ·have gZ:(Y.res.base=86)=False:=eq_false hb;simp only[go_sem,cV,gZ];refine ai (hM.mono ?_);clear hM;rintro r H' m9 km ⟨rfl,rfl⟩;by_cases ht:tv=true
       ·rw[ae (fun q=>by rw[ht] at q;cases q.2.2)] at hK;simp only[go_sem,ht,cV];exact⟨aa fZ (.inr km),rfl,by rw[hK]⟩
       ·have ht:=(Bool.not_eq_true _).mp ht;rw[ak ⟨hz,hb,ht⟩] at hK;simp only[go_sem,ht,cV];exact⟨aa fZ (.inr km),rfl,by rw[hK]⟩
     ·have cV:(v2=0)=False:=eq_false hz;rw[ae (fun q=>hz q.1)] at hK;clear hM;simp only[go_sem,cV];exact⟨fZ,rfl,by rw[hK]⟩
end
structure ClOk (d:Cd):Prop where
 mth:∀m∈d.methods,kA m=true/\ct m.body<=24
 ini:∃b,eH b d.init=true
 inl:d.init.length<=32
 ind:ct d.init<=24
theorem PI (E pr:List Cd) (i:Nat) (m:Md) (r:List Md):mW E pr i (m::r)=if m.hb=true/\kY E pr i m≠0 then(m.name,kY E pr i m) else mW E pr i r:=rfl
section
variable {ad:Addr} {pr E:List Cd} {b:Nat} {a:Option Addr} {c:Nat} {L:List Cc}
theorem Tt (hE:dy E) (i:Nat) (hi:i<pr.length) (m:Mem) (hC:Ck m ad pr E b a c L) (hv:ClOk pr[i]):FnH Tryz.prog 72 [.v (.pointer (some ad)),.v (.int .i64 i)] ⟨[],[]⟩ m (mA m (qC E pr i)):=by
 obtain⟨X,x1,x2,x3,hX⟩:=mG hC.pr hi;have hg:=oP hi;have GJ:Tp m ⟨pr,i,false,false,ij,[]⟩ E ad a c none 0 b a c L:=⟨hC,hC.pr,hi,qi m 4,aC _,aF _⟩;have kr:Tp m ⟨pr,i,true,false,ij,[]⟩ E ad a c none 0 b a c L:=⟨hC,hC.pr,hi,qi m 4,aC _,aF _⟩;have hn:dW ([]:List Pc):=fun p hp=>by cases hp
 obtain⟨sup,v1⟩:=hv.ini;obtain⟨ys,y1,y2⟩:=hX.ini;have fQ:=yx (ad:=ad) (da:=a) (dc:=c) (b:=b) (a:=a) (c:=c) (L:=L) hE 24 1999999990 (yC hE 24) pr[i].init ys X.sa X.sl X.sc m y1 hX.sl hX.sc (by rw[hX.sl];exact hv.inl) y2 hv.ind v1 ⟨pr,i,true,false,ij,[]⟩ hn (by show 0+33 * 24+32<=1999999990;decide);have fQ:=fun m' (hle:af m m')=>fQ none 0 m' hle (kr.up hle)
 have hU:=fun m' (hle:af m m')=>EF (S:=⟨pr,i,false,false,ij,[]⟩) hE hn [] [] none 0 0 m' (GJ.up hle) (qi m' 8) rfl (by decide) (by simp only[dI]) (by simp only[kV])
 have ju:=fun m' (hle:af m m') (d:Md) (Y:Mc) (hd:d∈pr[i].methods) (hY:MdX m' d Y)=>Ts (S:=⟨pr,i,false,false,ij,[]⟩) hE d Y m' (GJ.up hle) rfl hY (hv.mth d hd).1 (hv.mth d hd).2
 have jM:=hX.mth;have dY:=hX.ml;have gi:=hX.ok.ml;have hK:qC E pr i=if(mW E pr i pr[i].methods).2≠0 then mW E pr i pr[i].methods
  else if hasB X.fl 512=false/\(pr[i].methods.any fun m=>decide (m.name=bJ))=false/\iE E ⟨pr,i,false,false,ij,[]⟩ []≠0 then(bJ,iE E ⟨pr,i,false,false,ij,[]⟩ [])
  else if bU E ⟨pr,i,true,false,ij,[]⟩ false pr[i].init=0 then([],0) else(Mn,bU E ⟨pr,i,true,false,ij,[]⟩ false pr[i].init):=by
  unfold qC;rw[hg,hX.fl]
 clear GJ kr hg y1 y2 hX x3;revert fQ hU ju jM dY gi hK;generalize qC E pr i=K
 generalize iE E ⟨pr,i,false,false,ij,[]⟩ []=v1
 generalize bU E ⟨pr,i,true,false,ij,[]⟩ false pr[i].init=v2
 generalize pr[i].methods=ml
 generalize hMM:mW E pr i ml=M
 unfold av;simp only[pU,ij];intro fQ hU ju jM dY gi hK;have aI:bS a pr.length (i:Int)=True:=eq_true ⟨by omega,by omega,x2⟩;have au:= @cC _ _ _ 7 x1 rfl;simp only[Cc.cs] at au;simp only[Mc.cs] at ju;refine enter bb aq Tryz.func72 rfl rfl (by kernel_rfl) rfl ?_ ?_
 ·clear fQ hU ju;simp only[go_sem]
 ·simp only[go_sem,cj (j:=0) hC.rd rfl,aI,au];refine cq aq (fun y:Nat×Bool×Mem=>⟨[⟨37,[],.v (.int .i64 y.1)⟩,⟨36,[],.v (.int .i64 X.ml)⟩,⟨35,[],.v (.slice X.ma X.ml X.mc)⟩,⟨8,[],.v (.bool y.2.1)⟩,⟨6,[],.box 0 0⟩,⟨7,[],.box 1 0⟩,⟨0,[],.v (.pointer (some ad))⟩,⟨4,[],.v (.string (bs []))⟩,⟨5,[],.v (.int .i64 0)⟩],[],[⟨1,87,[.v (.pointer (some ad)),.v (.slice a pr.length c),.v (.int .i64 i),.v (.bool false),.v (.bool false),.v (.int .i64 0),.v (.int .u8 86),.v (.string (bs [])),.v (.slice none 0 0)]⟩,⟨0,33,[.v (.int .i64 X.fl),.v (.string (bs X.name)),.v (.string (bs X.super)),.v (.slice X.ia X.il X.ic),.v (.slice X.fa X.fn X.fc),.v (.slice X.ma X.ml X.mc),.v (.slice X.sa X.sl X.sc)]⟩],[],2,y.2.2⟩)
   (fun y=>af m y.2.2/\y.1<=ml.length/\y.2.1=(hasB X.fl 512||(ml.take y.1).any fun m=>decide (m.name=bJ))/\mW E pr i (ml.drop y.1)=M) (fun y=>ml.length - y.1) (0,!decide (bits .and .i64 X.fl 512=0),m) (by kernel_rfl) (fun _ _=>aZ rfl) (fun x hx=>hx.1) (fun _=> ?_) ?_ ⟨.inl rfl,aF _,by rw[List.take_zero,List.any_nil,Bool.or_false];rfl,by rw[List.drop_zero];exact hMM⟩ ?_
  ·clear fQ hU ju;simp only[go_sem]
  ·clear fQ hU ju;simp only[go_sem];first |exact rfl |exact⟨rfl,rfl⟩
  ·rintro⟨j,B,mm⟩ ⟨q0,q1,q2,q3⟩;dsimp only at q0 q1 q2 q3;by_cases aj:j<ml.length
   ·have hc:((j:Int)<(X.ml:Int))=True:=eq_true (by clear fQ hU ju;omega);rw[List.drop_eq_getElem_cons aj,PI] at q3;refine Exists.elim jM fun xs gF=> ?_
    refine Exists.elim (ue (aN q0 gF.1) dY (jf (fun _ _=>lA q0) gF.2) aj) fun Y hY=> ?_
    have rv:bS X.ma X.ml (j:Int)=True:=eq_true ⟨by clear fQ hU ju;omega,by clear fQ hU ju;omega,hY.2.1⟩;have mu:= @cC _ _ _ 8 hY.1 rfl;simp only[Mc.cs] at mu;rw[<- hY.2.2.name,<- hY.2.2.hb] at q3;have NR:(B||decide (Y.name=bJ))=(hasB X.fl 512||(ml.take (j+1)).any fun m=>decide (m.name=bJ)):=by
     rw[q2,List.take_succ_eq_append_getElem aj,List.any_append,List.any_cons,List.any_nil,Bool.or_false,hY.2.2.name,Bool.or_assoc]
    by_cases hh:Y.hb=true
    ·have ju:=ju mm q0 ml[j] Y (List.getElem_mem aj) hY.2.2;clear fQ hU;have h1:(Y.hb=true)=True:=eq_true hh;have h2:(Y.hb=false)=False:=eq_false (fun q=>by rw[q] at hh;cases hh);simp only[go_sem,hc,rv,mu,h1,h2];refine ai ((aD ju fun V=>rfl).mono ?_);clear ju;rintro r H' m3 cA ⟨l3,rfl,rfl⟩;by_cases hz:kY E pr i ml[j]=0
     ·rw[ae (fun q=>q.2 hz)] at q3;have cV:(kY E pr i ml[j]=0)=True:=eq_true hz;simp only[go_sem,cV];exact⟨by unfold az;unfold ay at gi;omega,(j+1,B||decide (Y.name=bJ),m3),⟨⟨by simp,rfl⟩,.inl rfl⟩,⟨aa q0 l3,aj,NR,q3⟩,by omega⟩
     ·rw[ak ⟨hh,hz⟩] at q3;have cV:(kY E pr i ml[j]=0)=False:=eq_false hz;rw[<- q3,ak hz] at hK;simp only[go_sem,cV];subst hK;exact⟨aa q0 l3,rfl,rfl⟩
    ·rw[ae (fun q=>hh q.1)] at q3;have hh:=(Bool.not_eq_true _).mp hh;clear fQ hU ju;simp only[go_sem,hc,rv,mu,hh];exact⟨by unfold az;unfold ay at gi;omega,(j+1,B||decide (Y.name=bJ),mm),⟨⟨by simp,rfl⟩,.inl rfl⟩,⟨q0,aj,NR,q3⟩,by omega⟩
   ·have hc:((j:Int)<(X.ml:Int))=False:=eq_false (by clear fQ hU ju;omega);rw[List.drop_of_length_le (by clear fQ hU ju;omega)] at q3;rw[jS (by clear fQ hU ju;omega)] at q2;rw[<- q3,ae (fun q=>q rfl)] at hK;clear ju;by_cases hb:B=true
    ·rw[ae (fun q=>by rw[q.1,q.2.1] at q2;rw[q2] at hb;cases hb)] at hK;have fQ:=fQ mm q0;clear hU;simp only[go_sem,hc,hb];refine ai ((aD fQ fun V=>rfl).mono ?_);clear fQ;rintro r H' m8 oB ⟨l8,rfl,rfl⟩;by_cases hz:v2=0
     ·have cV:(v2=0)=True:=eq_true hz;rw[ak hz] at hK;simp only[go_sem,cV];subst hK;exact⟨aa q0 l8,rfl,rfl⟩
     ·have cV:(v2=0)=False:=eq_false hz;rw[ae hz] at hK;simp only[go_sem,cV];subst hK;exact⟨aa q0 l8,rfl,rfl⟩
    ·have hb:=(Bool.not_eq_true _).mp hb;have hU:=hU mm q0;simp only[go_sem,hc,hb];refine ai ((aD hU fun V=>rfl).mono ?_);clear hU;rintro r H' m7 mi ⟨l7,rfl,rfl⟩;have nu:=aa q0 l7;rw[hb] at q2;have hq:=Bool.or_eq_false_iff.1 q2.symm;by_cases hy:v1=0
     ·have kO:(v1=0)=True:=eq_true hy;rw[ae (fun q=>q.2.2 hy)] at hK;have fQ:=fQ m7 nu;simp only[go_sem,kO];refine ai ((aD fQ fun V=>rfl).mono ?_);clear fQ;rintro r H' m8 oB ⟨l8,rfl,rfl⟩;by_cases hz:v2=0
      ·have cV:(v2=0)=True:=eq_true hz;rw[ak hz] at hK;simp only[go_sem,cV];subst hK;exact⟨aa nu l8,rfl,rfl⟩
      ·have cV:(v2=0)=False:=eq_false hz;rw[ae hz] at hK;simp only[go_sem,cV];subst hK;exact⟨aa nu l8,rfl,rfl⟩
     ·have kO:(v1=0)=False:=eq_false hy;rw[ak ⟨hq.1,hq.2,hy⟩] at hK;clear fQ;simp only[go_sem,kO];subst hK;exact⟨nu,rfl,rfl⟩
end
def pT (z:Nm) (t:Ty):Prop:=t.base=76->t.name≠z
structure OkM (z:Nm) (m:Md):Prop where
 res:pT z m.res
 par:∀p∈m.params,pT z p.ty
structure OkC (z:Nm) (d:Cd):Prop where
 nm:d.name≠z
 sup:d.super≠z
 ifs:∀s∈d.ifs,s≠z
 fld:∀f∈d.fields,pT z f.ty
 mth:∀m∈d.methods,OkM z m
structure More (z:Nm) (E E' :List Cd):Prop where
 same:∀s,s≠z->cls E' s=cls E s
 none:cls E z= .none
 ok:∀s d,cls E s= .some d->OkC z d
 len:E'.length=E.length+1
theorem Uk {z:Nm} {t:Ty} (h:t.base≠76):pT z t:=fun e=>absurd e h
section
variable {z:Nm} {E E' :List Cd} (h:More z E E')
include h
theorem More.ne {s:Nm} (hs:(cls E s).isSome=true):s≠z:=fun e=>by rw[e,h.none] at hs;cases hs
theorem More.vne {l:List Nm} (hl:Vis E l):∀s∈l,s≠z:=fun s hs=>h.ne (hl.kn s hs)
theorem More.eSupF:∀{f:Nat} {out:List Nm} {s:Nm},s≠z->dv E' f out s=dv E f out s
 |0,_,_,_=>rfl
 |f+1,out,s,hs=>by
  rw[dv,dv,h.same s hs];cases hc:cls E s with
  |none=>rfl
  |some d=>
   dsimp only;split
   ·rfl
   ·exact More.eSupF (h.ok s d hc).sup
theorem More.supers {s:Nm} (hs:s≠z):aT E' s=aT E s:=by
 unfold aT;rw[h.eSupF hs,h.len,AP (Vis.nil E) (by simp)]
theorem More.eReachF:∀{f:Nat} {out l:List Nm},(∀s∈l,s≠z)->eC E' f out l=eC E f out l
 |0,_,_,_=>rfl
 |f+1,out,l,hl=>by
  rw[pW,pW];have key:∀(l out:List Nm),(∀s∈l,s≠z)->l.foldl (dx E' f) out=l.foldl (dx E f) out:=by
   intro l;induction l with
   |nil=>intro out _;rfl
   |cons s r ih=>
    intro out hl;have e:dx E' f out s=dx E f out s:=by
     unfold dx;rw[h.same s (hl s (bN ..))];cases hc:cls E s with
     |none=>rfl
     |some d=>
      dsimp only;split
      ·rfl
      ·exact More.eReachF (h.ok s d hc).ifs
    rw[List.foldl_cons,List.foldl_cons,e];exact ih _ fun s hs=>hl s (bw _ hs)
  exact key l out hl
theorem More.reach {out l:List Nm} (ho:Vis E out) (hl:∀s∈l,s≠z):eQ E' out l=eQ E out l:=by
 unfold eQ;rw[h.eReachF hl,h.len,Dg ho (by omega)]
theorem More.eCls {s:Nm} (hs:s≠z):bI E' s=bI E s:=by unfold bI;rw[h.same s hs]
theorem More.okZ (s:Nm):((bI E s).super≠z\/cls E s= .none)/\(∀t∈(bI E s).ifs,t≠z)/\(∀f∈(bI E s).fields,pT z f.ty)/\∀m∈(bI E s).methods,OkM z m:=by
 unfold bI;cases hc:cls E s with
 |none=>
  refine⟨.inr rfl,?_,?_,?_⟩<;>intro t ht<;>cases ht
 |some d=>exact⟨.inl (h.ok s d hc).sup,(h.ok s d hc).ifs,(h.ok s d hc).fld,(h.ok s d hc).mth⟩
theorem More.ifaces {s:Nm} (hs:s≠z):bR E' s=bR E s:=by
 unfold bR;rw[h.supers hs];have hv:=h.vne (kv E s);revert hv;generalize aT E s=l
 have key:∀(l out:List Nm),Vis E out->(∀s∈l,s≠z)->l.foldl (fun out c=>eQ E' out (bI E' c).ifs) out=l.foldl (fun out c=>eQ E out (bI E c).ifs) out:=by
  intro l;induction l with
  |nil=>intro out _ _;rfl
  |cons c r ih=>
   intro out ho hl;rw[List.foldl_cons,List.foldl_cons,h.eCls (hl c (bN ..)),h.reach ho (h.okZ c).2.1];exact ih _ (AK ho) fun s hs=>hl s (bw _ hs)
 exact key l [] (Vis.nil E)
theorem More.subt {a b:Nm} (ha:a≠z):eX E' a b=eX E a b:=by unfold eX;rw[h.same a ha,h.supers ha,h.ifaces ha]
theorem More.asg {a b:Ty} (ha:pT z a):cD E' a b=cD E a b:=by
 unfold cD;by_cases e:a.base=76
 ·rw[h.subt (ha e)]
 ·simp only[ab e,Bool.false_and]
theorem More.field {s n:Nm} (hs:s≠z):cg E' s n=cg E s n:=by
 unfold cg;rw[h.supers hs];have hv:=h.vne (kv E s);revert hv;generalize aT E s=l
 intro hv;induction l with
 |nil=>rfl
 |cons c r ih=>
  rw[List.findSome?_cons,List.findSome?_cons,h.eCls (hv c (bN ..)),ih fun s hs=>hv s (bw _ hs)]
theorem More.decl {s n:Nm} {k:Int} (hs:s≠z):cU E' s n k=cU E s n k:=by unfold cU;rw[h.eCls hs]
theorem More.first {l:List Nm} {n:Nm} {k:Int} (hl:∀s∈l,s≠z):ep E' l n k=ep E l n k:=by
 unfold ep;induction l with
 |nil=>rfl
 |cons c r ih=>rw[List.findSome?_cons,List.findSome?_cons,h.decl (hl c (bN ..)),ih fun s hs=>hl s (bw _ hs)]
theorem More.method {s n:Nm} {k:Int} (hs:s≠z):eG E' s n k=eG E s n k:=by
 unfold eG;rw[h.supers hs,h.ifaces hs,h.first (h.vne (kv E s)),h.first (h.vne (tE E s)),h.first fun t ht=>h.vne (kv E s) t (List.mem_of_mem_take ht)]
theorem More.eWith {l:List Nm} {n:Nm} {k:Int} (hl:∀s∈l,s≠z):kF E' l n k=kF E l n k:=by
 unfold kF;exact List.filter_congr fun s hs=>by rw[h.decl (hl s hs)]
theorem More.most {l:List Nm} {n:Nm} {k:Int} (hl:∀s∈l,s≠z):gp E' l n k=gp E l n k:=by
 unfold gp;rw[h.eWith hl];refine List.filter_congr fun s hs=> ?_
 congr 1
 have hw:∀t∈kF E l n k,t≠z:=fun t ht=>hl t (List.mem_filter.1 ht).1
 revert hw;generalize kF E l n k=w
 intro hw;induction w with
 |nil=>rfl
 |cons t r ih=>rw[List.any_cons,List.any_cons,h.subt (hw t (bN ..)),ih fun s hs=>hw s (bw _ hs)]
theorem More.known {t:Ty} (ht:cM E t=true):pT z t/\cM E' t=true:=by
 unfold cM at ht ⊢;by_cases e:t.base=76
 ·rw[aQ e,Bool.not_true,Bool.false_or] at ht ⊢;have:=h.ne ht;exact⟨fun _=>this,by rw[h.same _ this];exact ht⟩
 ·rw[ab e];exact⟨Uk e,rfl⟩
theorem More.ifc {t:Ty} (ht:pT z t):oe E' t=oe E t:=by
 unfold oe;by_cases e:t.base=76
 ·rw[h.eCls (ht e)]
 ·rw[ab e,Bool.and_false,Bool.false_and,Bool.false_and]
theorem More.args:∀{ps:List Pc} {xs:List Ty},(∀a∈xs,pT z a)->gw E' ps xs=gw E ps xs
 |[],_,_=>rfl
 |_::_,[],_=>rfl
 |p::l,a::r,ha=>by
  rw[gw,gw,h.asg (ha a (bN ..)),More.args fun a hs=>ha a (bw _ hs)]
end
structure OkSc (z:Nm) (S:Sc):Prop where
 ci:S.ci<S.pr.length
 pr:∀d∈S.pr,OkC z d
 loc:∀p∈S.loc,pT z p.ty
section
variable {z:Nm} {E E' :List Cd} {u:Cd} {S:Sc} (h:More z E E') (hu:u.name=z) (hS:OkSc z S)
include h hu hS
omit h hu in
end
section
variable {z:Nm} {E E' :List Cd} {u:Cd} {S:Sc}
end
section
variable {z:Nm} {E E' :List Cd} {u:Cd} {S:Sc}
theorem OkSc.su (hS:OkSc z S):OkSc z {S with su:=true}:=⟨hS.ci,hS.pr,hS.loc⟩
end
theorem SC:(cls aH aY).isSome=true:=by kernel_rfl
theorem SD:(cls aH []).isNone=true:=by kernel_rfl
def My (d:Cd):Bool:=decide (d.super=[])&&decide (d.ifs=[])&& !hasB d.fl 528&&d.methods.all (fun m=> !hasB m.fl 1024)
theorem QL:My (bI aH aY)=true:=by kernel_rfl
section
variable {E E' :List Cd} {z:Nm} (h:More z E E')
include h
end
section
variable {E E' pr:List Cd} {u:Cd} {z:Nm}
end
section
variable {pr:List Cd}
theorem Bt (a b:List Cd) (s:Nm):cls (a++b) s=(cls a s).or (cls b s):=by unfold cls;rw[List.find?_append]
theorem X6 {l:List Cd} {s:Nm} (h:∀d∈l,d.name≠s):cls l s=none:=by
 unfold cls;rw[xX];exact fun d hd=>ab (h d hd)
theorem JQ {s:Nm} {d:Cd} (h:cls aH s=some d):d∈aH:=List.mem_of_find?_eq_some h
theorem O4 (E:List Cd) (out:List Nm):eQ E out []=out:=by
 unfold eQ;rw[eC];rfl
end
theorem ya:∀{l:List Cd} {seen:List Nm},(dT seen l).2=0->∀d∈l,iB d=true/\o7 d=false/\om d=false
 |[],_,_,d,hd=>by cases hd
 |x::r,seen,h,d,hd=>by
  rw[dT] at h;rcases qy h with ⟨h1,h⟩ |⟨_,h⟩
  ·rcases qy h with ⟨_,h⟩ |⟨h2,h⟩
   ·cases h
   ·rcases qy h with ⟨_,h⟩ |⟨h3,h⟩
    ·cases h
    ·rcases List.mem_cons.1 hd with rfl |hd
     ·have h3:=(Bool.not_eq_true _).mp h3;rw[Bool.or_eq_false_iff] at h3;exact⟨h1,(Bool.not_eq_true _).mp h2,h3.2⟩
     ·exact ya h d hd
  ·cases h
theorem J9:∀{l:List Cd} {seen:List Nm},(dT seen l).2=0->(l.map (·.name)).Nodup/\∀d∈l,seen.contains d.name=false
 |[],_,_=>⟨List.nodup_nil,fun d hd=>by cases hd⟩
 |x::r,seen,h=>by
  rw[dT] at h;rcases qy h with ⟨h1,h⟩ |⟨_,h⟩
  ·rcases qy h with ⟨_,h⟩ |⟨h2,h⟩
   ·cases h
   ·rcases qy h with ⟨_,h⟩ |⟨h3,h⟩
    ·cases h
    ·have h3:=(Bool.not_eq_true _).mp h3;rw[Bool.or_eq_false_iff] at h3;obtain⟨q1,q2⟩:=J9 h;have q3:∀d∈r,seen.contains d.name=false/\d.name≠x.name:=fun d hd=>by
      have:=q2 d hd;rw[<- Bool.not_eq_true,List.contains_iff_mem,List.mem_append,not_or] at this;refine⟨?_,fun e=>this.2 (by rw[e];exact List.mem_singleton.2 rfl)⟩;rw[<- Bool.not_eq_true,List.contains_iff_mem];exact this.1
     refine⟨?_,fun d hd=> ?_⟩
     ·rw[aG,List.nodup_cons];refine⟨fun hm=> ?_,q1⟩;obtain⟨d,hd,e⟩:=List.mem_map.1 hm;exact(q3 d hd).2 e
     ·rcases List.mem_cons.1 hd with rfl |hd
      ·exact h3.1
      ·exact(q3 d hd).1
  ·cases h
theorem J8:∀{l:List Cd} {seen:List Nm},(∀d∈l,iB d=true/\o7 d=false/\om d=false)->(l.map (·.name)).Nodup->(∀d∈l,seen.contains d.name=false)->(dT seen l).2=0
 |[],_,_,_,_=>rfl
 |x::r,seen,h1,h2,h3=>by
  rw[dT];obtain⟨a1,a2,a3⟩:=h1 x (bN ..);rw[aG,List.nodup_cons] at h2;have a4:=h3 x (bN ..);rw[ak a1,ae (by rw[a2];decide),ae (by rw[a3,a4];decide)];refine J8 (fun d hd=>h1 d (bw _ hd)) h2.2 fun d hd=> ?_
  rw[<- Bool.not_eq_true,List.contains_iff_mem,List.mem_append,not_or];have a5:=h3 d (bw _ hd);rw[<- Bool.not_eq_true,List.contains_iff_mem] at a5;refine⟨a5,fun q=>h2.1 ?_⟩;rw[<- List.mem_singleton.1 q];exact List.mem_map.2 ⟨d,hd,rfl⟩
theorem DW {l:List Cd}:(dT [] l).2=0↔(∀d∈l,iB d=true/\o7 d=false/\om d=false)/\(l.map (·.name)).Nodup:=
 ⟨fun h=>⟨ya h,(J9 h).1⟩,fun h=>J8 h.1 h.2 fun _ _=>rfl⟩
theorem Tn {d:Cd} (h:iB d=true):d.name≠[]:=fun e=>by
 unfold iB lJ at h;rw[e] at h;have:iD []=false:=by kernel_rfl
 rw[this] at h;simp at h
def BV (t:Ty):Bool:=decide (-9223372036854775808<t.dim)&&decide (t.dim<=9223372036854775807)
theorem J3 {t:Ty} (h:BV t=true):dP t:=by
 unfold BV at h;rw[bB,cE,cE] at h;exact h
theorem SE:aH.all (fun d=>d.fields.all (fun f=>BV f.ty)&&d.methods.all fun m=>BV m.res)=true:=by kernel_rfl
theorem KQ:∀{l:List Md} {m:Md},m∈l->ct m.body<=iq l
 |[],m,h=>by cases h
 |x::r,m,h=>by
  rw[iq];rcases List.mem_cons.1 h with rfl |h
  ·exact Nat.le_max_left _ _
  ·exact cQ (KQ h) (Nat.le_max_right _ _)
theorem LX {pr:List Cd} (h:∀d∈pr,iB d=true):dy (pr++aH):=fun d hd=>by
 rcases List.mem_append.1 hd with hd |hd
 ·have hc:=h d hd;unfold iB at hc;simp only[bB,Bool.not_eq_true'] at hc;refine⟨fun f hf=> ?_,fun m hm=> ?_⟩
  ·have:=List.any_eq_false.1 hc.2.1.1.2 f hf;unfold wb at this;simp only[Bool.not_eq_true',Bool.not_eq_false,bB] at this;exact xR this.1.1.1
  ·have:=List.any_eq_false.1 hc.2.1.2 m hm;simp only[Bool.not_eq_true',Bool.not_eq_false] at this;exact(HQ this).2.2.2.2
 ·have:=List.all_eq_true.1 SE d hd;rw[bB,List.all_eq_true,List.all_eq_true] at this;exact⟨fun f hf=>J3 (this.1 f hf),fun m hm=>J3 (this.2 m hm)⟩
theorem VP {d:Cd} (h:iB d=true) (hd:o7 d=false):ClOk d:=by
 unfold iB at h;simp only[bB,Bool.not_eq_true'] at h;unfold o7 at hd;simp only[Bool.or_eq_false_iff,decide_eq_false_iff_not] at hd;have hb:=h.2.2;unfold tZ at hb;rw[bB,cE] at hb;refine⟨fun m hm=>⟨?_,?_⟩,⟨_,hb.2⟩,hb.1,by omega⟩
 ·have:=List.any_eq_false.1 h.2.1.2 m hm;simpa using this
 ·have:=KQ hm;omega
theorem Vx {pr B:List Cd} {d:Cd} (h:d∈pr):(cls (pr++B) d.name).isSome=true:=by
 unfold cls;rw[List.find?_isSome];exact⟨d,List.mem_append_left _ h,by simp⟩
section
variable {ad:Addr} {pr E:List Cd} {b:Nat} {a:Option Addr} {c:Nat} {L:List Cc}
theorem WQ (hE:dy E) (i:Nat) (hi:i<pr.length) (m:Mem) (hC:Ck m ad pr E b a c L) (hv:ClOk pr[i]) (hd:(cls E pr[i].name).isSome=true):FnH Tryz.prog 37 [.v (.pointer (some ad)),.v (.int .i64 1),.v (.int .i64 i)] ⟨[],[]⟩ m (mA m (eu E pr 1 i)):=by
 obtain⟨X,x1,x2,x3,hX⟩:=mG hC.pr hi;have aI:bS a pr.length (i:Int)=True:=eq_true ⟨by omega,by omega,x2⟩;have au:= @cC _ _ _ 7 x1 rfl;have hS:=QB pr[i] X m hC hX;have hK:eu E pr 1 i=nS E pr[i]:=by
  unfold eu;simp only[oP hi];rfl
 rw[hK];simp only[Cc.cs] at au hS;refine enter bb aq Tryz.func37 rfl rfl (by kernel_rfl) rfl ?_ ?_
 ·clear hS;simp only[go_sem]
 ·simp only[go_sem,cj (j:=0) hC.rd rfl,aI,au,Int.reduceEq,aW,aV];refine ai ((aD hS fun V=>rfl).mono ?_);clear hS;rintro r H' m1 aR ⟨l1,rfl,rfl⟩;simp only[go_sem];exact⟨l1,rfl,rfl⟩
theorem WO (hE:dy E) (i:Nat) (hi:i<pr.length) (m:Mem) (hC:Ck m ad pr E b a c L) (hv:ClOk pr[i]) (hd:(cls E pr[i].name).isSome=true):FnH Tryz.prog 37 [.v (.pointer (some ad)),.v (.int .i64 2),.v (.int .i64 i)] ⟨[],[]⟩ m (mA m (eu E pr 2 i)):=by
 obtain⟨X,x1,x2,x3,hX⟩:=mG hC.pr hi;have aI:bS a pr.length (i:Int)=True:=eq_true ⟨by omega,by omega,x2⟩;have au:= @cC _ _ _ 7 x1 rfl;have hS:=To pr[i] X m hC hX;have hK:eu E pr 2 i=o8 E pr[i]:=by
  unfold eu;simp only[oP hi];rfl
 rw[hK];simp only[Cc.cs] at au hS;refine enter bb aq Tryz.func37 rfl rfl (by kernel_rfl) rfl ?_ ?_
 ·clear hS;simp only[go_sem]
 ·simp only[go_sem,cj (j:=0) hC.rd rfl,aI,au,Int.reduceEq,aW,aV];refine ai ((aD hS fun V=>rfl).mono ?_);clear hS;rintro r H' m1 aR ⟨l1,rfl,rfl⟩;simp only[go_sem];exact⟨l1,rfl,rfl⟩
theorem WM (hE:dy E) (i:Nat) (hi:i<pr.length) (m:Mem) (hC:Ck m ad pr E b a c L) (hv:ClOk pr[i]) (hd:(cls E pr[i].name).isSome=true):FnH Tryz.prog 37 [.v (.pointer (some ad)),.v (.int .i64 3),.v (.int .i64 i)] ⟨[],[]⟩ m (mA m (eu E pr 3 i)):=by
 obtain⟨X,x1,x2,x3,hX⟩:=mG hC.pr hi;have aI:bS a pr.length (i:Int)=True:=eq_true ⟨by omega,by omega,x2⟩;have au:= @cC _ _ _ 7 x1 rfl;have hS:=S7 pr[i] X m hC hX;have hK:eu E pr 3 i=o6 E pr[i]:=by
  unfold eu;simp only[oP hi];rfl
 rw[hK];simp only[Cc.cs] at au hS;refine enter bb aq Tryz.func37 rfl rfl (by kernel_rfl) rfl ?_ ?_
 ·clear hS;simp only[go_sem]
 ·simp only[go_sem,cj (j:=0) hC.rd rfl,aI,au,Int.reduceEq,aW,aV];refine ai ((aD hS fun V=>rfl).mono ?_);clear hS;rintro r H' m1 aR ⟨l1,rfl,rfl⟩;simp only[go_sem];exact⟨l1,rfl,rfl⟩
theorem WL (hE:dy E) (i:Nat) (hi:i<pr.length) (m:Mem) (hC:Ck m ad pr E b a c L) (hv:ClOk pr[i]) (hd:(cls E pr[i].name).isSome=true):FnH Tryz.prog 37 [.v (.pointer (some ad)),.v (.int .i64 4),.v (.int .i64 i)] ⟨[],[]⟩ m (mA m (eu E pr 4 i)):=by
 obtain⟨X,x1,x2,x3,hX⟩:=mG hC.pr hi;have aI:bS a pr.length (i:Int)=True:=eq_true ⟨by omega,by omega,x2⟩;have au:= @cC _ _ _ 7 x1 rfl;have hS:=Sj pr[i] X m hC hX hd;have hK:eu E pr 4 i=qo E pr[i]:=by
  unfold eu;simp only[oP hi];rfl
 rw[hK];simp only[Cc.cs] at au hS;refine enter bb aq Tryz.func37 rfl rfl (by kernel_rfl) rfl ?_ ?_
 ·clear hS;simp only[go_sem]
 ·simp only[go_sem,cj (j:=0) hC.rd rfl,aI,au,Int.reduceEq,aW,aV];refine ai ((aD hS fun V=>rfl).mono ?_);clear hS;rintro r H' m1 aR ⟨l1,rfl,rfl⟩;simp only[go_sem];exact⟨l1,rfl,rfl⟩
theorem WK (hE:dy E) (i:Nat) (hi:i<pr.length) (m:Mem) (hC:Ck m ad pr E b a c L) (hv:ClOk pr[i]) (hd:(cls E pr[i].name).isSome=true):FnH Tryz.prog 37 [.v (.pointer (some ad)),.v (.int .i64 5),.v (.int .i64 i)] ⟨[],[]⟩ m (mA m (eu E pr 5 i)):=by
 obtain⟨X,x1,x2,x3,hX⟩:=mG hC.pr hi;have aI:bS a pr.length (i:Int)=True:=eq_true ⟨by omega,by omega,x2⟩;have au:= @cC _ _ _ 7 x1 rfl;have hS:=Q9 pr[i] X m hC hX;have hK:eu E pr 5 i=qp E pr[i]:=by
  unfold eu;simp only[oP hi];rfl
 rw[hK];simp only[Cc.cs] at au hS;refine enter bb aq Tryz.func37 rfl rfl (by kernel_rfl) rfl ?_ ?_
 ·clear hS;simp only[go_sem]
 ·simp only[go_sem,cj (j:=0) hC.rd rfl,aI,au,Int.reduceEq,aW,aV];refine ai ((aD hS fun V=>rfl).mono ?_);clear hS;rintro r H' m1 aR ⟨l1,rfl,rfl⟩;simp only[go_sem];exact⟨l1,rfl,rfl⟩
theorem WJ (hE:dy E) (i:Nat) (hi:i<pr.length) (m:Mem) (hC:Ck m ad pr E b a c L) (hv:ClOk pr[i]) (hd:(cls E pr[i].name).isSome=true):FnH Tryz.prog 37 [.v (.pointer (some ad)),.v (.int .i64 6),.v (.int .i64 i)] ⟨[],[]⟩ m (mA m (eu E pr 6 i)):=by
 obtain⟨X,x1,x2,x3,hX⟩:=mG hC.pr hi;have aI:bS a pr.length (i:Int)=True:=eq_true ⟨by omega,by omega,x2⟩;have au:= @cC _ _ _ 7 x1 rfl;have hS:=Tt hE i hi m hC hv;have hK:eu E pr 6 i=qC E pr i:=by
  unfold eu;simp only[oP hi];rfl
 rw[hK];simp only[Cc.cs] at au hS;refine enter bb aq Tryz.func37 rfl rfl (by kernel_rfl) rfl ?_ ?_
 ·clear hS;simp only[go_sem]
 ·simp only[go_sem,cj (j:=0) hC.rd rfl,aI,au,Int.reduceEq,aW,aV];refine ai ((aD hS fun V=>rfl).mono ?_);clear hS;rintro r H' m1 aR ⟨l1,rfl,rfl⟩;simp only[go_sem];exact⟨l1,rfl,rfl⟩
theorem Sf (hE:dy E) (n i:Nat) (hn:1<=n/\n<=6) (hi:i<pr.length) (m:Mem) (hC:Ck m ad pr E b a c L) (hv:ClOk pr[i]) (hd:(cls E pr[i].name).isSome=true):FnH Tryz.prog 37 [.v (.pointer (some ad)),.v (.int .i64 n),.v (.int .i64 i)] ⟨[],[]⟩ m (mA m (eu E pr n i)):=by
 rcases(by omega:n=1\/n=2\/n=3\/n=4\/n=5\/n=6) with rfl |rfl |rfl |rfl |rfl |rfl
 ·exact WQ hE i hi m hC hv hd
 ·exact WO hE i hi m hC hv hd
 ·exact WM hE i hi m hC hv hd
 ·exact WL hE i hi m hC hv hd
 ·exact WK hE i hi m hC hv hd
 ·exact WJ hE i hi m hC hv hd
end
theorem six:∀k,k<6->[1,2,3,4,5,6].drop k=(k+1)::[1,2,3,4,5,6].drop (k+1):=by decide
theorem O2 (E pr:List Cd) (n:Nat) (r:List Nat):mR E pr (n::r)=if(kW E pr n (List.range pr.length)).2.2=0 then mR E pr r else kW E pr n (List.range pr.length):=rfl
theorem OG (E pr:List Cd) (n i:Nat) (r:List Nat):kW E pr n (i::r)=if(eu E pr n i).2=0 then kW E pr n r else((pr.getD i eT).name,(eu E pr n i).1,(eu E pr n i).2):=rfl
section
variable {ad:Addr} {E:List Cd} {b:Nat} {a:Option Addr} {c:Nat} {L:List Cc}
theorem vt (pr:List Cd) (p:Option Addr) (n c:Nat) (m:Mem) (hg:Glob m) (tj:∀d∈pr,CdB d) (h:fi m pr p n c) (hf:pr.length<=1099000):FnH Tryz.prog 12 [.v (.slice p n c)] ⟨[],[]⟩ m
  fun r H' m' =>af m m' /\H' =⟨[],[]⟩/\r= .tup [.v (.string (bs (gJ aH pr).1)),.v (.string (bs (gJ aH pr).2.1)),.v (.int .i64 (gJ aH pr).2.2)]:=by
 have hA:=PF pr p n c m hg tj h;have hN:=fun m' (hle:af m m')=>vy pr p n c m' (jv hle h) hf
 have ao:(dT [] pr).2=0->dy (pr++aH)/\∀(i:Nat) (hi:i<pr.length),ClOk pr[i]:=fun q=>
  ⟨LX fun d hd=>(ya q d hd).1,fun i hi=>VP (ya q _ (List.getElem_mem hi)).1 (ya q _ (List.getElem_mem hi)).2.1⟩
 have hP:=fun(ad:Addr) (b:Nat) (L:List Cc) (q:(dT [] pr).2=0) (m' :Mem) (k i:Nat) (hk:1<=k/\k<=6) (hi:i<pr.length) (hC:Ck m' ad pr (pr++aH) b p c L)=>Sf (ao q).1 k i hk hi m' hC ((ao q).2 i hi) (Vx (List.getElem_mem hi))
 have hK:gJ aH pr=if(dT [] pr).2=0 then mR (pr++aH) pr [1,2,3,4,5,6] else((dT [] pr).1,[],(dT [] pr).2):=rfl
 revert hK;generalize gJ aH pr=K
 intro hK;refine enter bb aq Tryz.func12 rfl rfl (by kernel_rfl) rfl ?_ ?_
 ·clear hA hN hP;simp only[go_sem]
 ·simp only[go_sem];refine ai (hA.mono ?_);clear hA;rintro r H' m1 aR ⟨l1,rfl,rfl⟩;by_cases hz:(dT [] pr).2=0
  ·rw[ak hz] at hK;have cV:((dT [] pr).2=0)=True:=eq_true hz;have hN:=hN m1 l1;simp only[go_sem,cV];refine ai (hN.mono ?_);clear hN;rintro r H' m2 aK ⟨l2,rfl,ad,b,L,rfl,hC⟩;have jr:=aa l1 l2;simp only[go_sem];refine cq aq (fun y:Nat×Mem=>⟨[⟨23,[],.v (.int .i64 y.1)⟩,⟨7,[],.v (.pointer (some ad))⟩,⟨0,[],.v (.slice p n c)⟩,⟨2,[],.v (.string (bs []))⟩,⟨3,[],.v (.string (bs []))⟩,⟨4,[],.v (.int .i64 0)⟩],[],[],[],0,y.2⟩)
    (fun y=>af m y.2/\af m2 y.2/\y.1<=6/\mR (pr++aH) pr ([1,2,3,4,5,6].drop y.1)=K) (fun y=>6 - y.1) (0,m2) (by kernel_rfl) (fun _ _=>aZ rfl) (fun x hx=>hx.2.1) (fun _=> ?_) ?_ ⟨jr,.inl rfl,aF _,hK.symm⟩ ?_
   ·clear hP;simp only[go_sem]
   ·clear hP;simp only[go_sem];exact rfl
   ·rintro⟨k,mm⟩ ⟨q0,q1,q2,q3⟩;dsimp only at q0 q1 q2 q3;by_cases hk:k<6
    ·have hc:((k:Int)<6)=True:=eq_true (by clear hP;omega);rw[six k hk,O2] at q3;have q4:(if(kW (pr++aH) pr (k+1) ((List.range pr.length).drop 0)).2.2=0 then mR (pr++aH) pr ([1,2,3,4,5,6].drop (k+1)) else kW (pr++aH) pr (k+1) ((List.range pr.length).drop 0))=K:=by rw[List.drop_zero];exact q3
     simp only[go_sem,hc];refine cq aq (fun y:Nat×Mem=>⟨[⟨28,[],.v (.int .i64 y.1)⟩,⟨27,[],.v (.int .i64 n)⟩,⟨8,[],.v (.int .i64 k)⟩,⟨23,[],.v (.int .i64 k)⟩,⟨7,[],.v (.pointer (some ad))⟩,⟨0,[],.v (.slice p n c)⟩,⟨2,[],.v (.string (bs []))⟩,⟨3,[],.v (.string (bs []))⟩,⟨4,[],.v (.int .i64 0)⟩],[],[],[],0,y.2⟩)
      (fun y=>af m y.2/\af mm y.2/\y.1<=pr.length/\(if(kW (pr++aH) pr (k+1) ((List.range pr.length).drop y.1)).2.2=0 then mR (pr++aH) pr ([1,2,3,4,5,6].drop (k+1)) else kW (pr++aH) pr (k+1) ((List.range pr.length).drop y.1))=K) (fun y=>pr.length - y.1) (0,mm) (by kernel_rfl) (fun _ _=>aZ rfl) (fun x hx=>hx.2.1) (fun _=> ?_) ?_ ⟨q0,.inl rfl,aF _,q4⟩ ?_
     ·clear hP;simp only[go_sem]
     ·clear hP;simp only[go_sem];exact rfl
     ·rintro⟨i,m3⟩ ⟨r0,r1,r2,r3⟩;dsimp only at r0 r1 r2 r3;have hn:=h.1;by_cases hi:i<pr.length
      ·have u3:((i:Int)<(n:Int))=True:=eq_true (by clear hP;omega);have hlr:i<(List.range pr.length).length:=by rw[List.length_range];exact hi
       rw[List.drop_eq_getElem_cons hlr,List.getElem_range,OG,oP hi] at r3;have hP:=hP ad b L hz m3 (k+1) i ⟨by omega,by omega⟩ hi (hC.up (aa q1 r1));have NJ:az ((k:Int)+1)=True:=eq_true (by unfold az;clear hP;omega);have j6:((k:Int)+1)=((k+1:Nat):Int):=by omega
       simp only[go_sem,u3,NJ,j6];refine⟨by unfold az;omega,by kernel_rfl,bD (hP.mono ?_)⟩;clear hP;rintro r H' m4 gW ⟨l4,rfl,rfl⟩;have uI:=aa r0 l4;by_cases hy:(eu (pr++aH) pr (k+1) i).2=0
       ·rw[ak hy] at r3;have kO:((eu (pr++aH) pr (k+1) i).2=0)=True:=eq_true hy;simp only[go_sem,kO];exact⟨by unfold az;omega,(i+1,m4),⟨by simp,.inl rfl⟩,⟨uI,aa r1 l4,hi,r3⟩,by omega⟩
       ·rw[ae hy,ae hy] at r3;have kO:((eu (pr++aH) pr (k+1) i).2=0)=False:=eq_false hy;refine Exists.elim (mG (jv uI h) hi) fun X hX=> ?_
        have aI:bS p n (i:Int)=True:=eq_true ⟨by omega,by omega,hX.2.1⟩;have dA:=lD hX.1;have cW:= @r9 m4 (bk p (i * 7)) X.cs hX.1 1 _ rfl;simp only[go_sem,kO,aI,dA,cW];subst r3;exact⟨uI,by rw[hX.2.2.1]⟩
      ·have u3:((i:Int)<(n:Int))=False:=eq_false (by clear hP;omega);rw[List.drop_of_length_le (by rw[List.length_range];clear hP;omega)] at r3;have r3:mR (pr++aH) pr ([1,2,3,4,5,6].drop (k+1))=K:=r3;clear hP;simp only[go_sem,u3];exact⟨by unfold az;omega,(k+1,m3),⟨by simp,.inl rfl⟩,⟨r0,aa q1 r1,hk,r3⟩,by omega⟩
    ·have hc:((k:Int)<6)=False:=eq_false (by clear hP;omega);rw[List.drop_of_length_le (by simp;omega)] at q3;clear hP;simp only[go_sem,hc];subst q3;exact⟨q0,rfl⟩
  ·rw[ae hz] at hK;have cV:((dT [] pr).2=0)=False:=eq_false hz;clear hN hP;simp only[go_sem,cV];subst hK;exact⟨l1,rfl⟩
end
theorem LV {m:Mem} {k n:Int} {s c:List UInt8} {ty:Ty} {args:List Ex} {a:Option Addr} {cp:Nat} {xs:List Value} (bQ:args.length<=cp) (hr:aw m a args.length 8 xs) (ao:Ct k n s c ty args.length) (cJ:dI m args xs):
  a8 m (.mk k n s c ty args) (en k n s c ty (.slice a args.length cp)):=by
 simp only[a8];exact⟨a,cp,xs,rfl,bQ,hr,ao,cJ⟩
theorem Lf {m:Mem} {xs:List Value}:dI m [] xs:=by simp only[dI]
theorem J0 {m:Mem} {e:Ex} {r:List Ex} {cs xs:List Value} (h:a8 m e cs) (hc:cs.length=8) (hr:dI m r xs):dI m (e::r) (cs++xs):=by
 simp only[dI];rw[<- hc,List.take_left,List.drop_left];exact⟨h,hr⟩
def B6:List Value->Option (Prop×Value)
 |[.int .i64 n]=>some (True,.agg ⟨en 1 n [] [] an (.slice none 0 0)⟩)
 |_=>none
attribute [go_sem] B6.eq_1
theorem Ut (n:Int) (m:Mem):FnH Tryz.prog 34 [.v (.int .i64 n)] ⟨[],[]⟩ m fun r H' _=>r= .v (.agg ⟨en 1 n [] [] an (.slice none 0 0)⟩)/\H' =⟨[],[]⟩:=by
 refine jT (R:=fun r H' m' =>r= .agg ((en 1 n [] [] an (.slice none 0 0)).map .v)/\H' =⟨[],[]⟩) ?_ fun r H' m' _ hr=>⟨_,fun V=>by rw[hr.1];rfl,rfl,hr.2⟩
 refine br aq Tryz.func34 ?_
 ·simp only[go_sem];exact rfl
theorem Ul:∀aO y,B6 aO=some y->y.1->∀m,FnH Tryz.prog 34 (aO.map SV.v) ⟨[],[]⟩ m fun r H' _=>r= .v y.2/\H' =⟨[],[]⟩:=fun aO y hy hB m=>by
 unfold B6 at hy;split at hy
 ·rename_i k;cases hy;exact Ut k m
 ·cases hy
def ld (e f:Ex):Ex:= .mk 16 0 [43] [] an [e,f]
theorem EG (e f:Ex) (X Y:Nd) (m:Mem) (he:a8 m e X.cs) (hf:a8 m f Y.cs):FnH Tryz.prog 33 [.v (.agg ⟨X.cs⟩),.v (.agg ⟨Y.cs⟩)] ⟨[],[]⟩ m
  fun r H' m' =>af m m' /\H' =⟨[],[]⟩/\∃a c,a8 m' (ld e f) (en 16 0 [43] [] an (.slice a 2 c))/\r= .agg ((en 16 0 [43] [] an (.slice a 2 c)).map .v):=by
 refine nQ ?_;refine enter bb aq Tryz.func33 rfl rfl (by kernel_rfl) rfl ?_ ?_
 ·simp only[go_sem,Nd.cs]
 ·simp only[go_sem,Nd.cs];refine tO (b:=⟨3,0,57,8,2,X.cs++(Y.cs++[])⟩) 7 rfl rfl ⟨[],[]⟩ (List.nil_sublist _) (List.nil_sublist _) fun a' c' m2 h1 h2 h3=>⟨.inr h1,rfl,a',c',?_,rfl⟩
  exact LV (args:=[e,f]) h2 h3 ⟨by unfold az;decide,by unfold az;decide,by decide,by decide,lR,aZ rfl⟩ (J0 (tJ h1 _ _ he) rfl (J0 (tJ h1 _ _ hf) rfl Lf))
def BN (l:List St):Cd:=⟨1,[65],aY,[],[],[⟨1,⟨0,73,[]⟩,[102],[⟨⟨0,73,[]⟩,[97]⟩],true,l⟩],[]⟩
theorem Js (l:List St) (xs:List Value) (sa:Option Addr) (n sc:Nat) (m:Mem) (hr:aw m sa n 23 xs) (hn:n=l.length) (hc:n<=sc) (hb:n<=ay) (hs:bL m l xs):FnH Tryz.prog 32 [.v (.slice sa n sc)] ⟨[],[]⟩ m
  fun r H' m' =>af m m' /\H' =⟨[],[]⟩/\∃a c,fi m' [BN l] a 1 c/\r= .v (.slice a 1 c):=by
 refine nQ ?_;refine br aq Tryz.func32 ?_
 ·simp only[go_sem];intro a1 c1 m1 e1 e2 e3 a2 c2 m2 g1 g2 g3;refine yo (b:=⟨3,0,33,7,1,[.int .i64 1,.string (bs [65]),.string (bs aY),.slice none 0 0,.slice none 0 0,.slice a2 1 c2,.slice none 0 0]⟩) rfl ⟨[],[]⟩ (List.nil_sublist _) (List.nil_sublist _) fun a3 c3 m3 k1 k2 k3=>⟨aa (aa (.inr e1) (.inr g1)) (.inr k1),rfl,a3,c3,?_,rfl⟩
  have hle:af m m3:=aa (aa (.inr e1) (.inr g1)) (.inr k1);have sK:∀z,aw m3 none 0 z []:=fun z=>qi m3 z
  refine⟨rfl,k2,by decide,_,k3,?_,trivial⟩;refine⟨⟨1,[65],aY,none,0,0,none,0,0,a2,1,c2,none,0,0⟩,⟨rfl,rfl,rfl,rfl⟩,⟨rfl,aC _,rfl,aC _,rfl,g2,rfl,aC _⟩,?_,sK 1,sK 5,_,[],aN (.inr k1) g3,?_,sK 23,by simp only[BN,bL]⟩
  ·have i1:az 1:=by unfold az;decide
   exact⟨i1,aZ rfl,aZ rfl,aZ rfl,(fun s h=>by cases h),aZ rfl,(fun s h=>by cases h),aZ rfl,aZ rfl⟩
  ·refine⟨⟨⟨1,⟨0,73,[]⟩,[102],a1,1,c1,true,sa,n,sc⟩,⟨rfl,rfl,rfl,rfl,rfl⟩,⟨rfl,e2,hn,hc⟩,?_,aN (aa (.inr g1) (.inr k1)) e3,xs,aN hle hr,cL hle hs⟩,trivial⟩;have i1:az 1:=by unfold az;decide
   have i0:az 0:=by unfold az;decide
   have b7:(0:Int)<=73/\(73:Int)<256:=by decide
   exact⟨i1,⟨i0,b7,aZ rfl⟩,aZ rfl,aZ rfl,(fun p h=>by rw[List.mem_singleton.1 h];exact⟨⟨i0,b7,aZ rfl⟩,aZ rfl⟩),by show l.length<=ay;rw[<- hn];exact hb⟩
def xd (da:Option Addr) (dc:Nat) (S:Sc) (la:Option Addr) (lc:Nat):List Value:=
 [.slice da S.pr.length dc,.int .i64 S.ci,.bool S.st,.bool S.su,.int .i64 S.res.dim,.int .u8 S.res.base,.string (bs S.res.name),.slice la S.loc.length lc]
section
variable {S:Sc} {da:Option Addr} {dc:Nat} {la:Option Addr} {lc:Nat}
theorem SM (m:Mem) (hi:S.ci<S.pr.length):FnH Tryz.prog 52 [.v (.agg ⟨xd da dc S la lc⟩)] ⟨[],[]⟩ m fun r H' _=>r= .v (.bool true)/\H' =⟨[],[]⟩:=by
 have h1:((0:Int)<=(S.ci:Int))=True:=eq_true (by omega);have h2:((S.ci:Int)<(S.pr.length:Int))=True:=eq_true (by omega);refine enter bb aq Tryz.func52 rfl rfl (by kernel_rfl) rfl ?_ ?_
 ·simp only[go_sem,xd]
 ·simp only[go_sem,xd,h1,h2];done
theorem HF (e:Ex) (X:Nd) (m:Mem) (hg:Glob m) (hp:fi m S.pr da S.pr.length dc) (hf:S.pr.length<=1099000) (hi:S.ci<S.pr.length) (hl:aw m la S.loc.length 4 (flat Pc.cs S.loc)) (Gw:S.loc.length<=lc) (ny:S.loc.length<=2000000000)
  (hE:dy (S.pr++aH)) (hS:dW S.loc) (he:a8 m e X.cs) (hv:de e=true):
  FnH Tryz.prog 25 [.v (.agg ⟨xd da dc S la lc⟩),.v (.agg ⟨X.cs⟩)] ⟨[],[]⟩ m (C4 m (bW (S.pr++aH) S e)):=by
 have hV:=mD _ e X.cs m (aC _) hg he;rw[hv] at hV;have hI:=fun m' =>SM (S:=S) (da:=da) (dc:=dc) (la:=la) (lc:=lc) m' hi
 have hN:=fun m' (hle:af m m')=>vy S.pr da S.pr.length dc m' (jv hle hp) hf
 have hX:=fun m' (hle:af m m') (ad:Addr) (b:Nat) (L:List Cc) (hC:Ck m' ad S.pr (S.pr++aH) b da dc L)=>tI (ad:=ad) (da:=da) (dc:=dc) (la:=la) (lc:=lc) (b:=b) (a:=da) (c:=dc) (L:=L) hE hS e X.cs m' ⟨hC,jv hle hp,hi,aN hle hl,Gw,ny⟩ (bY hle he) hv
 revert hX;generalize bW (S.pr++aH) S e=x
 unfold av;unfold xd at hI ⊢;intro hX;refine enter bb aq Tryz.func25 rfl rfl (by kernel_rfl) rfl ?_ ?_
 ·clear hV hI hN hX;simp only[go_sem,Nd.cs]
 ·simp only[go_sem,Nd.cs];refine ai ((aD hV fun V=>rfl).mono ?_);clear hV;rintro r H' m1 aR ⟨l1,rfl,rfl⟩;have hI:=hI m1;simp only[go_sem];refine ai ((aD hI fun V=>rfl).mono ?_);clear hI;rintro r H' m2 aK ⟨rfl,rfl⟩;have l2:=aa l1 (.inr aK);have hN:=hN m2 l2;simp only[go_sem];refine bZ (.hoist 0 (.hoist 1 (.hoist 3 (.hoist 5 (.alt 2 [5,3] (.hoist 4 (.alt 6 [] (.hoist 7 (.hoist 8 (.alt 9 [] (.hoist 10 .done) .stop))) .stop)) .stop))))) aq (by kernel_rfl) (by kernel_rfl) ?_;simp only[go_sem];refine ai (hN.mono ?_);clear hN;rintro r H' m3 cA ⟨l3,rfl,ad,b,L,rfl,hC⟩;have uN:=aa l2 l3;have hX:=hX m3 uN ad b L hC;have oC:=eq_true l3;simp only[go_sem,oC,and_self];refine ai ((aD hX fun V=>rfl).mono ?_);clear hX;rintro r H' m4 gW ⟨l4,rfl,rfl⟩;have rr:=eq_true l4;simp only[go_sem,rr,and_self];exact⟨aa uN l4,rfl,rfl⟩
end
def aX:Ex:= .mk 6 0 [97] [] an []
def nX (n:Int):Ex:= .mk 1 n [] [] an []
def lX:Ex:= .mk 2 2 [] [] an []
def FF:St:= .mk 6 [] an zE (ld aX (nX 1)) [] []
def ou:List Cd:=[BN [FF]]
def Cr:List Cd:=[BN []]
def qK:Sc:=⟨ou,0,false,false,an,[]⟩
theorem aw1:gJ aH ou=([],[],0):=by decide+kernel
theorem aw2:gJ aH Cr=([65],[102],74):=by decide+kernel
def Mu (x:TR) (t:Ty) (n:Int):Bool:=Ty.eq x.1 t&&decide (x.2=n)
theorem Km {x:TR} {t:Ty} {n:Int} (h:Mu x t n=true):x=(t,n):=by
 unfold Mu at h;rw[bB,cE] at h;obtain⟨h1,h2⟩:=h;have:=(sD _ _).1 h1;obtain⟨⟨d,k,nm⟩,y⟩:=x;obtain⟨d',k',nm'⟩:=t;dsimp only at this h2;rw[this.1,this.2.1,this.2.2,h2]
theorem aw3:bW (ou++aH) qK (ld (nX 1) (nX 2))=(cr,0):=Km (by decide+kernel)
theorem aw4:bW (ou++aH) qK (ld (nX 1) lX)=(an,73):=Km (by decide+kernel)
theorem N5:de (ld (nX 1) (nX 2))=true/\de (ld (nX 1) lX)=true:=⟨by decide+kernel,by decide+kernel⟩
theorem aw6:ou.all iB=true:=by decide+kernel
theorem KH:dy (ou++aH):=LX fun d hd=>List.all_eq_true.1 aw6 d hd
theorem Y5:∀d∈ou,CdB d:=fun d h=>by
 rw[List.mem_singleton.1 h];exact⟨by decide+kernel,by decide+kernel,by decide+kernel,by decide+kernel⟩
theorem Yd:∀d∈Cr,CdB d:=fun d h=>by
 rw[List.mem_singleton.1 h];exact⟨by decide+kernel,by decide+kernel,by decide+kernel,by decide+kernel⟩
theorem wx {m:Mem} {k n:Int} {s:List UInt8} (hk:az k) (hn:az n) (hs:s.length<=ay):a8 m (.mk k n s [] an []) (en k n s [] an (.slice none 0 0)):=
 LV (aC _) gK ⟨hk,hn,hs,aF _,lR,aF _⟩ Lf
abbrev MZ:Cfg:=kZ (fun _=>false) [(34,fun _=>B6)]
theorem aaX:cw MZ Tryz.prog:=fG (by kernel_rfl) (fun m aO y hy hB=>Ul aO y hy hB m) rK
theorem T5 {m:Mem} {a:Option Addr} {c:Nat} (h:a8 m (ld aX (nX 1)) (en 16 0 [43] [] an (.slice a 2 c))):
  bL m [FF] (Sd.cs ⟨6,[],an,aP,⟨16,0,[43],[],an,a,2,c⟩,none,0,0,none,0,0⟩):=by
 simp only[bL,and_true];have i6:az 6:=by unfold az;decide
 exact fH (⟨6,[],an,aP,⟨16,0,[43],[],an,a,2,c⟩,none,0,0,none,0,0⟩:Sd) lK h rfl (aC _) rfl (aC _) ⟨i6,aF _,lR,aF _,aF _⟩ gK gK iU iU
theorem DY (m:Mem) (hg:Glob m):FnH Tryz.prog 11 [] ⟨[],[]⟩ m fun r H' m' =>af m m' /\H' =⟨[],[]⟩/\r= .v (.bool true):=by
 have i1:az 1:=by unfold az;decide
 have i2:az 2:=by unfold az;decide
 have i6:az 6:=by unfold az;decide
 have i0:az 0:=by unfold az;decide
 have jt:=fun m' =>EG aX (nX 1) ⟨6,0,[97],[],an,none,0,0⟩ ⟨1,1,[],[],an,none,0,0⟩ m' (wx i6 i0 (by decide)) (wx i1 i1 (by decide))
 have nA:=fun m' =>EG (nX 1) (nX 2) ⟨1,1,[],[],an,none,0,0⟩ ⟨1,2,[],[],an,none,0,0⟩ m' (wx i1 i1 (by decide)) (wx i1 i2 (by decide))
 have CZ:=fun m' =>EG (nX 1) lX ⟨1,1,[],[],an,none,0,0⟩ ⟨2,2,[],[],an,none,0,0⟩ m' (wx i1 i1 (by decide)) (wx i2 i2 (by decide))
 have xB:=fun m' a c s1 s2 (h:a8 m' (ld aX (nX 1)) (en 16 0 [43] [] an (.slice a 2 c))) hr hc=>Js [FF] (Sd.cs ⟨6,[],an,aP,⟨16,0,[43],[],an,a,2,c⟩,none,0,0,none,0,0⟩) s1 1 s2 m' hr rfl hc (by decide) (T5 h)
 have Am:=fun m' =>Js [] [] none 0 0 m' (qi m' 23) rfl (aC _) (by decide) iU
 have dL:=fun m' (hle:af m m') a c (h:fi m' ou a 1 c)=>vt ou a 1 c m' (hg.upM hle) Y5 h (by decide)
 have eF:=fun m' (hle:af m m') a c (h:fi m' Cr a 1 c)=>vt Cr a 1 c m' (hg.upM hle) Yd h (by decide)
 rw[aw1] at dL;rw[aw2] at eF;have hn:dW ([]:List Pc):=fun p hp=>by cases hp
 have kr:=fun m' (hle:af m m') a c sa sc (h:fi m' ou a 1 c) (he:a8 m' (ld (nX 1) (nX 2)) (en 16 0 [43] [] an (.slice sa 2 sc)))=>HF (S:=qK) (da:=a) (dc:=c) (la:=none) (lc:=0) (ld (nX 1) (nX 2)) ⟨16,0,[43],[],an,sa,2,sc⟩ m' (hg.upM hle) h (by decide) (by decide) (qi m' 4) (aC _) (aF _) KH hn he N5.1
 have rA:=fun m' (hle:af m m') a c sa sc (h:fi m' ou a 1 c) (he:a8 m' (ld (nX 1) lX) (en 16 0 [43] [] an (.slice sa 2 sc)))=>HF (S:=qK) (da:=a) (dc:=c) (la:=none) (lc:=0) (ld (nX 1) lX) ⟨16,0,[43],[],an,sa,2,sc⟩ m' (hg.upM hle) h (by decide) (by decide) (qi m' 4) (aC _) (aF _) KH hn he N5.2
 have e3:bW (qK.pr++aH) qK (ld (nX 1) (nX 2))=(cr,0):=aw3;have e4:bW (qK.pr++aH) qK (ld (nX 1) lX)=(an,73):=aw4;rw[e3] at kr;rw[e4] at rA;simp only[xd,Nd.cs,qK,an,en,Sd.cs,aP] at jt nA CZ xB dL eF kr rA;refine enter MZ aaX Tryz.func11 rfl rfl (by kernel_rfl) rfl ?_ ?_
 ·clear jt nA CZ xB Am dL eF kr rA;simp only[go_sem]
 ·simp only[go_sem,en,an];refine ai ((aD (jt m) fun V=>rfl).mono ?_);clear jt;rintro r H' m1 aR ⟨l1,rfl,a1,c1,he1,rfl⟩;try simp only[en] at he1
  simp only[go_sem,aG,List.map_nil,en,an];refine⟨by kernel_rfl,fun a2 c2 m2 g1 g2 g3=> ?_⟩;have l2:=aa l1 (.inr g1);have xB:=xB m2 a1 c1 a2 c2 (tJ g1 _ _ he1) g3 g2;refine bD (xB.mono ?_);clear xB;rintro r H' m3 cA ⟨l3,rfl,a3,c3,hp,rfl⟩;have l3:=aa l2 l3;have dL:=dL m3 l3 a3 c3 hp;simp only[go_sem];refine ai (dL.mono ?_);clear dL;rintro r H' m4 gW ⟨l4,rfl,rfl⟩;have l34:=l4;have l4:=aa l3 l4;have Am:=Am m4;simp only[go_sem];refine ai (Am.mono ?_);clear Am;rintro r H' m5 mq ⟨l5,rfl,a5,c5,hp5,rfl⟩;have l45:=l5;have l5:=aa l4 l5;have eF:=eF m5 l5 a5 c5 hp5;simp only[go_sem];refine ai (eF.mono ?_);clear eF;rintro r H' m6 pM ⟨l6,rfl,rfl⟩;have l36:=aa l34 (aa l45 l6);have l6:=aa l5 l6;simp only[go_sem,en,an];refine ai ((aD (nA m6) fun V=>rfl).mono ?_);clear nA;rintro r H' m7 mi ⟨l7,rfl,a7,c7,he7,rfl⟩;have Nl:=aa l36 l7;have l7:=aa l6 l7;try simp only[en] at he7
  have kr:=kr m7 l7 a3 c3 a7 c7 (jv Nl hp) he7;simp only[go_sem,aG,List.map_nil,en,an];refine ai ((aD kr fun V=>rfl).mono ?_);clear kr;rintro r H' m8 oB ⟨l8,rfl,rfl⟩;have l38:=aa Nl l8;have l8:=aa l7 l8;simp only[go_sem,en,an,cr];refine ai ((aD (CZ m8) fun V=>rfl).mono ?_);clear CZ;rintro r H' m9 km ⟨l9,rfl,a9,c9,he9,rfl⟩;have l39:=aa l38 l9;have l9:=aa l8 l9;try simp only[en] at he9
  have rA:=rA m9 l9 a3 c3 a9 c9 (jv l39 hp) he9;simp only[go_sem,aG,List.map_nil,en,an];refine ai ((aD rA fun V=>rfl).mono ?_);clear rA;rintro r H' m10 adS ⟨l10,rfl,rfl⟩;have l10:=aa l9 l10;simp only[go_sem,en,an,cr,dD];exact l10
structure SameE (E E' :List Cd):Prop where
 cls:∀s,cls E' s=cls E s
 len:E'.length=E.length
structure SameSc (S S' :Sc):Prop where
 cur:dh S' =dh S
 fnd:∀s,(S'.pr.find? fun d=>decide (d.name=s))=S.pr.find? fun d=>decide (d.name=s)
 st:S'.st=S.st
 su:S'.su=S.su
 res:S'.res=S.res
 loc:S'.loc=S.loc
section
variable {E E' :List Cd} (h:SameE E E')
include h
theorem vY (s:Nm):bI E' s=bI E s:=by unfold bI;rw[h.cls]
theorem Lw:∀(f:Nat) (out:List Nm) (s:Nm),dv E' f out s=dv E f out s
 |0,_,_=>rfl
 |f+1,out,s=>by simp only[dv,h.cls,Lw f]
theorem qs (s:Nm):aT E' s=aT E s:=by unfold aT;rw[h.len,Lw h]
theorem Ji:∀(f:Nat) (out l:List Nm),eC E' f out l=eC E f out l
 |0,_,_=>rfl
 |f+1,out,l=>by simp only[eC,h.cls,Ji f]
theorem Kt (out l:List Nm):eQ E' out l=eQ E out l:=by unfold eQ;rw[h.len,Ji h]
theorem wi (s:Nm):bR E' s=bR E s:=by simp only[bR,qs h,Kt h,vY h]
theorem Lx (a b:Nm):eX E' a b=eX E a b:=by simp only[eX,qs h,wi h,h.cls]
theorem wk (a b:Ty):cD E' a b=cD E a b:=by simp only[cD,Lx h]
theorem Ku (s n:Nm):cg E' s n=cg E s n:=by simp only[cg,qs h,vY h]
theorem vX (s n:Nm) (k:Int):cU E' s n k=cU E s n k:=by simp only[cU,vY h]
theorem EK (l:List Nm) (n:Nm) (k:Int):ep E' l n k=ep E l n k:=by simp only[ep,vX h]
theorem Lz (s n:Nm) (k:Int):eG E' s n k=eG E s n k:=by simp only[eG,EK h,qs h,wi h]
theorem Wv (l:List Nm) (n:Nm) (k:Int):kF E' l n k=kF E l n k:=by simp only[kF,vX h]
theorem Ly (l:List Nm) (n:Nm) (k:Int):gp E' l n k=gp E l n k:=by simp only[gp,Wv h,Lx h]
theorem E7:∀(ps:List Pc) (xs:List Ty),gw E' ps xs=gw E ps xs
 |[],_=>rfl
 |_::_,[]=>rfl
 |p::l,a::r=>by simp only[gw,wk h,E7 l r]
theorem YV (op:Nm) (a b:Ty):ir E' op a b=ir E op a b:=by simp only[ir,wk h]
theorem YS (t:Ty):oe E' t=oe E t:=by simp only[oe,vY h]
theorem Bo (t:Ty):cM E' t=cM E t:=by simp only[cM,h.cls]
theorem WD (k:Int) (ty a:Ty):mV E' k ty a=mV E k ty a:=by simp only[mV,Bo h,wk h,YS h]
section
variable {S S' :Sc} (hs:SameSc S S')
include hs
omit h in
theorem Fj (o:Nm) (fl:Int):jJ S' o fl=jJ S o fl:=by simp only[jJ,hs.cur]
theorem LB (s n:Nm) (st:Bool) (xs:List Ty):jg E' S' s n st xs=jg E S s n st xs:=by simp only[jg,Lz h,Fj hs,E7 h]
theorem T3 (n:Nm) (xs:List Ty):mN E' S' n xs=mN E S n xs:=by
 simp only[mN,hs.st,hs.su,hs.cur,Lz h,EK h,qs h,wi h,Ly h,LB h hs];congr 1
 split
 ·rfl
 ·congr 1
  split
  ·rfl
  ·split
   ·simp only[vX h]
   ·rfl
theorem LA (s:Nm) (xs:List Ty):n9 E' S' s xs=n9 E S s xs:=by simp only[n9,vX h,Fj hs,E7 h,hs.fnd]
theorem YU (st:Bool) (c s:Nm):oh E' S' st c s=oh E S st c s:=by simp only[oh,Ku h,Fj hs]
theorem Wx (k:Int) (s c:Nm) (xs:List Ty):gu E' S' k s c xs=gu E S k s c xs:=by simp only[gu,hs.loc,YU h hs]
theorem Wy (k:Int) (c:Nm) (ty:Ty) (xs:List Ty):je E' S' k c ty xs=je E S k c ty xs:=by simp only[je,Bo h,h.cls,LA h hs]
omit h in
theorem YR (k:Int):kH S' k=kH S k:=by simp only[kH,hs.st,hs.su,hs.cur]
theorem WB (k:Int) (s c:Nm) (ty:Ty) (xs:List Ty):bq E' S' k s c ty xs=bq E S k s c ty xs:=by
 simp only[bq,Wx h hs,LB h hs,T3 h hs,Wy h hs,YV h,WD h,YR hs]
omit h in
theorem SameSc.setSu:SameSc {S with su:=true} {S' with su:=true}:=⟨hs.cur,hs.fnd,hs.st,rfl,hs.res,hs.loc⟩
omit h in
theorem SameSc.with (t:Ty) (s:Nm):SameSc (iY S t s) (iY S' t s):=⟨hs.cur,hs.fnd,hs.st,hs.su,hs.res,by show S'.loc++_=S.loc++_;rw[hs.loc]⟩
omit h in
theorem YT (s:Nm):rX S' s=rX S s:=by unfold rX;rw[hs.loc]
end
end
section
variable {E E' :List Cd}
mutual
theorem yD (h:SameE E E') {S S' :Sc} (hs:SameSc S S'):∀e:Ex,bW E' S' e=bW E S e
 | .mk k n s c ty es=>by rw[bW,bW,Fi h hs es,WB h hs]
theorem Fi (h:SameE E E') {S S' :Sc} (hs:SameSc S S'):∀l:List Ex,cK E' S' l=cK E S l
 |[]=>by rw[cK,cK]
 |e::r=>by rw[cK,cK,yD h hs e,Fi h hs r]
end
end
section
variable {E E' :List Cd} (h:SameE E E')
include h
section
variable {S S' :Sc} (hs:SameSc S S')
include hs
theorem Fh (e:Ex) (x:Ty):ik E' S' e x=ik E S e x:=by simp only[ik,yD h hs,wk h]
theorem YO (ty:Ty) (s:Nm):fW E' S' ty s=fW E S ty s:=by simp only[fW,Bo h,YT hs]
theorem E6 (l:List Ex):iE E' S' l=iE E S l:=by
 have e:=Fi h hs.setSu l;unfold iE;rw[e,LA h hs,hs.cur,hs.st]
theorem YQ (e:Ex):ui E' S' e=ui E S e:=by simp only[ui,hs.res,yD h hs,wk h]
end
end
section
variable {E E' :List Cd}
mutual
theorem YP (h:SameE E E'):∀(s:St) {S S' :Sc},SameSc S S' ->SameSc (iF E S s).1 (iF E' S' s).1/\(iF E' S' s).2=(iF E S s).2
 | .mk k name ty tg ex body alt,S,S',hs=>by
  have hB:=wj h body hs false;have hA:=wj h alt hs false;have hW:=wj h alt (hs.with ty name) false;rw[iF,iF,YO h hs,Fh h hs ex ty,yD h hs tg,yD h hs ex,Fh h hs,Fh h hs,YQ h hs,wk h,hB,hW,E6 h hs,hA];by_cases k1:k=1
  ·rw[ak k1,ak k1];by_cases v:fW E S ty name=0
   ·rw[ak v,ak v];by_cases w:ik E S ex ty=0
    ·rw[ak w,ak w];exact⟨hs.with ty name,rfl⟩
    ·rw[ae w,ae w];exact⟨hs,rfl⟩
   ·rw[ae v,ae v];exact⟨hs,rfl⟩
  ·rw[ae k1,ae k1];exact⟨hs,rfl⟩
theorem wj (h:SameE E E'):∀(l:List St) {S S' :Sc},SameSc S S' ->∀t,bU E' S' t l=bU E S t l
 |[],_,_,_,_=>by rw[bU,bU]
 |s::r,S,S',hs,t=>by
  obtain⟨q1,q2⟩:=YP h s hs;rw[bU,bU,q2,wj h r q1]
end
end
section
variable {E E' :List Cd} (h:SameE E E')
include h
theorem RS (d:Cd):nS E' d=nS E d:=by simp only[nS,h.cls,Bo h]
theorem WC (d:Cd):o8 E' d=o8 E d:=by simp only[o8,qs h,Kt h]
theorem WA (d:Cd):o6 E' d=o6 E d:=by simp only[o6,vY h]
theorem Ww (d:Cd):qo E' d=qo E d:=by
 have e:CA E' d=CA E d:=by
  funext m
  have e2:mf E' m=mf E m:=by funext s;simp only[mf,vX h]
  simp only[CA,qs h,wi h,e2]
 simp only[I6,Ku h,e]
theorem Wz (s:Nm) (g:Md):lb E' s g=lb E s g:=by
 simp only[lb,EK h,qs h,wi h,Ly h];split
 ·rfl
 ·split
  ·simp only[vX h]
  ·rfl
theorem T4 (d:Cd):qp E' d=qp E d:=by simp only[qp,qs h,wi h,vY h,Wz h]
end
theorem WE {E E' pr Cv:List Cd} (h:SameE E E') (hp:∀s,(Cv.find? fun d=>decide (d.name=s))=pr.find? fun d=>decide (d.name=s)) {i j:Nat} (CS:Cv.getD j eT=pr.getD i eT):BodsOk E pr i->BodsOk E' Cv j:=by
 have hS:∀st su res loc,SameSc ⟨pr,i,st,su,res,loc⟩ ⟨Cv,j,st,su,res,loc⟩:=fun st su res loc=>⟨CS,hp,rfl,rfl,rfl,rfl⟩
 intro q;refine⟨fun m hm hb=> ?_,fun q1 q2=> ?_,?_⟩
 ·rw[CS] at hm;have:=q.mth m hm hb;unfold kY at this ⊢;rw[E6 h (hS ..),wj h m.body (hS ..)];exact this
 ·rw[CS] at q1 q2;rw[E6 h (hS ..)];exact q.con q1 q2
 ·rw[CS,wj h _ (hS ..)];exact q.ini
theorem E0:∀{l:List Cd},(l.map (·.name)).Nodup->∀{s:Nm} {d:Cd},cls l s=some d↔d∈l/\d.name=s
 |[],_,s,d=>⟨fun h=>(by cases h),fun h=>(by cases h.1)⟩
 |x::r,hn,s,d=>by
  rw[aG,List.nodup_cons] at hn;unfold cls;rw[List.find?_cons];by_cases hx:x.name=s
  ·rw[aQ hx];dsimp only;refine⟨fun h=>by cases h;exact⟨bN ..,hx⟩,fun h=> ?_⟩;rcases List.mem_cons.1 h.1 with e |hd
   ·rw[e]
   ·exact absurd (List.mem_map.2 ⟨d,hd,by rw[h.2,hx]⟩) hn.1
  ·rw[ab hx];dsimp only;have ih:=E0 hn.2 (s:=s) (d:=d);unfold cls at ih;rw[ih];refine⟨fun h=>⟨bw _ h.1,h.2⟩,fun h=> ?_⟩;rcases List.mem_cons.1 h.1 with e |hd
   ·rw[e] at h;exact absurd h.2 hx
   ·exact⟨hd,h.2⟩
theorem LC {l:List Cd} (h:(l.map (·.name)).Nodup):(l.reverse.map (·.name)).Nodup:=by
 rw[List.map_reverse];exact(List.reverse_perm _).nodup_iff.2 h
theorem Ll {l:List Cd} (h:(l.map (·.name)).Nodup) (s:Nm):cls l.reverse s=cls l s:=by
 have h' :=LC h;refine Option.ext fun d=> ?_
 rw[E0 h',E0 h,List.mem_reverse]
theorem HP (pr:List Cd) (h:(gJ aH pr).2.2=0):(gJ aH pr.reverse).2.2=0:=by
 obtain⟨h1,h2⟩:=AD.1 h;obtain⟨c1,c2⟩:=DW.1 h1;have hE:SameE (pr++aH) (pr.reverse++aH):=⟨fun s=>by rw[Bt,Bt,Ll c2],by simp⟩;refine AD.2 ⟨DW.2 ⟨fun d hd=>c1 d (List.mem_reverse.1 hd),LC c2⟩,?_⟩;refine⟨fun d hd=> ?_,fun d hd=> ?_,fun d hd=> ?_,fun d hd=> ?_,fun d hd=> ?_,fun i hi=> ?_⟩
 ·rw[RS hE];exact h2.p1 d (List.mem_reverse.1 hd)
 ·rw[WC hE];exact h2.p2 d (List.mem_reverse.1 hd)
 ·rw[WA hE];exact h2.p3 d (List.mem_reverse.1 hd)
 ·rw[Ww hE];exact h2.p4 d (List.mem_reverse.1 hd)
 ·rw[T4 hE];exact h2.p5 d (List.mem_reverse.1 hd)
 ·rw[List.length_reverse] at hi;have hj:pr.length - 1 - i<pr.length:=by omega
  refine IX.2 (WE hE (fun s=>Ll c2 s) (i:=pr.length - 1 - i) ?_ (IX.1 (h2.p6 _ hj)));rw[List.getD_eq_getElem?_getD,List.getD_eq_getElem?_getD,List.getElem?_reverse hi]
theorem Qw (pr:List Cd):(gJ aH pr).2.2=0↔(gJ aH pr.reverse).2.2=0:=
 ⟨HP pr,fun h=>by have:=HP _ h;rwa [List.reverse_reverse] at this⟩
structure Good (E:List Cd):Prop where
 acyc:∀s d,cls E s=some d->(aT E d.super).contains s=false
 fld:∀s d,cls E s=some d->∀f∈d.fields,cg E d.super f.name=none
 obj:∃d,cls E aY=some d/\d.super=[]/\d.ifs=[]
 nil:cls E []=none
 ifc:∀s d,cls E s=some d->∀t∈d.ifs,∀e,cls E t=some e->e.super=aY
theorem Ia {E:List Cd}:∀{f:Nat} {out:List Nm} {s x:Nm},x∈out->x∈dv E f out s
 |0,_,_,_,h=>h
 |f+1,out,s,x,h=>by
  rw[dv];cases hc:cls E s with
  |none=>exact h
  |some d=>
   dsimp only;split
   ·exact h
   ·exact Ia (List.mem_append_left _ h)
theorem Jd {E:List Cd}:∀{f:Nat} {pre out:List Nm} {s:Nm},(∀x∈dv E f out s,x ∉ pre)->dv E f (pre++out) s=pre++dv E f out s
 |0,_,_,_,_=>rfl
 |f+1,pre,out,s,h=>by
  rw[dv] at h;rw[dv,dv];cases hc:cls E s with
  |none=>rfl
  |some d=>
   rw[hc] at h;dsimp only at h ⊢;by_cases hs:out.contains s=true
   ·have td:(pre++out).contains s=true:=List.contains_iff_mem.2 (List.mem_append_right _ (List.contains_iff_mem.1 hs));rw[ak hs,ak td]
   ·rw[ae hs] at h;have rn:s ∉ pre:=h s (Ia (List.mem_append_right _ (List.mem_singleton.2 rfl)));have td:¬(pre++out).contains s=true:=fun q=>by
     rcases List.mem_append.1 (List.contains_iff_mem.1 q) with q |q
     ·exact rn q
     ·exact hs (List.contains_iff_mem.2 q)
    rw[ae hs,ae td,List.append_assoc];exact Jd h
section
variable {E:List Cd}
theorem Ba {s:Nm} (h:cls E s=none):aT E s=[]:=by unfold aT;rw[dv,h]
theorem vH {s:Nm} {d:Cd} (h:cls E s=some d) (hc:(aT E d.super).contains s=false):aT E s=s::aT E d.super:=by
 have hv:Vis E [s]:=⟨by simp,fun x hx=>by rw[List.mem_singleton.1 hx,h];rfl⟩;have h1:aT E s=dv E E.length [s] d.super:=by
  unfold aT;rw[dv,h];dsimp only;rw[ae (by simp)];rfl
 rw[h1,<- AP hv (by simp only[nJ];omega)];have:=Jd (E:=E) (f:=E.length+1) (pre:=[s]) (out:=[]) (s:=d.super) fun x hx hp=>by
  rw[List.mem_singleton.1 hp] at hx;have:(aT E d.super).contains s=true:=List.contains_iff_mem.2 hx;rw[this] at hc;cases hc
 rw[List.append_nil] at this;exact this
theorem vu {s c:Nm} (h:c∈aT E s):(cls E s).isSome=true:=by
 cases hc:cls E s with
 |none=>rw[Ba hc] at h;cases h
 |some d=>rfl
theorem Ja (hG:Good E):∀(n:Nat) {s c:Nm},(aT E s).length=n->c∈aT E s->∃pre,aT E s=pre++aT E c
 |n,s,c,hn,hc=>by
  obtain⟨d,hd⟩:=Option.isSome_iff_exists.1 (vu hc);have e:=vH hd (hG.acyc s d hd);rw[e] at hc hn;rcases List.mem_cons.1 hc with rfl |hc
  ·exact⟨[],rfl⟩
  ·cases n with
   |zero=>cases hn
   |succ n=>
    obtain⟨pre,hp⟩:=Ja hG n (by simpa using hn) hc;exact⟨s::pre,by rw[e,hp];rfl⟩
theorem Kn (hG:Good E) {s c x:Nm} (hc:c∈aT E s) (hx:x∈aT E c):x∈aT E s:=by
 obtain⟨pre,hp⟩:=Ja hG _ rfl hc;rw[hp];exact List.mem_append_right _ hx
theorem Ou {s n:Nm} {d:Cd} (hG:Good E) (hd:cls E s=some d):cg E s n=((d.fields.find? fun f=>decide (f.name=n)).map fun f=>(s,f)).or (cg E d.super n):=by
 unfold cg;rw[vH hd (hG.acyc s d hd),List.findSome?_cons];have:bI E s=d:=by unfold bI;rw[hd];rfl
 rw[this];cases (d.fields.find? fun f=>decide (f.name=n)) with
 |none=>rfl
 |some f=>rfl
theorem JZ (hG:Good E) (n:Nm):∀(k:Nat) {s c:Nm},(aT E s).length=k->c∈aT E s->∀x,cg E c n=some x->cg E s n=some x
 |k,s,c,hk,hc,x,hx=>by
  obtain⟨d,hd⟩:=Option.isSome_iff_exists.1 (vu hc);have e:=vH hd (hG.acyc s d hd);rw[e] at hc hk;rcases List.mem_cons.1 hc with rfl |hc
  ·exact hx
  ·cases k with
   |zero=>cases hk
   |succ k=>
    have ih:=JZ hG n k (by simpa using hk) hc x hx;rw[Ou hG hd];cases hf:(d.fields.find? fun f=>decide (f.name=n)) with
    |none=>exact ih
    |some f=>
     have h1:=hG.fld s d hd f (List.mem_of_find?_eq_some hf);have h2:f.name=n:=by simpa using List.find?_some hf
     rw[h2,ih] at h1;cases h1
/-! Interfaces. -/
theorem HK {T:Nm->Prop} (hT:∀x,T x->∀d,cls E x=some d->∀t∈d.ifs,(cls E t).isSome=true->T t):∀{f:Nat} {out l:List Nm},(∀x∈out,T x)->(∀x∈l,(cls E x).isSome=true->T x)->∀x∈eC E f out l,T x
 |0,_,_,ho,_=>ho
 |f+1,out,l,ho,hl=>by
  rw[pW];have key:∀(l out:List Nm),(∀x∈out,T x)->(∀x∈l,(cls E x).isSome=true->T x)->∀x∈l.foldl (dx E f) out,T x:=by
   intro l;induction l with
   |nil=>exact fun out ho _=>ho
   |cons s r ih=>
    intro out ho hl;rw[List.foldl_cons];refine ih _ ?_ fun x hx=>hl x (bw _ hx)
    unfold dx;cases hc:cls E s with
    |none=>exact ho
    |some d=>
     dsimp only;split
     ·exact ho
     ·have hs:T s:=hl s (bN ..) (by rw[hc];rfl);refine HK hT (fun x hx=> ?_) fun t ht gh=>hT s hs d hc t ht gh
      rcases List.mem_append.1 hx with hx |hx
      ·exact ho x hx
      ·rw[List.mem_singleton.1 hx];exact hs
  exact key l out ho hl
def sB (E:List Cd) (old R:List Nm):Prop:=∀x∈R,x ∉ old->∀d,cls E x=some d->∀t∈d.ifs,(cls E t).isSome=true->t∈R
theorem Hg:∀{f:Nat} {out l:List Nm},Vis E out->E.length<out.length+f->(∀s∈l,(cls E s).isSome=true->s∈eC E f out l)/\sB E out (eC E f out l)
 |0,out,l,hv,hf=>by have:=hv.len;omega
 |f+1,out,l,hv,hf=>by
  rw[pW];have key:∀(l a:List Nm),Vis E a->(∀x∈out,x∈a)->out.length<=a.length->sB E out a->(∀s∈l,(cls E s).isSome=true->s∈l.foldl (dx E f) a)/\sB E out (l.foldl (dx E f) a):=by
   intro l;induction l with
   |nil=>intro a _ _ _ aU;exact⟨fun s hs=>(by cases hs),aU⟩
   |cons s r ih=>
    intro a ha hoa hlen aU;rw[List.foldl_cons];have jI:a<+:dx E f a s:=DI;have bg:(cls E s).isSome=true->s∈dx E f a s:=fun hs=>by
     obtain⟨d,hd⟩:=Option.isSome_iff_exists.1 hs;unfold dx;rw[hd];dsimp only;split
     ·rename_i hc;exact List.contains_iff_mem.1 hc
     ·exact rJ.subset (List.mem_append_right _ (List.mem_singleton.2 rfl))
    have FV:sB E out (dx E f a s):=by
     unfold dx;cases hd:cls E s with
     |none=>exact aU
     |some d=>
      dsimp only;split
      ·exact aU
      ·rename_i hc;have ri:Vis E (a++[s]):=ha.snoc (by rw[hd];rfl) (by simpa using hc);obtain⟨q1,q2⟩:=Hg (f:=f) (l:=d.ifs) ri (by rw[bc,nJ];omega);intro x hx rh e he t ht gh;by_cases uP:x∈a++[s]
       ·rcases List.mem_append.1 uP with uP |gF
        ·exact rJ.subset (List.mem_append_left _ (aU x uP rh e he t ht gh))
        ·rw[List.mem_singleton.1 gF,hd] at he;cases he;exact q1 t ht gh
       ·exact q2 x hx uP e he t ht gh
    obtain⟨i1,i2⟩:=ih _ (Ij ha) (fun x hx=>jI.subset (hoa x hx)) (cQ hlen jI.length_le) FV;refine⟨fun t ht gh=> ?_,i2⟩;rcases List.mem_cons.1 ht with rfl |ht
    ·have hp2:dx E f a t<+:r.foldl (dx E f) (dx E f a t):=Ep (fun a b=>a<+:b) List.prefix_refl (fun _ _ _ h1 h2=>List.IsPrefix.trans h1 h2) _ (fun a s=>DI) r _;exact hp2.subset (bg gh)
    ·exact i1 t ht gh
  exact key l out hv (fun x hx=>hx) (aC _) fun x hx rh=>absurd hx rh
theorem JS (s:Nm):(∀c∈aT E s,∀t∈(bI E c).ifs,(cls E t).isSome=true->t∈bR E s)/\sB E [] (bR E s):=by
 unfold bR;generalize aT E s=sl
 have key:∀(l a:List Nm),Vis E a->sB E [] a->(∀c∈l,∀t∈(bI E c).ifs,(cls E t).isSome=true->t∈l.foldl (fun out c=>eQ E out (bI E c).ifs) a)/\sB E [] (l.foldl (fun out c=>eQ E out (bI E c).ifs) a)/\∀x∈a,x∈l.foldl (fun out c=>eQ E out (bI E c).ifs) a:=by
  intro l;induction l with
  |nil=>intro a _ aU;exact⟨fun c hc=>(by cases hc),aU,fun x hx=>hx⟩
  |cons c r ih=>
   intro a ha aU;rw[List.foldl_cons];obtain⟨q1,q2⟩:=Hg (E:=E) (f:=E.length+1) (out:=a) (l:=(bI E c).ifs) ha (by omega);have FV:sB E [] (eQ E a (bI E c).ifs):=fun x hx _ e he t ht gh=>by
    by_cases uP:x∈a
    ·exact rJ.subset (aU x uP (by simp) e he t ht gh)
    ·exact q2 x hx uP e he t ht gh
   obtain⟨i1,i2,i3⟩:=ih _ (xN ha) FV;refine⟨fun c' oE t ht gh=> ?_,i2,fun x hx=>i3 x (rJ.subset hx)⟩;rcases List.mem_cons.1 oE with rfl |oE
   ·exact i3 t (q1 t ht gh)
   ·exact i1 c' oE t ht gh
 exact⟨(key sl [] (Vis.nil E) fun x hx=>by cases hx).1,(key sl [] (Vis.nil E) fun x hx=>by cases hx).2.1⟩
theorem EU {T:Nm->Prop} (hT:∀x,T x->∀d,cls E x=some d->∀t∈d.ifs,(cls E t).isSome=true->T t) {s:Nm} (hs:∀c∈aT E s,∀t∈(bI E c).ifs,(cls E t).isSome=true->T t):∀x∈bR E s,T x:=by
 unfold bR;revert hs;generalize aT E s=sl
 have key:∀(l a:List Nm),(∀x∈a,T x)->(∀c∈l,∀t∈(bI E c).ifs,(cls E t).isSome=true->T t)->∀x∈l.foldl (fun out c=>eQ E out (bI E c).ifs) a,T x:=by
  intro l;induction l with
  |nil=>intro a ha _;exact ha
  |cons c r ih=>
   intro a ha hl;rw[List.foldl_cons];exact ih _ (HK hT ha (hl c (bN ..))) fun c' oE=>hl c' (bw _ oE)
 exact fun hs=>key sl [] (fun x hx=>by cases hx) hs
theorem Pv {s x:Nm} (h:x∈bR E s):(cls E s).isSome=true:=by
 cases hc:cls E s with
 |none=>
  unfold bR at h;rw[Ba hc] at h;cases h
 |some d=>rfl
theorem K3 (hG:Good E) {s x:Nm} (h:x∈bR E s):∀c∈aT E x,c=x\/c=aY:=by
 have hx:∀d,cls E x=some d->d.super=aY:=by
  refine EU (E:=E) (T:=fun x=>∀d,cls E x=some d->d.super=aY) (fun x _ d hd t ht _ e he=>hG.ifc x d hd t ht e he) (fun c hc t ht _ e he=> ?_) x h;unfold bI at ht;cases gY:cls E c with
  |none=>rw[gY] at ht;cases ht
  |some d=>rw[gY] at ht;exact hG.ifc c d gY t ht e he
 intro c hc;obtain⟨d,hd⟩:=Option.isSome_iff_exists.1 (vu hc);obtain⟨o,ho1,ho2,ho3⟩:=hG.obj;rw[vH hd (hG.acyc x d hd),hx d hd,vH ho1 (hG.acyc aY o ho1),ho2,Ba hG.nil] at hc;simpa using hc
theorem Ko (hG:Good E):aT E aY=[aY]/\bR E aY=[]:=by
 obtain⟨o,ho1,ho2,ho3⟩:=hG.obj;have h1:aT E aY=[aY]:=by rw[vH ho1 (hG.acyc aY o ho1),ho2,Ba hG.nil]
 refine⟨h1,?_⟩;have e:(bI E aY).ifs=[]:=by unfold bI;rw[ho1];exact ho3
 unfold bR;rw[h1,List.foldl_cons,List.foldl_nil,e,O4]
theorem D8 {s t:Nm}:eX E s t=true↔s=t\/((cls E s).isSome=true/\(t=aY\/t∈aT E s\/t∈bR E s)):=by
 unfold eX;simp only[Bool.or_eq_true,bB,cE,List.contains_iff_mem,or_assoc]
theorem UF (hG:Good E) {s c x:Nm} (hc:c∈aT E s) (hx:x∈bR E c):x∈bR E s:=by
 obtain⟨h1,h2⟩:=JS (E:=E) s;refine EU (T:=fun x=>x∈bR E s) (fun x hx d hd t ht gh=>h2 x hx (by simp) d hd t ht gh) (fun c' oE t ht gh=>h1 c' (Kn hG hc oE) t ht gh) x hx
theorem UG (hG:Good E) {s c x:Nm} (hc:c∈bR E s) (hx:x∈bR E c):x∈bR E s:=by
 obtain⟨h1,h2⟩:=JS (E:=E) s;refine EU (T:=fun x=>x∈bR E s) (fun x hx d hd t ht gh=>h2 x hx (by simp) d hd t ht gh) (fun c' oE t ht gh=> ?_) x hx;rcases K3 hG hc c' oE with rfl |rfl
 ·unfold bI at ht;cases gY:cls E c' with
  |none=>rw[gY] at ht;cases ht
  |some d=>rw[gY] at ht;exact h2 c' hc (by simp) d gY t ht gh
 ·obtain⟨o,ho1,ho2,ho3⟩:=hG.obj;unfold bI at ht;rw[ho1] at ht;have ht:t∈o.ifs:=ht;rw[ho3] at ht;cases ht
theorem OY (hG:Good E) {s t u:Nm} (h1:eX E s t=true) (h2:eX E t u=true):eX E s u=true:=by
 rw[D8] at h1 h2 ⊢;rcases h1 with rfl |⟨a1,a2⟩
 ·exact h2
 rcases h2 with rfl |⟨b1,b2⟩
 ·exact .inr ⟨a1,a2⟩
 refine .inr ⟨a1,?_⟩;rcases b2 with b2 |b2
 ·exact .inl b2
 rcases a2 with rfl |a2 |a2
 ·obtain⟨o1,o2⟩:=Ko hG;rw[o1,o2] at b2;simp only[List.mem_singleton,List.not_mem_nil,or_false] at b2;exact .inl b2
 ·exact .inr (b2.imp (Kn hG a2) (UF hG a2))
 ·rcases b2 with b2 |b2
  ·rcases K3 hG a2 u b2 with rfl |rfl
   ·exact .inr (.inr a2)
   ·exact .inl rfl
  ·exact .inr (.inr (UG hG a2 b2))
end
end Go.Proofs.YtmdokbohofchgaaGreatDoor.E
